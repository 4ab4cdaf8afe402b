-- Written by a program of this session (wip/tools: patch.py, mp.sh) on the base of the kit print; no printed text of the kit itself.
import Derived.Test.YtklkaaaegnojkaaDoorDx0
import Derived.Test.YtklkaaaegnojkaaDoorDx1
import Derived.Test.YtklkaaaegnojkaaDoorDx4
import Derived.Test.YtklkaaaegnojkaaDoorDx5
import Derived.Test.YtklkaaaegnojkaaDoorDx7
namespace Go.Proofs.YtklkaaaegnojkaaDoor.D
open Go.RowKit Go.Proofs.YtklkaaaegnojkaaDoorW.PrintWords Go.Proofs.YtklkaaaegnojkaaDoorW.PrintLast Go.Proofs.YtklkaaaegnojkaaDoorW.PrintMore
attribute [local go_sem] max2_int min2_int max_two min_two max_three min_three max_four min_four   -- for this text's walks alone
set_option linter.unusedVariables false
set_option linter.unusedSimpArgs false

/-! ### laws_FnTexts: function 10 -/
mutual
def laws_FnTexts.j0 : Nat → List Int → List Int → Bool → Option (Bool)
  | 0, _, _, _ => none
  | k + 1, x0, x3, x67 => if x67 = true then (some false) else ((impl_RunesOf.f x3).bind fun bt470 => (laws_FnTexts.l0 k x0 x3 bt470.1 bt470.2 (([] : List Int)) 0))
def laws_FnTexts.l0 : Nat → List Int → List Int → List Int → Bool → List Int → Int → Option (Bool)
  | 0, _, _, _, _, _, _ => none
  | k + 1, x0, x3, x9, x10, x11, x12 => if x12 < (x9.length : Int) then (if 0 ≤ x12 then ((impl_RuneBytes.f (rd x9 x12)).bind fun bt478 => (if bt478.2 = true then (if x11.length + bt478.1.length < 140737488355328 then (laws_FnTexts.l0 k x0 x3 x9 x10 (x11 ++ bt478.1) (wrap64 (x12 + 1))) else (none)) else (some false))) else (none)) else (if x10 = true then (if (strOfNums x11).toList = (strOfNums x3).toList then (laws_FnTexts.j2 k x0 x3 x9 false) else (laws_FnTexts.j2 k x0 x3 x9 true)) else ((impl_Plain.f k x3).bind fun t485 => (if t485 = true then (laws_FnTexts.j2 k x0 x3 x9 true) else (laws_FnTexts.j2 k x0 x3 x9 ((x9.length : Int) != 0)))))
def laws_FnTexts.j2 : Nat → List Int → List Int → List Int → Bool → Option (Bool)
  | 0, _, _, _, _ => none
  | k + 1, x0, x3, x9, x113 => if x113 = true then (some false) else ((spec_DrawUnshown.f k x0).bind fun t486 => ((impl_Unshown.f k t486).bind fun bt487 => (if bt487.2 = true then ((impl_Shown.f k bt487.1).bind fun t491 => (laws_FnTexts.j3 k x0 x3 x9 (t491.toList != t486.toList))) else (laws_FnTexts.j3 k x0 x3 x9 false))))
def laws_FnTexts.j3 : Nat → List Int → List Int → List Int → Bool → Option (Bool)
  | 0, _, _, _, _ => none
  | k + 1, x0, x3, x9, x127 => if x127 = true then (some false) else ((spec_DrawRuneBytes.f k x0).bind fun t492 => ((impl_RuneBytes.f t492).bind fun bt493 => ((impl_RunesOf.f bt493.1).bind fun bt497 => (if bt493.2 = true then (if bt497.2 = true then (if (bt497.1.length : Int) = 1 then (if 0 < (bt497.1.length : Int) then (laws_FnTexts.j4 k x3 x9 ((rd bt497.1 0) != t492)) else (none)) else (laws_FnTexts.j4 k x3 x9 true)) else (laws_FnTexts.j4 k x3 x9 true)) else (laws_FnTexts.j4 k x3 x9 false)))))
def laws_FnTexts.j4 : Nat → List Int → List Int → Bool → Option (Bool)
  | 0, _, _, _ => none
  | k + 1, x3, x9, x156 => if x156 = true then (some false) else ((impl_Width.f k x3).bind fun t502 => (if t502 ≤ (x3.length : Int) then ((impl_Plain.f k x3).bind fun t503 => (if t503 = true then ((impl_Width.f k x3).bind fun t504 => (if t504 = (x9.length : Int) then ((impl_Plain.f k (([65] : List Int))).bind fun t508 => (some t508)) else (some false))) else ((impl_Plain.f k (([65] : List Int))).bind fun t512 => (some t512)))) else (some false)))
end
def laws_FnTexts.f (k : Nat) (l0 : List Int) : Option (Bool) := (laws_big.f l0).bind fun t456 => (if t456 = true then (some true) else ((spec_DrawShown.f k l0).bind fun t457 => ((impl_HexOf.f k t457).bind fun t460 => ((impl_FromHex.f k t460).bind fun bt461 => ((impl_Shown.f k t457).bind fun t465 => ((impl_Unshown.f k t465).bind fun bt466 => (if bt461.2 = true then (if bt466.2 = true then (if (strOfNums bt461.1).toList = (strOfNums t457).toList then (if (strOfNums bt466.1).toList = (strOfNums t457).toList then (laws_FnTexts.j0 k l0 t457 ((t460.size : Int) != (wrap64 (2 * (t457.length : Int))))) else (laws_FnTexts.j0 k l0 t457 true)) else (laws_FnTexts.j0 k l0 t457 true)) else (laws_FnTexts.j0 k l0 t457 true)) else (laws_FnTexts.j0 k l0 t457 true))))))))
theorem laws_FnTexts.mono_l : ∀ k, (∀ y0 y1 y2, LeO (laws_FnTexts.j0 k y0 y1 y2) (laws_FnTexts.j0 (k + 1) y0 y1 y2)) ∧ (∀ y0 y1 y2 y3 y4 y5, LeO (laws_FnTexts.l0 k y0 y1 y2 y3 y4 y5) (laws_FnTexts.l0 (k + 1) y0 y1 y2 y3 y4 y5)) ∧ (∀ y0 y1 y2 y3, LeO (laws_FnTexts.j2 k y0 y1 y2 y3) (laws_FnTexts.j2 (k + 1) y0 y1 y2 y3)) ∧ (∀ y0 y1 y2 y3, LeO (laws_FnTexts.j3 k y0 y1 y2 y3) (laws_FnTexts.j3 (k + 1) y0 y1 y2 y3)) ∧ (∀ y0 y1 y2, LeO (laws_FnTexts.j4 k y0 y1 y2) (laws_FnTexts.j4 (k + 1) y0 y1 y2))
  | 0 => ⟨fun _ _ _ r h => by simp [laws_FnTexts.j0] at h, fun _ _ _ _ _ _ r h => by simp [laws_FnTexts.l0] at h, fun _ _ _ _ r h => by simp [laws_FnTexts.j2] at h, fun _ _ _ _ r h => by simp [laws_FnTexts.j3] at h, fun _ _ _ r h => by simp [laws_FnTexts.j4] at h⟩
  | k + 1 => by
    obtain ⟨ih0, ih1, ih2, ih3, ih4⟩ := laws_FnTexts.mono_l k
    refine ⟨?_, ?_, ?_, ?_, ?_⟩
    · intro y0 y1 y2
      unfold laws_FnTexts.j0
      repeat' first
      | (with_reducible exact ih0 _ _ _)
      | (with_reducible exact ih1 _ _ _ _ _ _)
      | (with_reducible exact ih2 _ _ _ _)
      | (with_reducible exact ih3 _ _ _ _)
      | (with_reducible exact ih4 _ _ _)
      | (with_reducible exact impl_FromHex.mono _ _)
      | (with_reducible exact impl_HexOf.mono _ _)
      | (with_reducible exact impl_Plain.mono _ _)
      | (with_reducible exact impl_Shown.mono _ _)
      | (with_reducible exact impl_Unshown.mono _ _)
      | (with_reducible exact impl_Width.mono _ _)
      | (with_reducible exact spec_DrawRuneBytes.mono _ _)
      | (with_reducible exact spec_DrawShown.mono _ _)
      | (with_reducible exact spec_DrawUnshown.mono _ _)
      | (with_reducible exact LeO.refl _)
      | (with_reducible exact LeO.none _)
      | (with_reducible refine LeO.ite ?_ ?_)
      | (with_reducible refine LeO.bind ?_ (fun _ => ?_))
      | exact ih0 _ _ _
      | exact ih1 _ _ _ _ _ _
      | exact ih2 _ _ _ _
      | exact ih3 _ _ _ _
      | exact ih4 _ _ _
      | exact impl_FromHex.mono _ _
      | exact impl_HexOf.mono _ _
      | exact impl_Plain.mono _ _
      | exact impl_Shown.mono _ _
      | exact impl_Unshown.mono _ _
      | exact impl_Width.mono _ _
      | exact spec_DrawRuneBytes.mono _ _
      | exact spec_DrawShown.mono _ _
      | exact spec_DrawUnshown.mono _ _
      | exact LeO.none _
      | refine LeO.ite ?_ ?_
      | refine LeO.bind ?_ (fun _ => ?_)
    · intro y0 y1 y2 y3 y4 y5
      unfold laws_FnTexts.l0
      repeat' first
      | (with_reducible exact ih0 _ _ _)
      | (with_reducible exact ih1 _ _ _ _ _ _)
      | (with_reducible exact ih2 _ _ _ _)
      | (with_reducible exact ih3 _ _ _ _)
      | (with_reducible exact ih4 _ _ _)
      | (with_reducible exact impl_FromHex.mono _ _)
      | (with_reducible exact impl_HexOf.mono _ _)
      | (with_reducible exact impl_Plain.mono _ _)
      | (with_reducible exact impl_Shown.mono _ _)
      | (with_reducible exact impl_Unshown.mono _ _)
      | (with_reducible exact impl_Width.mono _ _)
      | (with_reducible exact spec_DrawRuneBytes.mono _ _)
      | (with_reducible exact spec_DrawShown.mono _ _)
      | (with_reducible exact spec_DrawUnshown.mono _ _)
      | (with_reducible exact LeO.refl _)
      | (with_reducible exact LeO.none _)
      | (with_reducible refine LeO.ite ?_ ?_)
      | (with_reducible refine LeO.bind ?_ (fun _ => ?_))
      | exact ih0 _ _ _
      | exact ih1 _ _ _ _ _ _
      | exact ih2 _ _ _ _
      | exact ih3 _ _ _ _
      | exact ih4 _ _ _
      | exact impl_FromHex.mono _ _
      | exact impl_HexOf.mono _ _
      | exact impl_Plain.mono _ _
      | exact impl_Shown.mono _ _
      | exact impl_Unshown.mono _ _
      | exact impl_Width.mono _ _
      | exact spec_DrawRuneBytes.mono _ _
      | exact spec_DrawShown.mono _ _
      | exact spec_DrawUnshown.mono _ _
      | exact LeO.none _
      | refine LeO.ite ?_ ?_
      | refine LeO.bind ?_ (fun _ => ?_)
    · intro y0 y1 y2 y3
      unfold laws_FnTexts.j2
      repeat' first
      | (with_reducible exact ih0 _ _ _)
      | (with_reducible exact ih1 _ _ _ _ _ _)
      | (with_reducible exact ih2 _ _ _ _)
      | (with_reducible exact ih3 _ _ _ _)
      | (with_reducible exact ih4 _ _ _)
      | (with_reducible exact impl_FromHex.mono _ _)
      | (with_reducible exact impl_HexOf.mono _ _)
      | (with_reducible exact impl_Plain.mono _ _)
      | (with_reducible exact impl_Shown.mono _ _)
      | (with_reducible exact impl_Unshown.mono _ _)
      | (with_reducible exact impl_Width.mono _ _)
      | (with_reducible exact spec_DrawRuneBytes.mono _ _)
      | (with_reducible exact spec_DrawShown.mono _ _)
      | (with_reducible exact spec_DrawUnshown.mono _ _)
      | (with_reducible exact LeO.refl _)
      | (with_reducible exact LeO.none _)
      | (with_reducible refine LeO.ite ?_ ?_)
      | (with_reducible refine LeO.bind ?_ (fun _ => ?_))
      | exact ih0 _ _ _
      | exact ih1 _ _ _ _ _ _
      | exact ih2 _ _ _ _
      | exact ih3 _ _ _ _
      | exact ih4 _ _ _
      | exact impl_FromHex.mono _ _
      | exact impl_HexOf.mono _ _
      | exact impl_Plain.mono _ _
      | exact impl_Shown.mono _ _
      | exact impl_Unshown.mono _ _
      | exact impl_Width.mono _ _
      | exact spec_DrawRuneBytes.mono _ _
      | exact spec_DrawShown.mono _ _
      | exact spec_DrawUnshown.mono _ _
      | exact LeO.none _
      | refine LeO.ite ?_ ?_
      | refine LeO.bind ?_ (fun _ => ?_)
    · intro y0 y1 y2 y3
      unfold laws_FnTexts.j3
      repeat' first
      | (with_reducible exact ih0 _ _ _)
      | (with_reducible exact ih1 _ _ _ _ _ _)
      | (with_reducible exact ih2 _ _ _ _)
      | (with_reducible exact ih3 _ _ _ _)
      | (with_reducible exact ih4 _ _ _)
      | (with_reducible exact impl_FromHex.mono _ _)
      | (with_reducible exact impl_HexOf.mono _ _)
      | (with_reducible exact impl_Plain.mono _ _)
      | (with_reducible exact impl_Shown.mono _ _)
      | (with_reducible exact impl_Unshown.mono _ _)
      | (with_reducible exact impl_Width.mono _ _)
      | (with_reducible exact spec_DrawRuneBytes.mono _ _)
      | (with_reducible exact spec_DrawShown.mono _ _)
      | (with_reducible exact spec_DrawUnshown.mono _ _)
      | (with_reducible exact LeO.refl _)
      | (with_reducible exact LeO.none _)
      | (with_reducible refine LeO.ite ?_ ?_)
      | (with_reducible refine LeO.bind ?_ (fun _ => ?_))
      | exact ih0 _ _ _
      | exact ih1 _ _ _ _ _ _
      | exact ih2 _ _ _ _
      | exact ih3 _ _ _ _
      | exact ih4 _ _ _
      | exact impl_FromHex.mono _ _
      | exact impl_HexOf.mono _ _
      | exact impl_Plain.mono _ _
      | exact impl_Shown.mono _ _
      | exact impl_Unshown.mono _ _
      | exact impl_Width.mono _ _
      | exact spec_DrawRuneBytes.mono _ _
      | exact spec_DrawShown.mono _ _
      | exact spec_DrawUnshown.mono _ _
      | exact LeO.none _
      | refine LeO.ite ?_ ?_
      | refine LeO.bind ?_ (fun _ => ?_)
    · intro y0 y1 y2
      unfold laws_FnTexts.j4
      repeat' first
      | (with_reducible exact ih0 _ _ _)
      | (with_reducible exact ih1 _ _ _ _ _ _)
      | (with_reducible exact ih2 _ _ _ _)
      | (with_reducible exact ih3 _ _ _ _)
      | (with_reducible exact ih4 _ _ _)
      | (with_reducible exact impl_FromHex.mono _ _)
      | (with_reducible exact impl_HexOf.mono _ _)
      | (with_reducible exact impl_Plain.mono _ _)
      | (with_reducible exact impl_Shown.mono _ _)
      | (with_reducible exact impl_Unshown.mono _ _)
      | (with_reducible exact impl_Width.mono _ _)
      | (with_reducible exact spec_DrawRuneBytes.mono _ _)
      | (with_reducible exact spec_DrawShown.mono _ _)
      | (with_reducible exact spec_DrawUnshown.mono _ _)
      | (with_reducible exact LeO.refl _)
      | (with_reducible exact LeO.none _)
      | (with_reducible refine LeO.ite ?_ ?_)
      | (with_reducible refine LeO.bind ?_ (fun _ => ?_))
      | exact ih0 _ _ _
      | exact ih1 _ _ _ _ _ _
      | exact ih2 _ _ _ _
      | exact ih3 _ _ _ _
      | exact ih4 _ _ _
      | exact impl_FromHex.mono _ _
      | exact impl_HexOf.mono _ _
      | exact impl_Plain.mono _ _
      | exact impl_Shown.mono _ _
      | exact impl_Unshown.mono _ _
      | exact impl_Width.mono _ _
      | exact spec_DrawRuneBytes.mono _ _
      | exact spec_DrawShown.mono _ _
      | exact spec_DrawUnshown.mono _ _
      | exact LeO.none _
      | refine LeO.ite ?_ ?_
      | refine LeO.bind ?_ (fun _ => ?_)
theorem laws_FnTexts.mono : ∀ a0 k, LeO (laws_FnTexts.f k a0) (laws_FnTexts.f (k + 1) a0) := by
  intro a0 k
  obtain ⟨ih0, ih1, ih2, ih3, ih4⟩ := laws_FnTexts.mono_l k
  unfold laws_FnTexts.f
  repeat' first
      | (with_reducible exact ih0 _ _ _)
      | (with_reducible exact ih1 _ _ _ _ _ _)
      | (with_reducible exact ih2 _ _ _ _)
      | (with_reducible exact ih3 _ _ _ _)
      | (with_reducible exact ih4 _ _ _)
      | (with_reducible exact impl_FromHex.mono _ _)
      | (with_reducible exact impl_HexOf.mono _ _)
      | (with_reducible exact impl_Plain.mono _ _)
      | (with_reducible exact impl_Shown.mono _ _)
      | (with_reducible exact impl_Unshown.mono _ _)
      | (with_reducible exact impl_Width.mono _ _)
      | (with_reducible exact spec_DrawRuneBytes.mono _ _)
      | (with_reducible exact spec_DrawShown.mono _ _)
      | (with_reducible exact spec_DrawUnshown.mono _ _)
      | (with_reducible exact LeO.refl _)
      | (with_reducible exact LeO.none _)
      | (with_reducible refine LeO.ite ?_ ?_)
      | (with_reducible refine LeO.bind ?_ (fun _ => ?_))
      | exact ih0 _ _ _
      | exact ih1 _ _ _ _ _ _
      | exact ih2 _ _ _ _
      | exact ih3 _ _ _ _
      | exact ih4 _ _ _
      | exact impl_FromHex.mono _ _
      | exact impl_HexOf.mono _ _
      | exact impl_Plain.mono _ _
      | exact impl_Shown.mono _ _
      | exact impl_Unshown.mono _ _
      | exact impl_Width.mono _ _
      | exact spec_DrawRuneBytes.mono _ _
      | exact spec_DrawShown.mono _ _
      | exact spec_DrawUnshown.mono _ _
      | exact LeO.none _
      | refine LeO.ite ?_ ?_
      | refine LeO.bind ?_ (fun _ => ?_)
set_option maxHeartbeats 8000000 in
set_option maxRecDepth 100000 in
theorem laws_FnTexts.calls (k : Nat) (A0 : Option Addr) (c0 : Nat) (l0 : List Int) (r : Bool) (w : World) (hr0 : Kd.C (Kd.int .u8) w A0 l0.length l0) (hc0 : l0.length ≤ c0) (hG : LaidG w) (h : laws_FnTexts.f k l0 = some r) :
    Calls Tryd.prog 10 #[.slice A0 l0.length c0] w fun e w' => e = .returned (.bool r) ∧ Below w.heap.size w w' := by
  have HG := Aside0.mk hG
  clear hG
  have HR0 := Aside0.mk hr0
  have HC0 := Aside0.mk hc0
  clear hr0 hc0
  have HB := Aside0.mk (Below.refl w.heap.size w)
  have H : ((laws_big.f l0).bind fun t456 => (if t456 = true then (some true) else ((spec_DrawShown.f k l0).bind fun t457 => ((impl_HexOf.f k t457).bind fun t460 => ((impl_FromHex.f k t460).bind fun bt461 => ((impl_Shown.f k t457).bind fun t465 => ((impl_Unshown.f k t465).bind fun bt466 => (if bt461.2 = true then (if bt466.2 = true then (if (strOfNums bt461.1).toList = (strOfNums t457).toList then (if (strOfNums bt466.1).toList = (strOfNums t457).toList then (laws_FnTexts.j0 k l0 t457 ((t460.size : Int) != (wrap64 (2 * (t457.length : Int))))) else (laws_FnTexts.j0 k l0 t457 true)) else (laws_FnTexts.j0 k l0 t457 true)) else (laws_FnTexts.j0 k l0 t457 true)) else (laws_FnTexts.j0 k l0 t457 true))))))))) = some r := h
  clear h
  replace H := Option.bind_eq_some_iff.mp H
  obtain ⟨t456, A20, H⟩ := H
  replace H : (if t456 = true then (some true) else ((spec_DrawShown.f k l0).bind fun t457 => ((impl_HexOf.f k t457).bind fun t460 => ((impl_FromHex.f k t460).bind fun bt461 => ((impl_Shown.f k t457).bind fun t465 => ((impl_Unshown.f k t465).bind fun bt466 => (if bt461.2 = true then (if bt466.2 = true then (if (strOfNums bt461.1).toList = (strOfNums t457).toList then (if (strOfNums bt466.1).toList = (strOfNums t457).toList then (laws_FnTexts.j0 k l0 t457 ((t460.size : Int) != (wrap64 (2 * (t457.length : Int))))) else (laws_FnTexts.j0 k l0 t457 true)) else (laws_FnTexts.j0 k l0 t457 true)) else (laws_FnTexts.j0 k l0 t457 true)) else (laws_FnTexts.j0 k l0 t457 true)))))))) = some r := H
  have A2 := Aside0.mk A20
  clear A20
  by_cases c3 : t456 = true
  · subst c3
    have H1 : (some true) = some r := by rw [if_pos rfl] at H; exact H
    clear H
    have H := H1
    clear H1
    obtain rfl := Option.some.inj H
    go_enter Tryd.func10, Tryd.ntmps10
    go_wp2_with (first | ((with_reducible refine gate_callee (f := 25) rfl ?_); refine goesL_ (some 24) rfl rfl Tryd.func25 (by kernel_rfl) rfl #[.slice A0 l0.length c0] rfl (by (try simp only [List.map_toArray, List.map_cons, List.map_nil]); first | done | rfl | (simp only [List.length_drop, List.length_take]; rfl)) ?_; (with_reducible refine (laws_big.calls _ _ l0 true _ ?side1 ?side2 A2.out).mono ?_); (case side1 => repeat (first | exact HR0.out | (with_reducible refine Kd.C_alloc ?_ _) | (with_reducible refine Kd.C_drewN ?_ _) | (with_reducible refine Kd.C_drew ?_))); (case side2 => exact HC0.out); rintro e w' ⟨rfl, ⟨nd, rfl⟩⟩; refine ⟨_, rfl, ?_⟩))
    go_ret
    exact ⟨by first | rfl | (simp [errW_none, errW_some] <;> rfl) | (simp [*, errW_none, errW_some] <;> rfl), by repeat (first | (with_reducible first | exact HB.out | apply below_alloc | apply pw_below_drewN | apply below_drew1) | exact HB.out)⟩
  · replace c3 := Bool.eq_false_iff.mpr c3
    subst c3
    have H1 : ((spec_DrawShown.f k l0).bind fun t457 => ((impl_HexOf.f k t457).bind fun t460 => ((impl_FromHex.f k t460).bind fun bt461 => ((impl_Shown.f k t457).bind fun t465 => ((impl_Unshown.f k t465).bind fun bt466 => (if bt461.2 = true then (if bt466.2 = true then (if (strOfNums bt461.1).toList = (strOfNums t457).toList then (if (strOfNums bt466.1).toList = (strOfNums t457).toList then (laws_FnTexts.j0 k l0 t457 ((t460.size : Int) != (wrap64 (2 * (t457.length : Int))))) else (laws_FnTexts.j0 k l0 t457 true)) else (laws_FnTexts.j0 k l0 t457 true)) else (laws_FnTexts.j0 k l0 t457 true)) else (laws_FnTexts.j0 k l0 t457 true))))))) = some r := by rw [if_neg (show ¬ (false = true) by decide)] at H; exact H
    clear H
    have H := H1
    clear H1
    replace H := Option.bind_eq_some_iff.mp H
    obtain ⟨t457, A40, H⟩ := H
    replace H : ((impl_HexOf.f k t457).bind fun t460 => ((impl_FromHex.f k t460).bind fun bt461 => ((impl_Shown.f k t457).bind fun t465 => ((impl_Unshown.f k t465).bind fun bt466 => (if bt461.2 = true then (if bt466.2 = true then (if (strOfNums bt461.1).toList = (strOfNums t457).toList then (if (strOfNums bt466.1).toList = (strOfNums t457).toList then (laws_FnTexts.j0 k l0 t457 ((t460.size : Int) != (wrap64 (2 * (t457.length : Int))))) else (laws_FnTexts.j0 k l0 t457 true)) else (laws_FnTexts.j0 k l0 t457 true)) else (laws_FnTexts.j0 k l0 t457 true)) else (laws_FnTexts.j0 k l0 t457 true)))))) = some r := H
    have A4 := Aside0.mk A40
    clear A40
    replace H := Option.bind_eq_some_iff.mp H
    obtain ⟨t460, A50, H⟩ := H
    replace H : ((impl_FromHex.f k t460).bind fun bt461 => ((impl_Shown.f k t457).bind fun t465 => ((impl_Unshown.f k t465).bind fun bt466 => (if bt461.2 = true then (if bt466.2 = true then (if (strOfNums bt461.1).toList = (strOfNums t457).toList then (if (strOfNums bt466.1).toList = (strOfNums t457).toList then (laws_FnTexts.j0 k l0 t457 ((t460.size : Int) != (wrap64 (2 * (t457.length : Int))))) else (laws_FnTexts.j0 k l0 t457 true)) else (laws_FnTexts.j0 k l0 t457 true)) else (laws_FnTexts.j0 k l0 t457 true)) else (laws_FnTexts.j0 k l0 t457 true))))) = some r := H
    have A5 := Aside0.mk A50
    clear A50
    replace H := Option.bind_eq_some_iff.mp H
    obtain ⟨⟨t461, t462⟩, A60, H⟩ := H
    replace H : ((impl_Shown.f k t457).bind fun t465 => ((impl_Unshown.f k t465).bind fun bt466 => (if t462 = true then (if bt466.2 = true then (if (strOfNums t461).toList = (strOfNums t457).toList then (if (strOfNums bt466.1).toList = (strOfNums t457).toList then (laws_FnTexts.j0 k l0 t457 ((t460.size : Int) != (wrap64 (2 * (t457.length : Int))))) else (laws_FnTexts.j0 k l0 t457 true)) else (laws_FnTexts.j0 k l0 t457 true)) else (laws_FnTexts.j0 k l0 t457 true)) else (laws_FnTexts.j0 k l0 t457 true)))) = some r := H
    have A6 := Aside0.mk A60
    clear A60
    replace H := Option.bind_eq_some_iff.mp H
    obtain ⟨t465, A70, H⟩ := H
    replace H : ((impl_Unshown.f k t465).bind fun bt466 => (if t462 = true then (if bt466.2 = true then (if (strOfNums t461).toList = (strOfNums t457).toList then (if (strOfNums bt466.1).toList = (strOfNums t457).toList then (laws_FnTexts.j0 k l0 t457 ((t460.size : Int) != (wrap64 (2 * (t457.length : Int))))) else (laws_FnTexts.j0 k l0 t457 true)) else (laws_FnTexts.j0 k l0 t457 true)) else (laws_FnTexts.j0 k l0 t457 true)) else (laws_FnTexts.j0 k l0 t457 true))) = some r := H
    have A7 := Aside0.mk A70
    clear A70
    replace H := Option.bind_eq_some_iff.mp H
    obtain ⟨⟨t466, t467⟩, A80, H⟩ := H
    replace H : (if t462 = true then (if t467 = true then (if (strOfNums t461).toList = (strOfNums t457).toList then (if (strOfNums t466).toList = (strOfNums t457).toList then (laws_FnTexts.j0 k l0 t457 ((t460.size : Int) != (wrap64 (2 * (t457.length : Int))))) else (laws_FnTexts.j0 k l0 t457 true)) else (laws_FnTexts.j0 k l0 t457 true)) else (laws_FnTexts.j0 k l0 t457 true)) else (laws_FnTexts.j0 k l0 t457 true)) = some r := H
    have A8 := Aside0.mk A80
    clear A80
    have HC9 := Aside0.mk H
    clear H
    go_enter Tryd.func10, Tryd.ntmps10
    go_upto_region 7 with (first | ((with_reducible refine gate_callee (f := 25) rfl ?_); refine goesL_ (some 24) rfl rfl Tryd.func25 (by kernel_rfl) rfl #[.slice A0 l0.length c0] rfl (by (try simp only [List.map_toArray, List.map_cons, List.map_nil]); first | done | rfl | (simp only [List.length_drop, List.length_take]; rfl)) ?_; (with_reducible refine (laws_big.calls _ _ l0 false _ ?side1 ?side2 A2.out).mono ?_); (case side1 => repeat (first | exact HR0.out | (with_reducible refine Kd.C_alloc ?_ _) | (with_reducible refine Kd.C_drewN ?_ _) | (with_reducible refine Kd.C_drew ?_))); (case side2 => exact HC0.out); rintro e w' ⟨rfl, ⟨nd, rfl⟩⟩; refine ⟨_, rfl, ?_⟩) | ((with_reducible refine gate_callee (f := 32) rfl ?_); refine goesL_ (some 26) rfl rfl Tryd.func32 (by kernel_rfl) rfl #[.slice A0 l0.length c0] rfl (by (try simp only [List.map_toArray, List.map_cons, List.map_nil]); first | done | rfl | (simp only [List.length_drop, List.length_take]; rfl)) ?_; (with_reducible refine (spec_DrawShown.calls k _ _ l0 t457 _ ?side1 ?side2 A4.out).mono ?_); (case side1 => repeat (first | exact HR0.out | (with_reducible refine Kd.C_alloc ?_ _) | (with_reducible refine Kd.C_drewN ?_ _) | (with_reducible refine Kd.C_drew ?_))); (case side2 => exact HC0.out); rintro e w10 ⟨v458, rfl, ho0, hb⟩; refine ⟨_, rfl, ?_⟩; have n0_ := Aside0.mk (Kd.R_lower ho0 (below_size (by repeat (first | (with_reducible first | exact HB.out | apply below_alloc | apply pw_below_drewN | apply below_drew1) | exact HB.out)))); have n1_ := Aside0.mk (below_step (by repeat (first | (with_reducible first | exact HB.out | apply below_alloc | apply pw_below_drewN | apply below_drew1) | exact HB.out)) hb); clear HB; have HO459 := n0_; have HB := n1_; clear n0_ n1_; (try clear hb); (try clear hb2); (try clear hk); (try clear hi); (try clear ho0); obtain ⟨Ao11, co11, eo11⟩ := Kd.R_slice HO459.out; subst eo11) | ((with_reducible refine gate_callee (f := 33) rfl ?_); refine goesL_ (some 28) rfl rfl Tryd.func33 (by kernel_rfl) rfl #[.slice Ao11 t457.length co11] rfl (by (try simp only [List.map_toArray, List.map_cons, List.map_nil]); first | done | rfl | (simp only [List.length_drop, List.length_take]; rfl)) ?_; (with_reducible refine (impl_HexOf.calls k _ _ t457 t460 _ ?side1 ?side2 A5.out).mono ?_); (case side1 => repeat (first | exact (Kd.R_reads' HO459.out).2.2 | (with_reducible refine Kd.C_alloc ?_ _) | (with_reducible refine Kd.C_drewN ?_ _) | (with_reducible refine Kd.C_drew ?_))); (case side2 => exact (Kd.R_reads' HO459.out).2.1); rintro e w12 ⟨rfl, hb⟩; refine ⟨_, rfl, ?_⟩; have n0_ := Aside0.mk (Kd.R_below (by (with_reducible repeat (first | apply Kd.R_alloc | apply Kd.R_drewN | apply Kd.R_drew)); exact HO459.out) hb); have n1_ := Aside0.mk (below_step (by repeat (first | (with_reducible first | exact HB.out | apply below_alloc | apply pw_below_drewN | apply below_drew1) | exact HB.out)) hb); clear HO459; clear HB; have HO459 := n0_; have HB := n1_; clear n0_ n1_; (try clear hb); (try clear hb2); (try clear hk); (try clear hi)) | ((with_reducible refine gate_callee (f := 34) rfl ?_); refine goesL_ (some 31) rfl rfl Tryd.func34 (by kernel_rfl) rfl #[.string t460] rfl (by (try simp only [List.map_toArray, List.map_cons, List.map_nil]); first | done | rfl | (simp only [List.length_drop, List.length_take]; rfl)) ?_; (with_reducible refine (impl_FromHex.calls k t460 t461 t462 _ A6.out).mono ?_); rintro e w13 ⟨v463, rfl, ho0, hb⟩; refine ⟨_, rfl, ?_⟩; have n0_ := Aside0.mk (Kd.R_elder' (by (with_reducible repeat (first | apply Kd.R_alloc | apply Kd.R_drewN | apply Kd.R_drew)); exact HO459.out) (Kd.R_base ho0) hb); have n1_ := Aside0.mk (Kd.R_lower (Kd.R_new' ho0 (Kd.R_lt (by (with_reducible repeat (first | apply Kd.R_alloc | apply Kd.R_drewN | apply Kd.R_drew)); exact HO459.out))) (below_size (by repeat (first | (with_reducible first | exact HB.out | apply below_alloc | apply pw_below_drewN | apply below_drew1) | exact HB.out)))); have n2_ := Aside0.mk (below_step (by repeat (first | (with_reducible first | exact HB.out | apply below_alloc | apply pw_below_drewN | apply below_drew1) | exact HB.out)) hb); clear HO459; clear HB; have HO459 := n0_; have HO464 := n1_; have HB := n2_; clear n0_ n1_ n2_; (try clear hb); (try clear hb2); (try clear hk); (try clear hi); (try clear ho0)) | ((with_reducible refine gate_callee (f := 24) rfl ?_); refine goesL_ (some 36) rfl rfl Tryd.func24 (by kernel_rfl) rfl #[.slice Ao11 t457.length co11] rfl (by (try simp only [List.map_toArray, List.map_cons, List.map_nil]); first | done | rfl | (simp only [List.length_drop, List.length_take]; rfl)) ?_; (with_reducible refine (impl_Shown.calls k _ _ t457 t465 _ ?side1 ?side2 ?side3 A7.out).mono ?_); (case side1 => repeat (first | exact (Kd.R_reads' HO459.out).2.2 | (with_reducible refine Kd.C_alloc ?_ _) | (with_reducible refine Kd.C_drewN ?_ _) | (with_reducible refine Kd.C_drew ?_))); (case side2 => exact (Kd.R_reads' HO459.out).2.1); (case side3 => exact LaidG_below HG.out (by repeat (first | (with_reducible first | exact HB.out | apply below_alloc | apply pw_below_drewN | apply below_drew1) | exact HB.out))); rintro e w14 ⟨rfl, hb⟩; refine ⟨_, rfl, ?_⟩; have n0_ := Aside0.mk (Kd.R_below (by (with_reducible repeat (first | apply Kd.R_alloc | apply Kd.R_drewN | apply Kd.R_drew)); exact HO459.out) hb); have n1_ := Aside0.mk (Kd.R_below (by (with_reducible repeat (first | apply Kd.R_alloc | apply Kd.R_drewN | apply Kd.R_drew)); exact HO464.out) hb); have n2_ := Aside0.mk (below_step (by repeat (first | (with_reducible first | exact HB.out | apply below_alloc | apply pw_below_drewN | apply below_drew1) | exact HB.out)) hb); clear HO459; clear HO464; clear HB; have HO459 := n0_; have HO464 := n1_; have HB := n2_; clear n0_ n1_ n2_; (try clear hb); (try clear hb2); (try clear hk); (try clear hi)) | ((with_reducible refine gate_callee (f := 31) rfl ?_); refine goesL_ (some 37) rfl rfl Tryd.func31 (by kernel_rfl) rfl #[.string t465] rfl (by (try simp only [List.map_toArray, List.map_cons, List.map_nil]); first | done | rfl | (simp only [List.length_drop, List.length_take]; rfl)) ?_; (with_reducible refine (impl_Unshown.calls k t465 t466 t467 _ ?side1 A8.out).mono ?_); (case side1 => exact LaidG_below HG.out (by repeat (first | (with_reducible first | exact HB.out | apply below_alloc | apply pw_below_drewN | apply below_drew1) | exact HB.out))); rintro e w15 ⟨v468, rfl, hx0, hb⟩; refine ⟨_, rfl, ?_⟩; have n0_ := Aside0.mk (Kd.R_elder' (by (with_reducible repeat (first | apply Kd.R_alloc | apply Kd.R_drewN | apply Kd.R_drew)); exact HO459.out) (KdX.X_base hx0) hb); have n1_ := Aside0.mk (Kd.R_elder' (by (with_reducible repeat (first | apply Kd.R_alloc | apply Kd.R_drewN | apply Kd.R_drew)); exact HO464.out) (KdX.X_base hx0) hb); have n2_ := Aside0.mk (KdX.X_lower (KdX.X_new' (KdX.X_new' hx0 (Kd.R_lt (by (with_reducible repeat (first | apply Kd.R_alloc | apply Kd.R_drewN | apply Kd.R_drew)); exact HO459.out))) (Kd.R_lt (by (with_reducible repeat (first | apply Kd.R_alloc | apply Kd.R_drewN | apply Kd.R_drew)); exact HO464.out))) (below_size (by repeat (first | (with_reducible first | exact HB.out | apply below_alloc | apply pw_below_drewN | apply below_drew1) | exact HB.out)))); have n3_ := Aside0.mk (below_step (by repeat (first | (with_reducible first | exact HB.out | apply below_alloc | apply pw_below_drewN | apply below_drew1) | exact HB.out)) hb); clear HO459; clear HO464; clear HB; have HO459 := n0_; have HO464 := n1_; have HX469 := n2_; have HB := n3_; clear n0_ n1_ n2_ n3_; (try clear hb); (try clear hb2); (try clear hk); (try clear hi); (try clear hx0)))
    (try simp only [Act.put, List.setIfInBounds_toArray, List.set_cons_zero, List.set_cons_succ])
    go_cut [67] (fun v67 wc => ∃ (kq : Nat) (x67_8 : Bool), v67 = .bool x67_8 ∧ Aside0 (laws_FnTexts.j0 kq l0 t457 x67_8 = some r) ∧ Aside0 (kq ≤ k) ∧ Aside0 (Kd.R (Kd.int .u8) 5 wc w.heap.size (fun _ => True) (.slice Ao11 t457.length co11) t457) ∧ Aside0 (Below w.heap.size w wc))
    case first =>
      have H := HC9.out
      clear HC9
      by_cases c16 : t462 = true
      · subst c16
        have H1 : (if t467 = true then (if (strOfNums t461).toList = (strOfNums t457).toList then (if (strOfNums t466).toList = (strOfNums t457).toList then (laws_FnTexts.j0 k l0 t457 ((t460.size : Int) != (wrap64 (2 * (t457.length : Int))))) else (laws_FnTexts.j0 k l0 t457 true)) else (laws_FnTexts.j0 k l0 t457 true)) else (laws_FnTexts.j0 k l0 t457 true)) = some r := by rw [if_pos rfl] at H; exact H
        clear H
        have H := H1
        clear H1
        by_cases c17 : t467 = true
        · subst c17
          have H1 : (if (strOfNums t461).toList = (strOfNums t457).toList then (if (strOfNums t466).toList = (strOfNums t457).toList then (laws_FnTexts.j0 k l0 t457 ((t460.size : Int) != (wrap64 (2 * (t457.length : Int))))) else (laws_FnTexts.j0 k l0 t457 true)) else (laws_FnTexts.j0 k l0 t457 true)) = some r := by rw [if_pos rfl] at H; exact H
          clear H
          have H := H1
          clear H1
          by_cases c18 : (strOfNums t461).toList = (strOfNums t457).toList
          · rw [if_pos c18] at H
            have c18b0 : ((strOfNums t461).toList == (strOfNums t457).toList) = true := beq_iff_eq.mpr c18
            have c18b1 : ((strOfNums t461).toList != (strOfNums t457).toList) = false := bne_eq_false_iff_eq.mpr c18
            clear c18
            (first | rw [c18b0] | (simp only [i64_w, i32_w]; rw [c18b0]) | skip)
            by_cases c19 : (strOfNums t466).toList = (strOfNums t457).toList
            · rw [if_pos c19] at H
              have c19b0 : ((strOfNums t466).toList == (strOfNums t457).toList) = true := beq_iff_eq.mpr c19
              have c19b1 : ((strOfNums t466).toList != (strOfNums t457).toList) = false := bne_eq_false_iff_eq.mpr c19
              clear c19
              have H' := Aside0.mk H
              clear H
              have hcv20 := own_string (P := Tryd.prog) Tryd.underlying22 Tryd.underlying5 Tryd.underlying9 (Kd.own_of_R HO464.out)
              have hcv21 := own_string (P := Tryd.prog) Tryd.underlying22 Tryd.underlying5 Tryd.underlying9 (Kd.own_of_R HO459.out)
              have hcv22 := KdX.X_string (P := Tryd.prog) Tryd.underlying22 Tryd.underlying5 Tryd.underlying9 HX469.out
              have hcv23 := own_string (P := Tryd.prog) Tryd.underlying22 Tryd.underlying5 Tryd.underlying9 (Kd.own_of_R HO459.out)
              go_wp2
              go_meet
              case rel => exact ⟨_, (((t460.size : Int) != (wrap64 (2 * (t457.length : Int))))), (by first | rfl | (simp; done) | (simp [*]; done)), H', ⟨by first | omega | exact Nat.le_refl _⟩, ⟨by (with_reducible repeat (first | apply Kd.R_alloc | apply Kd.R_drewN | apply Kd.R_drew)); exact Kd.R_mono HO459.out (fun _ hk => trivial)⟩, ⟨by repeat (first | (with_reducible first | exact HB.out | apply below_alloc | apply pw_below_drewN | apply below_drew1) | exact HB.out)⟩⟩
            · rw [if_neg c19] at H
              have c19b0 : ((strOfNums t466).toList == (strOfNums t457).toList) = false := beq_eq_false_iff_ne.mpr c19
              have c19b1 : ((strOfNums t466).toList != (strOfNums t457).toList) = true := bne_iff_ne.mpr c19
              have H' := Aside0.mk H
              clear H
              have hcv24 := own_string (P := Tryd.prog) Tryd.underlying22 Tryd.underlying5 Tryd.underlying9 (Kd.own_of_R HO464.out)
              have hcv25 := own_string (P := Tryd.prog) Tryd.underlying22 Tryd.underlying5 Tryd.underlying9 (Kd.own_of_R HO459.out)
              have hcv26 := KdX.X_string (P := Tryd.prog) Tryd.underlying22 Tryd.underlying5 Tryd.underlying9 HX469.out
              have hcv27 := own_string (P := Tryd.prog) Tryd.underlying22 Tryd.underlying5 Tryd.underlying9 (Kd.own_of_R HO459.out)
              go_wp2
              go_meet
              case rel => exact ⟨_, (true), (by first | rfl | (simp; done) | (simp [*]; done)), H', ⟨by first | omega | exact Nat.le_refl _⟩, ⟨by (with_reducible repeat (first | apply Kd.R_alloc | apply Kd.R_drewN | apply Kd.R_drew)); exact Kd.R_mono HO459.out (fun _ hk => trivial)⟩, ⟨by repeat (first | (with_reducible first | exact HB.out | apply below_alloc | apply pw_below_drewN | apply below_drew1) | exact HB.out)⟩⟩
          · rw [if_neg c18] at H
            have c18b0 : ((strOfNums t461).toList == (strOfNums t457).toList) = false := beq_eq_false_iff_ne.mpr c18
            have c18b1 : ((strOfNums t461).toList != (strOfNums t457).toList) = true := bne_iff_ne.mpr c18
            (first | rw [c18b0] | (simp only [i64_w, i32_w]; rw [c18b0]) | skip)
            have H' := Aside0.mk H
            clear H
            have hcv28 := own_string (P := Tryd.prog) Tryd.underlying22 Tryd.underlying5 Tryd.underlying9 (Kd.own_of_R HO464.out)
            have hcv29 := own_string (P := Tryd.prog) Tryd.underlying22 Tryd.underlying5 Tryd.underlying9 (Kd.own_of_R HO459.out)
            go_wp2
            go_meet
            case rel => exact ⟨_, (true), (by first | rfl | (simp; done) | (simp [*]; done)), H', ⟨by first | omega | exact Nat.le_refl _⟩, ⟨by (with_reducible repeat (first | apply Kd.R_alloc | apply Kd.R_drewN | apply Kd.R_drew)); exact Kd.R_mono HO459.out (fun _ hk => trivial)⟩, ⟨by repeat (first | (with_reducible first | exact HB.out | apply below_alloc | apply pw_below_drewN | apply below_drew1) | exact HB.out)⟩⟩
        · replace c17 := Bool.eq_false_iff.mpr c17
          subst c17
          have H1 : (laws_FnTexts.j0 k l0 t457 true) = some r := by rw [if_neg (show ¬ (false = true) by decide)] at H; exact H
          clear H
          have H := H1
          clear H1
          have H' := Aside0.mk H
          clear H
          go_wp2
          go_meet
          case rel => exact ⟨_, (true), (by first | rfl | (simp; done) | (simp [*]; done)), H', ⟨by first | omega | exact Nat.le_refl _⟩, ⟨by (with_reducible repeat (first | apply Kd.R_alloc | apply Kd.R_drewN | apply Kd.R_drew)); exact Kd.R_mono HO459.out (fun _ hk => trivial)⟩, ⟨by repeat (first | (with_reducible first | exact HB.out | apply below_alloc | apply pw_below_drewN | apply below_drew1) | exact HB.out)⟩⟩
      · replace c16 := Bool.eq_false_iff.mpr c16
        subst c16
        have H1 : (laws_FnTexts.j0 k l0 t457 true) = some r := by rw [if_neg (show ¬ (false = true) by decide)] at H; exact H
        clear H
        have H := H1
        clear H1
        have H' := Aside0.mk H
        clear H
        go_wp2
        go_meet
        case rel => exact ⟨_, (true), (by first | rfl | (simp; done) | (simp [*]; done)), H', ⟨by first | omega | exact Nat.le_refl _⟩, ⟨by (with_reducible repeat (first | apply Kd.R_alloc | apply Kd.R_drewN | apply Kd.R_drew)); exact Kd.R_mono HO459.out (fun _ hk => trivial)⟩, ⟨by repeat (first | (with_reducible first | exact HB.out | apply below_alloc | apply pw_below_drewN | apply below_drew1) | exact HB.out)⟩⟩
    case rest =>
      clear HC9
      try clear c1
      try clear c2
      try clear p2
      try clear hcv2
      try clear c3
      try clear p6
      try clear c10
      try clear c16
      try clear c17
      try clear c18
      try clear c18b0
      try clear c18b1
      try clear c19
      try clear c19b0
      try clear c19b1
      try clear hcv20
      try clear hcv21
      try clear hcv22
      try clear hcv23
      try clear c24
      try clear hcv24
      try clear c25
      try clear hcv25
      try clear hcv26
      try clear hcv27
      try clear hcv28
      try clear hcv29
      obtain ⟨kq, x67_8, rfl, HA, HJ8, HO_3, HB⟩ := hcut
      cases kq with
      | zero => exact absurd HA.out (by simp [laws_FnTexts.j0])
      | succ kj8 =>
        have H := HA.out
        clear HA
        simp only [laws_FnTexts.j0] at H
        by_cases c30 : x67_8 = true
        · subst c30
          have H1 : (some false) = some r := by rw [if_pos rfl] at H; exact H
          clear H
          have H := H1
          clear H1
          obtain rfl := Option.some.inj H
          go_wp2
          go_ret
          exact ⟨by first | rfl | (simp [errW_none, errW_some] <;> rfl) | (simp [*, errW_none, errW_some] <;> rfl), by repeat (first | (with_reducible first | exact HB.out | apply below_alloc | apply pw_below_drewN | apply below_drew1) | exact HB.out)⟩
        · replace c30 := Bool.eq_false_iff.mpr c30
          subst c30
          have H1 : ((impl_RunesOf.f t457).bind fun bt470 => (laws_FnTexts.l0 kj8 l0 t457 bt470.1 bt470.2 (([] : List Int)) 0)) = some r := by rw [if_neg (show ¬ (false = true) by decide)] at H; exact H
          clear H
          have H := H1
          clear H1
          replace H := Option.bind_eq_some_iff.mp H
          obtain ⟨⟨t470, t471⟩, A310, H⟩ := H
          replace H : (laws_FnTexts.l0 kj8 l0 t457 t470 t471 (([] : List Int)) 0) = some r := H
          have A31 := Aside0.mk A310
          clear A310
          obtain ⟨y474, hy474⟩ : ∃ y_ : List Int, y_ = (([] : List Int)) := ⟨_, rfl⟩
          replace H : (laws_FnTexts.l0 kj8 l0 t457 t470 t471 y474 0) = some r := by first | (rw [hy474]; with_reducible exact H) | (have H2_ := (Option.bind_some _ _).symm.trans H; rw [hy474]; with_reducible exact H2_) | (have H2_ := (Option.bind_some _ _).symm.trans H; with_reducible exact H2_) | with_reducible exact H | (rw [hy474]; exact H) | exact H
          have Ny474 := Aside0.mk hy474
          clear hy474
          have H' := Aside0.mk H
          clear H
          go_wp2_with (first | ((with_reducible refine gate_callee (f := 16) rfl ?_); refine goesL_ (some 70) rfl rfl Tryd.func16 (by kernel_rfl) rfl #[.slice Ao11 t457.length co11] rfl (by (try simp only [List.map_toArray, List.map_cons, List.map_nil]); first | done | rfl | (simp only [List.length_drop, List.length_take]; rfl)) ?_; (with_reducible refine (impl_RunesOf.calls _ _ t457 t470 t471 _ ?side1 ?side2 ?side3 A31.out).mono ?_); (case side1 => repeat (first | exact (Kd.R_reads' HO_3.out).2.2 | (with_reducible refine Kd.C_alloc ?_ _) | (with_reducible refine Kd.C_drewN ?_ _) | (with_reducible refine Kd.C_drew ?_))); (case side2 => exact (Kd.R_reads' HO_3.out).2.1); (case side3 => exact LaidG_below HG.out (by repeat (first | (with_reducible first | exact HB.out | apply below_alloc | apply pw_below_drewN | apply below_drew1) | exact HB.out))); rintro e w32 ⟨v472, rfl, ho0, hb⟩; refine ⟨_, rfl, ?_⟩; have n0_ := Aside0.mk (Kd.R_below (by (with_reducible repeat (first | apply Kd.R_alloc | apply Kd.R_drewN | apply Kd.R_drew)); exact HO_3.out) hb); have n1_ := Aside0.mk (Kd.R_lower ho0 (below_size (by repeat (first | (with_reducible first | exact HB.out | apply below_alloc | apply pw_below_drewN | apply below_drew1) | exact HB.out)))); have n2_ := Aside0.mk (below_step (by repeat (first | (with_reducible first | exact HB.out | apply below_alloc | apply pw_below_drewN | apply below_drew1) | exact HB.out)) hb); clear HO_3; clear HB; have HO_3 := n0_; have HO473 := n1_; have HB := n2_; clear n0_ n1_ n2_; (try clear hb); (try clear hb2); (try clear hk); (try clear hi); (try clear ho0)) | ((with_reducible refine gate_dst (N := 73) rfl ?_); (try (refine gate_guard (by rfl) ?_; dsimp only)); refine Kd.R_lit (Kd.int .u8) _ 5 ?hg (N := 73) ?hd (xs := ([] : List Int)) (inner := []) (ok := fun _ => True) (okp := fun _ => True) ?hr ?hp (fun _ hk => hk) trivial (Below.refl _ _) (Nat.le_refl _) (by simp) ?_; (case hd => rfl); (case hg => rfl); (case hr => first | (go_simp; done) | (go_simp; rfl)); (case hp => exact (Reps.none _ _)); intro v475 w33 ho34 hb hg_ hnew_; clear hg_ hnew_; (first | rw [← Ny474.out] at ho34 | (simp only [Int.reduceToNat] at ho34; rw [← Ny474.out] at ho34)); have n0_ := Aside0.mk (Kd.R_elder' (by (with_reducible repeat (first | apply Kd.R_alloc | apply Kd.R_drewN | apply Kd.R_drew)); exact HO_3.out) (Kd.R_base ho34) hb); have n1_ := Aside0.mk (Kd.R_below (by (with_reducible repeat (first | apply Kd.R_alloc | apply Kd.R_drewN | apply Kd.R_drew)); exact HO473.out) hb); have n2_ := Aside0.mk (Kd.R_lower (Kd.R_new' ho34 (Kd.R_lt (by (with_reducible repeat (first | apply Kd.R_alloc | apply Kd.R_drewN | apply Kd.R_drew)); exact HO_3.out))) (below_size (by repeat (first | (with_reducible first | exact HB.out | apply below_alloc | apply pw_below_drewN | apply below_drew1) | exact HB.out)))); have n3_ := Aside0.mk (below_step (by repeat (first | (with_reducible first | exact HB.out | apply below_alloc | apply pw_below_drewN | apply below_drew1) | exact HB.out)) hb); clear HO_3; clear HO473; clear HB; have HO_3 := n0_; have HO473 := n1_; have HO476 := n2_; have HB := n3_; clear n0_ n1_ n2_ n3_; clear hb ho34))
          go_loopg [11, 12] kj8 (fun kq v11 v12 w' => ∃ (x11_2 : List Int) (x12_2 : Int), v12 = .int .i64 x12_2 ∧ Aside0 (laws_FnTexts.l0 kq l0 t457 t470 t471 x11_2 x12_2 = some r) ∧ Aside0 (kq ≤ kj8) ∧ Aside0 (Kd.R (Kd.int .u8) 5 w' w.heap.size (fun k_ => some k_ ≠ (v11 : Value).ownBlock) (.slice Ao11 t457.length co11) t457) ∧ Aside0 (Kd.R (Kd.int .i64) 3 w' w.heap.size (fun _ => True) v472 t470) ∧ Aside0 (Kd.R (Kd.int .u8) 5 w' w.heap.size (fun k_ => some k_ ≠ ((.slice Ao11 t457.length co11) : Value).ownBlock) v11 x11_2) ∧ Aside0 (Below w.heap.size w w'))
          case atStart => exact ⟨(y474), (0), (by first | rfl | (simp; done) | (simp [*]; done)), H', ⟨Nat.le_refl _⟩, ⟨by (with_reducible repeat (first | apply Kd.R_alloc | apply Kd.R_drewN | apply Kd.R_drew)); exact Kd.R_mono HO_3.out (fun _ hk => hk.2)⟩, ⟨by (with_reducible repeat (first | apply Kd.R_alloc | apply Kd.R_drewN | apply Kd.R_drew)); exact HO473.out⟩, ⟨by (with_reducible repeat (first | apply Kd.R_alloc | apply Kd.R_drewN | apply Kd.R_drew)); exact Kd.R_mono HO476.out (fun _ hk => hk.2)⟩, ⟨by repeat (first | (with_reducible first | exact HB.out | apply below_alloc | apply pw_below_drewN | apply below_drew1) | exact HB.out)⟩⟩
          case round =>
            clear H'
            try clear c1
            try clear c2
            try clear p2
            try clear hcv2
            try clear c3
            try clear p6
            try clear c10
            try clear c16
            try clear c17
            try clear c18
            try clear c18b0
            try clear c18b1
            try clear c19
            try clear c19b0
            try clear c19b1
            try clear hcv20
            try clear hcv21
            try clear hcv22
            try clear hcv23
            try clear c24
            try clear hcv24
            try clear c25
            try clear hcv25
            try clear hcv26
            try clear hcv27
            try clear hcv28
            try clear hcv29
            try clear c30
            try clear c31
            try clear c32
            try clear c33
            try clear c34
            try clear p2
            try clear p6
            obtain ⟨x11_2, x12_2, rfl, HA, HK2, HO_3, HO_9, HO_11, HB⟩ := hrel
            cases gk with
            | zero => exact absurd HA.out (by simp [laws_FnTexts.l0])
            | succ k2 =>
              have H := HA.out
              clear HA
              simp only [laws_FnTexts.l0] at H
              by_cases c35 : x12_2 < (t470.length : Int)
              · rw [if_pos c35] at H
                have c35b0 : decide (x12_2 < (t470.length : Int)) = true := decide_eq_true c35
                clear c35
                by_cases c36 : 0 ≤ x12_2
                · rw [if_pos c36] at H
                  have c36b0 : decide (0 ≤ x12_2) = true := decide_eq_true c36
                  clear c36
                  replace H := Option.bind_eq_some_iff.mp H
                  obtain ⟨⟨t478, t479⟩, A370, H⟩ := H
                  replace H : (if t479 = true then (if x11_2.length + t478.length < 140737488355328 then (laws_FnTexts.l0 k2 l0 t457 t470 t471 (x11_2 ++ t478) (wrap64 (x12_2 + 1))) else (none)) else (some false)) = some r := H
                  have A37 := Aside0.mk A370
                  clear A370
                  by_cases c38 : t479 = true
                  · subst c38
                    have H1 : (if x11_2.length + t478.length < 140737488355328 then (laws_FnTexts.l0 k2 l0 t457 t470 t471 (x11_2 ++ t478) (wrap64 (x12_2 + 1))) else (none)) = some r := by rw [if_pos rfl] at H; exact H
                    clear H
                    have H := H1
                    clear H1
                    by_cases c39 : x11_2.length + t478.length < 140737488355328
                    · rw [if_pos c39] at H
                      have LMc39 := Aside0.mk c39
                      clear c39
                      obtain ⟨y482, hy482⟩ : ∃ y_ : List Int, y_ = (x11_2 ++ t478) := ⟨_, rfl⟩
                      replace H : (laws_FnTexts.l0 k2 l0 t457 t470 t471 y482 (wrap64 (x12_2 + 1))) = some r := by first | (rw [hy482]; with_reducible exact H) | (have H2_ := (Option.bind_some _ _).symm.trans H; rw [hy482]; with_reducible exact H2_) | (have H2_ := (Option.bind_some _ _).symm.trans H; with_reducible exact H2_) | with_reducible exact H | (rw [hy482]; exact H) | exact H
                      have Ny482 := Aside0.mk hy482
                      clear hy482
                      have H' := Aside0.mk H
                      clear H
                      obtain ⟨Ao40, co40, eo40⟩ := Kd.R_slice HO_9.out
                      subst eo40
                      have p477 : 0 ≤ (x12_2 : Int) := of_decide_eq_true (by first | (with_reducible assumption) | assumption)
                      have q477 : x12_2 < (t470.length : Int) := of_decide_eq_true (by first | (with_reducible assumption) | assumption)
                      obtain ⟨ad477, e477, hx477_0⟩ := Kd.at_int (Kd.R_reads' HO_9.out).2.2 x12_2 p477 q477
                      cases e477
                      replace p477 := eq_true p477
                      replace q477 := eq_true q477
                      go_wp2_with (first | ((with_reducible refine gate_callee (f := 35) rfl ?_); refine goesL_ (some 85) rfl rfl Tryd.func35 (by kernel_rfl) rfl #[.int .i64 (rd t470 x12_2)] rfl (by (try simp only [List.map_toArray, List.map_cons, List.map_nil]); first | done | rfl | (simp only [List.length_drop, List.length_take]; rfl)) ?_; (with_reducible refine (impl_RuneBytes.calls (rd t470 x12_2) t478 true _ A37.out).mono ?_); rintro e w41 ⟨v480, rfl, hx0, hb⟩; refine ⟨_, rfl, ?_⟩; have n0_ := Aside0.mk (Kd.R_elder' (by (with_reducible repeat (first | apply Kd.R_alloc | apply Kd.R_drewN | apply Kd.R_drew)); exact HO_3.out) (KdX.X_base hx0) hb); have n1_ := Aside0.mk (Kd.R_below (by (with_reducible repeat (first | apply Kd.R_alloc | apply Kd.R_drewN | apply Kd.R_drew)); exact HO_9.out) hb); have n2_ := Aside0.mk (Kd.R_elder' (by (with_reducible repeat (first | apply Kd.R_alloc | apply Kd.R_drewN | apply Kd.R_drew)); exact HO_11.out) (KdX.X_base hx0) hb); have n3_ := Aside0.mk (KdX.X_lower (KdX.X_new' (KdX.X_new' hx0 (Kd.R_lt (by (with_reducible repeat (first | apply Kd.R_alloc | apply Kd.R_drewN | apply Kd.R_drew)); exact HO_3.out))) (Kd.R_lt (by (with_reducible repeat (first | apply Kd.R_alloc | apply Kd.R_drewN | apply Kd.R_drew)); exact HO_11.out))) (below_size (by repeat (first | (with_reducible first | exact HB.out | apply below_alloc | apply pw_below_drewN | apply below_drew1) | exact HB.out)))); have n4_ := Aside0.mk (below_step (by repeat (first | (with_reducible first | exact HB.out | apply below_alloc | apply pw_below_drewN | apply below_drew1) | exact HB.out)) hb); clear HO_3; clear HO_9; clear HO_11; clear HB; have HO_3 := n0_; have HO_9 := n1_; have HO_11 := n2_; have HX481 := n3_; have HB := n4_; clear n0_ n1_ n2_ n3_ n4_; (try clear hb); (try clear hb2); (try clear hk); (try clear hi); (try clear hx0); obtain ⟨Ao43, co43, eo43⟩ := KdX.X_slice HX481.out; subst eo43) | ((with_reducible refine gate_builtin (b := .append) (xs := #[.tmp 90, .tmp 91]) rfl ?_); (try (refine gate_guard (by rfl) ?_; dsimp only)); at_builtin; refine Kd.R_append_rows (Kd.int .u8) (w0 := w) w.heap.size rfl (.tmp 90) (.tmp 91) 22 5 (.int .u8 0) 1 rfl Tryd.underlying22 info5 rfl (by decide) (by omega) u11 x11_2 t478 _ _ _ (fun k_ => some k_ ≠ (.slice Ao11 t457.length co11 : Value).ownBlock ∧ some k_ ≠ (.slice Ao43 t478.length co43 : Value).ownBlock) (fun _ => False) rfl rfl ?aO ?aR (fun _ _ h => h) (fun _ h => h.elim) ?aF ?aB ?aS ?aL ?_; (case aR => repeat (first | exact (KdX.X_reads' HX481.out).2.2 | (with_reducible refine Kd.C_alloc ?_ _) | (with_reducible refine Kd.C_drewN ?_ _) | (with_reducible refine Kd.C_drew ?_))); (case aB => exact (by repeat (first | (with_reducible first | exact HB.out | apply below_alloc | apply pw_below_drewN | apply below_drew1) | exact HB.out))); (case aF => exact (fun k_ hk => ⟨Kd.fresh' (Kd.R_lt (by (with_reducible repeat (first | apply Kd.R_alloc | apply Kd.R_drewN | apply Kd.R_drew)); exact HO_3.out)) k_ hk, Kd.fresh' (KdX.X_lt (by (with_reducible repeat (first | apply KdX.X_alloc | apply KdX.X_drewN | apply KdX.X_drew)); exact HX481.out)) k_ hk⟩)); (case aO => exact (by (with_reducible repeat (first | apply Kd.R_alloc | apply Kd.R_drewN | apply Kd.R_drew)); exact HO_11.out)); (case aS => exact (below_size (by repeat (first | (with_reducible first | exact HB.out | apply below_alloc | apply pw_below_drewN | apply below_drew1) | exact HB.out)))); (case aL => have := LMc39.out; omega); intro v483 w42 ho hb hg hat; rw [← Ny482.out] at ho; have n0_ := Aside0.mk (Kd.R_after (ok := (fun k_ => some k_ ≠ (.slice Ao43 t478.length co43 : Value).ownBlock)) (by (with_reducible repeat (first | apply Kd.R_alloc | apply Kd.R_drewN | apply Kd.R_drew)); exact Kd.R_mono HO_3.out (fun _ hk => ⟨hk.2, hk.1⟩)) hg hat); have n1_ := Aside0.mk (Kd.R_over' (by (with_reducible repeat (first | apply Kd.R_alloc | apply Kd.R_drewN | apply Kd.R_drew)); exact HO_9.out) (Kd.R_typed (by (with_reducible repeat (first | apply Kd.R_alloc | apply Kd.R_drewN | apply Kd.R_drew)); exact HO_11.out)) (by decide) hg); have n2_ := Aside0.mk (KdX.X_after (ok := (fun k_ => some k_ ≠ (.slice Ao11 t457.length co11 : Value).ownBlock)) (by (with_reducible repeat (first | apply Kd.R_alloc | apply Kd.R_drewN | apply Kd.R_drew)); exact KdX.X_mono HX481.out (fun _ hk => ⟨hk.1.2, hk.2⟩)) hg hat); have n3_ := Aside0.mk (hb); have n4_ := Aside0.mk (ho); clear HO_3; clear HO_9; clear HX481; clear HB; clear HO_11; have HO_3 := n0_; have HO_9 := n1_; have HX481 := n2_; have HB := n3_; have HO484 := n4_; clear n0_ n1_ n2_ n3_ n4_; clear ho hb hg hat))
                      go_roundg k2
                      case measure => have := HJ8.out; have := HK2.out; omega
                      case rel => exact ⟨(y482), (wrap64 (x12_2 + 1)), (by first | rfl | (simp; done) | (simp [*]; done)), H', ⟨by have := HJ8.out; have := HK2.out; omega⟩, ⟨by (with_reducible repeat (first | apply Kd.R_alloc | apply Kd.R_drewN | apply Kd.R_drew)); exact Kd.R_mono HO_3.out (fun _ hk => hk.2)⟩, ⟨by (with_reducible repeat (first | apply Kd.R_alloc | apply Kd.R_drewN | apply Kd.R_drew)); exact HO_9.out⟩, ⟨by (with_reducible repeat (first | apply Kd.R_alloc | apply Kd.R_drewN | apply Kd.R_drew)); exact Kd.R_mono HO484.out (fun _ hk => hk.1)⟩, ⟨by repeat (first | (with_reducible first | exact HB.out | apply below_alloc | apply pw_below_drewN | apply below_drew1) | exact HB.out)⟩⟩
                    · rw [if_neg c39] at H
                      exact absurd H (by simp)
                  · replace c38 := Bool.eq_false_iff.mpr c38
                    subst c38
                    have H1 : (some false) = some r := by rw [if_neg (show ¬ (false = true) by decide)] at H; exact H
                    clear H
                    have H := H1
                    clear H1
                    obtain rfl := Option.some.inj H
                    obtain ⟨Ao44, co44, eo44⟩ := Kd.R_slice HO_9.out
                    subst eo44
                    have p477 : 0 ≤ (x12_2 : Int) := of_decide_eq_true (by first | (with_reducible assumption) | assumption)
                    have q477 : x12_2 < (t470.length : Int) := of_decide_eq_true (by first | (with_reducible assumption) | assumption)
                    obtain ⟨ad477, e477, hx477_0⟩ := Kd.at_int (Kd.R_reads' HO_9.out).2.2 x12_2 p477 q477
                    cases e477
                    replace p477 := eq_true p477
                    replace q477 := eq_true q477
                    go_wp2_with (first | ((with_reducible refine gate_callee (f := 35) rfl ?_); refine goesL_ (some 85) rfl rfl Tryd.func35 (by kernel_rfl) rfl #[.int .i64 (rd t470 x12_2)] rfl (by (try simp only [List.map_toArray, List.map_cons, List.map_nil]); first | done | rfl | (simp only [List.length_drop, List.length_take]; rfl)) ?_; (with_reducible refine (impl_RuneBytes.calls (rd t470 x12_2) t478 false _ A37.out).mono ?_); rintro e w45 ⟨v480, rfl, hx0, hb⟩; refine ⟨_, rfl, ?_⟩; have n0_ := Aside0.mk (Kd.R_elder' (by (with_reducible repeat (first | apply Kd.R_alloc | apply Kd.R_drewN | apply Kd.R_drew)); exact HO_3.out) (KdX.X_base hx0) hb); have n1_ := Aside0.mk (Kd.R_below (by (with_reducible repeat (first | apply Kd.R_alloc | apply Kd.R_drewN | apply Kd.R_drew)); exact HO_9.out) hb); have n2_ := Aside0.mk (Kd.R_elder' (by (with_reducible repeat (first | apply Kd.R_alloc | apply Kd.R_drewN | apply Kd.R_drew)); exact HO_11.out) (KdX.X_base hx0) hb); have n3_ := Aside0.mk (KdX.X_lower (KdX.X_new' (KdX.X_new' hx0 (Kd.R_lt (by (with_reducible repeat (first | apply Kd.R_alloc | apply Kd.R_drewN | apply Kd.R_drew)); exact HO_3.out))) (Kd.R_lt (by (with_reducible repeat (first | apply Kd.R_alloc | apply Kd.R_drewN | apply Kd.R_drew)); exact HO_11.out))) (below_size (by repeat (first | (with_reducible first | exact HB.out | apply below_alloc | apply pw_below_drewN | apply below_drew1) | exact HB.out)))); have n4_ := Aside0.mk (below_step (by repeat (first | (with_reducible first | exact HB.out | apply below_alloc | apply pw_below_drewN | apply below_drew1) | exact HB.out)) hb); clear HO_3; clear HO_9; clear HO_11; clear HB; have HO_3 := n0_; have HO_9 := n1_; have HO_11 := n2_; have HX481 := n3_; have HB := n4_; clear n0_ n1_ n2_ n3_ n4_; (try clear hb); (try clear hb2); (try clear hk); (try clear hi); (try clear hx0)))
                    go_ret
                    exact ⟨by first | rfl | (simp [errW_none, errW_some] <;> rfl) | (simp [*, errW_none, errW_some] <;> rfl), by repeat (first | (with_reducible first | exact HB.out | apply below_alloc | apply pw_below_drewN | apply below_drew1) | exact HB.out)⟩
                · rw [if_neg c36] at H
                  exact absurd H (by simp)
              · rw [if_neg c35] at H
                have c35b0 : decide (x12_2 < (t470.length : Int)) = false := decide_eq_false c35
                clear c35
                have HC46 := Aside0.mk H
                clear H
                obtain ⟨Ao47, co47, eo47⟩ := Kd.R_slice HO_9.out
                subst eo47
                go_upto_region 18 with (fail)
                go_cut [113] (fun v113 wc => ∃ (kq : Nat) (x113_45 : Bool), v113 = .bool x113_45 ∧ Aside0 (laws_FnTexts.j2 kq l0 t457 t470 x113_45 = some r) ∧ Aside0 (kq ≤ k2) ∧ Aside0 (Kd.R (Kd.int .u8) 5 wc w.heap.size (fun _ => True) (.slice Ao11 t457.length co11) t457) ∧ Aside0 (Kd.R (Kd.int .i64) 3 wc w.heap.size (fun _ => True) (.slice Ao47 t470.length co47) t470) ∧ Aside0 (Below w.heap.size w wc))
                case first =>
                  have H := HC46.out
                  clear HC46
                  by_cases c48 : t471 = true
                  · subst c48
                    have H1 : (if (strOfNums x11_2).toList = (strOfNums t457).toList then (laws_FnTexts.j2 k2 l0 t457 t470 false) else (laws_FnTexts.j2 k2 l0 t457 t470 true)) = some r := by rw [if_pos rfl] at H; exact H
                    clear H
                    have H := H1
                    clear H1
                    by_cases c49 : (strOfNums x11_2).toList = (strOfNums t457).toList
                    · rw [if_pos c49] at H
                      have c49b0 : ((strOfNums x11_2).toList == (strOfNums t457).toList) = true := beq_iff_eq.mpr c49
                      have c49b1 : ((strOfNums x11_2).toList != (strOfNums t457).toList) = false := bne_eq_false_iff_eq.mpr c49
                      clear c49
                      (first | rw [c49b0] | (simp only [i64_w, i32_w]; rw [c49b0]) | skip)
                      have H' := Aside0.mk H
                      clear H
                      have hcv50 := own_string (P := Tryd.prog) Tryd.underlying22 Tryd.underlying5 Tryd.underlying9 (Kd.own_of_R HO_11.out)
                      have hcv51 := own_string (P := Tryd.prog) Tryd.underlying22 Tryd.underlying5 Tryd.underlying9 (Kd.own_of_R HO_3.out)
                      go_wp2
                      go_meet
                      case rel => exact ⟨_, (false), (by first | rfl | (simp; done) | (simp [*]; done)), H', ⟨by have := HJ8.out; have := HK2.out; first | omega | exact Nat.le_refl _⟩, ⟨by (with_reducible repeat (first | apply Kd.R_alloc | apply Kd.R_drewN | apply Kd.R_drew)); exact Kd.R_mono HO_3.out (fun _ hk => trivial)⟩, ⟨by (with_reducible repeat (first | apply Kd.R_alloc | apply Kd.R_drewN | apply Kd.R_drew)); exact HO_9.out⟩, ⟨by repeat (first | (with_reducible first | exact HB.out | apply below_alloc | apply pw_below_drewN | apply below_drew1) | exact HB.out)⟩⟩
                    · rw [if_neg c49] at H
                      have c49b0 : ((strOfNums x11_2).toList == (strOfNums t457).toList) = false := beq_eq_false_iff_ne.mpr c49
                      have c49b1 : ((strOfNums x11_2).toList != (strOfNums t457).toList) = true := bne_iff_ne.mpr c49
                      (first | rw [c49b0] | (simp only [i64_w, i32_w]; rw [c49b0]) | skip)
                      have H' := Aside0.mk H
                      clear H
                      have hcv52 := own_string (P := Tryd.prog) Tryd.underlying22 Tryd.underlying5 Tryd.underlying9 (Kd.own_of_R HO_11.out)
                      have hcv53 := own_string (P := Tryd.prog) Tryd.underlying22 Tryd.underlying5 Tryd.underlying9 (Kd.own_of_R HO_3.out)
                      go_wp2
                      go_meet
                      case rel => exact ⟨_, (true), (by first | rfl | (simp; done) | (simp [*]; done)), H', ⟨by have := HJ8.out; have := HK2.out; first | omega | exact Nat.le_refl _⟩, ⟨by (with_reducible repeat (first | apply Kd.R_alloc | apply Kd.R_drewN | apply Kd.R_drew)); exact Kd.R_mono HO_3.out (fun _ hk => trivial)⟩, ⟨by (with_reducible repeat (first | apply Kd.R_alloc | apply Kd.R_drewN | apply Kd.R_drew)); exact HO_9.out⟩, ⟨by repeat (first | (with_reducible first | exact HB.out | apply below_alloc | apply pw_below_drewN | apply below_drew1) | exact HB.out)⟩⟩
                  · replace c48 := Bool.eq_false_iff.mpr c48
                    subst c48
                    have H1 : ((impl_Plain.f k2 t457).bind fun t485 => (if t485 = true then (laws_FnTexts.j2 k2 l0 t457 t470 true) else (laws_FnTexts.j2 k2 l0 t457 t470 ((t470.length : Int) != 0)))) = some r := by rw [if_neg (show ¬ (false = true) by decide)] at H; exact H
                    clear H
                    have H := H1
                    clear H1
                    replace H := Option.bind_eq_some_iff.mp H
                    obtain ⟨t485, A540, H⟩ := H
                    replace H : (if t485 = true then (laws_FnTexts.j2 k2 l0 t457 t470 true) else (laws_FnTexts.j2 k2 l0 t457 t470 ((t470.length : Int) != 0))) = some r := H
                    have A54 := Aside0.mk A540
                    clear A540
                    by_cases c55 : t485 = true
                    · subst c55
                      have H1 : (laws_FnTexts.j2 k2 l0 t457 t470 true) = some r := by rw [if_pos rfl] at H; exact H
                      clear H
                      have H := H1
                      clear H1
                      have H' := Aside0.mk H
                      clear H
                      go_wp2_with (first | (go_at_call 13; (with_reducible refine (impl_Plain.calls k2 _ _ t457 true _ ?side1 ?side2 ?side3 A54.out).mono ?_); (case side1 => repeat (first | exact (Kd.R_reads' HO_3.out).2.2 | (with_reducible refine Kd.C_alloc ?_ _) | (with_reducible refine Kd.C_drewN ?_ _) | (with_reducible refine Kd.C_drew ?_))); (case side2 => exact (Kd.R_reads' HO_3.out).2.1); (case side3 => exact LaidG_below HG.out (by repeat (first | (with_reducible first | exact HB.out | apply below_alloc | apply pw_below_drewN | apply below_drew1) | exact HB.out))); rintro e w56 ⟨rfl, hb⟩; have n0_ := Aside0.mk (Kd.R_below (by (with_reducible repeat (first | apply Kd.R_alloc | apply Kd.R_drewN | apply Kd.R_drew)); exact HO_3.out) hb); have n1_ := Aside0.mk (Kd.R_below (by (with_reducible repeat (first | apply Kd.R_alloc | apply Kd.R_drewN | apply Kd.R_drew)); exact HO_9.out) hb); have n2_ := Aside0.mk (Kd.R_below (by (with_reducible repeat (first | apply Kd.R_alloc | apply Kd.R_drewN | apply Kd.R_drew)); exact HO_11.out) hb); have n3_ := Aside0.mk (below_step (by repeat (first | (with_reducible first | exact HB.out | apply below_alloc | apply pw_below_drewN | apply below_drew1) | exact HB.out)) hb); clear HO_3; clear HO_9; clear HO_11; clear HB; have HO_3 := n0_; have HO_9 := n1_; have HO_11 := n2_; have HB := n3_; clear n0_ n1_ n2_ n3_; (try clear hb); (try clear hb2); (try clear hk); (try clear hi)))
                      go_meet
                      case rel => exact ⟨_, (true), (by first | rfl | (simp; done) | (simp [*]; done)), H', ⟨by have := HJ8.out; have := HK2.out; first | omega | exact Nat.le_refl _⟩, ⟨by (with_reducible repeat (first | apply Kd.R_alloc | apply Kd.R_drewN | apply Kd.R_drew)); exact Kd.R_mono HO_3.out (fun _ hk => trivial)⟩, ⟨by (with_reducible repeat (first | apply Kd.R_alloc | apply Kd.R_drewN | apply Kd.R_drew)); exact HO_9.out⟩, ⟨by repeat (first | (with_reducible first | exact HB.out | apply below_alloc | apply pw_below_drewN | apply below_drew1) | exact HB.out)⟩⟩
                    · replace c55 := Bool.eq_false_iff.mpr c55
                      subst c55
                      have H1 : (laws_FnTexts.j2 k2 l0 t457 t470 ((t470.length : Int) != 0)) = some r := by rw [if_neg (show ¬ (false = true) by decide)] at H; exact H
                      clear H
                      have H := H1
                      clear H1
                      have H' := Aside0.mk H
                      clear H
                      go_wp2_with (first | (go_at_call 13; (with_reducible refine (impl_Plain.calls k2 _ _ t457 false _ ?side1 ?side2 ?side3 A54.out).mono ?_); (case side1 => repeat (first | exact (Kd.R_reads' HO_3.out).2.2 | (with_reducible refine Kd.C_alloc ?_ _) | (with_reducible refine Kd.C_drewN ?_ _) | (with_reducible refine Kd.C_drew ?_))); (case side2 => exact (Kd.R_reads' HO_3.out).2.1); (case side3 => exact LaidG_below HG.out (by repeat (first | (with_reducible first | exact HB.out | apply below_alloc | apply pw_below_drewN | apply below_drew1) | exact HB.out))); rintro e w57 ⟨rfl, hb⟩; have n0_ := Aside0.mk (Kd.R_below (by (with_reducible repeat (first | apply Kd.R_alloc | apply Kd.R_drewN | apply Kd.R_drew)); exact HO_3.out) hb); have n1_ := Aside0.mk (Kd.R_below (by (with_reducible repeat (first | apply Kd.R_alloc | apply Kd.R_drewN | apply Kd.R_drew)); exact HO_9.out) hb); have n2_ := Aside0.mk (Kd.R_below (by (with_reducible repeat (first | apply Kd.R_alloc | apply Kd.R_drewN | apply Kd.R_drew)); exact HO_11.out) hb); have n3_ := Aside0.mk (below_step (by repeat (first | (with_reducible first | exact HB.out | apply below_alloc | apply pw_below_drewN | apply below_drew1) | exact HB.out)) hb); clear HO_3; clear HO_9; clear HO_11; clear HB; have HO_3 := n0_; have HO_9 := n1_; have HO_11 := n2_; have HB := n3_; clear n0_ n1_ n2_ n3_; (try clear hb); (try clear hb2); (try clear hk); (try clear hi)))
                      go_meet
                      case rel => exact ⟨_, (((t470.length : Int) != 0)), (by first | rfl | (simp; done) | (simp [*]; done)), H', ⟨by have := HJ8.out; have := HK2.out; first | omega | exact Nat.le_refl _⟩, ⟨by (with_reducible repeat (first | apply Kd.R_alloc | apply Kd.R_drewN | apply Kd.R_drew)); exact Kd.R_mono HO_3.out (fun _ hk => trivial)⟩, ⟨by (with_reducible repeat (first | apply Kd.R_alloc | apply Kd.R_drewN | apply Kd.R_drew)); exact HO_9.out⟩, ⟨by repeat (first | (with_reducible first | exact HB.out | apply below_alloc | apply pw_below_drewN | apply below_drew1) | exact HB.out)⟩⟩
                case rest =>
                  clear HC46
                  try clear c1
                  try clear c2
                  try clear p2
                  try clear hcv2
                  try clear c3
                  try clear c4
                  try clear p4
                  try clear q4
                  try clear hx4
                  try clear c5
                  try clear hcv5
                  try clear p6
                  try clear c10
                  try clear c16
                  try clear c17
                  try clear c18
                  try clear c18b0
                  try clear c18b1
                  try clear c19
                  try clear c19b0
                  try clear c19b1
                  try clear hcv20
                  try clear hcv21
                  try clear hcv22
                  try clear hcv23
                  try clear c24
                  try clear hcv24
                  try clear c25
                  try clear hcv25
                  try clear hcv26
                  try clear hcv27
                  try clear hcv28
                  try clear hcv29
                  try clear c30
                  try clear c31
                  try clear c32
                  try clear c33
                  try clear c34
                  try clear c35
                  try clear c35b0
                  try clear c36
                  try clear c36b0
                  try clear c38
                  try clear c39
                  try clear p47
                  try clear q47
                  try clear hx47
                  try clear c48
                  try clear c49
                  try clear c49b0
                  try clear c49b1
                  try clear hcv50
                  try clear hcv51
                  try clear hcv52
                  try clear hcv53
                  try clear c55
                  try clear hx477_0
                  try clear p2
                  try clear p477
                  try clear p6
                  try clear q477
                  obtain ⟨kq, x113_45, rfl, HA, HJ45, HO_3, HO_9, HB⟩ := hcut
                  cases kq with
                  | zero => exact absurd HA.out (by simp [laws_FnTexts.j2])
                  | succ kj45 =>
                    have H := HA.out
                    clear HA
                    simp only [laws_FnTexts.j2] at H
                    by_cases c58 : x113_45 = true
                    · subst c58
                      have H1 : (some false) = some r := by rw [if_pos rfl] at H; exact H
                      clear H
                      have H := H1
                      clear H1
                      obtain rfl := Option.some.inj H
                      go_wp2
                      go_ret
                      exact ⟨by first | rfl | (simp [errW_none, errW_some] <;> rfl) | (simp [*, errW_none, errW_some] <;> rfl), by repeat (first | (with_reducible first | exact HB.out | apply below_alloc | apply pw_below_drewN | apply below_drew1) | exact HB.out)⟩
                    · replace c58 := Bool.eq_false_iff.mpr c58
                      subst c58
                      have H1 : ((spec_DrawUnshown.f kj45 l0).bind fun t486 => ((impl_Unshown.f kj45 t486).bind fun bt487 => (if bt487.2 = true then ((impl_Shown.f kj45 bt487.1).bind fun t491 => (laws_FnTexts.j3 kj45 l0 t457 t470 (t491.toList != t486.toList))) else (laws_FnTexts.j3 kj45 l0 t457 t470 false)))) = some r := by rw [if_neg (show ¬ (false = true) by decide)] at H; exact H
                      clear H
                      have H := H1
                      clear H1
                      replace H := Option.bind_eq_some_iff.mp H
                      obtain ⟨t486, A590, H⟩ := H
                      replace H : ((impl_Unshown.f kj45 t486).bind fun bt487 => (if bt487.2 = true then ((impl_Shown.f kj45 bt487.1).bind fun t491 => (laws_FnTexts.j3 kj45 l0 t457 t470 (t491.toList != t486.toList))) else (laws_FnTexts.j3 kj45 l0 t457 t470 false))) = some r := H
                      have A59 := Aside0.mk A590
                      clear A590
                      replace H := Option.bind_eq_some_iff.mp H
                      obtain ⟨⟨t487, t488⟩, A600, H⟩ := H
                      replace H : (if t488 = true then ((impl_Shown.f kj45 t487).bind fun t491 => (laws_FnTexts.j3 kj45 l0 t457 t470 (t491.toList != t486.toList))) else (laws_FnTexts.j3 kj45 l0 t457 t470 false)) = some r := H
                      have A60 := Aside0.mk A600
                      clear A600
                      have HC61 := Aside0.mk H
                      clear H
                      go_upto_region 22 with (first | ((with_reducible refine gate_callee (f := 36) rfl ?_); refine goesL_ (some 115) rfl rfl Tryd.func36 (by kernel_rfl) rfl #[.slice A0 l0.length c0] rfl (by (try simp only [List.map_toArray, List.map_cons, List.map_nil]); first | done | rfl | (simp only [List.length_drop, List.length_take]; rfl)) ?_; (with_reducible refine (spec_DrawUnshown.calls kj45 _ _ l0 t486 _ ?side1 ?side2 A59.out).mono ?_); (case side1 => repeat (first | exact (Kd.C_below HR0.out HB.out) | (with_reducible refine Kd.C_alloc ?_ _) | (with_reducible refine Kd.C_drewN ?_ _) | (with_reducible refine Kd.C_drew ?_))); (case side2 => exact HC0.out); rintro e w62 ⟨rfl, hb⟩; refine ⟨_, rfl, ?_⟩; have n0_ := Aside0.mk (Kd.R_below (by (with_reducible repeat (first | apply Kd.R_alloc | apply Kd.R_drewN | apply Kd.R_drew)); exact HO_3.out) hb); have n1_ := Aside0.mk (Kd.R_below (by (with_reducible repeat (first | apply Kd.R_alloc | apply Kd.R_drewN | apply Kd.R_drew)); exact HO_9.out) hb); have n2_ := Aside0.mk (below_step (by repeat (first | (with_reducible first | exact HB.out | apply below_alloc | apply pw_below_drewN | apply below_drew1) | exact HB.out)) hb); clear HO_3; clear HO_9; clear HB; have HO_3 := n0_; have HO_9 := n1_; have HB := n2_; clear n0_ n1_ n2_; (try clear hb); (try clear hb2); (try clear hk); (try clear hi)) | ((with_reducible refine gate_callee (f := 31) rfl ?_); refine goesL_ (some 118) rfl rfl Tryd.func31 (by kernel_rfl) rfl #[.string t486] rfl (by (try simp only [List.map_toArray, List.map_cons, List.map_nil]); first | done | rfl | (simp only [List.length_drop, List.length_take]; rfl)) ?_; (with_reducible refine (impl_Unshown.calls kj45 t486 t487 t488 _ ?side1 A60.out).mono ?_); (case side1 => exact LaidG_below HG.out (by repeat (first | (with_reducible first | exact HB.out | apply below_alloc | apply pw_below_drewN | apply below_drew1) | exact HB.out))); rintro e w63 ⟨v489, rfl, hx0, hb⟩; refine ⟨_, rfl, ?_⟩; have n0_ := Aside0.mk (Kd.R_elder' (by (with_reducible repeat (first | apply Kd.R_alloc | apply Kd.R_drewN | apply Kd.R_drew)); exact HO_3.out) (KdX.X_base hx0) hb); have n1_ := Aside0.mk (Kd.R_below (by (with_reducible repeat (first | apply Kd.R_alloc | apply Kd.R_drewN | apply Kd.R_drew)); exact HO_9.out) hb); have n2_ := Aside0.mk (KdX.X_lower (KdX.X_new' hx0 (Kd.R_lt (by (with_reducible repeat (first | apply Kd.R_alloc | apply Kd.R_drewN | apply Kd.R_drew)); exact HO_3.out))) (below_size (by repeat (first | (with_reducible first | exact HB.out | apply below_alloc | apply pw_below_drewN | apply below_drew1) | exact HB.out)))); have n3_ := Aside0.mk (below_step (by repeat (first | (with_reducible first | exact HB.out | apply below_alloc | apply pw_below_drewN | apply below_drew1) | exact HB.out)) hb); clear HO_3; clear HO_9; clear HB; have HO_3 := n0_; have HO_9 := n1_; have HX490 := n2_; have HB := n3_; clear n0_ n1_ n2_ n3_; (try clear hb); (try clear hb2); (try clear hk); (try clear hi); (try clear hx0)))
                      (try simp only [Act.put, List.setIfInBounds_toArray, List.set_cons_zero, List.set_cons_succ])
                      go_cut [127] (fun v127 wc => ∃ (kq : Nat) (x127_60 : Bool), v127 = .bool x127_60 ∧ Aside0 (laws_FnTexts.j3 kq l0 t457 t470 x127_60 = some r) ∧ Aside0 (kq ≤ kj45) ∧ Aside0 (Kd.R (Kd.int .u8) 5 wc w.heap.size (fun _ => True) (.slice Ao11 t457.length co11) t457) ∧ Aside0 (Kd.R (Kd.int .i64) 3 wc w.heap.size (fun _ => True) (.slice Ao47 t470.length co47) t470) ∧ Aside0 (Below w.heap.size w wc))
                      case first =>
                        have H := HC61.out
                        clear HC61
                        by_cases c64 : t488 = true
                        · subst c64
                          have H1 : ((impl_Shown.f kj45 t487).bind fun t491 => (laws_FnTexts.j3 kj45 l0 t457 t470 (t491.toList != t486.toList))) = some r := by rw [if_pos rfl] at H; exact H
                          clear H
                          have H := H1
                          clear H1
                          replace H := Option.bind_eq_some_iff.mp H
                          obtain ⟨t491, A650, H⟩ := H
                          replace H : (laws_FnTexts.j3 kj45 l0 t457 t470 (t491.toList != t486.toList)) = some r := H
                          have A65 := Aside0.mk A650
                          clear A650
                          have H' := Aside0.mk H
                          clear H
                          obtain ⟨Ao66, co66, eo66⟩ := KdX.X_slice HX490.out
                          subst eo66
                          go_wp2_with (first | (go_at_call 24; (with_reducible refine (impl_Shown.calls kj45 _ _ t487 t491 _ ?side1 ?side2 ?side3 A65.out).mono ?_); (case side1 => repeat (first | exact (KdX.X_reads' HX490.out).2.2 | (with_reducible refine Kd.C_alloc ?_ _) | (with_reducible refine Kd.C_drewN ?_ _) | (with_reducible refine Kd.C_drew ?_))); (case side2 => exact (KdX.X_reads' HX490.out).2.1); (case side3 => exact LaidG_below HG.out (by repeat (first | (with_reducible first | exact HB.out | apply below_alloc | apply pw_below_drewN | apply below_drew1) | exact HB.out))); rintro e w67 ⟨rfl, hb⟩; have n0_ := Aside0.mk (Kd.R_below (by (with_reducible repeat (first | apply Kd.R_alloc | apply Kd.R_drewN | apply Kd.R_drew)); exact HO_3.out) hb); have n1_ := Aside0.mk (Kd.R_below (by (with_reducible repeat (first | apply Kd.R_alloc | apply Kd.R_drewN | apply Kd.R_drew)); exact HO_9.out) hb); have n2_ := Aside0.mk (KdX.X_below (by (with_reducible repeat (first | apply KdX.X_alloc | apply KdX.X_drewN | apply KdX.X_drew)); exact HX490.out) hb); have n3_ := Aside0.mk (below_step (by repeat (first | (with_reducible first | exact HB.out | apply below_alloc | apply pw_below_drewN | apply below_drew1) | exact HB.out)) hb); clear HO_3; clear HO_9; clear HX490; clear HB; have HO_3 := n0_; have HO_9 := n1_; have HX490 := n2_; have HB := n3_; clear n0_ n1_ n2_ n3_; (try clear hb); (try clear hb2); (try clear hk); (try clear hi)))
                          go_meet
                          case rel => exact ⟨_, ((t491.toList != t486.toList)), (by first | rfl | (simp; done) | (simp [*]; done)), H', ⟨by have := HJ8.out; have := HK2.out; have := HJ45.out; first | omega | exact Nat.le_refl _⟩, ⟨by (with_reducible repeat (first | apply Kd.R_alloc | apply Kd.R_drewN | apply Kd.R_drew)); exact Kd.R_mono HO_3.out (fun _ hk => trivial)⟩, ⟨by (with_reducible repeat (first | apply Kd.R_alloc | apply Kd.R_drewN | apply Kd.R_drew)); exact HO_9.out⟩, ⟨by repeat (first | (with_reducible first | exact HB.out | apply below_alloc | apply pw_below_drewN | apply below_drew1) | exact HB.out)⟩⟩
                        · replace c64 := Bool.eq_false_iff.mpr c64
                          subst c64
                          have H1 : (laws_FnTexts.j3 kj45 l0 t457 t470 false) = some r := by rw [if_neg (show ¬ (false = true) by decide)] at H; exact H
                          clear H
                          have H := H1
                          clear H1
                          have H' := Aside0.mk H
                          clear H
                          go_wp2
                          go_meet
                          case rel => exact ⟨_, (false), (by first | rfl | (simp; done) | (simp [*]; done)), H', ⟨by have := HJ8.out; have := HK2.out; have := HJ45.out; first | omega | exact Nat.le_refl _⟩, ⟨by (with_reducible repeat (first | apply Kd.R_alloc | apply Kd.R_drewN | apply Kd.R_drew)); exact Kd.R_mono HO_3.out (fun _ hk => trivial)⟩, ⟨by (with_reducible repeat (first | apply Kd.R_alloc | apply Kd.R_drewN | apply Kd.R_drew)); exact HO_9.out⟩, ⟨by repeat (first | (with_reducible first | exact HB.out | apply below_alloc | apply pw_below_drewN | apply below_drew1) | exact HB.out)⟩⟩
                      case rest =>
                        clear HC61
                        try clear c1
                        try clear c2
                        try clear p2
                        try clear hcv2
                        try clear c3
                        try clear c4
                        try clear p4
                        try clear q4
                        try clear hx4
                        try clear c5
                        try clear hcv5
                        try clear c6
                        try clear p6
                        try clear c10
                        try clear c16
                        try clear c17
                        try clear c18
                        try clear c18b0
                        try clear c18b1
                        try clear c19
                        try clear c19b0
                        try clear c19b1
                        try clear hcv20
                        try clear hcv21
                        try clear hcv22
                        try clear hcv23
                        try clear c24
                        try clear hcv24
                        try clear c25
                        try clear hcv25
                        try clear hcv26
                        try clear hcv27
                        try clear hcv28
                        try clear hcv29
                        try clear c30
                        try clear c31
                        try clear c32
                        try clear c33
                        try clear c34
                        try clear c35
                        try clear c35b0
                        try clear c36
                        try clear c36b0
                        try clear c38
                        try clear c39
                        try clear p47
                        try clear q47
                        try clear hx47
                        try clear c48
                        try clear c49
                        try clear c49b0
                        try clear c49b1
                        try clear hcv50
                        try clear hcv51
                        try clear hcv52
                        try clear hcv53
                        try clear c55
                        try clear c58
                        try clear c64
                        try clear p64
                        try clear hx477_0
                        try clear p2
                        try clear p4
                        try clear p47
                        try clear p477
                        try clear p6
                        try clear q4
                        try clear q47
                        try clear q477
                        obtain ⟨kq, x127_60, rfl, HA, HJ60, HO_3, HO_9, HB⟩ := hcut
                        cases kq with
                        | zero => exact absurd HA.out (by simp [laws_FnTexts.j3])
                        | succ kj60 =>
                          have H := HA.out
                          clear HA
                          simp only [laws_FnTexts.j3] at H
                          by_cases c68 : x127_60 = true
                          · subst c68
                            have H1 : (some false) = some r := by rw [if_pos rfl] at H; exact H
                            clear H
                            have H := H1
                            clear H1
                            obtain rfl := Option.some.inj H
                            go_wp2
                            go_ret
                            exact ⟨by first | rfl | (simp [errW_none, errW_some] <;> rfl) | (simp [*, errW_none, errW_some] <;> rfl), by repeat (first | (with_reducible first | exact HB.out | apply below_alloc | apply pw_below_drewN | apply below_drew1) | exact HB.out)⟩
                          · replace c68 := Bool.eq_false_iff.mpr c68
                            subst c68
                            have H1 : ((spec_DrawRuneBytes.f kj60 l0).bind fun t492 => ((impl_RuneBytes.f t492).bind fun bt493 => ((impl_RunesOf.f bt493.1).bind fun bt497 => (if bt493.2 = true then (if bt497.2 = true then (if (bt497.1.length : Int) = 1 then (if 0 < (bt497.1.length : Int) then (laws_FnTexts.j4 kj60 t457 t470 ((rd bt497.1 0) != t492)) else (none)) else (laws_FnTexts.j4 kj60 t457 t470 true)) else (laws_FnTexts.j4 kj60 t457 t470 true)) else (laws_FnTexts.j4 kj60 t457 t470 false))))) = some r := by rw [if_neg (show ¬ (false = true) by decide)] at H; exact H
                            clear H
                            have H := H1
                            clear H1
                            replace H := Option.bind_eq_some_iff.mp H
                            obtain ⟨t492, A690, H⟩ := H
                            replace H : ((impl_RuneBytes.f t492).bind fun bt493 => ((impl_RunesOf.f bt493.1).bind fun bt497 => (if bt493.2 = true then (if bt497.2 = true then (if (bt497.1.length : Int) = 1 then (if 0 < (bt497.1.length : Int) then (laws_FnTexts.j4 kj60 t457 t470 ((rd bt497.1 0) != t492)) else (none)) else (laws_FnTexts.j4 kj60 t457 t470 true)) else (laws_FnTexts.j4 kj60 t457 t470 true)) else (laws_FnTexts.j4 kj60 t457 t470 false)))) = some r := H
                            have A69 := Aside0.mk A690
                            clear A690
                            replace H := Option.bind_eq_some_iff.mp H
                            obtain ⟨⟨t493, t494⟩, A700, H⟩ := H
                            replace H : ((impl_RunesOf.f t493).bind fun bt497 => (if t494 = true then (if bt497.2 = true then (if (bt497.1.length : Int) = 1 then (if 0 < (bt497.1.length : Int) then (laws_FnTexts.j4 kj60 t457 t470 ((rd bt497.1 0) != t492)) else (none)) else (laws_FnTexts.j4 kj60 t457 t470 true)) else (laws_FnTexts.j4 kj60 t457 t470 true)) else (laws_FnTexts.j4 kj60 t457 t470 false))) = some r := H
                            have A70 := Aside0.mk A700
                            clear A700
                            replace H := Option.bind_eq_some_iff.mp H
                            obtain ⟨⟨t497, t498⟩, A710, H⟩ := H
                            replace H : (if t494 = true then (if t498 = true then (if (t497.length : Int) = 1 then (if 0 < (t497.length : Int) then (laws_FnTexts.j4 kj60 t457 t470 ((rd t497 0) != t492)) else (none)) else (laws_FnTexts.j4 kj60 t457 t470 true)) else (laws_FnTexts.j4 kj60 t457 t470 true)) else (laws_FnTexts.j4 kj60 t457 t470 false)) = some r := H
                            have A71 := Aside0.mk A710
                            clear A710
                            have HC72 := Aside0.mk H
                            clear H
                            go_upto_region 27 with (first | ((with_reducible refine gate_callee (f := 37) rfl ?_); refine goesL_ (some 129) rfl rfl Tryd.func37 (by kernel_rfl) rfl #[.slice A0 l0.length c0] rfl (by (try simp only [List.map_toArray, List.map_cons, List.map_nil]); first | done | rfl | (simp only [List.length_drop, List.length_take]; rfl)) ?_; (with_reducible refine (spec_DrawRuneBytes.calls kj60 _ _ l0 t492 _ ?side1 ?side2 A69.out).mono ?_); (case side1 => repeat (first | exact (Kd.C_below HR0.out HB.out) | (with_reducible refine Kd.C_alloc ?_ _) | (with_reducible refine Kd.C_drewN ?_ _) | (with_reducible refine Kd.C_drew ?_))); (case side2 => exact HC0.out); rintro e w73 ⟨rfl, hb⟩; refine ⟨_, rfl, ?_⟩; have n0_ := Aside0.mk (Kd.R_below (by (with_reducible repeat (first | apply Kd.R_alloc | apply Kd.R_drewN | apply Kd.R_drew)); exact HO_3.out) hb); have n1_ := Aside0.mk (Kd.R_below (by (with_reducible repeat (first | apply Kd.R_alloc | apply Kd.R_drewN | apply Kd.R_drew)); exact HO_9.out) hb); have n2_ := Aside0.mk (below_step (by repeat (first | (with_reducible first | exact HB.out | apply below_alloc | apply pw_below_drewN | apply below_drew1) | exact HB.out)) hb); clear HO_3; clear HO_9; clear HB; have HO_3 := n0_; have HO_9 := n1_; have HB := n2_; clear n0_ n1_ n2_; (try clear hb); (try clear hb2); (try clear hk); (try clear hi)) | ((with_reducible refine gate_callee (f := 35) rfl ?_); refine goesL_ (some 132) rfl rfl Tryd.func35 (by kernel_rfl) rfl #[.int .i64 t492] rfl (by (try simp only [List.map_toArray, List.map_cons, List.map_nil]); first | done | rfl | (simp only [List.length_drop, List.length_take]; rfl)) ?_; (with_reducible refine (impl_RuneBytes.calls t492 t493 t494 _ A70.out).mono ?_); rintro e w74 ⟨v495, rfl, hx0, hb⟩; refine ⟨_, rfl, ?_⟩; have n0_ := Aside0.mk (Kd.R_elder' (by (with_reducible repeat (first | apply Kd.R_alloc | apply Kd.R_drewN | apply Kd.R_drew)); exact HO_3.out) (KdX.X_base hx0) hb); have n1_ := Aside0.mk (Kd.R_below (by (with_reducible repeat (first | apply Kd.R_alloc | apply Kd.R_drewN | apply Kd.R_drew)); exact HO_9.out) hb); have n2_ := Aside0.mk (KdX.X_lower (KdX.X_new' hx0 (Kd.R_lt (by (with_reducible repeat (first | apply Kd.R_alloc | apply Kd.R_drewN | apply Kd.R_drew)); exact HO_3.out))) (below_size (by repeat (first | (with_reducible first | exact HB.out | apply below_alloc | apply pw_below_drewN | apply below_drew1) | exact HB.out)))); have n3_ := Aside0.mk (below_step (by repeat (first | (with_reducible first | exact HB.out | apply below_alloc | apply pw_below_drewN | apply below_drew1) | exact HB.out)) hb); clear HO_3; clear HO_9; clear HB; have HO_3 := n0_; have HO_9 := n1_; have HX496 := n2_; have HB := n3_; clear n0_ n1_ n2_ n3_; (try clear hb); (try clear hb2); (try clear hk); (try clear hi); (try clear hx0); obtain ⟨Ao75, co75, eo75⟩ := KdX.X_slice HX496.out; subst eo75) | ((with_reducible refine gate_callee (f := 16) rfl ?_); refine goesL_ (some 137) rfl rfl Tryd.func16 (by kernel_rfl) rfl #[.slice Ao75 t493.length co75] rfl (by (try simp only [List.map_toArray, List.map_cons, List.map_nil]); first | done | rfl | (simp only [List.length_drop, List.length_take]; rfl)) ?_; (with_reducible refine (impl_RunesOf.calls _ _ t493 t497 t498 _ ?side1 ?side2 ?side3 A71.out).mono ?_); (case side1 => repeat (first | exact (KdX.X_reads' HX496.out).2.2 | (with_reducible refine Kd.C_alloc ?_ _) | (with_reducible refine Kd.C_drewN ?_ _) | (with_reducible refine Kd.C_drew ?_))); (case side2 => exact (KdX.X_reads' HX496.out).2.1); (case side3 => exact LaidG_below HG.out (by repeat (first | (with_reducible first | exact HB.out | apply below_alloc | apply pw_below_drewN | apply below_drew1) | exact HB.out))); rintro e w76 ⟨v499, rfl, ho0, hb⟩; refine ⟨_, rfl, ?_⟩; have n0_ := Aside0.mk (Kd.R_below (by (with_reducible repeat (first | apply Kd.R_alloc | apply Kd.R_drewN | apply Kd.R_drew)); exact HO_3.out) hb); have n1_ := Aside0.mk (Kd.R_elder' (by (with_reducible repeat (first | apply Kd.R_alloc | apply Kd.R_drewN | apply Kd.R_drew)); exact HO_9.out) (Kd.R_base ho0) hb); have n2_ := Aside0.mk (KdX.X_below (by (with_reducible repeat (first | apply KdX.X_alloc | apply KdX.X_drewN | apply KdX.X_drew)); exact HX496.out) hb); have n3_ := Aside0.mk (Kd.R_lower (Kd.R_new' ho0 (Kd.R_lt (by (with_reducible repeat (first | apply Kd.R_alloc | apply Kd.R_drewN | apply Kd.R_drew)); exact HO_9.out))) (below_size (by repeat (first | (with_reducible first | exact HB.out | apply below_alloc | apply pw_below_drewN | apply below_drew1) | exact HB.out)))); have n4_ := Aside0.mk (below_step (by repeat (first | (with_reducible first | exact HB.out | apply below_alloc | apply pw_below_drewN | apply below_drew1) | exact HB.out)) hb); clear HO_3; clear HO_9; clear HX496; clear HB; have HO_3 := n0_; have HO_9 := n1_; have HX496 := n2_; have HO500 := n3_; have HB := n4_; clear n0_ n1_ n2_ n3_ n4_; (try clear hb); (try clear hb2); (try clear hk); (try clear hi); (try clear ho0)))
                            (try simp only [Act.put, List.setIfInBounds_toArray, List.set_cons_zero, List.set_cons_succ])
                            go_cut [156] (fun v156 wc => ∃ (kq : Nat) (x156_71 : Bool), v156 = .bool x156_71 ∧ Aside0 (laws_FnTexts.j4 kq t457 t470 x156_71 = some r) ∧ Aside0 (kq ≤ kj60) ∧ Aside0 (Kd.R (Kd.int .u8) 5 wc w.heap.size (fun _ => True) (.slice Ao11 t457.length co11) t457) ∧ Aside0 (Kd.R (Kd.int .i64) 3 wc w.heap.size (fun _ => True) (.slice Ao47 t470.length co47) t470) ∧ Aside0 (Below w.heap.size w wc))
                            case first =>
                              have H := HC72.out
                              clear HC72
                              by_cases c77 : t494 = true
                              · subst c77
                                have H1 : (if t498 = true then (if (t497.length : Int) = 1 then (if 0 < (t497.length : Int) then (laws_FnTexts.j4 kj60 t457 t470 ((rd t497 0) != t492)) else (none)) else (laws_FnTexts.j4 kj60 t457 t470 true)) else (laws_FnTexts.j4 kj60 t457 t470 true)) = some r := by rw [if_pos rfl] at H; exact H
                                clear H
                                have H := H1
                                clear H1
                                by_cases c78 : t498 = true
                                · subst c78
                                  have H1 : (if (t497.length : Int) = 1 then (if 0 < (t497.length : Int) then (laws_FnTexts.j4 kj60 t457 t470 ((rd t497 0) != t492)) else (none)) else (laws_FnTexts.j4 kj60 t457 t470 true)) = some r := by rw [if_pos rfl] at H; exact H
                                  clear H
                                  have H := H1
                                  clear H1
                                  by_cases c79 : (t497.length : Int) = 1
                                  · rw [if_pos c79] at H
                                    have c79b0 : ((t497.length : Int) == 1) = true := beq_iff_eq.mpr c79
                                    have c79b1 : ((t497.length : Int) != 1) = false := bne_eq_false_iff_eq.mpr c79
                                    clear c79
                                    (first | rw [c79b0] | (simp only [i64_w, i32_w]; rw [c79b0]) | skip)
                                    by_cases c80 : 0 < (t497.length : Int)
                                    · rw [if_pos c80] at H
                                      have c80b0 : decide (0 < (t497.length : Int)) = true := decide_eq_true c80
                                      have c80b1 : decide (0 < t497.length) = true := decide_eq_true (by omega)
                                      clear c80
                                      have H' := Aside0.mk H
                                      clear H
                                      obtain ⟨Ao81, co81, eo81⟩ := Kd.R_slice HO500.out
                                      subst eo81
                                      have p501 : 0 ≤ (0 : Int) := (by omega)
                                      have q501 : 0 < (t497.length : Int) := of_decide_eq_true (by first | (with_reducible assumption) | assumption)
                                      obtain ⟨ad501, e501, hx501_0⟩ := Kd.at_int (Kd.R_reads' HO500.out).2.2 0 p501 q501
                                      cases e501
                                      have qi501 : (0 < t497.length) = True := eq_true (by omega)
                                      (try rw [show ((0 : Int)).toNat = 0 from rfl] at hx501_0)
                                      (try rw [Addr.add_zero'] at hx501_0)
                                      replace p501 := eq_true p501
                                      replace q501 := eq_true q501
                                      go_wp2
                                      go_meet
                                      case rel => exact ⟨_, (((rd t497 0) != t492)), (by first | rfl | (simp; done) | (simp [*]; done)), H', ⟨by have := HJ8.out; have := HK2.out; have := HJ45.out; have := HJ60.out; first | omega | exact Nat.le_refl _⟩, ⟨by (with_reducible repeat (first | apply Kd.R_alloc | apply Kd.R_drewN | apply Kd.R_drew)); exact Kd.R_mono HO_3.out (fun _ hk => trivial)⟩, ⟨by (with_reducible repeat (first | apply Kd.R_alloc | apply Kd.R_drewN | apply Kd.R_drew)); exact Kd.R_mono HO_9.out (fun _ hk => trivial)⟩, ⟨by repeat (first | (with_reducible first | exact HB.out | apply below_alloc | apply pw_below_drewN | apply below_drew1) | exact HB.out)⟩⟩
                                    · rw [if_neg c80] at H
                                      exact absurd H (by simp)
                                  · rw [if_neg c79] at H
                                    have c79b0 : ((t497.length : Int) == 1) = false := beq_eq_false_iff_ne.mpr c79
                                    have c79b1 : ((t497.length : Int) != 1) = true := bne_iff_ne.mpr c79
                                    (first | rw [c79b0] | (simp only [i64_w, i32_w]; rw [c79b0]) | skip)
                                    have H' := Aside0.mk H
                                    clear H
                                    obtain ⟨Ao82, co82, eo82⟩ := Kd.R_slice HO500.out
                                    subst eo82
                                    go_wp2
                                    go_meet
                                    case rel => exact ⟨_, (true), (by first | rfl | (simp; done) | (simp [*]; done)), H', ⟨by have := HJ8.out; have := HK2.out; have := HJ45.out; have := HJ60.out; first | omega | exact Nat.le_refl _⟩, ⟨by (with_reducible repeat (first | apply Kd.R_alloc | apply Kd.R_drewN | apply Kd.R_drew)); exact Kd.R_mono HO_3.out (fun _ hk => trivial)⟩, ⟨by (with_reducible repeat (first | apply Kd.R_alloc | apply Kd.R_drewN | apply Kd.R_drew)); exact Kd.R_mono HO_9.out (fun _ hk => trivial)⟩, ⟨by repeat (first | (with_reducible first | exact HB.out | apply below_alloc | apply pw_below_drewN | apply below_drew1) | exact HB.out)⟩⟩
                                · replace c78 := Bool.eq_false_iff.mpr c78
                                  subst c78
                                  have H1 : (laws_FnTexts.j4 kj60 t457 t470 true) = some r := by rw [if_neg (show ¬ (false = true) by decide)] at H; exact H
                                  clear H
                                  have H := H1
                                  clear H1
                                  have H' := Aside0.mk H
                                  clear H
                                  go_wp2
                                  go_meet
                                  case rel => exact ⟨_, (true), (by first | rfl | (simp; done) | (simp [*]; done)), H', ⟨by have := HJ8.out; have := HK2.out; have := HJ45.out; have := HJ60.out; first | omega | exact Nat.le_refl _⟩, ⟨by (with_reducible repeat (first | apply Kd.R_alloc | apply Kd.R_drewN | apply Kd.R_drew)); exact Kd.R_mono HO_3.out (fun _ hk => trivial)⟩, ⟨by (with_reducible repeat (first | apply Kd.R_alloc | apply Kd.R_drewN | apply Kd.R_drew)); exact Kd.R_mono HO_9.out (fun _ hk => trivial)⟩, ⟨by repeat (first | (with_reducible first | exact HB.out | apply below_alloc | apply pw_below_drewN | apply below_drew1) | exact HB.out)⟩⟩
                              · replace c77 := Bool.eq_false_iff.mpr c77
                                subst c77
                                have H1 : (laws_FnTexts.j4 kj60 t457 t470 false) = some r := by rw [if_neg (show ¬ (false = true) by decide)] at H; exact H
                                clear H
                                have H := H1
                                clear H1
                                have H' := Aside0.mk H
                                clear H
                                go_wp2
                                go_meet
                                case rel => exact ⟨_, (false), (by first | rfl | (simp; done) | (simp [*]; done)), H', ⟨by have := HJ8.out; have := HK2.out; have := HJ45.out; have := HJ60.out; first | omega | exact Nat.le_refl _⟩, ⟨by (with_reducible repeat (first | apply Kd.R_alloc | apply Kd.R_drewN | apply Kd.R_drew)); exact Kd.R_mono HO_3.out (fun _ hk => trivial)⟩, ⟨by (with_reducible repeat (first | apply Kd.R_alloc | apply Kd.R_drewN | apply Kd.R_drew)); exact Kd.R_mono HO_9.out (fun _ hk => trivial)⟩, ⟨by repeat (first | (with_reducible first | exact HB.out | apply below_alloc | apply pw_below_drewN | apply below_drew1) | exact HB.out)⟩⟩
                            case rest =>
                              clear HC72
                              try clear c1
                              try clear c2
                              try clear p2
                              try clear hcv2
                              try clear c3
                              try clear c4
                              try clear p4
                              try clear q4
                              try clear hx4
                              try clear c5
                              try clear p5
                              try clear q5
                              try clear hx5
                              try clear hcv5
                              try clear qi5
                              try clear c6
                              try clear p6
                              try clear c7
                              try clear c8
                              try clear c10
                              try clear c16
                              try clear c17
                              try clear c18
                              try clear c18b0
                              try clear c18b1
                              try clear c19
                              try clear c19b0
                              try clear c19b1
                              try clear hcv20
                              try clear hcv21
                              try clear hcv22
                              try clear hcv23
                              try clear c24
                              try clear hcv24
                              try clear c25
                              try clear hcv25
                              try clear hcv26
                              try clear hcv27
                              try clear hcv28
                              try clear hcv29
                              try clear c30
                              try clear c31
                              try clear c32
                              try clear c33
                              try clear c34
                              try clear c35
                              try clear c35b0
                              try clear c36
                              try clear c36b0
                              try clear c37
                              try clear c38
                              try clear c39
                              try clear p47
                              try clear q47
                              try clear hx47
                              try clear c48
                              try clear c49
                              try clear c49b0
                              try clear c49b1
                              try clear p50
                              try clear q50
                              try clear hx50
                              try clear hcv50
                              try clear qi50
                              try clear hcv51
                              try clear hcv52
                              try clear hcv53
                              try clear c55
                              try clear c58
                              try clear c64
                              try clear p64
                              try clear c68
                              try clear c77
                              try clear c78
                              try clear c79
                              try clear c79b0
                              try clear c79b1
                              try clear c80
                              try clear c80b0
                              try clear c80b1
                              try clear hx477_0
                              try clear hx501_0
                              try clear p2
                              try clear p4
                              try clear p47
                              try clear p477
                              try clear p501
                              try clear p6
                              try clear p64
                              try clear q4
                              try clear q47
                              try clear q477
                              try clear q501
                              obtain ⟨kq, x156_71, rfl, HA, HJ71, HO_3, HO_9, HB⟩ := hcut
                              cases kq with
                              | zero => exact absurd HA.out (by simp [laws_FnTexts.j4])
                              | succ kj71 =>
                                have H := HA.out
                                clear HA
                                simp only [laws_FnTexts.j4] at H
                                by_cases c83 : x156_71 = true
                                · subst c83
                                  have H1 : (some false) = some r := by rw [if_pos rfl] at H; exact H
                                  clear H
                                  have H := H1
                                  clear H1
                                  obtain rfl := Option.some.inj H
                                  go_wp2
                                  go_ret
                                  exact ⟨by first | rfl | (simp [errW_none, errW_some] <;> rfl) | (simp [*, errW_none, errW_some] <;> rfl), by repeat (first | (with_reducible first | exact HB.out | apply below_alloc | apply pw_below_drewN | apply below_drew1) | exact HB.out)⟩
                                · replace c83 := Bool.eq_false_iff.mpr c83
                                  subst c83
                                  have H1 : ((impl_Width.f kj71 t457).bind fun t502 => (if t502 ≤ (t457.length : Int) then ((impl_Plain.f kj71 t457).bind fun t503 => (if t503 = true then ((impl_Width.f kj71 t457).bind fun t504 => (if t504 = (t470.length : Int) then ((impl_Plain.f kj71 (([65] : List Int))).bind fun t508 => (some t508)) else (some false))) else ((impl_Plain.f kj71 (([65] : List Int))).bind fun t512 => (some t512)))) else (some false))) = some r := by rw [if_neg (show ¬ (false = true) by decide)] at H; exact H
                                  clear H
                                  have H := H1
                                  clear H1
                                  replace H := Option.bind_eq_some_iff.mp H
                                  obtain ⟨t502, A840, H⟩ := H
                                  replace H : (if t502 ≤ (t457.length : Int) then ((impl_Plain.f kj71 t457).bind fun t503 => (if t503 = true then ((impl_Width.f kj71 t457).bind fun t504 => (if t504 = (t470.length : Int) then ((impl_Plain.f kj71 (([65] : List Int))).bind fun t508 => (some t508)) else (some false))) else ((impl_Plain.f kj71 (([65] : List Int))).bind fun t512 => (some t512)))) else (some false)) = some r := H
                                  have A84 := Aside0.mk A840
                                  clear A840
                                  by_cases c85 : t502 ≤ (t457.length : Int)
                                  · rw [if_pos c85] at H
                                    have c85b0 : decide (t502 ≤ (t457.length : Int)) = true := decide_eq_true c85
                                    clear c85
                                    replace H := Option.bind_eq_some_iff.mp H
                                    obtain ⟨t503, A860, H⟩ := H
                                    replace H : (if t503 = true then ((impl_Width.f kj71 t457).bind fun t504 => (if t504 = (t470.length : Int) then ((impl_Plain.f kj71 (([65] : List Int))).bind fun t508 => (some t508)) else (some false))) else ((impl_Plain.f kj71 (([65] : List Int))).bind fun t512 => (some t512))) = some r := H
                                    have A86 := Aside0.mk A860
                                    clear A860
                                    by_cases c87 : t503 = true
                                    · subst c87
                                      have H1 : ((impl_Width.f kj71 t457).bind fun t504 => (if t504 = (t470.length : Int) then ((impl_Plain.f kj71 (([65] : List Int))).bind fun t508 => (some t508)) else (some false))) = some r := by rw [if_pos rfl] at H; exact H
                                      clear H
                                      have H := H1
                                      clear H1
                                      replace H := Option.bind_eq_some_iff.mp H
                                      obtain ⟨t504, A880, H⟩ := H
                                      replace H : (if t504 = (t470.length : Int) then ((impl_Plain.f kj71 (([65] : List Int))).bind fun t508 => (some t508)) else (some false)) = some r := H
                                      have A88 := Aside0.mk A880
                                      clear A880
                                      by_cases c89 : t504 = (t470.length : Int)
                                      · rw [if_pos c89] at H
                                        have c89b0 : (t504 == (t470.length : Int)) = true := beq_iff_eq.mpr c89
                                        have c89b1 : (t504 != (t470.length : Int)) = false := bne_eq_false_iff_eq.mpr c89
                                        clear c89
                                        obtain ⟨y505, hy505⟩ : ∃ y_ : List Int, y_ = (([65] : List Int)) := ⟨_, rfl⟩
                                        replace H : ((impl_Plain.f kj71 y505).bind fun t508 => (some t508)) = some r := by first | (rw [hy505]; with_reducible exact H) | (have H2_ := (Option.bind_some _ _).symm.trans H; rw [hy505]; with_reducible exact H2_) | (have H2_ := (Option.bind_some _ _).symm.trans H; with_reducible exact H2_) | with_reducible exact H | (rw [hy505]; exact H) | exact H
                                        have Ny505 := Aside0.mk hy505
                                        clear hy505
                                        replace H := Option.bind_eq_some_iff.mp H
                                        obtain ⟨t508, A900, H⟩ := H
                                        replace H : (some t508) = some r := H
                                        have A90 := Aside0.mk A900
                                        clear A900
                                        obtain rfl := Option.some.inj H
                                        go_wp2_with (first | ((with_reducible refine gate_callee (f := 22) rfl ?_); refine goesL_ (some 158) rfl rfl Tryd.func22 (by kernel_rfl) rfl #[.slice Ao11 t457.length co11] rfl (by (try simp only [List.map_toArray, List.map_cons, List.map_nil]); first | done | rfl | (simp only [List.length_drop, List.length_take]; rfl)) ?_; (with_reducible refine (impl_Width.calls kj71 _ _ t457 t502 _ ?side1 ?side2 ?side3 A84.out).mono ?_); (case side1 => repeat (first | exact (Kd.R_reads' HO_3.out).2.2 | (with_reducible refine Kd.C_alloc ?_ _) | (with_reducible refine Kd.C_drewN ?_ _) | (with_reducible refine Kd.C_drew ?_))); (case side2 => exact (Kd.R_reads' HO_3.out).2.1); (case side3 => exact LaidG_below HG.out (by repeat (first | (with_reducible first | exact HB.out | apply below_alloc | apply pw_below_drewN | apply below_drew1) | exact HB.out))); rintro e w91 ⟨rfl, hb⟩; refine ⟨_, rfl, ?_⟩; have n0_ := Aside0.mk (Kd.R_below (by (with_reducible repeat (first | apply Kd.R_alloc | apply Kd.R_drewN | apply Kd.R_drew)); exact HO_3.out) hb); have n1_ := Aside0.mk (Kd.R_below (by (with_reducible repeat (first | apply Kd.R_alloc | apply Kd.R_drewN | apply Kd.R_drew)); exact HO_9.out) hb); have n2_ := Aside0.mk (below_step (by repeat (first | (with_reducible first | exact HB.out | apply below_alloc | apply pw_below_drewN | apply below_drew1) | exact HB.out)) hb); clear HO_3; clear HO_9; clear HB; have HO_3 := n0_; have HO_9 := n1_; have HB := n2_; clear n0_ n1_ n2_; (try clear hb); (try clear hb2); (try clear hk); (try clear hi)) | (go_at_call 13; (with_reducible refine (impl_Plain.calls kj71 _ _ t457 true _ ?side1 ?side2 ?side3 A86.out).mono ?_); (case side1 => repeat (first | exact (Kd.R_reads' HO_3.out).2.2 | (with_reducible refine Kd.C_alloc ?_ _) | (with_reducible refine Kd.C_drewN ?_ _) | (with_reducible refine Kd.C_drew ?_))); (case side2 => exact (Kd.R_reads' HO_3.out).2.1); (case side3 => exact LaidG_below HG.out (by repeat (first | (with_reducible first | exact HB.out | apply below_alloc | apply pw_below_drewN | apply below_drew1) | exact HB.out))); rintro e w92 ⟨rfl, hb⟩; have n0_ := Aside0.mk (Kd.R_below (by (with_reducible repeat (first | apply Kd.R_alloc | apply Kd.R_drewN | apply Kd.R_drew)); exact HO_3.out) hb); have n1_ := Aside0.mk (Kd.R_below (by (with_reducible repeat (first | apply Kd.R_alloc | apply Kd.R_drewN | apply Kd.R_drew)); exact HO_9.out) hb); have n2_ := Aside0.mk (below_step (by repeat (first | (with_reducible first | exact HB.out | apply below_alloc | apply pw_below_drewN | apply below_drew1) | exact HB.out)) hb); clear HO_3; clear HO_9; clear HB; have HO_3 := n0_; have HO_9 := n1_; have HB := n2_; clear n0_ n1_ n2_; (try clear hb); (try clear hb2); (try clear hk); (try clear hi)) | (go_at_call 22; (with_reducible refine (impl_Width.calls kj71 _ _ t457 t504 _ ?side1 ?side2 ?side3 A88.out).mono ?_); (case side1 => repeat (first | exact (Kd.R_reads' HO_3.out).2.2 | (with_reducible refine Kd.C_alloc ?_ _) | (with_reducible refine Kd.C_drewN ?_ _) | (with_reducible refine Kd.C_drew ?_))); (case side2 => exact (Kd.R_reads' HO_3.out).2.1); (case side3 => exact LaidG_below HG.out (by repeat (first | (with_reducible first | exact HB.out | apply below_alloc | apply pw_below_drewN | apply below_drew1) | exact HB.out))); rintro e w93 ⟨rfl, hb⟩; have n0_ := Aside0.mk (Kd.R_below (by (with_reducible repeat (first | apply Kd.R_alloc | apply Kd.R_drewN | apply Kd.R_drew)); exact HO_3.out) hb); have n1_ := Aside0.mk (Kd.R_below (by (with_reducible repeat (first | apply Kd.R_alloc | apply Kd.R_drewN | apply Kd.R_drew)); exact HO_9.out) hb); have n2_ := Aside0.mk (below_step (by repeat (first | (with_reducible first | exact HB.out | apply below_alloc | apply pw_below_drewN | apply below_drew1) | exact HB.out)) hb); clear HO_3; clear HO_9; clear HB; have HO_3 := n0_; have HO_9 := n1_; have HB := n2_; clear n0_ n1_ n2_; (try clear hb); (try clear hb2); (try clear hk); (try clear hi)) | ((with_reducible refine gate_dst (N := 175) rfl ?_); (try (refine gate_guard (by rfl) ?_; dsimp only)); refine Kd.R_lit (Kd.int .u8) _ 5 ?hg (N := 175) ?hd (xs := ([65] : List Int)) (inner := [.int .u8 65]) (ok := fun _ => True) (okp := fun _ => True) ?hr ?hp (fun _ hk => hk) trivial (Below.refl _ _) (Nat.le_refl _) (by simp) ?_; (case hd => rfl); (case hg => rfl); (case hr => first | (go_simp; done) | (go_simp; rfl)); (case hp => exact (Reps.one (show Kd.M (Kd.int .u8) _ _ _ 65 [.int .u8 65] from rfl) (Reps.none _ _))); intro v506 w94 ho95 hb hg_ hnew_; clear hg_ hnew_; (first | rw [← Ny505.out] at ho95 | (simp only [Int.reduceToNat] at ho95; rw [← Ny505.out] at ho95)); have n0_ := Aside0.mk (Kd.R_elder' (by (with_reducible repeat (first | apply Kd.R_alloc | apply Kd.R_drewN | apply Kd.R_drew)); exact HO_3.out) (Kd.R_base ho95) hb); have n1_ := Aside0.mk (Kd.R_below (by (with_reducible repeat (first | apply Kd.R_alloc | apply Kd.R_drewN | apply Kd.R_drew)); exact HO_9.out) hb); have n2_ := Aside0.mk (Kd.R_lower (Kd.R_new' ho95 (Kd.R_lt (by (with_reducible repeat (first | apply Kd.R_alloc | apply Kd.R_drewN | apply Kd.R_drew)); exact HO_3.out))) (below_size (by repeat (first | (with_reducible first | exact HB.out | apply below_alloc | apply pw_below_drewN | apply below_drew1) | exact HB.out)))); have n3_ := Aside0.mk (below_step (by repeat (first | (with_reducible first | exact HB.out | apply below_alloc | apply pw_below_drewN | apply below_drew1) | exact HB.out)) hb); clear HO_3; clear HO_9; clear HB; have HO_3 := n0_; have HO_9 := n1_; have HO507 := n2_; have HB := n3_; clear n0_ n1_ n2_ n3_; clear hb ho95; obtain ⟨Ao96, co96, eo96⟩ := Kd.R_slice HO507.out; subst eo96) | (go_at_call 13; (with_reducible refine (impl_Plain.calls kj71 _ _ y505 t508 _ ?side1 ?side2 ?side3 A90.out).mono ?_); (case side1 => repeat (first | exact (Kd.R_reads' HO507.out).2.2 | (with_reducible refine Kd.C_alloc ?_ _) | (with_reducible refine Kd.C_drewN ?_ _) | (with_reducible refine Kd.C_drew ?_))); (case side2 => exact (Kd.R_reads' HO507.out).2.1); (case side3 => exact LaidG_below HG.out (by repeat (first | (with_reducible first | exact HB.out | apply below_alloc | apply pw_below_drewN | apply below_drew1) | exact HB.out))); rintro e w97 ⟨rfl, hb⟩; have n0_ := Aside0.mk (Kd.R_below (by (with_reducible repeat (first | apply Kd.R_alloc | apply Kd.R_drewN | apply Kd.R_drew)); exact HO_3.out) hb); have n1_ := Aside0.mk (Kd.R_below (by (with_reducible repeat (first | apply Kd.R_alloc | apply Kd.R_drewN | apply Kd.R_drew)); exact HO_9.out) hb); have n2_ := Aside0.mk (Kd.R_below (by (with_reducible repeat (first | apply Kd.R_alloc | apply Kd.R_drewN | apply Kd.R_drew)); exact HO507.out) hb); have n3_ := Aside0.mk (below_step (by repeat (first | (with_reducible first | exact HB.out | apply below_alloc | apply pw_below_drewN | apply below_drew1) | exact HB.out)) hb); clear HO_3; clear HO_9; clear HO507; clear HB; have HO_3 := n0_; have HO_9 := n1_; have HO507 := n2_; have HB := n3_; clear n0_ n1_ n2_ n3_; (try clear hb); (try clear hb2); (try clear hk); (try clear hi)))
                                        go_ret
                                        exact ⟨by first | rfl | (simp [errW_none, errW_some] <;> rfl) | (simp [*, errW_none, errW_some] <;> rfl), by repeat (first | (with_reducible first | exact HB.out | apply below_alloc | apply pw_below_drewN | apply below_drew1) | exact HB.out)⟩
                                      · rw [if_neg c89] at H
                                        have c89b0 : (t504 == (t470.length : Int)) = false := beq_eq_false_iff_ne.mpr c89
                                        have c89b1 : (t504 != (t470.length : Int)) = true := bne_iff_ne.mpr c89
                                        obtain rfl := Option.some.inj H
                                        go_wp2_with (first | ((with_reducible refine gate_callee (f := 22) rfl ?_); refine goesL_ (some 158) rfl rfl Tryd.func22 (by kernel_rfl) rfl #[.slice Ao11 t457.length co11] rfl (by (try simp only [List.map_toArray, List.map_cons, List.map_nil]); first | done | rfl | (simp only [List.length_drop, List.length_take]; rfl)) ?_; (with_reducible refine (impl_Width.calls kj71 _ _ t457 t502 _ ?side1 ?side2 ?side3 A84.out).mono ?_); (case side1 => repeat (first | exact (Kd.R_reads' HO_3.out).2.2 | (with_reducible refine Kd.C_alloc ?_ _) | (with_reducible refine Kd.C_drewN ?_ _) | (with_reducible refine Kd.C_drew ?_))); (case side2 => exact (Kd.R_reads' HO_3.out).2.1); (case side3 => exact LaidG_below HG.out (by repeat (first | (with_reducible first | exact HB.out | apply below_alloc | apply pw_below_drewN | apply below_drew1) | exact HB.out))); rintro e w98 ⟨rfl, hb⟩; refine ⟨_, rfl, ?_⟩; have n0_ := Aside0.mk (Kd.R_below (by (with_reducible repeat (first | apply Kd.R_alloc | apply Kd.R_drewN | apply Kd.R_drew)); exact HO_3.out) hb); have n1_ := Aside0.mk (Kd.R_below (by (with_reducible repeat (first | apply Kd.R_alloc | apply Kd.R_drewN | apply Kd.R_drew)); exact HO_9.out) hb); have n2_ := Aside0.mk (below_step (by repeat (first | (with_reducible first | exact HB.out | apply below_alloc | apply pw_below_drewN | apply below_drew1) | exact HB.out)) hb); clear HO_3; clear HO_9; clear HB; have HO_3 := n0_; have HO_9 := n1_; have HB := n2_; clear n0_ n1_ n2_; (try clear hb); (try clear hb2); (try clear hk); (try clear hi)) | (go_at_call 13; (with_reducible refine (impl_Plain.calls kj71 _ _ t457 true _ ?side1 ?side2 ?side3 A86.out).mono ?_); (case side1 => repeat (first | exact (Kd.R_reads' HO_3.out).2.2 | (with_reducible refine Kd.C_alloc ?_ _) | (with_reducible refine Kd.C_drewN ?_ _) | (with_reducible refine Kd.C_drew ?_))); (case side2 => exact (Kd.R_reads' HO_3.out).2.1); (case side3 => exact LaidG_below HG.out (by repeat (first | (with_reducible first | exact HB.out | apply below_alloc | apply pw_below_drewN | apply below_drew1) | exact HB.out))); rintro e w99 ⟨rfl, hb⟩; have n0_ := Aside0.mk (Kd.R_below (by (with_reducible repeat (first | apply Kd.R_alloc | apply Kd.R_drewN | apply Kd.R_drew)); exact HO_3.out) hb); have n1_ := Aside0.mk (Kd.R_below (by (with_reducible repeat (first | apply Kd.R_alloc | apply Kd.R_drewN | apply Kd.R_drew)); exact HO_9.out) hb); have n2_ := Aside0.mk (below_step (by repeat (first | (with_reducible first | exact HB.out | apply below_alloc | apply pw_below_drewN | apply below_drew1) | exact HB.out)) hb); clear HO_3; clear HO_9; clear HB; have HO_3 := n0_; have HO_9 := n1_; have HB := n2_; clear n0_ n1_ n2_; (try clear hb); (try clear hb2); (try clear hk); (try clear hi)) | (go_at_call 22; (with_reducible refine (impl_Width.calls kj71 _ _ t457 t504 _ ?side1 ?side2 ?side3 A88.out).mono ?_); (case side1 => repeat (first | exact (Kd.R_reads' HO_3.out).2.2 | (with_reducible refine Kd.C_alloc ?_ _) | (with_reducible refine Kd.C_drewN ?_ _) | (with_reducible refine Kd.C_drew ?_))); (case side2 => exact (Kd.R_reads' HO_3.out).2.1); (case side3 => exact LaidG_below HG.out (by repeat (first | (with_reducible first | exact HB.out | apply below_alloc | apply pw_below_drewN | apply below_drew1) | exact HB.out))); rintro e w100 ⟨rfl, hb⟩; have n0_ := Aside0.mk (Kd.R_below (by (with_reducible repeat (first | apply Kd.R_alloc | apply Kd.R_drewN | apply Kd.R_drew)); exact HO_3.out) hb); have n1_ := Aside0.mk (Kd.R_below (by (with_reducible repeat (first | apply Kd.R_alloc | apply Kd.R_drewN | apply Kd.R_drew)); exact HO_9.out) hb); have n2_ := Aside0.mk (below_step (by repeat (first | (with_reducible first | exact HB.out | apply below_alloc | apply pw_below_drewN | apply below_drew1) | exact HB.out)) hb); clear HO_3; clear HO_9; clear HB; have HO_3 := n0_; have HO_9 := n1_; have HB := n2_; clear n0_ n1_ n2_; (try clear hb); (try clear hb2); (try clear hk); (try clear hi)))
                                        go_ret
                                        exact ⟨by first | rfl | (simp [errW_none, errW_some] <;> rfl) | (simp [*, errW_none, errW_some] <;> rfl), by repeat (first | (with_reducible first | exact HB.out | apply below_alloc | apply pw_below_drewN | apply below_drew1) | exact HB.out)⟩
                                    · replace c87 := Bool.eq_false_iff.mpr c87
                                      subst c87
                                      have H1 : ((impl_Plain.f kj71 (([65] : List Int))).bind fun t512 => (some t512)) = some r := by rw [if_neg (show ¬ (false = true) by decide)] at H; exact H
                                      clear H
                                      have H := H1
                                      clear H1
                                      obtain ⟨y509, hy509⟩ : ∃ y_ : List Int, y_ = (([65] : List Int)) := ⟨_, rfl⟩
                                      replace H : ((impl_Plain.f kj71 y509).bind fun t512 => (some t512)) = some r := by first | (rw [hy509]; with_reducible exact H) | (have H2_ := (Option.bind_some _ _).symm.trans H; rw [hy509]; with_reducible exact H2_) | (have H2_ := (Option.bind_some _ _).symm.trans H; with_reducible exact H2_) | with_reducible exact H | (rw [hy509]; exact H) | exact H
                                      have Ny509 := Aside0.mk hy509
                                      clear hy509
                                      replace H := Option.bind_eq_some_iff.mp H
                                      obtain ⟨t512, A1010, H⟩ := H
                                      replace H : (some t512) = some r := H
                                      have A101 := Aside0.mk A1010
                                      clear A1010
                                      obtain rfl := Option.some.inj H
                                      go_wp2_with (first | ((with_reducible refine gate_callee (f := 22) rfl ?_); refine goesL_ (some 158) rfl rfl Tryd.func22 (by kernel_rfl) rfl #[.slice Ao11 t457.length co11] rfl (by (try simp only [List.map_toArray, List.map_cons, List.map_nil]); first | done | rfl | (simp only [List.length_drop, List.length_take]; rfl)) ?_; (with_reducible refine (impl_Width.calls kj71 _ _ t457 t502 _ ?side1 ?side2 ?side3 A84.out).mono ?_); (case side1 => repeat (first | exact (Kd.R_reads' HO_3.out).2.2 | (with_reducible refine Kd.C_alloc ?_ _) | (with_reducible refine Kd.C_drewN ?_ _) | (with_reducible refine Kd.C_drew ?_))); (case side2 => exact (Kd.R_reads' HO_3.out).2.1); (case side3 => exact LaidG_below HG.out (by repeat (first | (with_reducible first | exact HB.out | apply below_alloc | apply pw_below_drewN | apply below_drew1) | exact HB.out))); rintro e w102 ⟨rfl, hb⟩; refine ⟨_, rfl, ?_⟩; have n0_ := Aside0.mk (Kd.R_below (by (with_reducible repeat (first | apply Kd.R_alloc | apply Kd.R_drewN | apply Kd.R_drew)); exact HO_3.out) hb); have n1_ := Aside0.mk (Kd.R_below (by (with_reducible repeat (first | apply Kd.R_alloc | apply Kd.R_drewN | apply Kd.R_drew)); exact HO_9.out) hb); have n2_ := Aside0.mk (below_step (by repeat (first | (with_reducible first | exact HB.out | apply below_alloc | apply pw_below_drewN | apply below_drew1) | exact HB.out)) hb); clear HO_3; clear HO_9; clear HB; have HO_3 := n0_; have HO_9 := n1_; have HB := n2_; clear n0_ n1_ n2_; (try clear hb); (try clear hb2); (try clear hk); (try clear hi)) | (go_at_call 13; (with_reducible refine (impl_Plain.calls kj71 _ _ t457 false _ ?side1 ?side2 ?side3 A86.out).mono ?_); (case side1 => repeat (first | exact (Kd.R_reads' HO_3.out).2.2 | (with_reducible refine Kd.C_alloc ?_ _) | (with_reducible refine Kd.C_drewN ?_ _) | (with_reducible refine Kd.C_drew ?_))); (case side2 => exact (Kd.R_reads' HO_3.out).2.1); (case side3 => exact LaidG_below HG.out (by repeat (first | (with_reducible first | exact HB.out | apply below_alloc | apply pw_below_drewN | apply below_drew1) | exact HB.out))); rintro e w103 ⟨rfl, hb⟩; have n0_ := Aside0.mk (Kd.R_below (by (with_reducible repeat (first | apply Kd.R_alloc | apply Kd.R_drewN | apply Kd.R_drew)); exact HO_3.out) hb); have n1_ := Aside0.mk (Kd.R_below (by (with_reducible repeat (first | apply Kd.R_alloc | apply Kd.R_drewN | apply Kd.R_drew)); exact HO_9.out) hb); have n2_ := Aside0.mk (below_step (by repeat (first | (with_reducible first | exact HB.out | apply below_alloc | apply pw_below_drewN | apply below_drew1) | exact HB.out)) hb); clear HO_3; clear HO_9; clear HB; have HO_3 := n0_; have HO_9 := n1_; have HB := n2_; clear n0_ n1_ n2_; (try clear hb); (try clear hb2); (try clear hk); (try clear hi)) | ((with_reducible refine gate_dst (N := 175) rfl ?_); (try (refine gate_guard (by rfl) ?_; dsimp only)); refine Kd.R_lit (Kd.int .u8) _ 5 ?hg (N := 175) ?hd (xs := ([65] : List Int)) (inner := [.int .u8 65]) (ok := fun _ => True) (okp := fun _ => True) ?hr ?hp (fun _ hk => hk) trivial (Below.refl _ _) (Nat.le_refl _) (by simp) ?_; (case hd => rfl); (case hg => rfl); (case hr => first | (go_simp; done) | (go_simp; rfl)); (case hp => exact (Reps.one (show Kd.M (Kd.int .u8) _ _ _ 65 [.int .u8 65] from rfl) (Reps.none _ _))); intro v510 w104 ho105 hb hg_ hnew_; clear hg_ hnew_; (first | rw [← Ny509.out] at ho105 | (simp only [Int.reduceToNat] at ho105; rw [← Ny509.out] at ho105)); have n0_ := Aside0.mk (Kd.R_elder' (by (with_reducible repeat (first | apply Kd.R_alloc | apply Kd.R_drewN | apply Kd.R_drew)); exact HO_3.out) (Kd.R_base ho105) hb); have n1_ := Aside0.mk (Kd.R_below (by (with_reducible repeat (first | apply Kd.R_alloc | apply Kd.R_drewN | apply Kd.R_drew)); exact HO_9.out) hb); have n2_ := Aside0.mk (Kd.R_lower (Kd.R_new' ho105 (Kd.R_lt (by (with_reducible repeat (first | apply Kd.R_alloc | apply Kd.R_drewN | apply Kd.R_drew)); exact HO_3.out))) (below_size (by repeat (first | (with_reducible first | exact HB.out | apply below_alloc | apply pw_below_drewN | apply below_drew1) | exact HB.out)))); have n3_ := Aside0.mk (below_step (by repeat (first | (with_reducible first | exact HB.out | apply below_alloc | apply pw_below_drewN | apply below_drew1) | exact HB.out)) hb); clear HO_3; clear HO_9; clear HB; have HO_3 := n0_; have HO_9 := n1_; have HO511 := n2_; have HB := n3_; clear n0_ n1_ n2_ n3_; clear hb ho105; obtain ⟨Ao106, co106, eo106⟩ := Kd.R_slice HO511.out; subst eo106) | (go_at_call 13; (with_reducible refine (impl_Plain.calls kj71 _ _ y509 t512 _ ?side1 ?side2 ?side3 A101.out).mono ?_); (case side1 => repeat (first | exact (Kd.R_reads' HO511.out).2.2 | (with_reducible refine Kd.C_alloc ?_ _) | (with_reducible refine Kd.C_drewN ?_ _) | (with_reducible refine Kd.C_drew ?_))); (case side2 => exact (Kd.R_reads' HO511.out).2.1); (case side3 => exact LaidG_below HG.out (by repeat (first | (with_reducible first | exact HB.out | apply below_alloc | apply pw_below_drewN | apply below_drew1) | exact HB.out))); rintro e w107 ⟨rfl, hb⟩; have n0_ := Aside0.mk (Kd.R_below (by (with_reducible repeat (first | apply Kd.R_alloc | apply Kd.R_drewN | apply Kd.R_drew)); exact HO_3.out) hb); have n1_ := Aside0.mk (Kd.R_below (by (with_reducible repeat (first | apply Kd.R_alloc | apply Kd.R_drewN | apply Kd.R_drew)); exact HO_9.out) hb); have n2_ := Aside0.mk (Kd.R_below (by (with_reducible repeat (first | apply Kd.R_alloc | apply Kd.R_drewN | apply Kd.R_drew)); exact HO511.out) hb); have n3_ := Aside0.mk (below_step (by repeat (first | (with_reducible first | exact HB.out | apply below_alloc | apply pw_below_drewN | apply below_drew1) | exact HB.out)) hb); clear HO_3; clear HO_9; clear HO511; clear HB; have HO_3 := n0_; have HO_9 := n1_; have HO511 := n2_; have HB := n3_; clear n0_ n1_ n2_ n3_; (try clear hb); (try clear hb2); (try clear hk); (try clear hi)))
                                      go_ret
                                      exact ⟨by first | rfl | (simp [errW_none, errW_some] <;> rfl) | (simp [*, errW_none, errW_some] <;> rfl), by repeat (first | (with_reducible first | exact HB.out | apply below_alloc | apply pw_below_drewN | apply below_drew1) | exact HB.out)⟩
                                  · rw [if_neg c85] at H
                                    have c85b0 : decide (t502 ≤ (t457.length : Int)) = false := decide_eq_false c85
                                    clear c85
                                    obtain rfl := Option.some.inj H
                                    go_wp2_with (first | ((with_reducible refine gate_callee (f := 22) rfl ?_); refine goesL_ (some 158) rfl rfl Tryd.func22 (by kernel_rfl) rfl #[.slice Ao11 t457.length co11] rfl (by (try simp only [List.map_toArray, List.map_cons, List.map_nil]); first | done | rfl | (simp only [List.length_drop, List.length_take]; rfl)) ?_; (with_reducible refine (impl_Width.calls kj71 _ _ t457 t502 _ ?side1 ?side2 ?side3 A84.out).mono ?_); (case side1 => repeat (first | exact (Kd.R_reads' HO_3.out).2.2 | (with_reducible refine Kd.C_alloc ?_ _) | (with_reducible refine Kd.C_drewN ?_ _) | (with_reducible refine Kd.C_drew ?_))); (case side2 => exact (Kd.R_reads' HO_3.out).2.1); (case side3 => exact LaidG_below HG.out (by repeat (first | (with_reducible first | exact HB.out | apply below_alloc | apply pw_below_drewN | apply below_drew1) | exact HB.out))); rintro e w108 ⟨rfl, hb⟩; refine ⟨_, rfl, ?_⟩; have n0_ := Aside0.mk (Kd.R_below (by (with_reducible repeat (first | apply Kd.R_alloc | apply Kd.R_drewN | apply Kd.R_drew)); exact HO_3.out) hb); have n1_ := Aside0.mk (Kd.R_below (by (with_reducible repeat (first | apply Kd.R_alloc | apply Kd.R_drewN | apply Kd.R_drew)); exact HO_9.out) hb); have n2_ := Aside0.mk (below_step (by repeat (first | (with_reducible first | exact HB.out | apply below_alloc | apply pw_below_drewN | apply below_drew1) | exact HB.out)) hb); clear HO_3; clear HO_9; clear HB; have HO_3 := n0_; have HO_9 := n1_; have HB := n2_; clear n0_ n1_ n2_; (try clear hb); (try clear hb2); (try clear hk); (try clear hi)))
                                    go_ret
                                    exact ⟨by first | rfl | (simp [errW_none, errW_some] <;> rfl) | (simp [*, errW_none, errW_some] <;> rfl), by repeat (first | (with_reducible first | exact HB.out | apply below_alloc | apply pw_below_drewN | apply below_drew1) | exact HB.out)⟩

/-- THE ONE PURE STATEMENT of laws_FnTexts. -/
def laws_FnTexts.Pure : Prop := ∀ (x0 : List Int), (okL (fun n : Int => (Lit.int .u8 n).wf = true)) x0 → ∃ k, laws_FnTexts.f k x0 = some true

end Go.Proofs.YtklkaaaegnojkaaDoor.D
