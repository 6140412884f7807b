-- written by a program of this session (wip/gen/xpatch.py over the translation); Lean checks it
import Derived.Test.YtflfbkobpdooeaaPAllx0
import Derived.Test.YtflfbkobpdooeaaPAllx1
import Derived.Test.YtflfbkobpdooeaaPAllx2
import Derived.Test.YtflfbkobpdooeaaPAllx3
import Derived.Test.YtflfbkobpdooeaaPAllx4
import Derived.Test.YtflfbkobpdooeaaPAllx5
namespace Go.Proofs.Ytflfbkobpdooeaa.PAll
open Go.RowKit Go.Proofs.Ytflfbkobpdooeaa.Hand Go.Proofs.YtflfbkobpdooeaaW.PrintWords Go.Proofs.YtflfbkobpdooeaaW.PrintLast Go.Proofs.YtflfbkobpdooeaaW.PrintMore
attribute [local go_sem] max2_int min2_int max_two min_two max_three min_three max_four min_four   -- for this text's walks alone
set_option linter.unusedVariables false
set_option linter.unusedSimpArgs false

/-! ### laws_FnSlopeAreas: function 3 -/
mutual
def laws_FnSlopeAreas.j0 : Nat → List Int → List Int → Int → Int → Bool → Option (Bool)
  | 0, _, _, _, _, _ => none
  | k + 1, x1, x5, x6, x7, x69 => if x69 = true then (some false) else ((spec_DrawMostArea.f k x1).bind fun bt447 => ((impl_MostArea.f k bt447.1 bt447.2).bind fun bt449 => ((spec_MostArea.f k bt447.1 bt447.2).bind fun bt451 => (if (bt449.2 != bt451.2) = true then (laws_FnSlopeAreas.j1 k x1 x5 x6 x7 bt447.1 bt447.2 bt449.1 bt449.2 true) else (laws_FnSlopeAreas.j1 k x1 x5 x6 x7 bt447.1 bt447.2 bt449.1 bt449.2 (bt449.1 != bt451.1))))))
def laws_FnSlopeAreas.j1 : Nat → List Int → List Int → Int → Int → Int → Int → Int → Bool → Bool → Option (Bool)
  | 0, _, _, _, _, _, _, _, _, _ => none
  | k + 1, x1, x5, x6, x7, x11, x12, x13, x14, x94 => if x94 = true then (some false) else (if x14 = true then (if 0 ≤ x11 then (if (x11 : Int).toNat ≤ 35184372088832 then ((impl_SlopeArea.f k (List.replicate (x11 : Int).toNat 0) x12).bind fun bt456 => ((impl_BoundsOf.f k x11 x12).bind fun bt458 => ((impl_SlopeArea.f k bt458.1 x12).bind fun bt462 => (if bt456.2 = true then (if bt458.2 = true then (if bt462.2 = true then (if bt456.1 = x13 then (if bt462.1 = 0 then ((laws_wSum.f k bt458.1).bind fun t464 => (if t464 = x13 then (laws_FnSlopeAreas.j2 k x1 x5 x6 x7) else (some false))) else (some false)) else (some false)) else (some false)) else (some false)) else (some false))))) else (none)) else (none)) else (laws_FnSlopeAreas.j2 k x1 x5 x6 x7))
def laws_FnSlopeAreas.j2 : Nat → List Int → List Int → Int → Int → Option (Bool)
  | 0, _, _, _, _ => none
  | k + 1, x1, x5, x6, x7 => (spec_DrawUsualOf.f k x1).bind fun t465 => ((impl_UsualOf.f k t465).bind fun bt468 => ((spec_UsualOf.f k t465).bind fun bt472 => (if (bt468.2 != bt472.2) = true then (laws_FnSlopeAreas.j3 k x5 x6 x7 t465 bt468.1 bt468.2 true) else ((laws_wSame.f k bt468.1 bt472.1).bind fun t476 => (laws_FnSlopeAreas.j3 k x5 x6 x7 t465 bt468.1 bt468.2 (!t476))))))
def laws_FnSlopeAreas.j3 : Nat → List Int → Int → Int → List Int → List Int → Bool → Bool → Option (Bool)
  | 0, _, _, _, _, _, _, _ => none
  | k + 1, x5, x6, x7, x23, x24, x25, x160 => if x160 = true then (some false) else (if x25 = true then ((impl_SlopeArea.f k x23 (wrap64 ((x23.length : Int) + 1))).bind fun bt477 => ((impl_TotalDistance.f k x24 (x24.length : Int)).bind fun bt479 => (if bt477.2 = true then (if bt479.2 = true then (if bt477.1 = bt479.1 then (laws_FnSlopeAreas.j4 k x5 x6 x7) else (some false)) else (some false)) else (some false)))) else (laws_FnSlopeAreas.j4 k x5 x6 x7))
def laws_FnSlopeAreas.j4 : Nat → List Int → Int → Int → Option (Bool)
  | 0, _, _, _ => none
  | k + 1, x5, x6, x7 => (impl_BesideSlope.f k x5 x6).bind fun bt481 => ((spec_BesideSlope.f k x5 x6).bind fun bt485 => (if (bt481.2 != bt485.2) = true then (laws_FnSlopeAreas.j5 k x5 x6 x7 bt481.1 bt481.2 true) else ((laws_wSame.f k bt481.1 bt485.1).bind fun t489 => (laws_FnSlopeAreas.j5 k x5 x6 x7 bt481.1 bt481.2 (!t489)))))
def laws_FnSlopeAreas.j5 : Nat → List Int → Int → Int → List Int → Bool → Bool → Option (Bool)
  | 0, _, _, _, _, _, _ => none
  | k + 1, x5, x6, x7, x32, x33, x208 => if x208 = true then (some false) else (if x33 = true then ((impl_SlopeArea.f k x32 (wrap64 (x6 + (x5.length : Int)))).bind fun bt490 => ((impl_IsSlopeParking.f k x32 (wrap64 (x6 + (x5.length : Int)))).bind fun bt492 => ((impl_MostArea.f k (x5.length : Int) x6).bind fun bt494 => (if bt490.2 = true then (if bt492.2 = true then (if bt494.2 = true then (if bt492.1 = true then (if bt490.1 = x7 then (if x7 ≥ 0 then (some (decide (x7 ≤ bt494.1))) else (some false)) else (some false)) else (some false)) else (some false)) else (some false)) else (some false))))) else (some true))
end
def laws_FnSlopeAreas.f (k : Nat) (l0 : List Int) (l1 : List Int) : Option (Bool) := (laws_big.f l0 l1).bind fun t438 => (if t438 = true then (some true) else ((spec_DrawSlopeArea.f k l0).bind fun bt439 => ((impl_SlopeArea.f k bt439.1 bt439.2).bind fun bt443 => ((spec_SlopeArea.f k bt439.1 bt439.2).bind fun bt445 => (if (bt443.2 != bt445.2) = true then (laws_FnSlopeAreas.j0 k l1 bt439.1 bt439.2 bt443.1 true) else (laws_FnSlopeAreas.j0 k l1 bt439.1 bt439.2 bt443.1 (bt443.1 != bt445.1)))))))
theorem laws_FnSlopeAreas.mono_l : ∀ k, (∀ y0 y1 y2 y3 y4, LeO (laws_FnSlopeAreas.j0 k y0 y1 y2 y3 y4) (laws_FnSlopeAreas.j0 (k + 1) y0 y1 y2 y3 y4)) ∧ (∀ y0 y1 y2 y3 y4 y5 y6 y7 y8, LeO (laws_FnSlopeAreas.j1 k y0 y1 y2 y3 y4 y5 y6 y7 y8) (laws_FnSlopeAreas.j1 (k + 1) y0 y1 y2 y3 y4 y5 y6 y7 y8)) ∧ (∀ y0 y1 y2 y3, LeO (laws_FnSlopeAreas.j2 k y0 y1 y2 y3) (laws_FnSlopeAreas.j2 (k + 1) y0 y1 y2 y3)) ∧ (∀ y0 y1 y2 y3 y4 y5 y6, LeO (laws_FnSlopeAreas.j3 k y0 y1 y2 y3 y4 y5 y6) (laws_FnSlopeAreas.j3 (k + 1) y0 y1 y2 y3 y4 y5 y6)) ∧ (∀ y0 y1 y2, LeO (laws_FnSlopeAreas.j4 k y0 y1 y2) (laws_FnSlopeAreas.j4 (k + 1) y0 y1 y2)) ∧ (∀ y0 y1 y2 y3 y4 y5, LeO (laws_FnSlopeAreas.j5 k y0 y1 y2 y3 y4 y5) (laws_FnSlopeAreas.j5 (k + 1) y0 y1 y2 y3 y4 y5))
  | 0 => ⟨fun _ _ _ _ _ r h => by simp [laws_FnSlopeAreas.j0] at h, fun _ _ _ _ _ _ _ _ _ r h => by simp [laws_FnSlopeAreas.j1] at h, fun _ _ _ _ r h => by simp [laws_FnSlopeAreas.j2] at h, fun _ _ _ _ _ _ _ r h => by simp [laws_FnSlopeAreas.j3] at h, fun _ _ _ r h => by simp [laws_FnSlopeAreas.j4] at h, fun _ _ _ _ _ _ r h => by simp [laws_FnSlopeAreas.j5] at h⟩
  | k + 1 => by
    obtain ⟨ih0, ih1, ih2, ih3, ih4, ih5⟩ := laws_FnSlopeAreas.mono_l k
    refine ⟨?_, ?_, ?_, ?_, ?_, ?_⟩
    · intro y0 y1 y2 y3 y4
      unfold laws_FnSlopeAreas.j0
      repeat' first
      | (with_reducible exact ih0 _ _ _ _ _)
      | (with_reducible exact ih1 _ _ _ _ _ _ _ _ _)
      | (with_reducible exact ih2 _ _ _ _)
      | (with_reducible exact ih3 _ _ _ _ _ _ _)
      | (with_reducible exact ih4 _ _ _)
      | (with_reducible exact ih5 _ _ _ _ _ _)
      | (with_reducible exact impl_BesideSlope.mono _ _ _)
      | (with_reducible exact impl_BoundsOf.mono _ _ _)
      | (with_reducible exact impl_IsSlopeParking.mono _ _ _)
      | (with_reducible exact impl_MostArea.mono _ _ _)
      | (with_reducible exact impl_SlopeArea.mono _ _ _)
      | (with_reducible exact impl_TotalDistance.mono _ _ _)
      | (with_reducible exact impl_UsualOf.mono _ _)
      | (with_reducible exact laws_wSame.mono _ _ _)
      | (with_reducible exact laws_wSum.mono _ _)
      | (with_reducible exact spec_BesideSlope.mono _ _ _)
      | (with_reducible exact spec_DrawMostArea.mono _ _)
      | (with_reducible exact spec_DrawSlopeArea.mono _ _)
      | (with_reducible exact spec_DrawUsualOf.mono _ _)
      | (with_reducible exact spec_MostArea.mono _ _ _)
      | (with_reducible exact spec_SlopeArea.mono _ _ _)
      | (with_reducible exact spec_UsualOf.mono _ _)
      | (with_reducible exact LeO.refl _)
      | (with_reducible exact LeO.none _)
      | (with_reducible refine LeO.ite ?_ ?_)
      | (with_reducible refine LeO.bind ?_ (fun _ => ?_))
      | exact ih0 _ _ _ _ _
      | exact ih1 _ _ _ _ _ _ _ _ _
      | exact ih2 _ _ _ _
      | exact ih3 _ _ _ _ _ _ _
      | exact ih4 _ _ _
      | exact ih5 _ _ _ _ _ _
      | exact impl_BesideSlope.mono _ _ _
      | exact impl_BoundsOf.mono _ _ _
      | exact impl_IsSlopeParking.mono _ _ _
      | exact impl_MostArea.mono _ _ _
      | exact impl_SlopeArea.mono _ _ _
      | exact impl_TotalDistance.mono _ _ _
      | exact impl_UsualOf.mono _ _
      | exact laws_wSame.mono _ _ _
      | exact laws_wSum.mono _ _
      | exact spec_BesideSlope.mono _ _ _
      | exact spec_DrawMostArea.mono _ _
      | exact spec_DrawSlopeArea.mono _ _
      | exact spec_DrawUsualOf.mono _ _
      | exact spec_MostArea.mono _ _ _
      | exact spec_SlopeArea.mono _ _ _
      | exact spec_UsualOf.mono _ _
      | exact LeO.none _
      | refine LeO.ite ?_ ?_
      | refine LeO.bind ?_ (fun _ => ?_)
    · intro y0 y1 y2 y3 y4 y5 y6 y7 y8
      unfold laws_FnSlopeAreas.j1
      repeat' first
      | (with_reducible exact ih0 _ _ _ _ _)
      | (with_reducible exact ih1 _ _ _ _ _ _ _ _ _)
      | (with_reducible exact ih2 _ _ _ _)
      | (with_reducible exact ih3 _ _ _ _ _ _ _)
      | (with_reducible exact ih4 _ _ _)
      | (with_reducible exact ih5 _ _ _ _ _ _)
      | (with_reducible exact impl_BesideSlope.mono _ _ _)
      | (with_reducible exact impl_BoundsOf.mono _ _ _)
      | (with_reducible exact impl_IsSlopeParking.mono _ _ _)
      | (with_reducible exact impl_MostArea.mono _ _ _)
      | (with_reducible exact impl_SlopeArea.mono _ _ _)
      | (with_reducible exact impl_TotalDistance.mono _ _ _)
      | (with_reducible exact impl_UsualOf.mono _ _)
      | (with_reducible exact laws_wSame.mono _ _ _)
      | (with_reducible exact laws_wSum.mono _ _)
      | (with_reducible exact spec_BesideSlope.mono _ _ _)
      | (with_reducible exact spec_DrawMostArea.mono _ _)
      | (with_reducible exact spec_DrawSlopeArea.mono _ _)
      | (with_reducible exact spec_DrawUsualOf.mono _ _)
      | (with_reducible exact spec_MostArea.mono _ _ _)
      | (with_reducible exact spec_SlopeArea.mono _ _ _)
      | (with_reducible exact spec_UsualOf.mono _ _)
      | (with_reducible exact LeO.refl _)
      | (with_reducible exact LeO.none _)
      | (with_reducible refine LeO.ite ?_ ?_)
      | (with_reducible refine LeO.bind ?_ (fun _ => ?_))
      | exact ih0 _ _ _ _ _
      | exact ih1 _ _ _ _ _ _ _ _ _
      | exact ih2 _ _ _ _
      | exact ih3 _ _ _ _ _ _ _
      | exact ih4 _ _ _
      | exact ih5 _ _ _ _ _ _
      | exact impl_BesideSlope.mono _ _ _
      | exact impl_BoundsOf.mono _ _ _
      | exact impl_IsSlopeParking.mono _ _ _
      | exact impl_MostArea.mono _ _ _
      | exact impl_SlopeArea.mono _ _ _
      | exact impl_TotalDistance.mono _ _ _
      | exact impl_UsualOf.mono _ _
      | exact laws_wSame.mono _ _ _
      | exact laws_wSum.mono _ _
      | exact spec_BesideSlope.mono _ _ _
      | exact spec_DrawMostArea.mono _ _
      | exact spec_DrawSlopeArea.mono _ _
      | exact spec_DrawUsualOf.mono _ _
      | exact spec_MostArea.mono _ _ _
      | exact spec_SlopeArea.mono _ _ _
      | exact spec_UsualOf.mono _ _
      | exact LeO.none _
      | refine LeO.ite ?_ ?_
      | refine LeO.bind ?_ (fun _ => ?_)
    · intro y0 y1 y2 y3
      unfold laws_FnSlopeAreas.j2
      repeat' first
      | (with_reducible exact ih0 _ _ _ _ _)
      | (with_reducible exact ih1 _ _ _ _ _ _ _ _ _)
      | (with_reducible exact ih2 _ _ _ _)
      | (with_reducible exact ih3 _ _ _ _ _ _ _)
      | (with_reducible exact ih4 _ _ _)
      | (with_reducible exact ih5 _ _ _ _ _ _)
      | (with_reducible exact impl_BesideSlope.mono _ _ _)
      | (with_reducible exact impl_BoundsOf.mono _ _ _)
      | (with_reducible exact impl_IsSlopeParking.mono _ _ _)
      | (with_reducible exact impl_MostArea.mono _ _ _)
      | (with_reducible exact impl_SlopeArea.mono _ _ _)
      | (with_reducible exact impl_TotalDistance.mono _ _ _)
      | (with_reducible exact impl_UsualOf.mono _ _)
      | (with_reducible exact laws_wSame.mono _ _ _)
      | (with_reducible exact laws_wSum.mono _ _)
      | (with_reducible exact spec_BesideSlope.mono _ _ _)
      | (with_reducible exact spec_DrawMostArea.mono _ _)
      | (with_reducible exact spec_DrawSlopeArea.mono _ _)
      | (with_reducible exact spec_DrawUsualOf.mono _ _)
      | (with_reducible exact spec_MostArea.mono _ _ _)
      | (with_reducible exact spec_SlopeArea.mono _ _ _)
      | (with_reducible exact spec_UsualOf.mono _ _)
      | (with_reducible exact LeO.refl _)
      | (with_reducible exact LeO.none _)
      | (with_reducible refine LeO.ite ?_ ?_)
      | (with_reducible refine LeO.bind ?_ (fun _ => ?_))
      | exact ih0 _ _ _ _ _
      | exact ih1 _ _ _ _ _ _ _ _ _
      | exact ih2 _ _ _ _
      | exact ih3 _ _ _ _ _ _ _
      | exact ih4 _ _ _
      | exact ih5 _ _ _ _ _ _
      | exact impl_BesideSlope.mono _ _ _
      | exact impl_BoundsOf.mono _ _ _
      | exact impl_IsSlopeParking.mono _ _ _
      | exact impl_MostArea.mono _ _ _
      | exact impl_SlopeArea.mono _ _ _
      | exact impl_TotalDistance.mono _ _ _
      | exact impl_UsualOf.mono _ _
      | exact laws_wSame.mono _ _ _
      | exact laws_wSum.mono _ _
      | exact spec_BesideSlope.mono _ _ _
      | exact spec_DrawMostArea.mono _ _
      | exact spec_DrawSlopeArea.mono _ _
      | exact spec_DrawUsualOf.mono _ _
      | exact spec_MostArea.mono _ _ _
      | exact spec_SlopeArea.mono _ _ _
      | exact spec_UsualOf.mono _ _
      | exact LeO.none _
      | refine LeO.ite ?_ ?_
      | refine LeO.bind ?_ (fun _ => ?_)
    · intro y0 y1 y2 y3 y4 y5 y6
      unfold laws_FnSlopeAreas.j3
      repeat' first
      | (with_reducible exact ih0 _ _ _ _ _)
      | (with_reducible exact ih1 _ _ _ _ _ _ _ _ _)
      | (with_reducible exact ih2 _ _ _ _)
      | (with_reducible exact ih3 _ _ _ _ _ _ _)
      | (with_reducible exact ih4 _ _ _)
      | (with_reducible exact ih5 _ _ _ _ _ _)
      | (with_reducible exact impl_BesideSlope.mono _ _ _)
      | (with_reducible exact impl_BoundsOf.mono _ _ _)
      | (with_reducible exact impl_IsSlopeParking.mono _ _ _)
      | (with_reducible exact impl_MostArea.mono _ _ _)
      | (with_reducible exact impl_SlopeArea.mono _ _ _)
      | (with_reducible exact impl_TotalDistance.mono _ _ _)
      | (with_reducible exact impl_UsualOf.mono _ _)
      | (with_reducible exact laws_wSame.mono _ _ _)
      | (with_reducible exact laws_wSum.mono _ _)
      | (with_reducible exact spec_BesideSlope.mono _ _ _)
      | (with_reducible exact spec_DrawMostArea.mono _ _)
      | (with_reducible exact spec_DrawSlopeArea.mono _ _)
      | (with_reducible exact spec_DrawUsualOf.mono _ _)
      | (with_reducible exact spec_MostArea.mono _ _ _)
      | (with_reducible exact spec_SlopeArea.mono _ _ _)
      | (with_reducible exact spec_UsualOf.mono _ _)
      | (with_reducible exact LeO.refl _)
      | (with_reducible exact LeO.none _)
      | (with_reducible refine LeO.ite ?_ ?_)
      | (with_reducible refine LeO.bind ?_ (fun _ => ?_))
      | exact ih0 _ _ _ _ _
      | exact ih1 _ _ _ _ _ _ _ _ _
      | exact ih2 _ _ _ _
      | exact ih3 _ _ _ _ _ _ _
      | exact ih4 _ _ _
      | exact ih5 _ _ _ _ _ _
      | exact impl_BesideSlope.mono _ _ _
      | exact impl_BoundsOf.mono _ _ _
      | exact impl_IsSlopeParking.mono _ _ _
      | exact impl_MostArea.mono _ _ _
      | exact impl_SlopeArea.mono _ _ _
      | exact impl_TotalDistance.mono _ _ _
      | exact impl_UsualOf.mono _ _
      | exact laws_wSame.mono _ _ _
      | exact laws_wSum.mono _ _
      | exact spec_BesideSlope.mono _ _ _
      | exact spec_DrawMostArea.mono _ _
      | exact spec_DrawSlopeArea.mono _ _
      | exact spec_DrawUsualOf.mono _ _
      | exact spec_MostArea.mono _ _ _
      | exact spec_SlopeArea.mono _ _ _
      | exact spec_UsualOf.mono _ _
      | exact LeO.none _
      | refine LeO.ite ?_ ?_
      | refine LeO.bind ?_ (fun _ => ?_)
    · intro y0 y1 y2
      unfold laws_FnSlopeAreas.j4
      repeat' first
      | (with_reducible exact ih0 _ _ _ _ _)
      | (with_reducible exact ih1 _ _ _ _ _ _ _ _ _)
      | (with_reducible exact ih2 _ _ _ _)
      | (with_reducible exact ih3 _ _ _ _ _ _ _)
      | (with_reducible exact ih4 _ _ _)
      | (with_reducible exact ih5 _ _ _ _ _ _)
      | (with_reducible exact impl_BesideSlope.mono _ _ _)
      | (with_reducible exact impl_BoundsOf.mono _ _ _)
      | (with_reducible exact impl_IsSlopeParking.mono _ _ _)
      | (with_reducible exact impl_MostArea.mono _ _ _)
      | (with_reducible exact impl_SlopeArea.mono _ _ _)
      | (with_reducible exact impl_TotalDistance.mono _ _ _)
      | (with_reducible exact impl_UsualOf.mono _ _)
      | (with_reducible exact laws_wSame.mono _ _ _)
      | (with_reducible exact laws_wSum.mono _ _)
      | (with_reducible exact spec_BesideSlope.mono _ _ _)
      | (with_reducible exact spec_DrawMostArea.mono _ _)
      | (with_reducible exact spec_DrawSlopeArea.mono _ _)
      | (with_reducible exact spec_DrawUsualOf.mono _ _)
      | (with_reducible exact spec_MostArea.mono _ _ _)
      | (with_reducible exact spec_SlopeArea.mono _ _ _)
      | (with_reducible exact spec_UsualOf.mono _ _)
      | (with_reducible exact LeO.refl _)
      | (with_reducible exact LeO.none _)
      | (with_reducible refine LeO.ite ?_ ?_)
      | (with_reducible refine LeO.bind ?_ (fun _ => ?_))
      | exact ih0 _ _ _ _ _
      | exact ih1 _ _ _ _ _ _ _ _ _
      | exact ih2 _ _ _ _
      | exact ih3 _ _ _ _ _ _ _
      | exact ih4 _ _ _
      | exact ih5 _ _ _ _ _ _
      | exact impl_BesideSlope.mono _ _ _
      | exact impl_BoundsOf.mono _ _ _
      | exact impl_IsSlopeParking.mono _ _ _
      | exact impl_MostArea.mono _ _ _
      | exact impl_SlopeArea.mono _ _ _
      | exact impl_TotalDistance.mono _ _ _
      | exact impl_UsualOf.mono _ _
      | exact laws_wSame.mono _ _ _
      | exact laws_wSum.mono _ _
      | exact spec_BesideSlope.mono _ _ _
      | exact spec_DrawMostArea.mono _ _
      | exact spec_DrawSlopeArea.mono _ _
      | exact spec_DrawUsualOf.mono _ _
      | exact spec_MostArea.mono _ _ _
      | exact spec_SlopeArea.mono _ _ _
      | exact spec_UsualOf.mono _ _
      | exact LeO.none _
      | refine LeO.ite ?_ ?_
      | refine LeO.bind ?_ (fun _ => ?_)
    · intro y0 y1 y2 y3 y4 y5
      unfold laws_FnSlopeAreas.j5
      repeat' first
      | (with_reducible exact ih0 _ _ _ _ _)
      | (with_reducible exact ih1 _ _ _ _ _ _ _ _ _)
      | (with_reducible exact ih2 _ _ _ _)
      | (with_reducible exact ih3 _ _ _ _ _ _ _)
      | (with_reducible exact ih4 _ _ _)
      | (with_reducible exact ih5 _ _ _ _ _ _)
      | (with_reducible exact impl_BesideSlope.mono _ _ _)
      | (with_reducible exact impl_BoundsOf.mono _ _ _)
      | (with_reducible exact impl_IsSlopeParking.mono _ _ _)
      | (with_reducible exact impl_MostArea.mono _ _ _)
      | (with_reducible exact impl_SlopeArea.mono _ _ _)
      | (with_reducible exact impl_TotalDistance.mono _ _ _)
      | (with_reducible exact impl_UsualOf.mono _ _)
      | (with_reducible exact laws_wSame.mono _ _ _)
      | (with_reducible exact laws_wSum.mono _ _)
      | (with_reducible exact spec_BesideSlope.mono _ _ _)
      | (with_reducible exact spec_DrawMostArea.mono _ _)
      | (with_reducible exact spec_DrawSlopeArea.mono _ _)
      | (with_reducible exact spec_DrawUsualOf.mono _ _)
      | (with_reducible exact spec_MostArea.mono _ _ _)
      | (with_reducible exact spec_SlopeArea.mono _ _ _)
      | (with_reducible exact spec_UsualOf.mono _ _)
      | (with_reducible exact LeO.refl _)
      | (with_reducible exact LeO.none _)
      | (with_reducible refine LeO.ite ?_ ?_)
      | (with_reducible refine LeO.bind ?_ (fun _ => ?_))
      | exact ih0 _ _ _ _ _
      | exact ih1 _ _ _ _ _ _ _ _ _
      | exact ih2 _ _ _ _
      | exact ih3 _ _ _ _ _ _ _
      | exact ih4 _ _ _
      | exact ih5 _ _ _ _ _ _
      | exact impl_BesideSlope.mono _ _ _
      | exact impl_BoundsOf.mono _ _ _
      | exact impl_IsSlopeParking.mono _ _ _
      | exact impl_MostArea.mono _ _ _
      | exact impl_SlopeArea.mono _ _ _
      | exact impl_TotalDistance.mono _ _ _
      | exact impl_UsualOf.mono _ _
      | exact laws_wSame.mono _ _ _
      | exact laws_wSum.mono _ _
      | exact spec_BesideSlope.mono _ _ _
      | exact spec_DrawMostArea.mono _ _
      | exact spec_DrawSlopeArea.mono _ _
      | exact spec_DrawUsualOf.mono _ _
      | exact spec_MostArea.mono _ _ _
      | exact spec_SlopeArea.mono _ _ _
      | exact spec_UsualOf.mono _ _
      | exact LeO.none _
      | refine LeO.ite ?_ ?_
      | refine LeO.bind ?_ (fun _ => ?_)
theorem laws_FnSlopeAreas.mono : ∀ a0 a1 k, LeO (laws_FnSlopeAreas.f k a0 a1) (laws_FnSlopeAreas.f (k + 1) a0 a1) := by
  intro a0 a1 k
  obtain ⟨ih0, ih1, ih2, ih3, ih4, ih5⟩ := laws_FnSlopeAreas.mono_l k
  unfold laws_FnSlopeAreas.f
  repeat' first
      | (with_reducible exact ih0 _ _ _ _ _)
      | (with_reducible exact ih1 _ _ _ _ _ _ _ _ _)
      | (with_reducible exact ih2 _ _ _ _)
      | (with_reducible exact ih3 _ _ _ _ _ _ _)
      | (with_reducible exact ih4 _ _ _)
      | (with_reducible exact ih5 _ _ _ _ _ _)
      | (with_reducible exact impl_BesideSlope.mono _ _ _)
      | (with_reducible exact impl_BoundsOf.mono _ _ _)
      | (with_reducible exact impl_IsSlopeParking.mono _ _ _)
      | (with_reducible exact impl_MostArea.mono _ _ _)
      | (with_reducible exact impl_SlopeArea.mono _ _ _)
      | (with_reducible exact impl_TotalDistance.mono _ _ _)
      | (with_reducible exact impl_UsualOf.mono _ _)
      | (with_reducible exact laws_wSame.mono _ _ _)
      | (with_reducible exact laws_wSum.mono _ _)
      | (with_reducible exact spec_BesideSlope.mono _ _ _)
      | (with_reducible exact spec_DrawMostArea.mono _ _)
      | (with_reducible exact spec_DrawSlopeArea.mono _ _)
      | (with_reducible exact spec_DrawUsualOf.mono _ _)
      | (with_reducible exact spec_MostArea.mono _ _ _)
      | (with_reducible exact spec_SlopeArea.mono _ _ _)
      | (with_reducible exact spec_UsualOf.mono _ _)
      | (with_reducible exact LeO.refl _)
      | (with_reducible exact LeO.none _)
      | (with_reducible refine LeO.ite ?_ ?_)
      | (with_reducible refine LeO.bind ?_ (fun _ => ?_))
      | exact ih0 _ _ _ _ _
      | exact ih1 _ _ _ _ _ _ _ _ _
      | exact ih2 _ _ _ _
      | exact ih3 _ _ _ _ _ _ _
      | exact ih4 _ _ _
      | exact ih5 _ _ _ _ _ _
      | exact impl_BesideSlope.mono _ _ _
      | exact impl_BoundsOf.mono _ _ _
      | exact impl_IsSlopeParking.mono _ _ _
      | exact impl_MostArea.mono _ _ _
      | exact impl_SlopeArea.mono _ _ _
      | exact impl_TotalDistance.mono _ _ _
      | exact impl_UsualOf.mono _ _
      | exact laws_wSame.mono _ _ _
      | exact laws_wSum.mono _ _
      | exact spec_BesideSlope.mono _ _ _
      | exact spec_DrawMostArea.mono _ _
      | exact spec_DrawSlopeArea.mono _ _
      | exact spec_DrawUsualOf.mono _ _
      | exact spec_MostArea.mono _ _ _
      | exact spec_SlopeArea.mono _ _ _
      | exact spec_UsualOf.mono _ _
      | exact LeO.none _
      | refine LeO.ite ?_ ?_
      | refine LeO.bind ?_ (fun _ => ?_)
set_option maxHeartbeats 8000000 in
set_option maxRecDepth 100000 in
theorem laws_FnSlopeAreas.calls (k : Nat) (A0 : Option Addr) (c0 : Nat) (l0 : List Int) (A1 : Option Addr) (c1 : Nat) (l1 : List Int) (r : Bool) (w : World) (hr0 : Kd.C (Kd.int .u8) w A0 l0.length l0) (hc0 : l0.length ≤ c0) (hr1 : Kd.C (Kd.int .u8) w A1 l1.length l1) (hc1 : l1.length ≤ c1) (h : laws_FnSlopeAreas.f k l0 l1 = some r) :
    Calls Try.prog 3 #[.slice A0 l0.length c0, .slice A1 l1.length c1] w fun e w' => e = .returned (.bool r) ∧ Below w.heap.size w w' := by
  have HR0 := Aside0.mk hr0
  have HC0 := Aside0.mk hc0
  clear hr0 hc0
  have HR1 := Aside0.mk hr1
  have HC1 := Aside0.mk hc1
  clear hr1 hc1
  have HB := Aside0.mk (Below.refl w.heap.size w)
  have H : ((laws_big.f l0 l1).bind fun t438 => (if t438 = true then (some true) else ((spec_DrawSlopeArea.f k l0).bind fun bt439 => ((impl_SlopeArea.f k bt439.1 bt439.2).bind fun bt443 => ((spec_SlopeArea.f k bt439.1 bt439.2).bind fun bt445 => (if (bt443.2 != bt445.2) = true then (laws_FnSlopeAreas.j0 k l1 bt439.1 bt439.2 bt443.1 true) else (laws_FnSlopeAreas.j0 k l1 bt439.1 bt439.2 bt443.1 (bt443.1 != bt445.1)))))))) = some r := h
  clear h
  replace H := Option.bind_eq_some_iff.mp H
  obtain ⟨t438, A30, H⟩ := H
  replace H : (if t438 = true then (some true) else ((spec_DrawSlopeArea.f k l0).bind fun bt439 => ((impl_SlopeArea.f k bt439.1 bt439.2).bind fun bt443 => ((spec_SlopeArea.f k bt439.1 bt439.2).bind fun bt445 => (if (bt443.2 != bt445.2) = true then (laws_FnSlopeAreas.j0 k l1 bt439.1 bt439.2 bt443.1 true) else (laws_FnSlopeAreas.j0 k l1 bt439.1 bt439.2 bt443.1 (bt443.1 != bt445.1))))))) = some r := H
  have A3 := Aside0.mk A30
  clear A30
  by_cases c4 : t438 = true
  · subst c4
    have H1 : (some true) = some r := by rw [if_pos rfl] at H; exact H
    clear H
    have H := H1
    clear H1
    as_aux_lemma =>
      obtain rfl := Option.some.inj H
      go_enter Try.func3, Try.ntmps3
      go_wp2_with (first | ((with_reducible refine gate_callee (f := 4) rfl ?_); refine goesL_ (some 44) rfl rfl Try.func4 (by kernel_rfl) rfl #[.slice A0 l0.length c0, .slice A1 l1.length c1] rfl (by (try simp only [List.map_toArray, List.map_cons, List.map_nil]); first | done | rfl | (simp only [List.length_drop, List.length_take]; rfl)) ?_; (with_reducible refine (laws_big.calls _ _ l0 _ _ l1 true _ ?side1 ?side2 ?side3 ?side4 A3.out).mono ?_); (case side1 => repeat (first | exact HR0.out | (with_reducible refine Kd.C_alloc ?_ _) | (with_reducible refine Kd.C_drewN ?_ _) | (with_reducible refine Kd.C_drew ?_))); (case side2 => exact HC0.out); (case side3 => repeat (first | exact HR1.out | (with_reducible refine Kd.C_alloc ?_ _) | (with_reducible refine Kd.C_drewN ?_ _) | (with_reducible refine Kd.C_drew ?_))); (case side4 => exact HC1.out); rintro e w' ⟨rfl, ⟨nd, rfl⟩⟩; refine ⟨_, rfl, ?_⟩))
      go_ret
      exact ⟨by first | rfl | (simp [errW_none, errW_some] <;> rfl) | (simp [*, errW_none, errW_some] <;> rfl), by repeat (first | (with_reducible first | exact HB.out | apply below_alloc | apply pw_below_drewN | apply below_drew1) | exact HB.out)⟩
  · replace c4 := Bool.eq_false_iff.mpr c4
    subst c4
    have H1 : ((spec_DrawSlopeArea.f k l0).bind fun bt439 => ((impl_SlopeArea.f k bt439.1 bt439.2).bind fun bt443 => ((spec_SlopeArea.f k bt439.1 bt439.2).bind fun bt445 => (if (bt443.2 != bt445.2) = true then (laws_FnSlopeAreas.j0 k l1 bt439.1 bt439.2 bt443.1 true) else (laws_FnSlopeAreas.j0 k l1 bt439.1 bt439.2 bt443.1 (bt443.1 != bt445.1)))))) = some r := by rw [if_neg (show ¬ (false = true) by decide)] at H; exact H
    clear H
    have H := H1
    clear H1
    replace H := Option.bind_eq_some_iff.mp H
    obtain ⟨⟨t439, t440⟩, A50, H⟩ := H
    replace H : ((impl_SlopeArea.f k t439 t440).bind fun bt443 => ((spec_SlopeArea.f k t439 t440).bind fun bt445 => (if (bt443.2 != bt445.2) = true then (laws_FnSlopeAreas.j0 k l1 t439 t440 bt443.1 true) else (laws_FnSlopeAreas.j0 k l1 t439 t440 bt443.1 (bt443.1 != bt445.1))))) = some r := H
    have A5 := Aside0.mk A50
    clear A50
    replace H := Option.bind_eq_some_iff.mp H
    obtain ⟨⟨t443, t444⟩, A60, H⟩ := H
    replace H : ((spec_SlopeArea.f k t439 t440).bind fun bt445 => (if (t444 != bt445.2) = true then (laws_FnSlopeAreas.j0 k l1 t439 t440 t443 true) else (laws_FnSlopeAreas.j0 k l1 t439 t440 t443 (t443 != bt445.1)))) = some r := H
    have A6 := Aside0.mk A60
    clear A60
    replace H := Option.bind_eq_some_iff.mp H
    obtain ⟨⟨t445, t446⟩, A70, H⟩ := H
    replace H : (if (t444 != t446) = true then (laws_FnSlopeAreas.j0 k l1 t439 t440 t443 true) else (laws_FnSlopeAreas.j0 k l1 t439 t440 t443 (t443 != t445))) = some r := H
    have A7 := Aside0.mk A70
    clear A70
    have HC8 := Aside0.mk H
    clear H
    go_enter Try.func3, Try.ntmps3
    go_upto_region 6 with (first | ((with_reducible refine gate_callee (f := 4) rfl ?_); refine goesL_ (some 44) rfl rfl Try.func4 (by kernel_rfl) rfl #[.slice A0 l0.length c0, .slice A1 l1.length c1] rfl (by (try simp only [List.map_toArray, List.map_cons, List.map_nil]); first | done | rfl | (simp only [List.length_drop, List.length_take]; rfl)) ?_; (with_reducible refine (laws_big.calls _ _ l0 _ _ l1 false _ ?side1 ?side2 ?side3 ?side4 A3.out).mono ?_); (case side1 => repeat (first | exact HR0.out | (with_reducible refine Kd.C_alloc ?_ _) | (with_reducible refine Kd.C_drewN ?_ _) | (with_reducible refine Kd.C_drew ?_))); (case side2 => exact HC0.out); (case side3 => repeat (first | exact HR1.out | (with_reducible refine Kd.C_alloc ?_ _) | (with_reducible refine Kd.C_drewN ?_ _) | (with_reducible refine Kd.C_drew ?_))); (case side4 => exact HC1.out); rintro e w' ⟨rfl, ⟨nd, rfl⟩⟩; refine ⟨_, rfl, ?_⟩) | ((with_reducible refine gate_callee (f := 5) rfl ?_); refine goesL_ (some 47) rfl rfl Try.func5 (by kernel_rfl) rfl #[.slice A0 l0.length c0] rfl (by (try simp only [List.map_toArray, List.map_cons, List.map_nil]); first | done | rfl | (simp only [List.length_drop, List.length_take]; rfl)) ?_; (with_reducible refine (spec_DrawSlopeArea.calls k _ _ l0 t439 t440 _ ?side1 ?side2 A5.out).mono ?_); (case side1 => repeat (first | exact HR0.out | (with_reducible refine Kd.C_alloc ?_ _) | (with_reducible refine Kd.C_drewN ?_ _) | (with_reducible refine Kd.C_drew ?_))); (case side2 => exact HC0.out); rintro e w9 ⟨v441, rfl, ho0, hb⟩; refine ⟨_, rfl, ?_⟩; have n0_ := Aside0.mk (Kd.R_lower ho0 (below_size (by repeat (first | (with_reducible first | exact HB.out | apply below_alloc | apply pw_below_drewN | apply below_drew1) | exact HB.out)))); have n1_ := Aside0.mk (below_step (by repeat (first | (with_reducible first | exact HB.out | apply below_alloc | apply pw_below_drewN | apply below_drew1) | exact HB.out)) hb); clear HB; have HO442 := n0_; have HB := n1_; clear n0_ n1_; (try clear hb); (try clear hb2); (try clear hk); (try clear hi); (try clear ho0); obtain ⟨Ao10, co10, eo10⟩ := Kd.R_slice HO442.out; subst eo10) | ((with_reducible refine gate_callee (f := 6) rfl ?_); refine goesL_ (some 53) rfl rfl Try.func6 (by kernel_rfl) rfl #[.slice Ao10 t439.length co10, .int .i64 t440] rfl (by (try simp only [List.map_toArray, List.map_cons, List.map_nil]); first | done | rfl | (simp only [List.length_drop, List.length_take]; rfl)) ?_; (with_reducible refine (impl_SlopeArea.calls k _ _ t439 t440 t443 t444 _ ?side1 ?side2 A6.out).mono ?_); (case side1 => repeat (first | exact (Kd.R_reads' HO442.out).2.2 | (with_reducible refine Kd.C_alloc ?_ _) | (with_reducible refine Kd.C_drewN ?_ _) | (with_reducible refine Kd.C_drew ?_))); (case side2 => exact (Kd.R_reads' HO442.out).2.1); rintro e w11 ⟨rfl, hb⟩; refine ⟨_, rfl, ?_⟩; have n0_ := Aside0.mk (Kd.R_below (by (with_reducible repeat (first | apply Kd.R_alloc | apply Kd.R_drewN | apply Kd.R_drew)); exact HO442.out) hb); have n1_ := Aside0.mk (below_step (by repeat (first | (with_reducible first | exact HB.out | apply below_alloc | apply pw_below_drewN | apply below_drew1) | exact HB.out)) hb); clear HO442; clear HB; have HO442 := n0_; have HB := n1_; clear n0_ n1_; (try clear hb); (try clear hb2); (try clear hk); (try clear hi)) | ((with_reducible refine gate_callee (f := 7) rfl ?_); refine goesL_ (some 59) rfl rfl Try.func7 (by kernel_rfl) rfl #[.slice Ao10 t439.length co10, .int .i64 t440] rfl (by (try simp only [List.map_toArray, List.map_cons, List.map_nil]); first | done | rfl | (simp only [List.length_drop, List.length_take]; rfl)) ?_; (with_reducible refine (spec_SlopeArea.calls k _ _ t439 t440 t445 t446 _ ?side1 ?side2 A7.out).mono ?_); (case side1 => repeat (first | exact (Kd.R_reads' HO442.out).2.2 | (with_reducible refine Kd.C_alloc ?_ _) | (with_reducible refine Kd.C_drewN ?_ _) | (with_reducible refine Kd.C_drew ?_))); (case side2 => exact (Kd.R_reads' HO442.out).2.1); rintro e w12 ⟨rfl, hb⟩; refine ⟨_, rfl, ?_⟩; have n0_ := Aside0.mk (Kd.R_below (by (with_reducible repeat (first | apply Kd.R_alloc | apply Kd.R_drewN | apply Kd.R_drew)); exact HO442.out) hb); have n1_ := Aside0.mk (below_step (by repeat (first | (with_reducible first | exact HB.out | apply below_alloc | apply pw_below_drewN | apply below_drew1) | exact HB.out)) hb); clear HO442; clear HB; have HO442 := n0_; have HB := n1_; clear n0_ n1_; (try clear hb); (try clear hb2); (try clear hk); (try clear hi)))
    (try simp only [Act.put, List.setIfInBounds_toArray, List.set_cons_zero, List.set_cons_succ])
    go_cut [69] (fun v69 wc => ∃ (kq : Nat) (x69_7 : Bool), v69 = .bool x69_7 ∧ Aside0 (laws_FnSlopeAreas.j0 kq l1 t439 t440 t443 x69_7 = some r) ∧ Aside0 (kq ≤ k) ∧ Aside0 (Kd.R (Kd.int .i64) 3 wc w.heap.size (fun _ => True) (.slice Ao10 t439.length co10) t439) ∧ Aside0 (Below w.heap.size w wc))
    case first =>
      have H := HC8.out
      clear HC8
      by_cases c13 : (t444 != t446) = true
      · rw [if_pos c13] at H
        have c13b0 : (t444 != t446) = true := c13
        (try (have c13b1 : decide (t444 = t446) = false := by simpa using c13))
        (try (have c13b2 : (t444 == t446) = false := by simpa using c13))
        (try (have c13b3 : ¬ (t444 = t446) := by simpa using c13))
        clear c13
        (first | rw [c13b0] | (simp only [i64_w, i32_w]; rw [c13b0]) | skip)
        as_aux_lemma =>
          have H' := Aside0.mk H
          clear H
          go_wp2
          go_meet
          case rel => exact ⟨_, (true), (by first | rfl | (simp; done) | (simp [*]; done)), H', ⟨by first | omega | exact Nat.le_refl _⟩, ⟨by (with_reducible repeat (first | apply Kd.R_alloc | apply Kd.R_drewN | apply Kd.R_drew)); exact HO442.out⟩, ⟨by repeat (first | (with_reducible first | exact HB.out | apply below_alloc | apply pw_below_drewN | apply below_drew1) | exact HB.out)⟩⟩
      · rw [if_neg c13] at H
        have c13b0 : (t444 != t446) = false := by simpa using c13
        (try (have c13b1 : decide (t444 = t446) = true := by simpa using c13))
        (try (have c13b2 : (t444 == t446) = true := by simpa using c13))
        clear c13
        (first | rw [c13b0] | (simp only [i64_w, i32_w]; rw [c13b0]) | skip)
        as_aux_lemma =>
          have H' := Aside0.mk H
          clear H
          go_wp2
          go_meet
          case rel => exact ⟨_, ((t443 != t445)), (by first | rfl | (simp; done) | (simp [*]; done)), H', ⟨by first | omega | exact Nat.le_refl _⟩, ⟨by (with_reducible repeat (first | apply Kd.R_alloc | apply Kd.R_drewN | apply Kd.R_drew)); exact HO442.out⟩, ⟨by repeat (first | (with_reducible first | exact HB.out | apply below_alloc | apply pw_below_drewN | apply below_drew1) | exact HB.out)⟩⟩
    case rest =>
      clear HC8
      try clear c1
      try clear p2
      try clear c3
      try clear c4
      try clear c5
      try clear c6
      try clear c7
      try clear c13
      try clear c13b0
      try clear c13b1
      try clear c13b2
      obtain ⟨kq, x69_7, rfl, HA, HJ7, HO_5, HB⟩ := hcut
      cases kq with
      | zero => exact absurd HA.out (by simp [laws_FnSlopeAreas.j0])
      | succ kj7 =>
        have H := HA.out
        clear HA
        simp only [laws_FnSlopeAreas.j0] at H
        by_cases c14 : x69_7 = true
        · subst c14
          have H1 : (some false) = some r := by rw [if_pos rfl] at H; exact H
          clear H
          have H := H1
          clear H1
          as_aux_lemma =>
            obtain rfl := Option.some.inj H
            go_wp2
            go_ret
            exact ⟨by first | rfl | (simp [errW_none, errW_some] <;> rfl) | (simp [*, errW_none, errW_some] <;> rfl), by repeat (first | (with_reducible first | exact HB.out | apply below_alloc | apply pw_below_drewN | apply below_drew1) | exact HB.out)⟩
        · replace c14 := Bool.eq_false_iff.mpr c14
          subst c14
          have H1 : ((spec_DrawMostArea.f kj7 l1).bind fun bt447 => ((impl_MostArea.f kj7 bt447.1 bt447.2).bind fun bt449 => ((spec_MostArea.f kj7 bt447.1 bt447.2).bind fun bt451 => (if (bt449.2 != bt451.2) = true then (laws_FnSlopeAreas.j1 kj7 l1 t439 t440 t443 bt447.1 bt447.2 bt449.1 bt449.2 true) else (laws_FnSlopeAreas.j1 kj7 l1 t439 t440 t443 bt447.1 bt447.2 bt449.1 bt449.2 (bt449.1 != bt451.1)))))) = some r := by rw [if_neg (show ¬ (false = true) by decide)] at H; exact H
          clear H
          have H := H1
          clear H1
          replace H := Option.bind_eq_some_iff.mp H
          obtain ⟨⟨t447, t448⟩, A150, H⟩ := H
          replace H : ((impl_MostArea.f kj7 t447 t448).bind fun bt449 => ((spec_MostArea.f kj7 t447 t448).bind fun bt451 => (if (bt449.2 != bt451.2) = true then (laws_FnSlopeAreas.j1 kj7 l1 t439 t440 t443 t447 t448 bt449.1 bt449.2 true) else (laws_FnSlopeAreas.j1 kj7 l1 t439 t440 t443 t447 t448 bt449.1 bt449.2 (bt449.1 != bt451.1))))) = some r := H
          have A15 := Aside0.mk A150
          clear A150
          replace H := Option.bind_eq_some_iff.mp H
          obtain ⟨⟨t449, t450⟩, A160, H⟩ := H
          replace H : ((spec_MostArea.f kj7 t447 t448).bind fun bt451 => (if (t450 != bt451.2) = true then (laws_FnSlopeAreas.j1 kj7 l1 t439 t440 t443 t447 t448 t449 t450 true) else (laws_FnSlopeAreas.j1 kj7 l1 t439 t440 t443 t447 t448 t449 t450 (t449 != bt451.1)))) = some r := H
          have A16 := Aside0.mk A160
          clear A160
          replace H := Option.bind_eq_some_iff.mp H
          obtain ⟨⟨t451, t452⟩, A170, H⟩ := H
          replace H : (if (t450 != t452) = true then (laws_FnSlopeAreas.j1 kj7 l1 t439 t440 t443 t447 t448 t449 t450 true) else (laws_FnSlopeAreas.j1 kj7 l1 t439 t440 t443 t447 t448 t449 t450 (t449 != t451))) = some r := H
          have A17 := Aside0.mk A170
          clear A170
          have HC18 := Aside0.mk H
          clear H
          go_upto_region 11 with (first | ((with_reducible refine gate_callee (f := 8) rfl ?_); refine goesL_ (some 72) rfl rfl Try.func8 (by kernel_rfl) rfl #[.slice A1 l1.length c1] rfl (by (try simp only [List.map_toArray, List.map_cons, List.map_nil]); first | done | rfl | (simp only [List.length_drop, List.length_take]; rfl)) ?_; (with_reducible refine (spec_DrawMostArea.calls kj7 _ _ l1 t447 t448 _ ?side1 ?side2 A15.out).mono ?_); (case side1 => repeat (first | exact (Kd.C_below HR1.out HB.out) | (with_reducible refine Kd.C_alloc ?_ _) | (with_reducible refine Kd.C_drewN ?_ _) | (with_reducible refine Kd.C_drew ?_))); (case side2 => exact HC1.out); rintro e w19 ⟨rfl, hb⟩; refine ⟨_, rfl, ?_⟩; have n0_ := Aside0.mk (Kd.R_below (by (with_reducible repeat (first | apply Kd.R_alloc | apply Kd.R_drewN | apply Kd.R_drew)); exact HO_5.out) hb); have n1_ := Aside0.mk (below_step (by repeat (first | (with_reducible first | exact HB.out | apply below_alloc | apply pw_below_drewN | apply below_drew1) | exact HB.out)) hb); clear HO_5; clear HB; have HO_5 := n0_; have HB := n1_; clear n0_ n1_; (try clear hb); (try clear hb2); (try clear hk); (try clear hi)) | ((with_reducible refine gate_callee (f := 9) rfl ?_); refine goesL_ (some 78) rfl rfl Try.func9 (by kernel_rfl) rfl #[.int .i64 t447, .int .i64 t448] rfl (by (try simp only [List.map_toArray, List.map_cons, List.map_nil]); first | done | rfl | (simp only [List.length_drop, List.length_take]; rfl)) ?_; (with_reducible refine (impl_MostArea.calls kj7 t447 t448 t449 t450 _ A16.out).mono ?_); rintro e w' ⟨rfl, ⟨nd, rfl⟩⟩; refine ⟨_, rfl, ?_⟩) | ((with_reducible refine gate_callee (f := 10) rfl ?_); refine goesL_ (some 84) rfl rfl Try.func10 (by kernel_rfl) rfl #[.int .i64 t447, .int .i64 t448] rfl (by (try simp only [List.map_toArray, List.map_cons, List.map_nil]); first | done | rfl | (simp only [List.length_drop, List.length_take]; rfl)) ?_; (with_reducible refine (spec_MostArea.calls kj7 t447 t448 t451 t452 _ A17.out).mono ?_); rintro e w' ⟨rfl, ⟨nd, rfl⟩⟩; refine ⟨_, rfl, ?_⟩))
          (try simp only [Act.put, List.setIfInBounds_toArray, List.set_cons_zero, List.set_cons_succ])
          go_cut [94] (fun v94 wc => ∃ (kq : Nat) (x94_17 : Bool), v94 = .bool x94_17 ∧ Aside0 (laws_FnSlopeAreas.j1 kq l1 t439 t440 t443 t447 t448 t449 t450 x94_17 = some r) ∧ Aside0 (kq ≤ kj7) ∧ Aside0 (Kd.R (Kd.int .i64) 3 wc w.heap.size (fun _ => True) (.slice Ao10 t439.length co10) t439) ∧ Aside0 (Below w.heap.size w wc))
          case first =>
            have H := HC18.out
            clear HC18
            by_cases c20 : (t450 != t452) = true
            · rw [if_pos c20] at H
              have c20b0 : (t450 != t452) = true := c20
              (try (have c20b1 : decide (t450 = t452) = false := by simpa using c20))
              (try (have c20b2 : (t450 == t452) = false := by simpa using c20))
              (try (have c20b3 : ¬ (t450 = t452) := by simpa using c20))
              clear c20
              (first | rw [c20b0] | (simp only [i64_w, i32_w]; rw [c20b0]) | skip)
              as_aux_lemma =>
                have H' := Aside0.mk H
                clear H
                go_wp2
                go_meet
                case rel => exact ⟨_, (true), (by first | rfl | (simp; done) | (simp [*]; done)), H', ⟨by have := HJ7.out; first | omega | exact Nat.le_refl _⟩, ⟨by (with_reducible repeat (first | apply Kd.R_alloc | apply Kd.R_drewN | apply Kd.R_drew)); exact HO_5.out⟩, ⟨by repeat (first | (with_reducible first | exact HB.out | apply below_alloc | apply pw_below_drewN | apply below_drew1) | exact HB.out)⟩⟩
            · rw [if_neg c20] at H
              have c20b0 : (t450 != t452) = false := by simpa using c20
              (try (have c20b1 : decide (t450 = t452) = true := by simpa using c20))
              (try (have c20b2 : (t450 == t452) = true := by simpa using c20))
              clear c20
              (first | rw [c20b0] | (simp only [i64_w, i32_w]; rw [c20b0]) | skip)
              as_aux_lemma =>
                have H' := Aside0.mk H
                clear H
                go_wp2
                go_meet
                case rel => exact ⟨_, ((t449 != t451)), (by first | rfl | (simp; done) | (simp [*]; done)), H', ⟨by have := HJ7.out; first | omega | exact Nat.le_refl _⟩, ⟨by (with_reducible repeat (first | apply Kd.R_alloc | apply Kd.R_drewN | apply Kd.R_drew)); exact HO_5.out⟩, ⟨by repeat (first | (with_reducible first | exact HB.out | apply below_alloc | apply pw_below_drewN | apply below_drew1) | exact HB.out)⟩⟩
          case rest =>
            clear HC18
            try clear c1
            try clear c2
            try clear p2
            try clear c3
            try clear c4
            try clear c5
            try clear c6
            try clear c7
            try clear c8
            try clear c9
            try clear c10
            try clear c13
            try clear c13b0
            try clear c13b1
            try clear c13b2
            try clear c14
            try clear c20
            try clear c20b0
            try clear c20b1
            try clear c20b2
            try clear p2
            obtain ⟨kq, x94_17, rfl, HA, HJ17, HO_5, HB⟩ := hcut
            cases kq with
            | zero => exact absurd HA.out (by simp [laws_FnSlopeAreas.j1])
            | succ kj17 =>
              have H := HA.out
              clear HA
              simp only [laws_FnSlopeAreas.j1] at H
              by_cases c21 : x94_17 = true
              · subst c21
                have H1 : (some false) = some r := by rw [if_pos rfl] at H; exact H
                clear H
                have H := H1
                clear H1
                as_aux_lemma =>
                  obtain rfl := Option.some.inj H
                  go_wp2
                  go_ret
                  exact ⟨by first | rfl | (simp [errW_none, errW_some] <;> rfl) | (simp [*, errW_none, errW_some] <;> rfl), by repeat (first | (with_reducible first | exact HB.out | apply below_alloc | apply pw_below_drewN | apply below_drew1) | exact HB.out)⟩
              · replace c21 := Bool.eq_false_iff.mpr c21
                subst c21
                have H1 : (if t450 = true then (if 0 ≤ t447 then (if (t447 : Int).toNat ≤ 35184372088832 then ((impl_SlopeArea.f kj17 (List.replicate (t447 : Int).toNat 0) t448).bind fun bt456 => ((impl_BoundsOf.f kj17 t447 t448).bind fun bt458 => ((impl_SlopeArea.f kj17 bt458.1 t448).bind fun bt462 => (if bt456.2 = true then (if bt458.2 = true then (if bt462.2 = true then (if bt456.1 = t449 then (if bt462.1 = 0 then ((laws_wSum.f kj17 bt458.1).bind fun t464 => (if t464 = t449 then (laws_FnSlopeAreas.j2 kj17 l1 t439 t440 t443) else (some false))) else (some false)) else (some false)) else (some false)) else (some false)) else (some false))))) else (none)) else (none)) else (laws_FnSlopeAreas.j2 kj17 l1 t439 t440 t443)) = some r := by rw [if_neg (show ¬ (false = true) by decide)] at H; exact H
                clear H
                have H := H1
                clear H1
                have HC22 := Aside0.mk H
                clear H
                go_upto_if 95 with (fail)
                go_cut [] (fun wc => ∃ (kq : Nat), Aside0 (laws_FnSlopeAreas.j2 kq l1 t439 t440 t443 = some r) ∧ Aside0 (kq ≤ kj17) ∧ Aside0 (Kd.R (Kd.int .i64) 3 wc w.heap.size (fun _ => True) (.slice Ao10 t439.length co10) t439) ∧ Aside0 (Below w.heap.size w wc))
                case first =>
                  have H := HC22.out
                  clear HC22
                  by_cases c23 : t450 = true
                  · subst c23
                    have H1 : (if 0 ≤ t447 then (if (t447 : Int).toNat ≤ 35184372088832 then ((impl_SlopeArea.f kj17 (List.replicate (t447 : Int).toNat 0) t448).bind fun bt456 => ((impl_BoundsOf.f kj17 t447 t448).bind fun bt458 => ((impl_SlopeArea.f kj17 bt458.1 t448).bind fun bt462 => (if bt456.2 = true then (if bt458.2 = true then (if bt462.2 = true then (if bt456.1 = t449 then (if bt462.1 = 0 then ((laws_wSum.f kj17 bt458.1).bind fun t464 => (if t464 = t449 then (laws_FnSlopeAreas.j2 kj17 l1 t439 t440 t443) else (some false))) else (some false)) else (some false)) else (some false)) else (some false)) else (some false))))) else (none)) else (none)) = some r := by rw [if_pos rfl] at H; exact H
                    clear H
                    have H := H1
                    clear H1
                    by_cases c24 : 0 ≤ t447
                    · rw [if_pos c24] at H
                      have c24b0 := eq_true c24
                      have c24b1 : decide (0 ≤ t447) = true := decide_eq_true c24
                      clear c24
                      by_cases c25 : (t447 : Int).toNat ≤ 35184372088832
                      · rw [if_pos c25] at H
                        have c25b0 := eq_true c25
                        have c25b1 : decide ((t447 : Int).toNat ≤ 35184372088832) = true := decide_eq_true c25
                        clear c25
                        obtain ⟨y453, hy453⟩ : ∃ y_ : List Int, y_ = (List.replicate (t447 : Int).toNat 0) := ⟨_, rfl⟩
                        replace H : ((impl_SlopeArea.f kj17 y453 t448).bind fun bt456 => ((impl_BoundsOf.f kj17 t447 t448).bind fun bt458 => ((impl_SlopeArea.f kj17 bt458.1 t448).bind fun bt462 => (if bt456.2 = true then (if bt458.2 = true then (if bt462.2 = true then (if bt456.1 = t449 then (if bt462.1 = 0 then ((laws_wSum.f kj17 bt458.1).bind fun t464 => (if t464 = t449 then (laws_FnSlopeAreas.j2 kj17 l1 t439 t440 t443) else (some false))) else (some false)) else (some false)) else (some false)) else (some false)) else (some false))))) = some r := by first | (rw [hy453]; with_reducible exact H) | (have H2_ := (Option.bind_some _ _).symm.trans H; rw [hy453]; with_reducible exact H2_) | (have H2_ := (Option.bind_some _ _).symm.trans H; with_reducible exact H2_) | with_reducible exact H | (rw [hy453]; exact H) | exact H
                        have Ny453 := Aside0.mk hy453
                        clear hy453
                        replace H := Option.bind_eq_some_iff.mp H
                        obtain ⟨⟨t456, t457⟩, A260, H⟩ := H
                        replace H : ((impl_BoundsOf.f kj17 t447 t448).bind fun bt458 => ((impl_SlopeArea.f kj17 bt458.1 t448).bind fun bt462 => (if t457 = true then (if bt458.2 = true then (if bt462.2 = true then (if t456 = t449 then (if bt462.1 = 0 then ((laws_wSum.f kj17 bt458.1).bind fun t464 => (if t464 = t449 then (laws_FnSlopeAreas.j2 kj17 l1 t439 t440 t443) else (some false))) else (some false)) else (some false)) else (some false)) else (some false)) else (some false)))) = some r := H
                        have A26 := Aside0.mk A260
                        clear A260
                        replace H := Option.bind_eq_some_iff.mp H
                        obtain ⟨⟨t458, t459⟩, A270, H⟩ := H
                        replace H : ((impl_SlopeArea.f kj17 t458 t448).bind fun bt462 => (if t457 = true then (if t459 = true then (if bt462.2 = true then (if t456 = t449 then (if bt462.1 = 0 then ((laws_wSum.f kj17 t458).bind fun t464 => (if t464 = t449 then (laws_FnSlopeAreas.j2 kj17 l1 t439 t440 t443) else (some false))) else (some false)) else (some false)) else (some false)) else (some false)) else (some false))) = some r := H
                        have A27 := Aside0.mk A270
                        clear A270
                        replace H := Option.bind_eq_some_iff.mp H
                        obtain ⟨⟨t462, t463⟩, A280, H⟩ := H
                        replace H : (if t457 = true then (if t459 = true then (if t463 = true then (if t456 = t449 then (if t462 = 0 then ((laws_wSum.f kj17 t458).bind fun t464 => (if t464 = t449 then (laws_FnSlopeAreas.j2 kj17 l1 t439 t440 t443) else (some false))) else (some false)) else (some false)) else (some false)) else (some false)) else (some false)) = some r := H
                        have A28 := Aside0.mk A280
                        clear A280
                        by_cases c29 : t457 = true
                        · subst c29
                          have H1 : (if t459 = true then (if t463 = true then (if t456 = t449 then (if t462 = 0 then ((laws_wSum.f kj17 t458).bind fun t464 => (if t464 = t449 then (laws_FnSlopeAreas.j2 kj17 l1 t439 t440 t443) else (some false))) else (some false)) else (some false)) else (some false)) else (some false)) = some r := by rw [if_pos rfl] at H; exact H
                          clear H
                          have H := H1
                          clear H1
                          by_cases c30 : t459 = true
                          · subst c30
                            have H1 : (if t463 = true then (if t456 = t449 then (if t462 = 0 then ((laws_wSum.f kj17 t458).bind fun t464 => (if t464 = t449 then (laws_FnSlopeAreas.j2 kj17 l1 t439 t440 t443) else (some false))) else (some false)) else (some false)) else (some false)) = some r := by rw [if_pos rfl] at H; exact H
                            clear H
                            have H := H1
                            clear H1
                            by_cases c31 : t463 = true
                            · subst c31
                              have H1 : (if t456 = t449 then (if t462 = 0 then ((laws_wSum.f kj17 t458).bind fun t464 => (if t464 = t449 then (laws_FnSlopeAreas.j2 kj17 l1 t439 t440 t443) else (some false))) else (some false)) else (some false)) = some r := by rw [if_pos rfl] at H; exact H
                              clear H
                              have H := H1
                              clear H1
                              by_cases c32 : t456 = t449
                              · rw [if_pos c32] at H
                                have c32b0 : (t456 == t449) = true := beq_iff_eq.mpr c32
                                have c32b1 : (t456 != t449) = false := bne_eq_false_iff_eq.mpr c32
                                clear c32
                                (first | rw [c32b0] | (simp only [i64_w, i32_w]; rw [c32b0]) | skip)
                                by_cases c33 : t462 = 0
                                · rw [if_pos c33] at H
                                  have c33b0 : (t462 == 0) = true := beq_iff_eq.mpr c33
                                  have c33b1 : (t462 != 0) = false := bne_eq_false_iff_eq.mpr c33
                                  clear c33
                                  replace H := Option.bind_eq_some_iff.mp H
                                  obtain ⟨t464, A340, H⟩ := H
                                  replace H : (if t464 = t449 then (laws_FnSlopeAreas.j2 kj17 l1 t439 t440 t443) else (some false)) = some r := H
                                  have A34 := Aside0.mk A340
                                  clear A340
                                  by_cases c35 : t464 = t449
                                  · rw [if_pos c35] at H
                                    have c35b0 : (t464 == t449) = true := beq_iff_eq.mpr c35
                                    have c35b1 : (t464 != t449) = false := bne_eq_false_iff_eq.mpr c35
                                    clear c35
                                    as_aux_lemma =>
                                      have H' := Aside0.mk H
                                      clear H
                                      go_wp2_with (first | ((with_reducible refine gate_dst (N := 98) rfl ?_); refine Kd.R_make (Kd.int .i64) _ 3 rfl (N := 98) rfl 24 _ _ rfl t447 rfl rfl Try.underlying24 (.int .i64 0) 8 info3 rfl (by decide) (by omega) 0 (ok := fun _ => True) (okp := fun _ => True) rfl (fun _ hk => hk) trivial (of_decide_eq_true (by first | (with_reducible assumption) | assumption)) (Nat.le_trans (Nat.mul_le_mul_right _ (of_decide_eq_true (by first | (with_reducible assumption) | assumption) : t447.toNat ≤ 35184372088832)) (by omega)) (Below.refl _ _) (Nat.le_refl _) ?_; intro v454 w36 ho37 hb hg_ hnew_; clear hg_ hnew_; (first | rw [← Ny453.out] at ho37 | (simp only [Int.reduceToNat] at ho37; rw [← Ny453.out] at ho37)); have n0_ := Aside0.mk (Kd.R_elder' (by (with_reducible repeat (first | apply Kd.R_alloc | apply Kd.R_drewN | apply Kd.R_drew)); exact HO_5.out) (Kd.R_base ho37) hb); have n1_ := Aside0.mk (Kd.R_lower (Kd.R_new' ho37 (Kd.R_lt (by (with_reducible repeat (first | apply Kd.R_alloc | apply Kd.R_drewN | apply Kd.R_drew)); exact HO_5.out))) (below_size (by repeat (first | (with_reducible first | exact HB.out | apply below_alloc | apply pw_below_drewN | apply below_drew1) | exact HB.out)))); have n2_ := Aside0.mk (below_step (by repeat (first | (with_reducible first | exact HB.out | apply below_alloc | apply pw_below_drewN | apply below_drew1) | exact HB.out)) hb); clear HO_5; clear HB; have HO_5 := n0_; have HO455 := n1_; have HB := n2_; clear n0_ n1_ n2_; clear hb ho37; obtain ⟨Ao38, co38, eo38⟩ := Kd.R_slice HO455.out; subst eo38) | ((with_reducible refine gate_callee (f := 6) rfl ?_); refine goesL_ (some 100) rfl rfl Try.func6 (by kernel_rfl) rfl #[.slice Ao38 y453.length co38, .int .i64 t448] rfl (by (try simp only [List.map_toArray, List.map_cons, List.map_nil]); first | done | rfl | (simp only [List.length_drop, List.length_take]; rfl)) ?_; (with_reducible refine (impl_SlopeArea.calls kj17 _ _ y453 t448 t456 true _ ?side1 ?side2 A26.out).mono ?_); (case side1 => repeat (first | exact (Kd.R_reads' HO455.out).2.2 | (with_reducible refine Kd.C_alloc ?_ _) | (with_reducible refine Kd.C_drewN ?_ _) | (with_reducible refine Kd.C_drew ?_))); (case side2 => exact (Kd.R_reads' HO455.out).2.1); rintro e w39 ⟨rfl, hb⟩; refine ⟨_, rfl, ?_⟩; have n0_ := Aside0.mk (Kd.R_below (by (with_reducible repeat (first | apply Kd.R_alloc | apply Kd.R_drewN | apply Kd.R_drew)); exact HO_5.out) hb); have n1_ := Aside0.mk (Kd.R_below (by (with_reducible repeat (first | apply Kd.R_alloc | apply Kd.R_drewN | apply Kd.R_drew)); exact HO455.out) hb); have n2_ := Aside0.mk (below_step (by repeat (first | (with_reducible first | exact HB.out | apply below_alloc | apply pw_below_drewN | apply below_drew1) | exact HB.out)) hb); clear HO_5; clear HO455; clear HB; have HO_5 := n0_; have HO455 := n1_; have HB := n2_; clear n0_ n1_ n2_; (try clear hb); (try clear hb2); (try clear hk); (try clear hi)) | ((with_reducible refine gate_callee (f := 11) rfl ?_); refine goesL_ (some 106) rfl rfl Try.func11 (by kernel_rfl) rfl #[.int .i64 t447, .int .i64 t448] rfl (by (try simp only [List.map_toArray, List.map_cons, List.map_nil]); first | done | rfl | (simp only [List.length_drop, List.length_take]; rfl)) ?_; (with_reducible refine (impl_BoundsOf.calls kj17 t447 t448 t458 true _ A27.out).mono ?_); rintro e w40 ⟨v460, rfl, ho0, hb⟩; refine ⟨_, rfl, ?_⟩; have n0_ := Aside0.mk (Kd.R_elder' (by (with_reducible repeat (first | apply Kd.R_alloc | apply Kd.R_drewN | apply Kd.R_drew)); exact HO_5.out) (Kd.R_base ho0) hb); have n1_ := Aside0.mk (Kd.R_elder' (by (with_reducible repeat (first | apply Kd.R_alloc | apply Kd.R_drewN | apply Kd.R_drew)); exact HO455.out) (Kd.R_base ho0) hb); have n2_ := Aside0.mk (Kd.R_lower (Kd.R_new' (Kd.R_new' ho0 (Kd.R_lt (by (with_reducible repeat (first | apply Kd.R_alloc | apply Kd.R_drewN | apply Kd.R_drew)); exact HO_5.out))) (Kd.R_lt (by (with_reducible repeat (first | apply Kd.R_alloc | apply Kd.R_drewN | apply Kd.R_drew)); exact HO455.out))) (below_size (by repeat (first | (with_reducible first | exact HB.out | apply below_alloc | apply pw_below_drewN | apply below_drew1) | exact HB.out)))); have n3_ := Aside0.mk (below_step (by repeat (first | (with_reducible first | exact HB.out | apply below_alloc | apply pw_below_drewN | apply below_drew1) | exact HB.out)) hb); clear HO_5; clear HO455; clear HB; have HO_5 := n0_; have HO455 := n1_; have HO461 := n2_; have HB := n3_; clear n0_ n1_ n2_ n3_; (try clear hb); (try clear hb2); (try clear hk); (try clear hi); (try clear ho0); obtain ⟨Ao41, co41, eo41⟩ := Kd.R_slice HO461.out; subst eo41) | ((with_reducible refine gate_callee (f := 6) rfl ?_); refine goesL_ (some 112) rfl rfl Try.func6 (by kernel_rfl) rfl #[.slice Ao41 t458.length co41, .int .i64 t448] rfl (by (try simp only [List.map_toArray, List.map_cons, List.map_nil]); first | done | rfl | (simp only [List.length_drop, List.length_take]; rfl)) ?_; (with_reducible refine (impl_SlopeArea.calls kj17 _ _ t458 t448 t462 true _ ?side1 ?side2 A28.out).mono ?_); (case side1 => repeat (first | exact (Kd.R_reads' HO461.out).2.2 | (with_reducible refine Kd.C_alloc ?_ _) | (with_reducible refine Kd.C_drewN ?_ _) | (with_reducible refine Kd.C_drew ?_))); (case side2 => exact (Kd.R_reads' HO461.out).2.1); rintro e w42 ⟨rfl, hb⟩; refine ⟨_, rfl, ?_⟩; have n0_ := Aside0.mk (Kd.R_below (by (with_reducible repeat (first | apply Kd.R_alloc | apply Kd.R_drewN | apply Kd.R_drew)); exact HO_5.out) hb); have n1_ := Aside0.mk (Kd.R_below (by (with_reducible repeat (first | apply Kd.R_alloc | apply Kd.R_drewN | apply Kd.R_drew)); exact HO455.out) hb); have n2_ := Aside0.mk (Kd.R_below (by (with_reducible repeat (first | apply Kd.R_alloc | apply Kd.R_drewN | apply Kd.R_drew)); exact HO461.out) hb); have n3_ := Aside0.mk (below_step (by repeat (first | (with_reducible first | exact HB.out | apply below_alloc | apply pw_below_drewN | apply below_drew1) | exact HB.out)) hb); clear HO_5; clear HO455; clear HO461; clear HB; have HO_5 := n0_; have HO455 := n1_; have HO461 := n2_; have HB := n3_; clear n0_ n1_ n2_ n3_; (try clear hb); (try clear hb2); (try clear hk); (try clear hi)) | (go_at_call 12; (with_reducible refine (laws_wSum.calls kj17 _ _ t458 t464 _ ?side1 ?side2 A34.out).mono ?_); (case side1 => repeat (first | exact (Kd.R_reads' HO461.out).2.2 | (with_reducible refine Kd.C_alloc ?_ _) | (with_reducible refine Kd.C_drewN ?_ _) | (with_reducible refine Kd.C_drew ?_))); (case side2 => exact (Kd.R_reads' HO461.out).2.1); rintro e w' ⟨rfl, ⟨nd, rfl⟩⟩))
                                      go_meet
                                      case rel => exact ⟨_, H', ⟨by have := HJ7.out; have := HJ17.out; first | omega | exact Nat.le_refl _⟩, ⟨by (with_reducible repeat (first | apply Kd.R_alloc | apply Kd.R_drewN | apply Kd.R_drew)); exact Kd.R_mono HO_5.out (fun _ hk => trivial)⟩, ⟨by repeat (first | (with_reducible first | exact HB.out | apply below_alloc | apply pw_below_drewN | apply below_drew1) | exact HB.out)⟩⟩
                                  · rw [if_neg c35] at H
                                    have c35b0 : (t464 == t449) = false := beq_eq_false_iff_ne.mpr c35
                                    have c35b1 : (t464 != t449) = true := bne_iff_ne.mpr c35
                                    as_aux_lemma =>
                                      obtain rfl := Option.some.inj H
                                      go_wp2_with (first | ((with_reducible refine gate_dst (N := 98) rfl ?_); refine Kd.R_make (Kd.int .i64) _ 3 rfl (N := 98) rfl 24 _ _ rfl t447 rfl rfl Try.underlying24 (.int .i64 0) 8 info3 rfl (by decide) (by omega) 0 (ok := fun _ => True) (okp := fun _ => True) rfl (fun _ hk => hk) trivial (of_decide_eq_true (by first | (with_reducible assumption) | assumption)) (Nat.le_trans (Nat.mul_le_mul_right _ (of_decide_eq_true (by first | (with_reducible assumption) | assumption) : t447.toNat ≤ 35184372088832)) (by omega)) (Below.refl _ _) (Nat.le_refl _) ?_; intro v454 w43 ho44 hb hg_ hnew_; clear hg_ hnew_; (first | rw [← Ny453.out] at ho44 | (simp only [Int.reduceToNat] at ho44; rw [← Ny453.out] at ho44)); have n0_ := Aside0.mk (Kd.R_elder' (by (with_reducible repeat (first | apply Kd.R_alloc | apply Kd.R_drewN | apply Kd.R_drew)); exact HO_5.out) (Kd.R_base ho44) hb); have n1_ := Aside0.mk (Kd.R_lower (Kd.R_new' ho44 (Kd.R_lt (by (with_reducible repeat (first | apply Kd.R_alloc | apply Kd.R_drewN | apply Kd.R_drew)); exact HO_5.out))) (below_size (by repeat (first | (with_reducible first | exact HB.out | apply below_alloc | apply pw_below_drewN | apply below_drew1) | exact HB.out)))); have n2_ := Aside0.mk (below_step (by repeat (first | (with_reducible first | exact HB.out | apply below_alloc | apply pw_below_drewN | apply below_drew1) | exact HB.out)) hb); clear HO_5; clear HB; have HO_5 := n0_; have HO455 := n1_; have HB := n2_; clear n0_ n1_ n2_; clear hb ho44; obtain ⟨Ao45, co45, eo45⟩ := Kd.R_slice HO455.out; subst eo45) | ((with_reducible refine gate_callee (f := 6) rfl ?_); refine goesL_ (some 100) rfl rfl Try.func6 (by kernel_rfl) rfl #[.slice Ao45 y453.length co45, .int .i64 t448] rfl (by (try simp only [List.map_toArray, List.map_cons, List.map_nil]); first | done | rfl | (simp only [List.length_drop, List.length_take]; rfl)) ?_; (with_reducible refine (impl_SlopeArea.calls kj17 _ _ y453 t448 t456 true _ ?side1 ?side2 A26.out).mono ?_); (case side1 => repeat (first | exact (Kd.R_reads' HO455.out).2.2 | (with_reducible refine Kd.C_alloc ?_ _) | (with_reducible refine Kd.C_drewN ?_ _) | (with_reducible refine Kd.C_drew ?_))); (case side2 => exact (Kd.R_reads' HO455.out).2.1); rintro e w46 ⟨rfl, hb⟩; refine ⟨_, rfl, ?_⟩; have n0_ := Aside0.mk (Kd.R_below (by (with_reducible repeat (first | apply Kd.R_alloc | apply Kd.R_drewN | apply Kd.R_drew)); exact HO_5.out) hb); have n1_ := Aside0.mk (Kd.R_below (by (with_reducible repeat (first | apply Kd.R_alloc | apply Kd.R_drewN | apply Kd.R_drew)); exact HO455.out) hb); have n2_ := Aside0.mk (below_step (by repeat (first | (with_reducible first | exact HB.out | apply below_alloc | apply pw_below_drewN | apply below_drew1) | exact HB.out)) hb); clear HO_5; clear HO455; clear HB; have HO_5 := n0_; have HO455 := n1_; have HB := n2_; clear n0_ n1_ n2_; (try clear hb); (try clear hb2); (try clear hk); (try clear hi)) | ((with_reducible refine gate_callee (f := 11) rfl ?_); refine goesL_ (some 106) rfl rfl Try.func11 (by kernel_rfl) rfl #[.int .i64 t447, .int .i64 t448] rfl (by (try simp only [List.map_toArray, List.map_cons, List.map_nil]); first | done | rfl | (simp only [List.length_drop, List.length_take]; rfl)) ?_; (with_reducible refine (impl_BoundsOf.calls kj17 t447 t448 t458 true _ A27.out).mono ?_); rintro e w47 ⟨v460, rfl, ho0, hb⟩; refine ⟨_, rfl, ?_⟩; have n0_ := Aside0.mk (Kd.R_elder' (by (with_reducible repeat (first | apply Kd.R_alloc | apply Kd.R_drewN | apply Kd.R_drew)); exact HO_5.out) (Kd.R_base ho0) hb); have n1_ := Aside0.mk (Kd.R_elder' (by (with_reducible repeat (first | apply Kd.R_alloc | apply Kd.R_drewN | apply Kd.R_drew)); exact HO455.out) (Kd.R_base ho0) hb); have n2_ := Aside0.mk (Kd.R_lower (Kd.R_new' (Kd.R_new' ho0 (Kd.R_lt (by (with_reducible repeat (first | apply Kd.R_alloc | apply Kd.R_drewN | apply Kd.R_drew)); exact HO_5.out))) (Kd.R_lt (by (with_reducible repeat (first | apply Kd.R_alloc | apply Kd.R_drewN | apply Kd.R_drew)); exact HO455.out))) (below_size (by repeat (first | (with_reducible first | exact HB.out | apply below_alloc | apply pw_below_drewN | apply below_drew1) | exact HB.out)))); have n3_ := Aside0.mk (below_step (by repeat (first | (with_reducible first | exact HB.out | apply below_alloc | apply pw_below_drewN | apply below_drew1) | exact HB.out)) hb); clear HO_5; clear HO455; clear HB; have HO_5 := n0_; have HO455 := n1_; have HO461 := n2_; have HB := n3_; clear n0_ n1_ n2_ n3_; (try clear hb); (try clear hb2); (try clear hk); (try clear hi); (try clear ho0); obtain ⟨Ao48, co48, eo48⟩ := Kd.R_slice HO461.out; subst eo48) | ((with_reducible refine gate_callee (f := 6) rfl ?_); refine goesL_ (some 112) rfl rfl Try.func6 (by kernel_rfl) rfl #[.slice Ao48 t458.length co48, .int .i64 t448] rfl (by (try simp only [List.map_toArray, List.map_cons, List.map_nil]); first | done | rfl | (simp only [List.length_drop, List.length_take]; rfl)) ?_; (with_reducible refine (impl_SlopeArea.calls kj17 _ _ t458 t448 t462 true _ ?side1 ?side2 A28.out).mono ?_); (case side1 => repeat (first | exact (Kd.R_reads' HO461.out).2.2 | (with_reducible refine Kd.C_alloc ?_ _) | (with_reducible refine Kd.C_drewN ?_ _) | (with_reducible refine Kd.C_drew ?_))); (case side2 => exact (Kd.R_reads' HO461.out).2.1); rintro e w49 ⟨rfl, hb⟩; refine ⟨_, rfl, ?_⟩; have n0_ := Aside0.mk (Kd.R_below (by (with_reducible repeat (first | apply Kd.R_alloc | apply Kd.R_drewN | apply Kd.R_drew)); exact HO_5.out) hb); have n1_ := Aside0.mk (Kd.R_below (by (with_reducible repeat (first | apply Kd.R_alloc | apply Kd.R_drewN | apply Kd.R_drew)); exact HO455.out) hb); have n2_ := Aside0.mk (Kd.R_below (by (with_reducible repeat (first | apply Kd.R_alloc | apply Kd.R_drewN | apply Kd.R_drew)); exact HO461.out) hb); have n3_ := Aside0.mk (below_step (by repeat (first | (with_reducible first | exact HB.out | apply below_alloc | apply pw_below_drewN | apply below_drew1) | exact HB.out)) hb); clear HO_5; clear HO455; clear HO461; clear HB; have HO_5 := n0_; have HO455 := n1_; have HO461 := n2_; have HB := n3_; clear n0_ n1_ n2_ n3_; (try clear hb); (try clear hb2); (try clear hk); (try clear hi)) | (go_at_call 12; (with_reducible refine (laws_wSum.calls kj17 _ _ t458 t464 _ ?side1 ?side2 A34.out).mono ?_); (case side1 => repeat (first | exact (Kd.R_reads' HO461.out).2.2 | (with_reducible refine Kd.C_alloc ?_ _) | (with_reducible refine Kd.C_drewN ?_ _) | (with_reducible refine Kd.C_drew ?_))); (case side2 => exact (Kd.R_reads' HO461.out).2.1); rintro e w' ⟨rfl, ⟨nd, rfl⟩⟩))
                                      go_ret
                                      exact ⟨by first | rfl | (simp [errW_none, errW_some] <;> rfl) | (simp [*, errW_none, errW_some] <;> rfl), by repeat (first | (with_reducible first | exact HB.out | apply below_alloc | apply pw_below_drewN | apply below_drew1) | exact HB.out)⟩
                                · rw [if_neg c33] at H
                                  have c33b0 : (t462 == 0) = false := beq_eq_false_iff_ne.mpr c33
                                  have c33b1 : (t462 != 0) = true := bne_iff_ne.mpr c33
                                  as_aux_lemma =>
                                    obtain rfl := Option.some.inj H
                                    go_wp2_with (first | ((with_reducible refine gate_dst (N := 98) rfl ?_); refine Kd.R_make (Kd.int .i64) _ 3 rfl (N := 98) rfl 24 _ _ rfl t447 rfl rfl Try.underlying24 (.int .i64 0) 8 info3 rfl (by decide) (by omega) 0 (ok := fun _ => True) (okp := fun _ => True) rfl (fun _ hk => hk) trivial (of_decide_eq_true (by first | (with_reducible assumption) | assumption)) (Nat.le_trans (Nat.mul_le_mul_right _ (of_decide_eq_true (by first | (with_reducible assumption) | assumption) : t447.toNat ≤ 35184372088832)) (by omega)) (Below.refl _ _) (Nat.le_refl _) ?_; intro v454 w50 ho51 hb hg_ hnew_; clear hg_ hnew_; (first | rw [← Ny453.out] at ho51 | (simp only [Int.reduceToNat] at ho51; rw [← Ny453.out] at ho51)); have n0_ := Aside0.mk (Kd.R_elder' (by (with_reducible repeat (first | apply Kd.R_alloc | apply Kd.R_drewN | apply Kd.R_drew)); exact HO_5.out) (Kd.R_base ho51) hb); have n1_ := Aside0.mk (Kd.R_lower (Kd.R_new' ho51 (Kd.R_lt (by (with_reducible repeat (first | apply Kd.R_alloc | apply Kd.R_drewN | apply Kd.R_drew)); exact HO_5.out))) (below_size (by repeat (first | (with_reducible first | exact HB.out | apply below_alloc | apply pw_below_drewN | apply below_drew1) | exact HB.out)))); have n2_ := Aside0.mk (below_step (by repeat (first | (with_reducible first | exact HB.out | apply below_alloc | apply pw_below_drewN | apply below_drew1) | exact HB.out)) hb); clear HO_5; clear HB; have HO_5 := n0_; have HO455 := n1_; have HB := n2_; clear n0_ n1_ n2_; clear hb ho51; obtain ⟨Ao52, co52, eo52⟩ := Kd.R_slice HO455.out; subst eo52) | ((with_reducible refine gate_callee (f := 6) rfl ?_); refine goesL_ (some 100) rfl rfl Try.func6 (by kernel_rfl) rfl #[.slice Ao52 y453.length co52, .int .i64 t448] rfl (by (try simp only [List.map_toArray, List.map_cons, List.map_nil]); first | done | rfl | (simp only [List.length_drop, List.length_take]; rfl)) ?_; (with_reducible refine (impl_SlopeArea.calls kj17 _ _ y453 t448 t456 true _ ?side1 ?side2 A26.out).mono ?_); (case side1 => repeat (first | exact (Kd.R_reads' HO455.out).2.2 | (with_reducible refine Kd.C_alloc ?_ _) | (with_reducible refine Kd.C_drewN ?_ _) | (with_reducible refine Kd.C_drew ?_))); (case side2 => exact (Kd.R_reads' HO455.out).2.1); rintro e w53 ⟨rfl, hb⟩; refine ⟨_, rfl, ?_⟩; have n0_ := Aside0.mk (Kd.R_below (by (with_reducible repeat (first | apply Kd.R_alloc | apply Kd.R_drewN | apply Kd.R_drew)); exact HO_5.out) hb); have n1_ := Aside0.mk (Kd.R_below (by (with_reducible repeat (first | apply Kd.R_alloc | apply Kd.R_drewN | apply Kd.R_drew)); exact HO455.out) hb); have n2_ := Aside0.mk (below_step (by repeat (first | (with_reducible first | exact HB.out | apply below_alloc | apply pw_below_drewN | apply below_drew1) | exact HB.out)) hb); clear HO_5; clear HO455; clear HB; have HO_5 := n0_; have HO455 := n1_; have HB := n2_; clear n0_ n1_ n2_; (try clear hb); (try clear hb2); (try clear hk); (try clear hi)) | ((with_reducible refine gate_callee (f := 11) rfl ?_); refine goesL_ (some 106) rfl rfl Try.func11 (by kernel_rfl) rfl #[.int .i64 t447, .int .i64 t448] rfl (by (try simp only [List.map_toArray, List.map_cons, List.map_nil]); first | done | rfl | (simp only [List.length_drop, List.length_take]; rfl)) ?_; (with_reducible refine (impl_BoundsOf.calls kj17 t447 t448 t458 true _ A27.out).mono ?_); rintro e w54 ⟨v460, rfl, ho0, hb⟩; refine ⟨_, rfl, ?_⟩; have n0_ := Aside0.mk (Kd.R_elder' (by (with_reducible repeat (first | apply Kd.R_alloc | apply Kd.R_drewN | apply Kd.R_drew)); exact HO_5.out) (Kd.R_base ho0) hb); have n1_ := Aside0.mk (Kd.R_elder' (by (with_reducible repeat (first | apply Kd.R_alloc | apply Kd.R_drewN | apply Kd.R_drew)); exact HO455.out) (Kd.R_base ho0) hb); have n2_ := Aside0.mk (Kd.R_lower (Kd.R_new' (Kd.R_new' ho0 (Kd.R_lt (by (with_reducible repeat (first | apply Kd.R_alloc | apply Kd.R_drewN | apply Kd.R_drew)); exact HO_5.out))) (Kd.R_lt (by (with_reducible repeat (first | apply Kd.R_alloc | apply Kd.R_drewN | apply Kd.R_drew)); exact HO455.out))) (below_size (by repeat (first | (with_reducible first | exact HB.out | apply below_alloc | apply pw_below_drewN | apply below_drew1) | exact HB.out)))); have n3_ := Aside0.mk (below_step (by repeat (first | (with_reducible first | exact HB.out | apply below_alloc | apply pw_below_drewN | apply below_drew1) | exact HB.out)) hb); clear HO_5; clear HO455; clear HB; have HO_5 := n0_; have HO455 := n1_; have HO461 := n2_; have HB := n3_; clear n0_ n1_ n2_ n3_; (try clear hb); (try clear hb2); (try clear hk); (try clear hi); (try clear ho0); obtain ⟨Ao55, co55, eo55⟩ := Kd.R_slice HO461.out; subst eo55) | ((with_reducible refine gate_callee (f := 6) rfl ?_); refine goesL_ (some 112) rfl rfl Try.func6 (by kernel_rfl) rfl #[.slice Ao55 t458.length co55, .int .i64 t448] rfl (by (try simp only [List.map_toArray, List.map_cons, List.map_nil]); first | done | rfl | (simp only [List.length_drop, List.length_take]; rfl)) ?_; (with_reducible refine (impl_SlopeArea.calls kj17 _ _ t458 t448 t462 true _ ?side1 ?side2 A28.out).mono ?_); (case side1 => repeat (first | exact (Kd.R_reads' HO461.out).2.2 | (with_reducible refine Kd.C_alloc ?_ _) | (with_reducible refine Kd.C_drewN ?_ _) | (with_reducible refine Kd.C_drew ?_))); (case side2 => exact (Kd.R_reads' HO461.out).2.1); rintro e w56 ⟨rfl, hb⟩; refine ⟨_, rfl, ?_⟩; have n0_ := Aside0.mk (Kd.R_below (by (with_reducible repeat (first | apply Kd.R_alloc | apply Kd.R_drewN | apply Kd.R_drew)); exact HO_5.out) hb); have n1_ := Aside0.mk (Kd.R_below (by (with_reducible repeat (first | apply Kd.R_alloc | apply Kd.R_drewN | apply Kd.R_drew)); exact HO455.out) hb); have n2_ := Aside0.mk (Kd.R_below (by (with_reducible repeat (first | apply Kd.R_alloc | apply Kd.R_drewN | apply Kd.R_drew)); exact HO461.out) hb); have n3_ := Aside0.mk (below_step (by repeat (first | (with_reducible first | exact HB.out | apply below_alloc | apply pw_below_drewN | apply below_drew1) | exact HB.out)) hb); clear HO_5; clear HO455; clear HO461; clear HB; have HO_5 := n0_; have HO455 := n1_; have HO461 := n2_; have HB := n3_; clear n0_ n1_ n2_ n3_; (try clear hb); (try clear hb2); (try clear hk); (try clear hi)))
                                    go_ret
                                    exact ⟨by first | rfl | (simp [errW_none, errW_some] <;> rfl) | (simp [*, errW_none, errW_some] <;> rfl), by repeat (first | (with_reducible first | exact HB.out | apply below_alloc | apply pw_below_drewN | apply below_drew1) | exact HB.out)⟩
                              · rw [if_neg c32] at H
                                have c32b0 : (t456 == t449) = false := beq_eq_false_iff_ne.mpr c32
                                have c32b1 : (t456 != t449) = true := bne_iff_ne.mpr c32
                                (first | rw [c32b0] | (simp only [i64_w, i32_w]; rw [c32b0]) | skip)
                                as_aux_lemma =>
                                  obtain rfl := Option.some.inj H
                                  go_wp2_with (first | ((with_reducible refine gate_dst (N := 98) rfl ?_); refine Kd.R_make (Kd.int .i64) _ 3 rfl (N := 98) rfl 24 _ _ rfl t447 rfl rfl Try.underlying24 (.int .i64 0) 8 info3 rfl (by decide) (by omega) 0 (ok := fun _ => True) (okp := fun _ => True) rfl (fun _ hk => hk) trivial (of_decide_eq_true (by first | (with_reducible assumption) | assumption)) (Nat.le_trans (Nat.mul_le_mul_right _ (of_decide_eq_true (by first | (with_reducible assumption) | assumption) : t447.toNat ≤ 35184372088832)) (by omega)) (Below.refl _ _) (Nat.le_refl _) ?_; intro v454 w57 ho58 hb hg_ hnew_; clear hg_ hnew_; (first | rw [← Ny453.out] at ho58 | (simp only [Int.reduceToNat] at ho58; rw [← Ny453.out] at ho58)); have n0_ := Aside0.mk (Kd.R_elder' (by (with_reducible repeat (first | apply Kd.R_alloc | apply Kd.R_drewN | apply Kd.R_drew)); exact HO_5.out) (Kd.R_base ho58) hb); have n1_ := Aside0.mk (Kd.R_lower (Kd.R_new' ho58 (Kd.R_lt (by (with_reducible repeat (first | apply Kd.R_alloc | apply Kd.R_drewN | apply Kd.R_drew)); exact HO_5.out))) (below_size (by repeat (first | (with_reducible first | exact HB.out | apply below_alloc | apply pw_below_drewN | apply below_drew1) | exact HB.out)))); have n2_ := Aside0.mk (below_step (by repeat (first | (with_reducible first | exact HB.out | apply below_alloc | apply pw_below_drewN | apply below_drew1) | exact HB.out)) hb); clear HO_5; clear HB; have HO_5 := n0_; have HO455 := n1_; have HB := n2_; clear n0_ n1_ n2_; clear hb ho58; obtain ⟨Ao59, co59, eo59⟩ := Kd.R_slice HO455.out; subst eo59) | ((with_reducible refine gate_callee (f := 6) rfl ?_); refine goesL_ (some 100) rfl rfl Try.func6 (by kernel_rfl) rfl #[.slice Ao59 y453.length co59, .int .i64 t448] rfl (by (try simp only [List.map_toArray, List.map_cons, List.map_nil]); first | done | rfl | (simp only [List.length_drop, List.length_take]; rfl)) ?_; (with_reducible refine (impl_SlopeArea.calls kj17 _ _ y453 t448 t456 true _ ?side1 ?side2 A26.out).mono ?_); (case side1 => repeat (first | exact (Kd.R_reads' HO455.out).2.2 | (with_reducible refine Kd.C_alloc ?_ _) | (with_reducible refine Kd.C_drewN ?_ _) | (with_reducible refine Kd.C_drew ?_))); (case side2 => exact (Kd.R_reads' HO455.out).2.1); rintro e w60 ⟨rfl, hb⟩; refine ⟨_, rfl, ?_⟩; have n0_ := Aside0.mk (Kd.R_below (by (with_reducible repeat (first | apply Kd.R_alloc | apply Kd.R_drewN | apply Kd.R_drew)); exact HO_5.out) hb); have n1_ := Aside0.mk (Kd.R_below (by (with_reducible repeat (first | apply Kd.R_alloc | apply Kd.R_drewN | apply Kd.R_drew)); exact HO455.out) hb); have n2_ := Aside0.mk (below_step (by repeat (first | (with_reducible first | exact HB.out | apply below_alloc | apply pw_below_drewN | apply below_drew1) | exact HB.out)) hb); clear HO_5; clear HO455; clear HB; have HO_5 := n0_; have HO455 := n1_; have HB := n2_; clear n0_ n1_ n2_; (try clear hb); (try clear hb2); (try clear hk); (try clear hi)) | ((with_reducible refine gate_callee (f := 11) rfl ?_); refine goesL_ (some 106) rfl rfl Try.func11 (by kernel_rfl) rfl #[.int .i64 t447, .int .i64 t448] rfl (by (try simp only [List.map_toArray, List.map_cons, List.map_nil]); first | done | rfl | (simp only [List.length_drop, List.length_take]; rfl)) ?_; (with_reducible refine (impl_BoundsOf.calls kj17 t447 t448 t458 true _ A27.out).mono ?_); rintro e w61 ⟨v460, rfl, ho0, hb⟩; refine ⟨_, rfl, ?_⟩; have n0_ := Aside0.mk (Kd.R_elder' (by (with_reducible repeat (first | apply Kd.R_alloc | apply Kd.R_drewN | apply Kd.R_drew)); exact HO_5.out) (Kd.R_base ho0) hb); have n1_ := Aside0.mk (Kd.R_elder' (by (with_reducible repeat (first | apply Kd.R_alloc | apply Kd.R_drewN | apply Kd.R_drew)); exact HO455.out) (Kd.R_base ho0) hb); have n2_ := Aside0.mk (Kd.R_lower (Kd.R_new' (Kd.R_new' ho0 (Kd.R_lt (by (with_reducible repeat (first | apply Kd.R_alloc | apply Kd.R_drewN | apply Kd.R_drew)); exact HO_5.out))) (Kd.R_lt (by (with_reducible repeat (first | apply Kd.R_alloc | apply Kd.R_drewN | apply Kd.R_drew)); exact HO455.out))) (below_size (by repeat (first | (with_reducible first | exact HB.out | apply below_alloc | apply pw_below_drewN | apply below_drew1) | exact HB.out)))); have n3_ := Aside0.mk (below_step (by repeat (first | (with_reducible first | exact HB.out | apply below_alloc | apply pw_below_drewN | apply below_drew1) | exact HB.out)) hb); clear HO_5; clear HO455; clear HB; have HO_5 := n0_; have HO455 := n1_; have HO461 := n2_; have HB := n3_; clear n0_ n1_ n2_ n3_; (try clear hb); (try clear hb2); (try clear hk); (try clear hi); (try clear ho0); obtain ⟨Ao62, co62, eo62⟩ := Kd.R_slice HO461.out; subst eo62) | ((with_reducible refine gate_callee (f := 6) rfl ?_); refine goesL_ (some 112) rfl rfl Try.func6 (by kernel_rfl) rfl #[.slice Ao62 t458.length co62, .int .i64 t448] rfl (by (try simp only [List.map_toArray, List.map_cons, List.map_nil]); first | done | rfl | (simp only [List.length_drop, List.length_take]; rfl)) ?_; (with_reducible refine (impl_SlopeArea.calls kj17 _ _ t458 t448 t462 true _ ?side1 ?side2 A28.out).mono ?_); (case side1 => repeat (first | exact (Kd.R_reads' HO461.out).2.2 | (with_reducible refine Kd.C_alloc ?_ _) | (with_reducible refine Kd.C_drewN ?_ _) | (with_reducible refine Kd.C_drew ?_))); (case side2 => exact (Kd.R_reads' HO461.out).2.1); rintro e w63 ⟨rfl, hb⟩; refine ⟨_, rfl, ?_⟩; have n0_ := Aside0.mk (Kd.R_below (by (with_reducible repeat (first | apply Kd.R_alloc | apply Kd.R_drewN | apply Kd.R_drew)); exact HO_5.out) hb); have n1_ := Aside0.mk (Kd.R_below (by (with_reducible repeat (first | apply Kd.R_alloc | apply Kd.R_drewN | apply Kd.R_drew)); exact HO455.out) hb); have n2_ := Aside0.mk (Kd.R_below (by (with_reducible repeat (first | apply Kd.R_alloc | apply Kd.R_drewN | apply Kd.R_drew)); exact HO461.out) hb); have n3_ := Aside0.mk (below_step (by repeat (first | (with_reducible first | exact HB.out | apply below_alloc | apply pw_below_drewN | apply below_drew1) | exact HB.out)) hb); clear HO_5; clear HO455; clear HO461; clear HB; have HO_5 := n0_; have HO455 := n1_; have HO461 := n2_; have HB := n3_; clear n0_ n1_ n2_ n3_; (try clear hb); (try clear hb2); (try clear hk); (try clear hi)))
                                  go_ret
                                  exact ⟨by first | rfl | (simp [errW_none, errW_some] <;> rfl) | (simp [*, errW_none, errW_some] <;> rfl), by repeat (first | (with_reducible first | exact HB.out | apply below_alloc | apply pw_below_drewN | apply below_drew1) | exact HB.out)⟩
                            · replace c31 := Bool.eq_false_iff.mpr c31
                              subst c31
                              have H1 : (some false) = some r := by rw [if_neg (show ¬ (false = true) by decide)] at H; exact H
                              clear H
                              have H := H1
                              clear H1
                              as_aux_lemma =>
                                obtain rfl := Option.some.inj H
                                go_wp2_with (first | ((with_reducible refine gate_dst (N := 98) rfl ?_); refine Kd.R_make (Kd.int .i64) _ 3 rfl (N := 98) rfl 24 _ _ rfl t447 rfl rfl Try.underlying24 (.int .i64 0) 8 info3 rfl (by decide) (by omega) 0 (ok := fun _ => True) (okp := fun _ => True) rfl (fun _ hk => hk) trivial (of_decide_eq_true (by first | (with_reducible assumption) | assumption)) (Nat.le_trans (Nat.mul_le_mul_right _ (of_decide_eq_true (by first | (with_reducible assumption) | assumption) : t447.toNat ≤ 35184372088832)) (by omega)) (Below.refl _ _) (Nat.le_refl _) ?_; intro v454 w64 ho65 hb hg_ hnew_; clear hg_ hnew_; (first | rw [← Ny453.out] at ho65 | (simp only [Int.reduceToNat] at ho65; rw [← Ny453.out] at ho65)); have n0_ := Aside0.mk (Kd.R_elder' (by (with_reducible repeat (first | apply Kd.R_alloc | apply Kd.R_drewN | apply Kd.R_drew)); exact HO_5.out) (Kd.R_base ho65) hb); have n1_ := Aside0.mk (Kd.R_lower (Kd.R_new' ho65 (Kd.R_lt (by (with_reducible repeat (first | apply Kd.R_alloc | apply Kd.R_drewN | apply Kd.R_drew)); exact HO_5.out))) (below_size (by repeat (first | (with_reducible first | exact HB.out | apply below_alloc | apply pw_below_drewN | apply below_drew1) | exact HB.out)))); have n2_ := Aside0.mk (below_step (by repeat (first | (with_reducible first | exact HB.out | apply below_alloc | apply pw_below_drewN | apply below_drew1) | exact HB.out)) hb); clear HO_5; clear HB; have HO_5 := n0_; have HO455 := n1_; have HB := n2_; clear n0_ n1_ n2_; clear hb ho65; obtain ⟨Ao66, co66, eo66⟩ := Kd.R_slice HO455.out; subst eo66) | ((with_reducible refine gate_callee (f := 6) rfl ?_); refine goesL_ (some 100) rfl rfl Try.func6 (by kernel_rfl) rfl #[.slice Ao66 y453.length co66, .int .i64 t448] rfl (by (try simp only [List.map_toArray, List.map_cons, List.map_nil]); first | done | rfl | (simp only [List.length_drop, List.length_take]; rfl)) ?_; (with_reducible refine (impl_SlopeArea.calls kj17 _ _ y453 t448 t456 true _ ?side1 ?side2 A26.out).mono ?_); (case side1 => repeat (first | exact (Kd.R_reads' HO455.out).2.2 | (with_reducible refine Kd.C_alloc ?_ _) | (with_reducible refine Kd.C_drewN ?_ _) | (with_reducible refine Kd.C_drew ?_))); (case side2 => exact (Kd.R_reads' HO455.out).2.1); rintro e w67 ⟨rfl, hb⟩; refine ⟨_, rfl, ?_⟩; have n0_ := Aside0.mk (Kd.R_below (by (with_reducible repeat (first | apply Kd.R_alloc | apply Kd.R_drewN | apply Kd.R_drew)); exact HO_5.out) hb); have n1_ := Aside0.mk (Kd.R_below (by (with_reducible repeat (first | apply Kd.R_alloc | apply Kd.R_drewN | apply Kd.R_drew)); exact HO455.out) hb); have n2_ := Aside0.mk (below_step (by repeat (first | (with_reducible first | exact HB.out | apply below_alloc | apply pw_below_drewN | apply below_drew1) | exact HB.out)) hb); clear HO_5; clear HO455; clear HB; have HO_5 := n0_; have HO455 := n1_; have HB := n2_; clear n0_ n1_ n2_; (try clear hb); (try clear hb2); (try clear hk); (try clear hi)) | ((with_reducible refine gate_callee (f := 11) rfl ?_); refine goesL_ (some 106) rfl rfl Try.func11 (by kernel_rfl) rfl #[.int .i64 t447, .int .i64 t448] rfl (by (try simp only [List.map_toArray, List.map_cons, List.map_nil]); first | done | rfl | (simp only [List.length_drop, List.length_take]; rfl)) ?_; (with_reducible refine (impl_BoundsOf.calls kj17 t447 t448 t458 true _ A27.out).mono ?_); rintro e w68 ⟨v460, rfl, ho0, hb⟩; refine ⟨_, rfl, ?_⟩; have n0_ := Aside0.mk (Kd.R_elder' (by (with_reducible repeat (first | apply Kd.R_alloc | apply Kd.R_drewN | apply Kd.R_drew)); exact HO_5.out) (Kd.R_base ho0) hb); have n1_ := Aside0.mk (Kd.R_elder' (by (with_reducible repeat (first | apply Kd.R_alloc | apply Kd.R_drewN | apply Kd.R_drew)); exact HO455.out) (Kd.R_base ho0) hb); have n2_ := Aside0.mk (Kd.R_lower (Kd.R_new' (Kd.R_new' ho0 (Kd.R_lt (by (with_reducible repeat (first | apply Kd.R_alloc | apply Kd.R_drewN | apply Kd.R_drew)); exact HO_5.out))) (Kd.R_lt (by (with_reducible repeat (first | apply Kd.R_alloc | apply Kd.R_drewN | apply Kd.R_drew)); exact HO455.out))) (below_size (by repeat (first | (with_reducible first | exact HB.out | apply below_alloc | apply pw_below_drewN | apply below_drew1) | exact HB.out)))); have n3_ := Aside0.mk (below_step (by repeat (first | (with_reducible first | exact HB.out | apply below_alloc | apply pw_below_drewN | apply below_drew1) | exact HB.out)) hb); clear HO_5; clear HO455; clear HB; have HO_5 := n0_; have HO455 := n1_; have HO461 := n2_; have HB := n3_; clear n0_ n1_ n2_ n3_; (try clear hb); (try clear hb2); (try clear hk); (try clear hi); (try clear ho0); obtain ⟨Ao69, co69, eo69⟩ := Kd.R_slice HO461.out; subst eo69) | ((with_reducible refine gate_callee (f := 6) rfl ?_); refine goesL_ (some 112) rfl rfl Try.func6 (by kernel_rfl) rfl #[.slice Ao69 t458.length co69, .int .i64 t448] rfl (by (try simp only [List.map_toArray, List.map_cons, List.map_nil]); first | done | rfl | (simp only [List.length_drop, List.length_take]; rfl)) ?_; (with_reducible refine (impl_SlopeArea.calls kj17 _ _ t458 t448 t462 false _ ?side1 ?side2 A28.out).mono ?_); (case side1 => repeat (first | exact (Kd.R_reads' HO461.out).2.2 | (with_reducible refine Kd.C_alloc ?_ _) | (with_reducible refine Kd.C_drewN ?_ _) | (with_reducible refine Kd.C_drew ?_))); (case side2 => exact (Kd.R_reads' HO461.out).2.1); rintro e w70 ⟨rfl, hb⟩; refine ⟨_, rfl, ?_⟩; have n0_ := Aside0.mk (Kd.R_below (by (with_reducible repeat (first | apply Kd.R_alloc | apply Kd.R_drewN | apply Kd.R_drew)); exact HO_5.out) hb); have n1_ := Aside0.mk (Kd.R_below (by (with_reducible repeat (first | apply Kd.R_alloc | apply Kd.R_drewN | apply Kd.R_drew)); exact HO455.out) hb); have n2_ := Aside0.mk (Kd.R_below (by (with_reducible repeat (first | apply Kd.R_alloc | apply Kd.R_drewN | apply Kd.R_drew)); exact HO461.out) hb); have n3_ := Aside0.mk (below_step (by repeat (first | (with_reducible first | exact HB.out | apply below_alloc | apply pw_below_drewN | apply below_drew1) | exact HB.out)) hb); clear HO_5; clear HO455; clear HO461; clear HB; have HO_5 := n0_; have HO455 := n1_; have HO461 := n2_; have HB := n3_; clear n0_ n1_ n2_ n3_; (try clear hb); (try clear hb2); (try clear hk); (try clear hi)))
                                go_ret
                                exact ⟨by first | rfl | (simp [errW_none, errW_some] <;> rfl) | (simp [*, errW_none, errW_some] <;> rfl), by repeat (first | (with_reducible first | exact HB.out | apply below_alloc | apply pw_below_drewN | apply below_drew1) | exact HB.out)⟩
                          · replace c30 := Bool.eq_false_iff.mpr c30
                            subst c30
                            have H1 : (some false) = some r := by rw [if_neg (show ¬ (false = true) by decide)] at H; exact H
                            clear H
                            have H := H1
                            clear H1
                            as_aux_lemma =>
                              obtain rfl := Option.some.inj H
                              go_wp2_with (first | ((with_reducible refine gate_dst (N := 98) rfl ?_); refine Kd.R_make (Kd.int .i64) _ 3 rfl (N := 98) rfl 24 _ _ rfl t447 rfl rfl Try.underlying24 (.int .i64 0) 8 info3 rfl (by decide) (by omega) 0 (ok := fun _ => True) (okp := fun _ => True) rfl (fun _ hk => hk) trivial (of_decide_eq_true (by first | (with_reducible assumption) | assumption)) (Nat.le_trans (Nat.mul_le_mul_right _ (of_decide_eq_true (by first | (with_reducible assumption) | assumption) : t447.toNat ≤ 35184372088832)) (by omega)) (Below.refl _ _) (Nat.le_refl _) ?_; intro v454 w71 ho72 hb hg_ hnew_; clear hg_ hnew_; (first | rw [← Ny453.out] at ho72 | (simp only [Int.reduceToNat] at ho72; rw [← Ny453.out] at ho72)); have n0_ := Aside0.mk (Kd.R_elder' (by (with_reducible repeat (first | apply Kd.R_alloc | apply Kd.R_drewN | apply Kd.R_drew)); exact HO_5.out) (Kd.R_base ho72) hb); have n1_ := Aside0.mk (Kd.R_lower (Kd.R_new' ho72 (Kd.R_lt (by (with_reducible repeat (first | apply Kd.R_alloc | apply Kd.R_drewN | apply Kd.R_drew)); exact HO_5.out))) (below_size (by repeat (first | (with_reducible first | exact HB.out | apply below_alloc | apply pw_below_drewN | apply below_drew1) | exact HB.out)))); have n2_ := Aside0.mk (below_step (by repeat (first | (with_reducible first | exact HB.out | apply below_alloc | apply pw_below_drewN | apply below_drew1) | exact HB.out)) hb); clear HO_5; clear HB; have HO_5 := n0_; have HO455 := n1_; have HB := n2_; clear n0_ n1_ n2_; clear hb ho72; obtain ⟨Ao73, co73, eo73⟩ := Kd.R_slice HO455.out; subst eo73) | ((with_reducible refine gate_callee (f := 6) rfl ?_); refine goesL_ (some 100) rfl rfl Try.func6 (by kernel_rfl) rfl #[.slice Ao73 y453.length co73, .int .i64 t448] rfl (by (try simp only [List.map_toArray, List.map_cons, List.map_nil]); first | done | rfl | (simp only [List.length_drop, List.length_take]; rfl)) ?_; (with_reducible refine (impl_SlopeArea.calls kj17 _ _ y453 t448 t456 true _ ?side1 ?side2 A26.out).mono ?_); (case side1 => repeat (first | exact (Kd.R_reads' HO455.out).2.2 | (with_reducible refine Kd.C_alloc ?_ _) | (with_reducible refine Kd.C_drewN ?_ _) | (with_reducible refine Kd.C_drew ?_))); (case side2 => exact (Kd.R_reads' HO455.out).2.1); rintro e w74 ⟨rfl, hb⟩; refine ⟨_, rfl, ?_⟩; have n0_ := Aside0.mk (Kd.R_below (by (with_reducible repeat (first | apply Kd.R_alloc | apply Kd.R_drewN | apply Kd.R_drew)); exact HO_5.out) hb); have n1_ := Aside0.mk (Kd.R_below (by (with_reducible repeat (first | apply Kd.R_alloc | apply Kd.R_drewN | apply Kd.R_drew)); exact HO455.out) hb); have n2_ := Aside0.mk (below_step (by repeat (first | (with_reducible first | exact HB.out | apply below_alloc | apply pw_below_drewN | apply below_drew1) | exact HB.out)) hb); clear HO_5; clear HO455; clear HB; have HO_5 := n0_; have HO455 := n1_; have HB := n2_; clear n0_ n1_ n2_; (try clear hb); (try clear hb2); (try clear hk); (try clear hi)) | ((with_reducible refine gate_callee (f := 11) rfl ?_); refine goesL_ (some 106) rfl rfl Try.func11 (by kernel_rfl) rfl #[.int .i64 t447, .int .i64 t448] rfl (by (try simp only [List.map_toArray, List.map_cons, List.map_nil]); first | done | rfl | (simp only [List.length_drop, List.length_take]; rfl)) ?_; (with_reducible refine (impl_BoundsOf.calls kj17 t447 t448 t458 false _ A27.out).mono ?_); rintro e w75 ⟨v460, rfl, ho0, hb⟩; refine ⟨_, rfl, ?_⟩; have n0_ := Aside0.mk (Kd.R_elder' (by (with_reducible repeat (first | apply Kd.R_alloc | apply Kd.R_drewN | apply Kd.R_drew)); exact HO_5.out) (Kd.R_base ho0) hb); have n1_ := Aside0.mk (Kd.R_elder' (by (with_reducible repeat (first | apply Kd.R_alloc | apply Kd.R_drewN | apply Kd.R_drew)); exact HO455.out) (Kd.R_base ho0) hb); have n2_ := Aside0.mk (Kd.R_lower (Kd.R_new' (Kd.R_new' ho0 (Kd.R_lt (by (with_reducible repeat (first | apply Kd.R_alloc | apply Kd.R_drewN | apply Kd.R_drew)); exact HO_5.out))) (Kd.R_lt (by (with_reducible repeat (first | apply Kd.R_alloc | apply Kd.R_drewN | apply Kd.R_drew)); exact HO455.out))) (below_size (by repeat (first | (with_reducible first | exact HB.out | apply below_alloc | apply pw_below_drewN | apply below_drew1) | exact HB.out)))); have n3_ := Aside0.mk (below_step (by repeat (first | (with_reducible first | exact HB.out | apply below_alloc | apply pw_below_drewN | apply below_drew1) | exact HB.out)) hb); clear HO_5; clear HO455; clear HB; have HO_5 := n0_; have HO455 := n1_; have HO461 := n2_; have HB := n3_; clear n0_ n1_ n2_ n3_; (try clear hb); (try clear hb2); (try clear hk); (try clear hi); (try clear ho0); obtain ⟨Ao76, co76, eo76⟩ := Kd.R_slice HO461.out; subst eo76) | ((with_reducible refine gate_callee (f := 6) rfl ?_); refine goesL_ (some 112) rfl rfl Try.func6 (by kernel_rfl) rfl #[.slice Ao76 t458.length co76, .int .i64 t448] rfl (by (try simp only [List.map_toArray, List.map_cons, List.map_nil]); first | done | rfl | (simp only [List.length_drop, List.length_take]; rfl)) ?_; (with_reducible refine (impl_SlopeArea.calls kj17 _ _ t458 t448 t462 t463 _ ?side1 ?side2 A28.out).mono ?_); (case side1 => repeat (first | exact (Kd.R_reads' HO461.out).2.2 | (with_reducible refine Kd.C_alloc ?_ _) | (with_reducible refine Kd.C_drewN ?_ _) | (with_reducible refine Kd.C_drew ?_))); (case side2 => exact (Kd.R_reads' HO461.out).2.1); rintro e w77 ⟨rfl, hb⟩; refine ⟨_, rfl, ?_⟩; have n0_ := Aside0.mk (Kd.R_below (by (with_reducible repeat (first | apply Kd.R_alloc | apply Kd.R_drewN | apply Kd.R_drew)); exact HO_5.out) hb); have n1_ := Aside0.mk (Kd.R_below (by (with_reducible repeat (first | apply Kd.R_alloc | apply Kd.R_drewN | apply Kd.R_drew)); exact HO455.out) hb); have n2_ := Aside0.mk (Kd.R_below (by (with_reducible repeat (first | apply Kd.R_alloc | apply Kd.R_drewN | apply Kd.R_drew)); exact HO461.out) hb); have n3_ := Aside0.mk (below_step (by repeat (first | (with_reducible first | exact HB.out | apply below_alloc | apply pw_below_drewN | apply below_drew1) | exact HB.out)) hb); clear HO_5; clear HO455; clear HO461; clear HB; have HO_5 := n0_; have HO455 := n1_; have HO461 := n2_; have HB := n3_; clear n0_ n1_ n2_ n3_; (try clear hb); (try clear hb2); (try clear hk); (try clear hi)))
                              go_ret
                              exact ⟨by first | rfl | (simp [errW_none, errW_some] <;> rfl) | (simp [*, errW_none, errW_some] <;> rfl), by repeat (first | (with_reducible first | exact HB.out | apply below_alloc | apply pw_below_drewN | apply below_drew1) | exact HB.out)⟩
                        · replace c29 := Bool.eq_false_iff.mpr c29
                          subst c29
                          have H1 : (some false) = some r := by rw [if_neg (show ¬ (false = true) by decide)] at H; exact H
                          clear H
                          have H := H1
                          clear H1
                          as_aux_lemma =>
                            obtain rfl := Option.some.inj H
                            go_wp2_with (first | ((with_reducible refine gate_dst (N := 98) rfl ?_); refine Kd.R_make (Kd.int .i64) _ 3 rfl (N := 98) rfl 24 _ _ rfl t447 rfl rfl Try.underlying24 (.int .i64 0) 8 info3 rfl (by decide) (by omega) 0 (ok := fun _ => True) (okp := fun _ => True) rfl (fun _ hk => hk) trivial (of_decide_eq_true (by first | (with_reducible assumption) | assumption)) (Nat.le_trans (Nat.mul_le_mul_right _ (of_decide_eq_true (by first | (with_reducible assumption) | assumption) : t447.toNat ≤ 35184372088832)) (by omega)) (Below.refl _ _) (Nat.le_refl _) ?_; intro v454 w78 ho79 hb hg_ hnew_; clear hg_ hnew_; (first | rw [← Ny453.out] at ho79 | (simp only [Int.reduceToNat] at ho79; rw [← Ny453.out] at ho79)); have n0_ := Aside0.mk (Kd.R_elder' (by (with_reducible repeat (first | apply Kd.R_alloc | apply Kd.R_drewN | apply Kd.R_drew)); exact HO_5.out) (Kd.R_base ho79) hb); have n1_ := Aside0.mk (Kd.R_lower (Kd.R_new' ho79 (Kd.R_lt (by (with_reducible repeat (first | apply Kd.R_alloc | apply Kd.R_drewN | apply Kd.R_drew)); exact HO_5.out))) (below_size (by repeat (first | (with_reducible first | exact HB.out | apply below_alloc | apply pw_below_drewN | apply below_drew1) | exact HB.out)))); have n2_ := Aside0.mk (below_step (by repeat (first | (with_reducible first | exact HB.out | apply below_alloc | apply pw_below_drewN | apply below_drew1) | exact HB.out)) hb); clear HO_5; clear HB; have HO_5 := n0_; have HO455 := n1_; have HB := n2_; clear n0_ n1_ n2_; clear hb ho79; obtain ⟨Ao80, co80, eo80⟩ := Kd.R_slice HO455.out; subst eo80) | ((with_reducible refine gate_callee (f := 6) rfl ?_); refine goesL_ (some 100) rfl rfl Try.func6 (by kernel_rfl) rfl #[.slice Ao80 y453.length co80, .int .i64 t448] rfl (by (try simp only [List.map_toArray, List.map_cons, List.map_nil]); first | done | rfl | (simp only [List.length_drop, List.length_take]; rfl)) ?_; (with_reducible refine (impl_SlopeArea.calls kj17 _ _ y453 t448 t456 false _ ?side1 ?side2 A26.out).mono ?_); (case side1 => repeat (first | exact (Kd.R_reads' HO455.out).2.2 | (with_reducible refine Kd.C_alloc ?_ _) | (with_reducible refine Kd.C_drewN ?_ _) | (with_reducible refine Kd.C_drew ?_))); (case side2 => exact (Kd.R_reads' HO455.out).2.1); rintro e w81 ⟨rfl, hb⟩; refine ⟨_, rfl, ?_⟩; have n0_ := Aside0.mk (Kd.R_below (by (with_reducible repeat (first | apply Kd.R_alloc | apply Kd.R_drewN | apply Kd.R_drew)); exact HO_5.out) hb); have n1_ := Aside0.mk (Kd.R_below (by (with_reducible repeat (first | apply Kd.R_alloc | apply Kd.R_drewN | apply Kd.R_drew)); exact HO455.out) hb); have n2_ := Aside0.mk (below_step (by repeat (first | (with_reducible first | exact HB.out | apply below_alloc | apply pw_below_drewN | apply below_drew1) | exact HB.out)) hb); clear HO_5; clear HO455; clear HB; have HO_5 := n0_; have HO455 := n1_; have HB := n2_; clear n0_ n1_ n2_; (try clear hb); (try clear hb2); (try clear hk); (try clear hi)) | ((with_reducible refine gate_callee (f := 11) rfl ?_); refine goesL_ (some 106) rfl rfl Try.func11 (by kernel_rfl) rfl #[.int .i64 t447, .int .i64 t448] rfl (by (try simp only [List.map_toArray, List.map_cons, List.map_nil]); first | done | rfl | (simp only [List.length_drop, List.length_take]; rfl)) ?_; (with_reducible refine (impl_BoundsOf.calls kj17 t447 t448 t458 t459 _ A27.out).mono ?_); rintro e w82 ⟨v460, rfl, ho0, hb⟩; refine ⟨_, rfl, ?_⟩; have n0_ := Aside0.mk (Kd.R_elder' (by (with_reducible repeat (first | apply Kd.R_alloc | apply Kd.R_drewN | apply Kd.R_drew)); exact HO_5.out) (Kd.R_base ho0) hb); have n1_ := Aside0.mk (Kd.R_elder' (by (with_reducible repeat (first | apply Kd.R_alloc | apply Kd.R_drewN | apply Kd.R_drew)); exact HO455.out) (Kd.R_base ho0) hb); have n2_ := Aside0.mk (Kd.R_lower (Kd.R_new' (Kd.R_new' ho0 (Kd.R_lt (by (with_reducible repeat (first | apply Kd.R_alloc | apply Kd.R_drewN | apply Kd.R_drew)); exact HO_5.out))) (Kd.R_lt (by (with_reducible repeat (first | apply Kd.R_alloc | apply Kd.R_drewN | apply Kd.R_drew)); exact HO455.out))) (below_size (by repeat (first | (with_reducible first | exact HB.out | apply below_alloc | apply pw_below_drewN | apply below_drew1) | exact HB.out)))); have n3_ := Aside0.mk (below_step (by repeat (first | (with_reducible first | exact HB.out | apply below_alloc | apply pw_below_drewN | apply below_drew1) | exact HB.out)) hb); clear HO_5; clear HO455; clear HB; have HO_5 := n0_; have HO455 := n1_; have HO461 := n2_; have HB := n3_; clear n0_ n1_ n2_ n3_; (try clear hb); (try clear hb2); (try clear hk); (try clear hi); (try clear ho0); obtain ⟨Ao83, co83, eo83⟩ := Kd.R_slice HO461.out; subst eo83) | ((with_reducible refine gate_callee (f := 6) rfl ?_); refine goesL_ (some 112) rfl rfl Try.func6 (by kernel_rfl) rfl #[.slice Ao83 t458.length co83, .int .i64 t448] rfl (by (try simp only [List.map_toArray, List.map_cons, List.map_nil]); first | done | rfl | (simp only [List.length_drop, List.length_take]; rfl)) ?_; (with_reducible refine (impl_SlopeArea.calls kj17 _ _ t458 t448 t462 t463 _ ?side1 ?side2 A28.out).mono ?_); (case side1 => repeat (first | exact (Kd.R_reads' HO461.out).2.2 | (with_reducible refine Kd.C_alloc ?_ _) | (with_reducible refine Kd.C_drewN ?_ _) | (with_reducible refine Kd.C_drew ?_))); (case side2 => exact (Kd.R_reads' HO461.out).2.1); rintro e w84 ⟨rfl, hb⟩; refine ⟨_, rfl, ?_⟩; have n0_ := Aside0.mk (Kd.R_below (by (with_reducible repeat (first | apply Kd.R_alloc | apply Kd.R_drewN | apply Kd.R_drew)); exact HO_5.out) hb); have n1_ := Aside0.mk (Kd.R_below (by (with_reducible repeat (first | apply Kd.R_alloc | apply Kd.R_drewN | apply Kd.R_drew)); exact HO455.out) hb); have n2_ := Aside0.mk (Kd.R_below (by (with_reducible repeat (first | apply Kd.R_alloc | apply Kd.R_drewN | apply Kd.R_drew)); exact HO461.out) hb); have n3_ := Aside0.mk (below_step (by repeat (first | (with_reducible first | exact HB.out | apply below_alloc | apply pw_below_drewN | apply below_drew1) | exact HB.out)) hb); clear HO_5; clear HO455; clear HO461; clear HB; have HO_5 := n0_; have HO455 := n1_; have HO461 := n2_; have HB := n3_; clear n0_ n1_ n2_ n3_; (try clear hb); (try clear hb2); (try clear hk); (try clear hi)))
                            go_ret
                            exact ⟨by first | rfl | (simp [errW_none, errW_some] <;> rfl) | (simp [*, errW_none, errW_some] <;> rfl), by repeat (first | (with_reducible first | exact HB.out | apply below_alloc | apply pw_below_drewN | apply below_drew1) | exact HB.out)⟩
                      · rw [if_neg c25] at H
                        exact absurd H (by simp)
                    · rw [if_neg c24] at H
                      exact absurd H (by simp)
                  · replace c23 := Bool.eq_false_iff.mpr c23
                    subst c23
                    have H1 : (laws_FnSlopeAreas.j2 kj17 l1 t439 t440 t443) = some r := by rw [if_neg (show ¬ (false = true) by decide)] at H; exact H
                    clear H
                    have H := H1
                    clear H1
                    as_aux_lemma =>
                      have H' := Aside0.mk H
                      clear H
                      go_wp2
                      go_meet
                      case rel => exact ⟨_, H', ⟨by have := HJ7.out; have := HJ17.out; first | omega | exact Nat.le_refl _⟩, ⟨by (with_reducible repeat (first | apply Kd.R_alloc | apply Kd.R_drewN | apply Kd.R_drew)); exact HO_5.out⟩, ⟨by repeat (first | (with_reducible first | exact HB.out | apply below_alloc | apply pw_below_drewN | apply below_drew1) | exact HB.out)⟩⟩
                case rest =>
                  clear HC22
                  try clear c1
                  try clear c2
                  try clear p2
                  try clear c3
                  try clear c4
                  try clear c5
                  try clear c6
                  try clear c7
                  try clear c8
                  try clear c9
                  try clear c10
                  try clear c11
                  try clear c13
                  try clear c13b0
                  try clear c13b1
                  try clear c13b2
                  try clear c14
                  try clear c20
                  try clear c20b0
                  try clear c20b1
                  try clear c20b2
                  try clear c21
                  try clear c23
                  try clear c24
                  try clear c24b0
                  try clear c24b1
                  try clear c25
                  try clear c25b0
                  try clear c25b1
                  try clear c29
                  try clear c30
                  try clear c31
                  try clear c32
                  try clear c32b0
                  try clear c32b1
                  try clear c33
                  try clear c33b0
                  try clear c33b1
                  try clear c35
                  try clear c35b0
                  try clear c35b1
                  try clear p2
                  obtain ⟨kq, HA, HJ21, HO_5, HB⟩ := hcut
                  cases kq with
                  | zero => exact absurd HA.out (by simp [laws_FnSlopeAreas.j2])
                  | succ kj21 =>
                    have H := HA.out
                    clear HA
                    simp only [laws_FnSlopeAreas.j2] at H
                    replace H := Option.bind_eq_some_iff.mp H
                    obtain ⟨t465, A850, H⟩ := H
                    replace H : ((impl_UsualOf.f kj21 t465).bind fun bt468 => ((spec_UsualOf.f kj21 t465).bind fun bt472 => (if (bt468.2 != bt472.2) = true then (laws_FnSlopeAreas.j3 kj21 t439 t440 t443 t465 bt468.1 bt468.2 true) else ((laws_wSame.f kj21 bt468.1 bt472.1).bind fun t476 => (laws_FnSlopeAreas.j3 kj21 t439 t440 t443 t465 bt468.1 bt468.2 (!t476)))))) = some r := H
                    have A85 := Aside0.mk A850
                    clear A850
                    replace H := Option.bind_eq_some_iff.mp H
                    obtain ⟨⟨t468, t469⟩, A860, H⟩ := H
                    replace H : ((spec_UsualOf.f kj21 t465).bind fun bt472 => (if (t469 != bt472.2) = true then (laws_FnSlopeAreas.j3 kj21 t439 t440 t443 t465 t468 t469 true) else ((laws_wSame.f kj21 t468 bt472.1).bind fun t476 => (laws_FnSlopeAreas.j3 kj21 t439 t440 t443 t465 t468 t469 (!t476))))) = some r := H
                    have A86 := Aside0.mk A860
                    clear A860
                    replace H := Option.bind_eq_some_iff.mp H
                    obtain ⟨⟨t472, t473⟩, A870, H⟩ := H
                    replace H : (if (t469 != t473) = true then (laws_FnSlopeAreas.j3 kj21 t439 t440 t443 t465 t468 t469 true) else ((laws_wSame.f kj21 t468 t472).bind fun t476 => (laws_FnSlopeAreas.j3 kj21 t439 t440 t443 t465 t468 t469 (!t476)))) = some r := H
                    have A87 := Aside0.mk A870
                    clear A870
                    have HC88 := Aside0.mk H
                    clear H
                    go_upto_region 22 with (first | ((with_reducible refine gate_callee (f := 13) rfl ?_); refine goesL_ (some 141) rfl rfl Try.func13 (by kernel_rfl) rfl #[.slice A1 l1.length c1] rfl (by (try simp only [List.map_toArray, List.map_cons, List.map_nil]); first | done | rfl | (simp only [List.length_drop, List.length_take]; rfl)) ?_; (with_reducible refine (spec_DrawUsualOf.calls kj21 _ _ l1 t465 _ ?side1 ?side2 A85.out).mono ?_); (case side1 => repeat (first | exact (Kd.C_below HR1.out HB.out) | (with_reducible refine Kd.C_alloc ?_ _) | (with_reducible refine Kd.C_drewN ?_ _) | (with_reducible refine Kd.C_drew ?_))); (case side2 => exact HC1.out); rintro e w89 ⟨v466, rfl, ho0, hb⟩; refine ⟨_, rfl, ?_⟩; have n0_ := Aside0.mk (Kd.R_elder' (by (with_reducible repeat (first | apply Kd.R_alloc | apply Kd.R_drewN | apply Kd.R_drew)); exact HO_5.out) (Kd.R_base ho0) hb); have n1_ := Aside0.mk (Kd.R_lower (Kd.R_new' ho0 (Kd.R_lt (by (with_reducible repeat (first | apply Kd.R_alloc | apply Kd.R_drewN | apply Kd.R_drew)); exact HO_5.out))) (below_size (by repeat (first | (with_reducible first | exact HB.out | apply below_alloc | apply pw_below_drewN | apply below_drew1) | exact HB.out)))); have n2_ := Aside0.mk (below_step (by repeat (first | (with_reducible first | exact HB.out | apply below_alloc | apply pw_below_drewN | apply below_drew1) | exact HB.out)) hb); clear HO_5; clear HB; have HO_5 := n0_; have HO467 := n1_; have HB := n2_; clear n0_ n1_ n2_; (try clear hb); (try clear hb2); (try clear hk); (try clear hi); (try clear ho0); obtain ⟨Ao90, co90, eo90⟩ := Kd.R_slice HO467.out; subst eo90) | ((with_reducible refine gate_callee (f := 14) rfl ?_); refine goesL_ (some 144) rfl rfl Try.func14 (by kernel_rfl) rfl #[.slice Ao90 t465.length co90] rfl (by (try simp only [List.map_toArray, List.map_cons, List.map_nil]); first | done | rfl | (simp only [List.length_drop, List.length_take]; rfl)) ?_; (with_reducible refine (impl_UsualOf.calls kj21 _ _ t465 t468 t469 _ ?side1 ?side2 A86.out).mono ?_); (case side1 => repeat (first | exact (Kd.R_reads' HO467.out).2.2 | (with_reducible refine Kd.C_alloc ?_ _) | (with_reducible refine Kd.C_drewN ?_ _) | (with_reducible refine Kd.C_drew ?_))); (case side2 => exact (Kd.R_reads' HO467.out).2.1); rintro e w91 ⟨v470, rfl, ho0, hb⟩; refine ⟨_, rfl, ?_⟩; have n0_ := Aside0.mk (Kd.R_elder' (by (with_reducible repeat (first | apply Kd.R_alloc | apply Kd.R_drewN | apply Kd.R_drew)); exact HO_5.out) (Kd.R_base ho0) hb); have n1_ := Aside0.mk (Kd.R_elder' (by (with_reducible repeat (first | apply Kd.R_alloc | apply Kd.R_drewN | apply Kd.R_drew)); exact HO467.out) (Kd.R_base ho0) hb); have n2_ := Aside0.mk (Kd.R_lower (Kd.R_new' (Kd.R_new' ho0 (Kd.R_lt (by (with_reducible repeat (first | apply Kd.R_alloc | apply Kd.R_drewN | apply Kd.R_drew)); exact HO_5.out))) (Kd.R_lt (by (with_reducible repeat (first | apply Kd.R_alloc | apply Kd.R_drewN | apply Kd.R_drew)); exact HO467.out))) (below_size (by repeat (first | (with_reducible first | exact HB.out | apply below_alloc | apply pw_below_drewN | apply below_drew1) | exact HB.out)))); have n3_ := Aside0.mk (below_step (by repeat (first | (with_reducible first | exact HB.out | apply below_alloc | apply pw_below_drewN | apply below_drew1) | exact HB.out)) hb); clear HO_5; clear HO467; clear HB; have HO_5 := n0_; have HO467 := n1_; have HO471 := n2_; have HB := n3_; clear n0_ n1_ n2_ n3_; (try clear hb); (try clear hb2); (try clear hk); (try clear hi); (try clear ho0)) | ((with_reducible refine gate_callee (f := 15) rfl ?_); refine goesL_ (some 149) rfl rfl Try.func15 (by kernel_rfl) rfl #[.slice Ao90 t465.length co90] rfl (by (try simp only [List.map_toArray, List.map_cons, List.map_nil]); first | done | rfl | (simp only [List.length_drop, List.length_take]; rfl)) ?_; (with_reducible refine (spec_UsualOf.calls kj21 _ _ t465 t472 t473 _ ?side1 ?side2 A87.out).mono ?_); (case side1 => repeat (first | exact (Kd.R_reads' HO467.out).2.2 | (with_reducible refine Kd.C_alloc ?_ _) | (with_reducible refine Kd.C_drewN ?_ _) | (with_reducible refine Kd.C_drew ?_))); (case side2 => exact (Kd.R_reads' HO467.out).2.1); rintro e w92 ⟨v474, rfl, ho0, hb⟩; refine ⟨_, rfl, ?_⟩; have n0_ := Aside0.mk (Kd.R_elder' (by (with_reducible repeat (first | apply Kd.R_alloc | apply Kd.R_drewN | apply Kd.R_drew)); exact HO_5.out) (Kd.R_base ho0) hb); have n1_ := Aside0.mk (Kd.R_elder' (by (with_reducible repeat (first | apply Kd.R_alloc | apply Kd.R_drewN | apply Kd.R_drew)); exact HO467.out) (Kd.R_base ho0) hb); have n2_ := Aside0.mk (Kd.R_elder' (by (with_reducible repeat (first | apply Kd.R_alloc | apply Kd.R_drewN | apply Kd.R_drew)); exact HO471.out) (Kd.R_base ho0) hb); have n3_ := Aside0.mk (Kd.R_lower (Kd.R_new' (Kd.R_new' (Kd.R_new' ho0 (Kd.R_lt (by (with_reducible repeat (first | apply Kd.R_alloc | apply Kd.R_drewN | apply Kd.R_drew)); exact HO_5.out))) (Kd.R_lt (by (with_reducible repeat (first | apply Kd.R_alloc | apply Kd.R_drewN | apply Kd.R_drew)); exact HO467.out))) (Kd.R_lt (by (with_reducible repeat (first | apply Kd.R_alloc | apply Kd.R_drewN | apply Kd.R_drew)); exact HO471.out))) (below_size (by repeat (first | (with_reducible first | exact HB.out | apply below_alloc | apply pw_below_drewN | apply below_drew1) | exact HB.out)))); have n4_ := Aside0.mk (below_step (by repeat (first | (with_reducible first | exact HB.out | apply below_alloc | apply pw_below_drewN | apply below_drew1) | exact HB.out)) hb); clear HO_5; clear HO467; clear HO471; clear HB; have HO_5 := n0_; have HO467 := n1_; have HO471 := n2_; have HO475 := n3_; have HB := n4_; clear n0_ n1_ n2_ n3_ n4_; (try clear hb); (try clear hb2); (try clear hk); (try clear hi); (try clear ho0)))
                    (try simp only [Act.put, List.setIfInBounds_toArray, List.set_cons_zero, List.set_cons_succ])
                    go_cut [160] (fun v160 wc => ∃ (kq : Nat) (x160_87 : Bool), v160 = .bool x160_87 ∧ Aside0 (laws_FnSlopeAreas.j3 kq t439 t440 t443 t465 t468 t469 x160_87 = some r) ∧ Aside0 (kq ≤ kj21) ∧ Aside0 (Kd.R (Kd.int .i64) 3 wc w.heap.size (fun k_ => some k_ ≠ ((.slice Ao90 t465.length co90) : Value).ownBlock ∧ some k_ ≠ (v470 : Value).ownBlock) (.slice Ao10 t439.length co10) t439) ∧ Aside0 (Kd.R (Kd.int .i64) 3 wc w.heap.size (fun k_ => some k_ ≠ ((.slice Ao10 t439.length co10) : Value).ownBlock ∧ some k_ ≠ (v470 : Value).ownBlock) (.slice Ao90 t465.length co90) t465) ∧ Aside0 (Kd.R (Kd.int .i64) 3 wc w.heap.size (fun k_ => some k_ ≠ ((.slice Ao10 t439.length co10) : Value).ownBlock ∧ some k_ ≠ ((.slice Ao90 t465.length co90) : Value).ownBlock) v470 t468) ∧ Aside0 (Below w.heap.size w wc))
                    case first =>
                      have H := HC88.out
                      clear HC88
                      by_cases c93 : (t469 != t473) = true
                      · rw [if_pos c93] at H
                        have c93b0 : (t469 != t473) = true := c93
                        (try (have c93b1 : decide (t469 = t473) = false := by simpa using c93))
                        (try (have c93b2 : (t469 == t473) = false := by simpa using c93))
                        (try (have c93b3 : ¬ (t469 = t473) := by simpa using c93))
                        clear c93
                        (first | rw [c93b0] | (simp only [i64_w, i32_w]; rw [c93b0]) | skip)
                        as_aux_lemma =>
                          have H' := Aside0.mk H
                          clear H
                          go_wp2
                          go_meet
                          case rel => exact ⟨_, (true), (by first | rfl | (simp; done) | (simp [*]; done)), H', ⟨by have := HJ7.out; have := HJ17.out; have := HJ21.out; first | omega | exact Nat.le_refl _⟩, ⟨by (with_reducible repeat (first | apply Kd.R_alloc | apply Kd.R_drewN | apply Kd.R_drew)); exact Kd.R_mono HO_5.out (fun _ hk => ⟨hk.1.1.2, hk.1.2⟩)⟩, ⟨by (with_reducible repeat (first | apply Kd.R_alloc | apply Kd.R_drewN | apply Kd.R_drew)); exact Kd.R_mono HO467.out (fun _ hk => ⟨hk.1.1.2, hk.1.2⟩)⟩, ⟨by (with_reducible repeat (first | apply Kd.R_alloc | apply Kd.R_drewN | apply Kd.R_drew)); exact Kd.R_mono HO471.out (fun _ hk => ⟨hk.1.1.2, hk.1.2⟩)⟩, ⟨by repeat (first | (with_reducible first | exact HB.out | apply below_alloc | apply pw_below_drewN | apply below_drew1) | exact HB.out)⟩⟩
                      · rw [if_neg c93] at H
                        have c93b0 : (t469 != t473) = false := by simpa using c93
                        (try (have c93b1 : decide (t469 = t473) = true := by simpa using c93))
                        (try (have c93b2 : (t469 == t473) = true := by simpa using c93))
                        clear c93
                        (first | rw [c93b0] | (simp only [i64_w, i32_w]; rw [c93b0]) | skip)
                        replace H := Option.bind_eq_some_iff.mp H
                        obtain ⟨t476, A940, H⟩ := H
                        replace H : (laws_FnSlopeAreas.j3 kj21 t439 t440 t443 t465 t468 t469 (!t476)) = some r := H
                        have A94 := Aside0.mk A940
                        clear A940
                        as_aux_lemma =>
                          have H' := Aside0.mk H
                          clear H
                          obtain ⟨Ao95, co95, eo95⟩ := Kd.R_slice HO471.out
                          subst eo95
                          obtain ⟨Ao96, co96, eo96⟩ := Kd.R_slice HO475.out
                          subst eo96
                          go_wp2_with (first | (go_at_call 16; (with_reducible refine (laws_wSame.calls kj21 _ _ t468 _ _ t472 t476 _ ?side1 ?side2 ?side3 ?side4 A94.out).mono ?_); (case side1 => repeat (first | exact (Kd.R_reads' HO471.out).2.2 | (with_reducible refine Kd.C_alloc ?_ _) | (with_reducible refine Kd.C_drewN ?_ _) | (with_reducible refine Kd.C_drew ?_))); (case side2 => exact (Kd.R_reads' HO471.out).2.1); (case side3 => repeat (first | exact (Kd.R_reads' HO475.out).2.2 | (with_reducible refine Kd.C_alloc ?_ _) | (with_reducible refine Kd.C_drewN ?_ _) | (with_reducible refine Kd.C_drew ?_))); (case side4 => exact (Kd.R_reads' HO475.out).2.1); rintro e w' ⟨rfl, ⟨nd, rfl⟩⟩))
                          go_meet
                          case rel => exact ⟨_, (!t476), (by first | rfl | (simp; done) | (simp [*]; done)), H', ⟨by have := HJ7.out; have := HJ17.out; have := HJ21.out; first | omega | exact Nat.le_refl _⟩, ⟨by (with_reducible repeat (first | apply Kd.R_alloc | apply Kd.R_drewN | apply Kd.R_drew)); exact Kd.R_mono HO_5.out (fun _ hk => ⟨hk.1.1.2, hk.1.2⟩)⟩, ⟨by (with_reducible repeat (first | apply Kd.R_alloc | apply Kd.R_drewN | apply Kd.R_drew)); exact Kd.R_mono HO467.out (fun _ hk => ⟨hk.1.1.2, hk.1.2⟩)⟩, ⟨by (with_reducible repeat (first | apply Kd.R_alloc | apply Kd.R_drewN | apply Kd.R_drew)); exact Kd.R_mono HO471.out (fun _ hk => ⟨hk.1.1.2, hk.1.2⟩)⟩, ⟨by repeat (first | (with_reducible first | exact HB.out | apply below_alloc | apply pw_below_drewN | apply below_drew1) | exact HB.out)⟩⟩
                    case rest =>
                      clear HC88
                      try clear c1
                      try clear c2
                      try clear p2
                      try clear c3
                      try clear c4
                      try clear c5
                      try clear c6
                      try clear c7
                      try clear c8
                      try clear c9
                      try clear c10
                      try clear c11
                      try clear c13
                      try clear c13b0
                      try clear c13b1
                      try clear c13b2
                      try clear c14
                      try clear c15
                      try clear c20
                      try clear c20b0
                      try clear c20b1
                      try clear c20b2
                      try clear c21
                      try clear c23
                      try clear c24
                      try clear c24b0
                      try clear c24b1
                      try clear c25
                      try clear c25b0
                      try clear c25b1
                      try clear c29
                      try clear c30
                      try clear c31
                      try clear c32
                      try clear c32b0
                      try clear c32b1
                      try clear c33
                      try clear c33b0
                      try clear c33b1
                      try clear c35
                      try clear c35b0
                      try clear c35b1
                      try clear c93
                      try clear c93b0
                      try clear c93b1
                      try clear c93b2
                      try clear p2
                      obtain ⟨kq, x160_87, rfl, HA, HJ87, HO_5, HO_23, HO_24, HB⟩ := hcut
                      cases kq with
                      | zero => exact absurd HA.out (by simp [laws_FnSlopeAreas.j3])
                      | succ kj87 =>
                        have H := HA.out
                        clear HA
                        simp only [laws_FnSlopeAreas.j3] at H
                        by_cases c97 : x160_87 = true
                        · subst c97
                          have H1 : (some false) = some r := by rw [if_pos rfl] at H; exact H
                          clear H
                          have H := H1
                          clear H1
                          as_aux_lemma =>
                            obtain rfl := Option.some.inj H
                            go_wp2
                            go_ret
                            exact ⟨by first | rfl | (simp [errW_none, errW_some] <;> rfl) | (simp [*, errW_none, errW_some] <;> rfl), by repeat (first | (with_reducible first | exact HB.out | apply below_alloc | apply pw_below_drewN | apply below_drew1) | exact HB.out)⟩
                        · replace c97 := Bool.eq_false_iff.mpr c97
                          subst c97
                          have H1 : (if t469 = true then ((impl_SlopeArea.f kj87 t465 (wrap64 ((t465.length : Int) + 1))).bind fun bt477 => ((impl_TotalDistance.f kj87 t468 (t468.length : Int)).bind fun bt479 => (if bt477.2 = true then (if bt479.2 = true then (if bt477.1 = bt479.1 then (laws_FnSlopeAreas.j4 kj87 t439 t440 t443) else (some false)) else (some false)) else (some false)))) else (laws_FnSlopeAreas.j4 kj87 t439 t440 t443)) = some r := by rw [if_neg (show ¬ (false = true) by decide)] at H; exact H
                          clear H
                          have H := H1
                          clear H1
                          have HC98 := Aside0.mk H
                          clear H
                          go_upto_if 161 with (fail)
                          go_cut [] (fun wc => ∃ (kq : Nat), Aside0 (laws_FnSlopeAreas.j4 kq t439 t440 t443 = some r) ∧ Aside0 (kq ≤ kj87) ∧ Aside0 (Kd.R (Kd.int .i64) 3 wc w.heap.size (fun _ => True) (.slice Ao10 t439.length co10) t439) ∧ Aside0 (Below w.heap.size w wc))
                          case first =>
                            have H := HC98.out
                            clear HC98
                            by_cases c99 : t469 = true
                            · subst c99
                              have H1 : ((impl_SlopeArea.f kj87 t465 (wrap64 ((t465.length : Int) + 1))).bind fun bt477 => ((impl_TotalDistance.f kj87 t468 (t468.length : Int)).bind fun bt479 => (if bt477.2 = true then (if bt479.2 = true then (if bt477.1 = bt479.1 then (laws_FnSlopeAreas.j4 kj87 t439 t440 t443) else (some false)) else (some false)) else (some false)))) = some r := by rw [if_pos rfl] at H; exact H
                              clear H
                              have H := H1
                              clear H1
                              replace H := Option.bind_eq_some_iff.mp H
                              obtain ⟨⟨t477, t478⟩, A1000, H⟩ := H
                              replace H : ((impl_TotalDistance.f kj87 t468 (t468.length : Int)).bind fun bt479 => (if t478 = true then (if bt479.2 = true then (if t477 = bt479.1 then (laws_FnSlopeAreas.j4 kj87 t439 t440 t443) else (some false)) else (some false)) else (some false))) = some r := H
                              have A100 := Aside0.mk A1000
                              clear A1000
                              replace H := Option.bind_eq_some_iff.mp H
                              obtain ⟨⟨t479, t480⟩, A1010, H⟩ := H
                              replace H : (if t478 = true then (if t480 = true then (if t477 = t479 then (laws_FnSlopeAreas.j4 kj87 t439 t440 t443) else (some false)) else (some false)) else (some false)) = some r := H
                              have A101 := Aside0.mk A1010
                              clear A1010
                              by_cases c102 : t478 = true
                              · subst c102
                                have H1 : (if t480 = true then (if t477 = t479 then (laws_FnSlopeAreas.j4 kj87 t439 t440 t443) else (some false)) else (some false)) = some r := by rw [if_pos rfl] at H; exact H
                                clear H
                                have H := H1
                                clear H1
                                by_cases c103 : t480 = true
                                · subst c103
                                  have H1 : (if t477 = t479 then (laws_FnSlopeAreas.j4 kj87 t439 t440 t443) else (some false)) = some r := by rw [if_pos rfl] at H; exact H
                                  clear H
                                  have H := H1
                                  clear H1
                                  by_cases c104 : t477 = t479
                                  · rw [if_pos c104] at H
                                    have c104b0 : (t477 == t479) = true := beq_iff_eq.mpr c104
                                    have c104b1 : (t477 != t479) = false := bne_eq_false_iff_eq.mpr c104
                                    clear c104
                                    (first | rw [c104b0] | (simp only [i64_w, i32_w]; rw [c104b0]) | skip)
                                    as_aux_lemma =>
                                      have H' := Aside0.mk H
                                      clear H
                                      go_wp2_with (first | ((with_reducible refine gate_callee (f := 6) rfl ?_); refine goesL_ (some 167) rfl rfl Try.func6 (by kernel_rfl) rfl #[.slice Ao90 t465.length co90, .int .i64 (wrap64 ((t465.length : Int) + 1))] rfl (by (try simp only [List.map_toArray, List.map_cons, List.map_nil]); first | done | rfl | (simp only [List.length_drop, List.length_take]; rfl)) ?_; (with_reducible refine (impl_SlopeArea.calls kj87 _ _ t465 (wrap64 ((t465.length : Int) + 1)) t477 true _ ?side1 ?side2 A100.out).mono ?_); (case side1 => repeat (first | exact (Kd.R_reads' HO_23.out).2.2 | (with_reducible refine Kd.C_alloc ?_ _) | (with_reducible refine Kd.C_drewN ?_ _) | (with_reducible refine Kd.C_drew ?_))); (case side2 => exact (Kd.R_reads' HO_23.out).2.1); rintro e w105 ⟨rfl, hb⟩; refine ⟨_, rfl, ?_⟩; have n0_ := Aside0.mk (Kd.R_below (by (with_reducible repeat (first | apply Kd.R_alloc | apply Kd.R_drewN | apply Kd.R_drew)); exact HO_5.out) hb); have n1_ := Aside0.mk (Kd.R_below (by (with_reducible repeat (first | apply Kd.R_alloc | apply Kd.R_drewN | apply Kd.R_drew)); exact HO_23.out) hb); have n2_ := Aside0.mk (Kd.R_below (by (with_reducible repeat (first | apply Kd.R_alloc | apply Kd.R_drewN | apply Kd.R_drew)); exact HO_24.out) hb); have n3_ := Aside0.mk (below_step (by repeat (first | (with_reducible first | exact HB.out | apply below_alloc | apply pw_below_drewN | apply below_drew1) | exact HB.out)) hb); clear HO_5; clear HO_23; clear HO_24; clear HB; have HO_5 := n0_; have HO_23 := n1_; have HO_24 := n2_; have HB := n3_; clear n0_ n1_ n2_ n3_; (try clear hb); (try clear hb2); (try clear hk); (try clear hi); obtain ⟨Ao106, co106, eo106⟩ := Kd.R_slice HO_24.out; subst eo106) | ((with_reducible refine gate_callee (f := 17) rfl ?_); refine goesL_ (some 174) rfl rfl Try.func17 (by kernel_rfl) rfl #[.slice Ao106 t468.length co106, .int .i64 (t468.length : Int)] rfl (by (try simp only [List.map_toArray, List.map_cons, List.map_nil]); first | done | rfl | (simp only [List.length_drop, List.length_take]; rfl)) ?_; (with_reducible refine (impl_TotalDistance.calls kj87 _ _ t468 (t468.length : Int) t479 true _ ?side1 ?side2 A101.out).mono ?_); (case side1 => repeat (first | exact (Kd.R_reads' HO_24.out).2.2 | (with_reducible refine Kd.C_alloc ?_ _) | (with_reducible refine Kd.C_drewN ?_ _) | (with_reducible refine Kd.C_drew ?_))); (case side2 => exact (Kd.R_reads' HO_24.out).2.1); rintro e w107 ⟨rfl, hb⟩; refine ⟨_, rfl, ?_⟩; have n0_ := Aside0.mk (Kd.R_below (by (with_reducible repeat (first | apply Kd.R_alloc | apply Kd.R_drewN | apply Kd.R_drew)); exact HO_5.out) hb); have n1_ := Aside0.mk (Kd.R_below (by (with_reducible repeat (first | apply Kd.R_alloc | apply Kd.R_drewN | apply Kd.R_drew)); exact HO_23.out) hb); have n2_ := Aside0.mk (Kd.R_below (by (with_reducible repeat (first | apply Kd.R_alloc | apply Kd.R_drewN | apply Kd.R_drew)); exact HO_24.out) hb); have n3_ := Aside0.mk (below_step (by repeat (first | (with_reducible first | exact HB.out | apply below_alloc | apply pw_below_drewN | apply below_drew1) | exact HB.out)) hb); clear HO_5; clear HO_23; clear HO_24; clear HB; have HO_5 := n0_; have HO_23 := n1_; have HO_24 := n2_; have HB := n3_; clear n0_ n1_ n2_ n3_; (try clear hb); (try clear hb2); (try clear hk); (try clear hi)))
                                      go_meet
                                      case rel => exact ⟨_, H', ⟨by have := HJ7.out; have := HJ17.out; have := HJ21.out; have := HJ87.out; first | omega | exact Nat.le_refl _⟩, ⟨by (with_reducible repeat (first | apply Kd.R_alloc | apply Kd.R_drewN | apply Kd.R_drew)); exact Kd.R_mono HO_5.out (fun _ hk => trivial)⟩, ⟨by repeat (first | (with_reducible first | exact HB.out | apply below_alloc | apply pw_below_drewN | apply below_drew1) | exact HB.out)⟩⟩
                                  · rw [if_neg c104] at H
                                    have c104b0 : (t477 == t479) = false := beq_eq_false_iff_ne.mpr c104
                                    have c104b1 : (t477 != t479) = true := bne_iff_ne.mpr c104
                                    (first | rw [c104b0] | (simp only [i64_w, i32_w]; rw [c104b0]) | skip)
                                    as_aux_lemma =>
                                      obtain rfl := Option.some.inj H
                                      go_wp2_with (first | ((with_reducible refine gate_callee (f := 6) rfl ?_); refine goesL_ (some 167) rfl rfl Try.func6 (by kernel_rfl) rfl #[.slice Ao90 t465.length co90, .int .i64 (wrap64 ((t465.length : Int) + 1))] rfl (by (try simp only [List.map_toArray, List.map_cons, List.map_nil]); first | done | rfl | (simp only [List.length_drop, List.length_take]; rfl)) ?_; (with_reducible refine (impl_SlopeArea.calls kj87 _ _ t465 (wrap64 ((t465.length : Int) + 1)) t477 true _ ?side1 ?side2 A100.out).mono ?_); (case side1 => repeat (first | exact (Kd.R_reads' HO_23.out).2.2 | (with_reducible refine Kd.C_alloc ?_ _) | (with_reducible refine Kd.C_drewN ?_ _) | (with_reducible refine Kd.C_drew ?_))); (case side2 => exact (Kd.R_reads' HO_23.out).2.1); rintro e w108 ⟨rfl, hb⟩; refine ⟨_, rfl, ?_⟩; have n0_ := Aside0.mk (Kd.R_below (by (with_reducible repeat (first | apply Kd.R_alloc | apply Kd.R_drewN | apply Kd.R_drew)); exact HO_5.out) hb); have n1_ := Aside0.mk (Kd.R_below (by (with_reducible repeat (first | apply Kd.R_alloc | apply Kd.R_drewN | apply Kd.R_drew)); exact HO_23.out) hb); have n2_ := Aside0.mk (Kd.R_below (by (with_reducible repeat (first | apply Kd.R_alloc | apply Kd.R_drewN | apply Kd.R_drew)); exact HO_24.out) hb); have n3_ := Aside0.mk (below_step (by repeat (first | (with_reducible first | exact HB.out | apply below_alloc | apply pw_below_drewN | apply below_drew1) | exact HB.out)) hb); clear HO_5; clear HO_23; clear HO_24; clear HB; have HO_5 := n0_; have HO_23 := n1_; have HO_24 := n2_; have HB := n3_; clear n0_ n1_ n2_ n3_; (try clear hb); (try clear hb2); (try clear hk); (try clear hi); obtain ⟨Ao109, co109, eo109⟩ := Kd.R_slice HO_24.out; subst eo109) | ((with_reducible refine gate_callee (f := 17) rfl ?_); refine goesL_ (some 174) rfl rfl Try.func17 (by kernel_rfl) rfl #[.slice Ao109 t468.length co109, .int .i64 (t468.length : Int)] rfl (by (try simp only [List.map_toArray, List.map_cons, List.map_nil]); first | done | rfl | (simp only [List.length_drop, List.length_take]; rfl)) ?_; (with_reducible refine (impl_TotalDistance.calls kj87 _ _ t468 (t468.length : Int) t479 true _ ?side1 ?side2 A101.out).mono ?_); (case side1 => repeat (first | exact (Kd.R_reads' HO_24.out).2.2 | (with_reducible refine Kd.C_alloc ?_ _) | (with_reducible refine Kd.C_drewN ?_ _) | (with_reducible refine Kd.C_drew ?_))); (case side2 => exact (Kd.R_reads' HO_24.out).2.1); rintro e w110 ⟨rfl, hb⟩; refine ⟨_, rfl, ?_⟩; have n0_ := Aside0.mk (Kd.R_below (by (with_reducible repeat (first | apply Kd.R_alloc | apply Kd.R_drewN | apply Kd.R_drew)); exact HO_5.out) hb); have n1_ := Aside0.mk (Kd.R_below (by (with_reducible repeat (first | apply Kd.R_alloc | apply Kd.R_drewN | apply Kd.R_drew)); exact HO_23.out) hb); have n2_ := Aside0.mk (Kd.R_below (by (with_reducible repeat (first | apply Kd.R_alloc | apply Kd.R_drewN | apply Kd.R_drew)); exact HO_24.out) hb); have n3_ := Aside0.mk (below_step (by repeat (first | (with_reducible first | exact HB.out | apply below_alloc | apply pw_below_drewN | apply below_drew1) | exact HB.out)) hb); clear HO_5; clear HO_23; clear HO_24; clear HB; have HO_5 := n0_; have HO_23 := n1_; have HO_24 := n2_; have HB := n3_; clear n0_ n1_ n2_ n3_; (try clear hb); (try clear hb2); (try clear hk); (try clear hi)))
                                      go_ret
                                      exact ⟨by first | rfl | (simp [errW_none, errW_some] <;> rfl) | (simp [*, errW_none, errW_some] <;> rfl), by repeat (first | (with_reducible first | exact HB.out | apply below_alloc | apply pw_below_drewN | apply below_drew1) | exact HB.out)⟩
                                · replace c103 := Bool.eq_false_iff.mpr c103
                                  subst c103
                                  have H1 : (some false) = some r := by rw [if_neg (show ¬ (false = true) by decide)] at H; exact H
                                  clear H
                                  have H := H1
                                  clear H1
                                  as_aux_lemma =>
                                    obtain rfl := Option.some.inj H
                                    go_wp2_with (first | ((with_reducible refine gate_callee (f := 6) rfl ?_); refine goesL_ (some 167) rfl rfl Try.func6 (by kernel_rfl) rfl #[.slice Ao90 t465.length co90, .int .i64 (wrap64 ((t465.length : Int) + 1))] rfl (by (try simp only [List.map_toArray, List.map_cons, List.map_nil]); first | done | rfl | (simp only [List.length_drop, List.length_take]; rfl)) ?_; (with_reducible refine (impl_SlopeArea.calls kj87 _ _ t465 (wrap64 ((t465.length : Int) + 1)) t477 true _ ?side1 ?side2 A100.out).mono ?_); (case side1 => repeat (first | exact (Kd.R_reads' HO_23.out).2.2 | (with_reducible refine Kd.C_alloc ?_ _) | (with_reducible refine Kd.C_drewN ?_ _) | (with_reducible refine Kd.C_drew ?_))); (case side2 => exact (Kd.R_reads' HO_23.out).2.1); rintro e w111 ⟨rfl, hb⟩; refine ⟨_, rfl, ?_⟩; have n0_ := Aside0.mk (Kd.R_below (by (with_reducible repeat (first | apply Kd.R_alloc | apply Kd.R_drewN | apply Kd.R_drew)); exact HO_5.out) hb); have n1_ := Aside0.mk (Kd.R_below (by (with_reducible repeat (first | apply Kd.R_alloc | apply Kd.R_drewN | apply Kd.R_drew)); exact HO_23.out) hb); have n2_ := Aside0.mk (Kd.R_below (by (with_reducible repeat (first | apply Kd.R_alloc | apply Kd.R_drewN | apply Kd.R_drew)); exact HO_24.out) hb); have n3_ := Aside0.mk (below_step (by repeat (first | (with_reducible first | exact HB.out | apply below_alloc | apply pw_below_drewN | apply below_drew1) | exact HB.out)) hb); clear HO_5; clear HO_23; clear HO_24; clear HB; have HO_5 := n0_; have HO_23 := n1_; have HO_24 := n2_; have HB := n3_; clear n0_ n1_ n2_ n3_; (try clear hb); (try clear hb2); (try clear hk); (try clear hi); obtain ⟨Ao112, co112, eo112⟩ := Kd.R_slice HO_24.out; subst eo112) | ((with_reducible refine gate_callee (f := 17) rfl ?_); refine goesL_ (some 174) rfl rfl Try.func17 (by kernel_rfl) rfl #[.slice Ao112 t468.length co112, .int .i64 (t468.length : Int)] rfl (by (try simp only [List.map_toArray, List.map_cons, List.map_nil]); first | done | rfl | (simp only [List.length_drop, List.length_take]; rfl)) ?_; (with_reducible refine (impl_TotalDistance.calls kj87 _ _ t468 (t468.length : Int) t479 false _ ?side1 ?side2 A101.out).mono ?_); (case side1 => repeat (first | exact (Kd.R_reads' HO_24.out).2.2 | (with_reducible refine Kd.C_alloc ?_ _) | (with_reducible refine Kd.C_drewN ?_ _) | (with_reducible refine Kd.C_drew ?_))); (case side2 => exact (Kd.R_reads' HO_24.out).2.1); rintro e w113 ⟨rfl, hb⟩; refine ⟨_, rfl, ?_⟩; have n0_ := Aside0.mk (Kd.R_below (by (with_reducible repeat (first | apply Kd.R_alloc | apply Kd.R_drewN | apply Kd.R_drew)); exact HO_5.out) hb); have n1_ := Aside0.mk (Kd.R_below (by (with_reducible repeat (first | apply Kd.R_alloc | apply Kd.R_drewN | apply Kd.R_drew)); exact HO_23.out) hb); have n2_ := Aside0.mk (Kd.R_below (by (with_reducible repeat (first | apply Kd.R_alloc | apply Kd.R_drewN | apply Kd.R_drew)); exact HO_24.out) hb); have n3_ := Aside0.mk (below_step (by repeat (first | (with_reducible first | exact HB.out | apply below_alloc | apply pw_below_drewN | apply below_drew1) | exact HB.out)) hb); clear HO_5; clear HO_23; clear HO_24; clear HB; have HO_5 := n0_; have HO_23 := n1_; have HO_24 := n2_; have HB := n3_; clear n0_ n1_ n2_ n3_; (try clear hb); (try clear hb2); (try clear hk); (try clear hi)))
                                    go_ret
                                    exact ⟨by first | rfl | (simp [errW_none, errW_some] <;> rfl) | (simp [*, errW_none, errW_some] <;> rfl), by repeat (first | (with_reducible first | exact HB.out | apply below_alloc | apply pw_below_drewN | apply below_drew1) | exact HB.out)⟩
                              · replace c102 := Bool.eq_false_iff.mpr c102
                                subst c102
                                have H1 : (some false) = some r := by rw [if_neg (show ¬ (false = true) by decide)] at H; exact H
                                clear H
                                have H := H1
                                clear H1
                                as_aux_lemma =>
                                  obtain rfl := Option.some.inj H
                                  go_wp2_with (first | ((with_reducible refine gate_callee (f := 6) rfl ?_); refine goesL_ (some 167) rfl rfl Try.func6 (by kernel_rfl) rfl #[.slice Ao90 t465.length co90, .int .i64 (wrap64 ((t465.length : Int) + 1))] rfl (by (try simp only [List.map_toArray, List.map_cons, List.map_nil]); first | done | rfl | (simp only [List.length_drop, List.length_take]; rfl)) ?_; (with_reducible refine (impl_SlopeArea.calls kj87 _ _ t465 (wrap64 ((t465.length : Int) + 1)) t477 false _ ?side1 ?side2 A100.out).mono ?_); (case side1 => repeat (first | exact (Kd.R_reads' HO_23.out).2.2 | (with_reducible refine Kd.C_alloc ?_ _) | (with_reducible refine Kd.C_drewN ?_ _) | (with_reducible refine Kd.C_drew ?_))); (case side2 => exact (Kd.R_reads' HO_23.out).2.1); rintro e w114 ⟨rfl, hb⟩; refine ⟨_, rfl, ?_⟩; have n0_ := Aside0.mk (Kd.R_below (by (with_reducible repeat (first | apply Kd.R_alloc | apply Kd.R_drewN | apply Kd.R_drew)); exact HO_5.out) hb); have n1_ := Aside0.mk (Kd.R_below (by (with_reducible repeat (first | apply Kd.R_alloc | apply Kd.R_drewN | apply Kd.R_drew)); exact HO_23.out) hb); have n2_ := Aside0.mk (Kd.R_below (by (with_reducible repeat (first | apply Kd.R_alloc | apply Kd.R_drewN | apply Kd.R_drew)); exact HO_24.out) hb); have n3_ := Aside0.mk (below_step (by repeat (first | (with_reducible first | exact HB.out | apply below_alloc | apply pw_below_drewN | apply below_drew1) | exact HB.out)) hb); clear HO_5; clear HO_23; clear HO_24; clear HB; have HO_5 := n0_; have HO_23 := n1_; have HO_24 := n2_; have HB := n3_; clear n0_ n1_ n2_ n3_; (try clear hb); (try clear hb2); (try clear hk); (try clear hi); obtain ⟨Ao115, co115, eo115⟩ := Kd.R_slice HO_24.out; subst eo115) | ((with_reducible refine gate_callee (f := 17) rfl ?_); refine goesL_ (some 174) rfl rfl Try.func17 (by kernel_rfl) rfl #[.slice Ao115 t468.length co115, .int .i64 (t468.length : Int)] rfl (by (try simp only [List.map_toArray, List.map_cons, List.map_nil]); first | done | rfl | (simp only [List.length_drop, List.length_take]; rfl)) ?_; (with_reducible refine (impl_TotalDistance.calls kj87 _ _ t468 (t468.length : Int) t479 t480 _ ?side1 ?side2 A101.out).mono ?_); (case side1 => repeat (first | exact (Kd.R_reads' HO_24.out).2.2 | (with_reducible refine Kd.C_alloc ?_ _) | (with_reducible refine Kd.C_drewN ?_ _) | (with_reducible refine Kd.C_drew ?_))); (case side2 => exact (Kd.R_reads' HO_24.out).2.1); rintro e w116 ⟨rfl, hb⟩; refine ⟨_, rfl, ?_⟩; have n0_ := Aside0.mk (Kd.R_below (by (with_reducible repeat (first | apply Kd.R_alloc | apply Kd.R_drewN | apply Kd.R_drew)); exact HO_5.out) hb); have n1_ := Aside0.mk (Kd.R_below (by (with_reducible repeat (first | apply Kd.R_alloc | apply Kd.R_drewN | apply Kd.R_drew)); exact HO_23.out) hb); have n2_ := Aside0.mk (Kd.R_below (by (with_reducible repeat (first | apply Kd.R_alloc | apply Kd.R_drewN | apply Kd.R_drew)); exact HO_24.out) hb); have n3_ := Aside0.mk (below_step (by repeat (first | (with_reducible first | exact HB.out | apply below_alloc | apply pw_below_drewN | apply below_drew1) | exact HB.out)) hb); clear HO_5; clear HO_23; clear HO_24; clear HB; have HO_5 := n0_; have HO_23 := n1_; have HO_24 := n2_; have HB := n3_; clear n0_ n1_ n2_ n3_; (try clear hb); (try clear hb2); (try clear hk); (try clear hi)))
                                  go_ret
                                  exact ⟨by first | rfl | (simp [errW_none, errW_some] <;> rfl) | (simp [*, errW_none, errW_some] <;> rfl), by repeat (first | (with_reducible first | exact HB.out | apply below_alloc | apply pw_below_drewN | apply below_drew1) | exact HB.out)⟩
                            · replace c99 := Bool.eq_false_iff.mpr c99
                              subst c99
                              have H1 : (laws_FnSlopeAreas.j4 kj87 t439 t440 t443) = some r := by rw [if_neg (show ¬ (false = true) by decide)] at H; exact H
                              clear H
                              have H := H1
                              clear H1
                              as_aux_lemma =>
                                have H' := Aside0.mk H
                                clear H
                                go_wp2
                                go_meet
                                case rel => exact ⟨_, H', ⟨by have := HJ7.out; have := HJ17.out; have := HJ21.out; have := HJ87.out; first | omega | exact Nat.le_refl _⟩, ⟨by (with_reducible repeat (first | apply Kd.R_alloc | apply Kd.R_drewN | apply Kd.R_drew)); exact Kd.R_mono HO_5.out (fun _ hk => trivial)⟩, ⟨by repeat (first | (with_reducible first | exact HB.out | apply below_alloc | apply pw_below_drewN | apply below_drew1) | exact HB.out)⟩⟩
                          case rest =>
                            clear HC98
                            try clear c1
                            try clear c2
                            try clear p2
                            try clear c3
                            try clear c4
                            try clear c5
                            try clear c6
                            try clear p6
                            try clear c7
                            try clear c8
                            try clear c9
                            try clear c10
                            try clear c11
                            try clear c13
                            try clear c13b0
                            try clear c13b1
                            try clear c13b2
                            try clear c14
                            try clear c15
                            try clear c17
                            try clear c20
                            try clear c20b0
                            try clear c20b1
                            try clear c20b2
                            try clear c21
                            try clear c23
                            try clear c24
                            try clear c24b0
                            try clear c24b1
                            try clear c25
                            try clear c25b0
                            try clear c25b1
                            try clear c29
                            try clear c30
                            try clear c31
                            try clear c32
                            try clear c32b0
                            try clear c32b1
                            try clear c33
                            try clear c33b0
                            try clear c33b1
                            try clear c35
                            try clear c35b0
                            try clear c35b1
                            try clear p64
                            try clear c93
                            try clear c93b0
                            try clear c93b1
                            try clear c93b2
                            try clear c97
                            try clear c99
                            try clear c102
                            try clear c103
                            try clear c104
                            try clear c104b0
                            try clear c104b1
                            try clear p2
                            obtain ⟨kq, HA, HJ97, HO_5, HB⟩ := hcut
                            cases kq with
                            | zero => exact absurd HA.out (by simp [laws_FnSlopeAreas.j4])
                            | succ kj97 =>
                              have H := HA.out
                              clear HA
                              simp only [laws_FnSlopeAreas.j4] at H
                              replace H := Option.bind_eq_some_iff.mp H
                              obtain ⟨⟨t481, t482⟩, A1170, H⟩ := H
                              replace H : ((spec_BesideSlope.f kj97 t439 t440).bind fun bt485 => (if (t482 != bt485.2) = true then (laws_FnSlopeAreas.j5 kj97 t439 t440 t443 t481 t482 true) else ((laws_wSame.f kj97 t481 bt485.1).bind fun t489 => (laws_FnSlopeAreas.j5 kj97 t439 t440 t443 t481 t482 (!t489))))) = some r := H
                              have A117 := Aside0.mk A1170
                              clear A1170
                              replace H := Option.bind_eq_some_iff.mp H
                              obtain ⟨⟨t485, t486⟩, A1180, H⟩ := H
                              replace H : (if (t482 != t486) = true then (laws_FnSlopeAreas.j5 kj97 t439 t440 t443 t481 t482 true) else ((laws_wSame.f kj97 t481 t485).bind fun t489 => (laws_FnSlopeAreas.j5 kj97 t439 t440 t443 t481 t482 (!t489)))) = some r := H
                              have A118 := Aside0.mk A1180
                              clear A1180
                              have HC119 := Aside0.mk H
                              clear H
                              go_upto_region 31 with (first | ((with_reducible refine gate_callee (f := 18) rfl ?_); refine goesL_ (some 191) rfl rfl Try.func18 (by kernel_rfl) rfl #[.slice Ao10 t439.length co10, .int .i64 t440] rfl (by (try simp only [List.map_toArray, List.map_cons, List.map_nil]); first | done | rfl | (simp only [List.length_drop, List.length_take]; rfl)) ?_; (with_reducible refine (impl_BesideSlope.calls kj97 _ _ t439 t440 t481 t482 _ ?side1 ?side2 A117.out).mono ?_); (case side1 => repeat (first | exact (Kd.R_reads' HO_5.out).2.2 | (with_reducible refine Kd.C_alloc ?_ _) | (with_reducible refine Kd.C_drewN ?_ _) | (with_reducible refine Kd.C_drew ?_))); (case side2 => exact (Kd.R_reads' HO_5.out).2.1); rintro e w120 ⟨v483, rfl, ho0, hb⟩; refine ⟨_, rfl, ?_⟩; have n0_ := Aside0.mk (Kd.R_elder' (by (with_reducible repeat (first | apply Kd.R_alloc | apply Kd.R_drewN | apply Kd.R_drew)); exact HO_5.out) (Kd.R_base ho0) hb); have n1_ := Aside0.mk (Kd.R_lower (Kd.R_new' ho0 (Kd.R_lt (by (with_reducible repeat (first | apply Kd.R_alloc | apply Kd.R_drewN | apply Kd.R_drew)); exact HO_5.out))) (below_size (by repeat (first | (with_reducible first | exact HB.out | apply below_alloc | apply pw_below_drewN | apply below_drew1) | exact HB.out)))); have n2_ := Aside0.mk (below_step (by repeat (first | (with_reducible first | exact HB.out | apply below_alloc | apply pw_below_drewN | apply below_drew1) | exact HB.out)) hb); clear HO_5; clear HB; have HO_5 := n0_; have HO484 := n1_; have HB := n2_; clear n0_ n1_ n2_; (try clear hb); (try clear hb2); (try clear hk); (try clear hi); (try clear ho0)) | ((with_reducible refine gate_callee (f := 19) rfl ?_); refine goesL_ (some 197) rfl rfl Try.func19 (by kernel_rfl) rfl #[.slice Ao10 t439.length co10, .int .i64 t440] rfl (by (try simp only [List.map_toArray, List.map_cons, List.map_nil]); first | done | rfl | (simp only [List.length_drop, List.length_take]; rfl)) ?_; (with_reducible refine (spec_BesideSlope.calls kj97 _ _ t439 t440 t485 t486 _ ?side1 ?side2 A118.out).mono ?_); (case side1 => repeat (first | exact (Kd.R_reads' HO_5.out).2.2 | (with_reducible refine Kd.C_alloc ?_ _) | (with_reducible refine Kd.C_drewN ?_ _) | (with_reducible refine Kd.C_drew ?_))); (case side2 => exact (Kd.R_reads' HO_5.out).2.1); rintro e w121 ⟨v487, rfl, ho0, hb⟩; refine ⟨_, rfl, ?_⟩; have n0_ := Aside0.mk (Kd.R_elder' (by (with_reducible repeat (first | apply Kd.R_alloc | apply Kd.R_drewN | apply Kd.R_drew)); exact HO_5.out) (Kd.R_base ho0) hb); have n1_ := Aside0.mk (Kd.R_elder' (by (with_reducible repeat (first | apply Kd.R_alloc | apply Kd.R_drewN | apply Kd.R_drew)); exact HO484.out) (Kd.R_base ho0) hb); have n2_ := Aside0.mk (Kd.R_lower (Kd.R_new' (Kd.R_new' ho0 (Kd.R_lt (by (with_reducible repeat (first | apply Kd.R_alloc | apply Kd.R_drewN | apply Kd.R_drew)); exact HO_5.out))) (Kd.R_lt (by (with_reducible repeat (first | apply Kd.R_alloc | apply Kd.R_drewN | apply Kd.R_drew)); exact HO484.out))) (below_size (by repeat (first | (with_reducible first | exact HB.out | apply below_alloc | apply pw_below_drewN | apply below_drew1) | exact HB.out)))); have n3_ := Aside0.mk (below_step (by repeat (first | (with_reducible first | exact HB.out | apply below_alloc | apply pw_below_drewN | apply below_drew1) | exact HB.out)) hb); clear HO_5; clear HO484; clear HB; have HO_5 := n0_; have HO484 := n1_; have HO488 := n2_; have HB := n3_; clear n0_ n1_ n2_ n3_; (try clear hb); (try clear hb2); (try clear hk); (try clear hi); (try clear ho0)))
                              (try simp only [Act.put, List.setIfInBounds_toArray, List.set_cons_zero, List.set_cons_succ])
                              go_cut [208] (fun v208 wc => ∃ (kq : Nat) (x208_118 : Bool), v208 = .bool x208_118 ∧ Aside0 (laws_FnSlopeAreas.j5 kq t439 t440 t443 t481 t482 x208_118 = some r) ∧ Aside0 (kq ≤ kj97) ∧ Aside0 (Kd.R (Kd.int .i64) 3 wc w.heap.size (fun k_ => some k_ ≠ (v483 : Value).ownBlock) (.slice Ao10 t439.length co10) t439) ∧ Aside0 (Kd.R (Kd.int .i64) 3 wc w.heap.size (fun k_ => some k_ ≠ ((.slice Ao10 t439.length co10) : Value).ownBlock) v483 t481) ∧ Aside0 (Below w.heap.size w wc))
                              case first =>
                                have H := HC119.out
                                clear HC119
                                by_cases c122 : (t482 != t486) = true
                                · rw [if_pos c122] at H
                                  have c122b0 : (t482 != t486) = true := c122
                                  (try (have c122b1 : decide (t482 = t486) = false := by simpa using c122))
                                  (try (have c122b2 : (t482 == t486) = false := by simpa using c122))
                                  (try (have c122b3 : ¬ (t482 = t486) := by simpa using c122))
                                  clear c122
                                  (first | rw [c122b0] | (simp only [i64_w, i32_w]; rw [c122b0]) | skip)
                                  as_aux_lemma =>
                                    have H' := Aside0.mk H
                                    clear H
                                    go_wp2
                                    go_meet
                                    case rel => exact ⟨_, (true), (by first | rfl | (simp; done) | (simp [*]; done)), H', ⟨by have := HJ7.out; have := HJ17.out; have := HJ21.out; have := HJ87.out; have := HJ97.out; first | omega | exact Nat.le_refl _⟩, ⟨by (with_reducible repeat (first | apply Kd.R_alloc | apply Kd.R_drewN | apply Kd.R_drew)); exact Kd.R_mono HO_5.out (fun _ hk => hk.1.2)⟩, ⟨by (with_reducible repeat (first | apply Kd.R_alloc | apply Kd.R_drewN | apply Kd.R_drew)); exact Kd.R_mono HO484.out (fun _ hk => hk.1.2)⟩, ⟨by repeat (first | (with_reducible first | exact HB.out | apply below_alloc | apply pw_below_drewN | apply below_drew1) | exact HB.out)⟩⟩
                                · rw [if_neg c122] at H
                                  have c122b0 : (t482 != t486) = false := by simpa using c122
                                  (try (have c122b1 : decide (t482 = t486) = true := by simpa using c122))
                                  (try (have c122b2 : (t482 == t486) = true := by simpa using c122))
                                  clear c122
                                  (first | rw [c122b0] | (simp only [i64_w, i32_w]; rw [c122b0]) | skip)
                                  replace H := Option.bind_eq_some_iff.mp H
                                  obtain ⟨t489, A1230, H⟩ := H
                                  replace H : (laws_FnSlopeAreas.j5 kj97 t439 t440 t443 t481 t482 (!t489)) = some r := H
                                  have A123 := Aside0.mk A1230
                                  clear A1230
                                  as_aux_lemma =>
                                    have H' := Aside0.mk H
                                    clear H
                                    obtain ⟨Ao124, co124, eo124⟩ := Kd.R_slice HO484.out
                                    subst eo124
                                    obtain ⟨Ao125, co125, eo125⟩ := Kd.R_slice HO488.out
                                    subst eo125
                                    go_wp2_with (first | (go_at_call 16; (with_reducible refine (laws_wSame.calls kj97 _ _ t481 _ _ t485 t489 _ ?side1 ?side2 ?side3 ?side4 A123.out).mono ?_); (case side1 => repeat (first | exact (Kd.R_reads' HO484.out).2.2 | (with_reducible refine Kd.C_alloc ?_ _) | (with_reducible refine Kd.C_drewN ?_ _) | (with_reducible refine Kd.C_drew ?_))); (case side2 => exact (Kd.R_reads' HO484.out).2.1); (case side3 => repeat (first | exact (Kd.R_reads' HO488.out).2.2 | (with_reducible refine Kd.C_alloc ?_ _) | (with_reducible refine Kd.C_drewN ?_ _) | (with_reducible refine Kd.C_drew ?_))); (case side4 => exact (Kd.R_reads' HO488.out).2.1); rintro e w' ⟨rfl, ⟨nd, rfl⟩⟩))
                                    go_meet
                                    case rel => exact ⟨_, (!t489), (by first | rfl | (simp; done) | (simp [*]; done)), H', ⟨by have := HJ7.out; have := HJ17.out; have := HJ21.out; have := HJ87.out; have := HJ97.out; first | omega | exact Nat.le_refl _⟩, ⟨by (with_reducible repeat (first | apply Kd.R_alloc | apply Kd.R_drewN | apply Kd.R_drew)); exact Kd.R_mono HO_5.out (fun _ hk => hk.1.2)⟩, ⟨by (with_reducible repeat (first | apply Kd.R_alloc | apply Kd.R_drewN | apply Kd.R_drew)); exact Kd.R_mono HO484.out (fun _ hk => hk.1.2)⟩, ⟨by repeat (first | (with_reducible first | exact HB.out | apply below_alloc | apply pw_below_drewN | apply below_drew1) | exact HB.out)⟩⟩
                              case rest =>
                                clear HC119
                                try clear c1
                                try clear c2
                                try clear p2
                                try clear c3
                                try clear c4
                                try clear c5
                                try clear c6
                                try clear p6
                                try clear c7
                                try clear c8
                                try clear c9
                                try clear c10
                                try clear c11
                                try clear c12
                                try clear c13
                                try clear c13b0
                                try clear c13b1
                                try clear c13b2
                                try clear c14
                                try clear c15
                                try clear c17
                                try clear c18
                                try clear c19
                                try clear c20
                                try clear c20b0
                                try clear c20b1
                                try clear c20b2
                                try clear c21
                                try clear c23
                                try clear c24
                                try clear c24b0
                                try clear c24b1
                                try clear c25
                                try clear c25b0
                                try clear c25b1
                                try clear c29
                                try clear c30
                                try clear c31
                                try clear c32
                                try clear c32b0
                                try clear c32b1
                                try clear c33
                                try clear c33b0
                                try clear c33b1
                                try clear c35
                                try clear c35b0
                                try clear c35b1
                                try clear p64
                                try clear c93
                                try clear c93b0
                                try clear c93b1
                                try clear c93b2
                                try clear c97
                                try clear c99
                                try clear c102
                                try clear c103
                                try clear c104
                                try clear c104b0
                                try clear c104b1
                                try clear c122
                                try clear c122b0
                                try clear c122b1
                                try clear c122b2
                                try clear p2
                                try clear p6
                                try clear p64
                                obtain ⟨kq, x208_118, rfl, HA, HJ118, HO_5, HO_32, HB⟩ := hcut
                                cases kq with
                                | zero => exact absurd HA.out (by simp [laws_FnSlopeAreas.j5])
                                | succ kj118 =>
                                  have H := HA.out
                                  clear HA
                                  simp only [laws_FnSlopeAreas.j5] at H
                                  by_cases c126 : x208_118 = true
                                  · subst c126
                                    have H1 : (some false) = some r := by rw [if_pos rfl] at H; exact H
                                    clear H
                                    have H := H1
                                    clear H1
                                    as_aux_lemma =>
                                      obtain rfl := Option.some.inj H
                                      go_wp2
                                      go_ret
                                      exact ⟨by first | rfl | (simp [errW_none, errW_some] <;> rfl) | (simp [*, errW_none, errW_some] <;> rfl), by repeat (first | (with_reducible first | exact HB.out | apply below_alloc | apply pw_below_drewN | apply below_drew1) | exact HB.out)⟩
                                  · replace c126 := Bool.eq_false_iff.mpr c126
                                    subst c126
                                    have H1 : (if t482 = true then ((impl_SlopeArea.f kj118 t481 (wrap64 (t440 + (t439.length : Int)))).bind fun bt490 => ((impl_IsSlopeParking.f kj118 t481 (wrap64 (t440 + (t439.length : Int)))).bind fun bt492 => ((impl_MostArea.f kj118 (t439.length : Int) t440).bind fun bt494 => (if bt490.2 = true then (if bt492.2 = true then (if bt494.2 = true then (if bt492.1 = true then (if bt490.1 = t443 then (if t443 ≥ 0 then (some (decide (t443 ≤ bt494.1))) else (some false)) else (some false)) else (some false)) else (some false)) else (some false)) else (some false))))) else (some true)) = some r := by rw [if_neg (show ¬ (false = true) by decide)] at H; exact H
                                    clear H
                                    have H := H1
                                    clear H1
                                    by_cases c127 : t482 = true
                                    · subst c127
                                      have H1 : ((impl_SlopeArea.f kj118 t481 (wrap64 (t440 + (t439.length : Int)))).bind fun bt490 => ((impl_IsSlopeParking.f kj118 t481 (wrap64 (t440 + (t439.length : Int)))).bind fun bt492 => ((impl_MostArea.f kj118 (t439.length : Int) t440).bind fun bt494 => (if bt490.2 = true then (if bt492.2 = true then (if bt494.2 = true then (if bt492.1 = true then (if bt490.1 = t443 then (if t443 ≥ 0 then (some (decide (t443 ≤ bt494.1))) else (some false)) else (some false)) else (some false)) else (some false)) else (some false)) else (some false))))) = some r := by rw [if_pos rfl] at H; exact H
                                      clear H
                                      have H := H1
                                      clear H1
                                      replace H := Option.bind_eq_some_iff.mp H
                                      obtain ⟨⟨t490, t491⟩, A1280, H⟩ := H
                                      replace H : ((impl_IsSlopeParking.f kj118 t481 (wrap64 (t440 + (t439.length : Int)))).bind fun bt492 => ((impl_MostArea.f kj118 (t439.length : Int) t440).bind fun bt494 => (if t491 = true then (if bt492.2 = true then (if bt494.2 = true then (if bt492.1 = true then (if t490 = t443 then (if t443 ≥ 0 then (some (decide (t443 ≤ bt494.1))) else (some false)) else (some false)) else (some false)) else (some false)) else (some false)) else (some false)))) = some r := H
                                      have A128 := Aside0.mk A1280
                                      clear A1280
                                      replace H := Option.bind_eq_some_iff.mp H
                                      obtain ⟨⟨t492, t493⟩, A1290, H⟩ := H
                                      replace H : ((impl_MostArea.f kj118 (t439.length : Int) t440).bind fun bt494 => (if t491 = true then (if t493 = true then (if bt494.2 = true then (if t492 = true then (if t490 = t443 then (if t443 ≥ 0 then (some (decide (t443 ≤ bt494.1))) else (some false)) else (some false)) else (some false)) else (some false)) else (some false)) else (some false))) = some r := H
                                      have A129 := Aside0.mk A1290
                                      clear A1290
                                      replace H := Option.bind_eq_some_iff.mp H
                                      obtain ⟨⟨t494, t495⟩, A1300, H⟩ := H
                                      replace H : (if t491 = true then (if t493 = true then (if t495 = true then (if t492 = true then (if t490 = t443 then (if t443 ≥ 0 then (some (decide (t443 ≤ t494))) else (some false)) else (some false)) else (some false)) else (some false)) else (some false)) else (some false)) = some r := H
                                      have A130 := Aside0.mk A1300
                                      clear A1300
                                      by_cases c131 : t491 = true
                                      · subst c131
                                        have H1 : (if t493 = true then (if t495 = true then (if t492 = true then (if t490 = t443 then (if t443 ≥ 0 then (some (decide (t443 ≤ t494))) else (some false)) else (some false)) else (some false)) else (some false)) else (some false)) = some r := by rw [if_pos rfl] at H; exact H
                                        clear H
                                        have H := H1
                                        clear H1
                                        by_cases c132 : t493 = true
                                        · subst c132
                                          have H1 : (if t495 = true then (if t492 = true then (if t490 = t443 then (if t443 ≥ 0 then (some (decide (t443 ≤ t494))) else (some false)) else (some false)) else (some false)) else (some false)) = some r := by rw [if_pos rfl] at H; exact H
                                          clear H
                                          have H := H1
                                          clear H1
                                          by_cases c133 : t495 = true
                                          · subst c133
                                            have H1 : (if t492 = true then (if t490 = t443 then (if t443 ≥ 0 then (some (decide (t443 ≤ t494))) else (some false)) else (some false)) else (some false)) = some r := by rw [if_pos rfl] at H; exact H
                                            clear H
                                            have H := H1
                                            clear H1
                                            by_cases c134 : t492 = true
                                            · subst c134
                                              have H1 : (if t490 = t443 then (if t443 ≥ 0 then (some (decide (t443 ≤ t494))) else (some false)) else (some false)) = some r := by rw [if_pos rfl] at H; exact H
                                              clear H
                                              have H := H1
                                              clear H1
                                              by_cases c135 : t490 = t443
                                              · rw [if_pos c135] at H
                                                have c135b0 : (t490 == t443) = true := beq_iff_eq.mpr c135
                                                have c135b1 : (t490 != t443) = false := bne_eq_false_iff_eq.mpr c135
                                                clear c135
                                                by_cases c136 : t443 ≥ 0
                                                · rw [if_pos c136] at H
                                                  have c136b0 : decide (0 ≤ t443) = true := decide_eq_true c136
                                                  clear c136
                                                  as_aux_lemma =>
                                                    obtain rfl := Option.some.inj H
                                                    obtain ⟨Ao137, co137, eo137⟩ := Kd.R_slice HO_32.out
                                                    subst eo137
                                                    go_wp2_with (first | ((with_reducible refine gate_callee (f := 6) rfl ?_); refine goesL_ (some 217) rfl rfl Try.func6 (by kernel_rfl) rfl #[.slice Ao137 t481.length co137, .int .i64 (wrap64 (t440 + (t439.length : Int)))] rfl (by (try simp only [List.map_toArray, List.map_cons, List.map_nil]); first | done | rfl | (simp only [List.length_drop, List.length_take]; rfl)) ?_; (with_reducible refine (impl_SlopeArea.calls kj118 _ _ t481 (wrap64 (t440 + (t439.length : Int))) t490 true _ ?side1 ?side2 A128.out).mono ?_); (case side1 => repeat (first | exact (Kd.R_reads' HO_32.out).2.2 | (with_reducible refine Kd.C_alloc ?_ _) | (with_reducible refine Kd.C_drewN ?_ _) | (with_reducible refine Kd.C_drew ?_))); (case side2 => exact (Kd.R_reads' HO_32.out).2.1); rintro e w138 ⟨rfl, hb⟩; refine ⟨_, rfl, ?_⟩; have n0_ := Aside0.mk (Kd.R_below (by (with_reducible repeat (first | apply Kd.R_alloc | apply Kd.R_drewN | apply Kd.R_drew)); exact HO_5.out) hb); have n1_ := Aside0.mk (Kd.R_below (by (with_reducible repeat (first | apply Kd.R_alloc | apply Kd.R_drewN | apply Kd.R_drew)); exact HO_32.out) hb); have n2_ := Aside0.mk (below_step (by repeat (first | (with_reducible first | exact HB.out | apply below_alloc | apply pw_below_drewN | apply below_drew1) | exact HB.out)) hb); clear HO_5; clear HO_32; clear HB; have HO_5 := n0_; have HO_32 := n1_; have HB := n2_; clear n0_ n1_ n2_; (try clear hb); (try clear hb2); (try clear hk); (try clear hi)) | ((with_reducible refine gate_callee (f := 20) rfl ?_); refine goesL_ (some 226) rfl rfl Try.func20 (by kernel_rfl) rfl #[.slice Ao137 t481.length co137, .int .i64 (wrap64 (t440 + (t439.length : Int)))] rfl (by (try simp only [List.map_toArray, List.map_cons, List.map_nil]); first | done | rfl | (simp only [List.length_drop, List.length_take]; rfl)) ?_; (with_reducible refine (impl_IsSlopeParking.calls kj118 _ _ t481 (wrap64 (t440 + (t439.length : Int))) true true _ ?side1 ?side2 A129.out).mono ?_); (case side1 => repeat (first | exact (Kd.R_reads' HO_32.out).2.2 | (with_reducible refine Kd.C_alloc ?_ _) | (with_reducible refine Kd.C_drewN ?_ _) | (with_reducible refine Kd.C_drew ?_))); (case side2 => exact (Kd.R_reads' HO_32.out).2.1); rintro e w139 ⟨rfl, hb⟩; refine ⟨_, rfl, ?_⟩; have n0_ := Aside0.mk (Kd.R_below (by (with_reducible repeat (first | apply Kd.R_alloc | apply Kd.R_drewN | apply Kd.R_drew)); exact HO_5.out) hb); have n1_ := Aside0.mk (Kd.R_below (by (with_reducible repeat (first | apply Kd.R_alloc | apply Kd.R_drewN | apply Kd.R_drew)); exact HO_32.out) hb); have n2_ := Aside0.mk (below_step (by repeat (first | (with_reducible first | exact HB.out | apply below_alloc | apply pw_below_drewN | apply below_drew1) | exact HB.out)) hb); clear HO_5; clear HO_32; clear HB; have HO_5 := n0_; have HO_32 := n1_; have HB := n2_; clear n0_ n1_ n2_; (try clear hb); (try clear hb2); (try clear hk); (try clear hi)) | ((with_reducible refine gate_callee (f := 9) rfl ?_); refine goesL_ (some 233) rfl rfl Try.func9 (by kernel_rfl) rfl #[.int .i64 (t439.length : Int), .int .i64 t440] rfl (by (try simp only [List.map_toArray, List.map_cons, List.map_nil]); first | done | rfl | (simp only [List.length_drop, List.length_take]; rfl)) ?_; (with_reducible refine (impl_MostArea.calls kj118 (t439.length : Int) t440 t494 true _ A130.out).mono ?_); rintro e w' ⟨rfl, ⟨nd, rfl⟩⟩; refine ⟨_, rfl, ?_⟩))
                                                    go_ret
                                                    exact ⟨by first | rfl | (simp [errW_none, errW_some] <;> rfl) | (simp [*, errW_none, errW_some] <;> rfl), by repeat (first | (with_reducible first | exact HB.out | apply below_alloc | apply pw_below_drewN | apply below_drew1) | exact HB.out)⟩
                                                · rw [if_neg c136] at H
                                                  have c136b0 : decide (0 ≤ t443) = false := decide_eq_false c136
                                                  clear c136
                                                  as_aux_lemma =>
                                                    obtain rfl := Option.some.inj H
                                                    obtain ⟨Ao140, co140, eo140⟩ := Kd.R_slice HO_32.out
                                                    subst eo140
                                                    go_wp2_with (first | ((with_reducible refine gate_callee (f := 6) rfl ?_); refine goesL_ (some 217) rfl rfl Try.func6 (by kernel_rfl) rfl #[.slice Ao140 t481.length co140, .int .i64 (wrap64 (t440 + (t439.length : Int)))] rfl (by (try simp only [List.map_toArray, List.map_cons, List.map_nil]); first | done | rfl | (simp only [List.length_drop, List.length_take]; rfl)) ?_; (with_reducible refine (impl_SlopeArea.calls kj118 _ _ t481 (wrap64 (t440 + (t439.length : Int))) t490 true _ ?side1 ?side2 A128.out).mono ?_); (case side1 => repeat (first | exact (Kd.R_reads' HO_32.out).2.2 | (with_reducible refine Kd.C_alloc ?_ _) | (with_reducible refine Kd.C_drewN ?_ _) | (with_reducible refine Kd.C_drew ?_))); (case side2 => exact (Kd.R_reads' HO_32.out).2.1); rintro e w141 ⟨rfl, hb⟩; refine ⟨_, rfl, ?_⟩; have n0_ := Aside0.mk (Kd.R_below (by (with_reducible repeat (first | apply Kd.R_alloc | apply Kd.R_drewN | apply Kd.R_drew)); exact HO_5.out) hb); have n1_ := Aside0.mk (Kd.R_below (by (with_reducible repeat (first | apply Kd.R_alloc | apply Kd.R_drewN | apply Kd.R_drew)); exact HO_32.out) hb); have n2_ := Aside0.mk (below_step (by repeat (first | (with_reducible first | exact HB.out | apply below_alloc | apply pw_below_drewN | apply below_drew1) | exact HB.out)) hb); clear HO_5; clear HO_32; clear HB; have HO_5 := n0_; have HO_32 := n1_; have HB := n2_; clear n0_ n1_ n2_; (try clear hb); (try clear hb2); (try clear hk); (try clear hi)) | ((with_reducible refine gate_callee (f := 20) rfl ?_); refine goesL_ (some 226) rfl rfl Try.func20 (by kernel_rfl) rfl #[.slice Ao140 t481.length co140, .int .i64 (wrap64 (t440 + (t439.length : Int)))] rfl (by (try simp only [List.map_toArray, List.map_cons, List.map_nil]); first | done | rfl | (simp only [List.length_drop, List.length_take]; rfl)) ?_; (with_reducible refine (impl_IsSlopeParking.calls kj118 _ _ t481 (wrap64 (t440 + (t439.length : Int))) true true _ ?side1 ?side2 A129.out).mono ?_); (case side1 => repeat (first | exact (Kd.R_reads' HO_32.out).2.2 | (with_reducible refine Kd.C_alloc ?_ _) | (with_reducible refine Kd.C_drewN ?_ _) | (with_reducible refine Kd.C_drew ?_))); (case side2 => exact (Kd.R_reads' HO_32.out).2.1); rintro e w142 ⟨rfl, hb⟩; refine ⟨_, rfl, ?_⟩; have n0_ := Aside0.mk (Kd.R_below (by (with_reducible repeat (first | apply Kd.R_alloc | apply Kd.R_drewN | apply Kd.R_drew)); exact HO_5.out) hb); have n1_ := Aside0.mk (Kd.R_below (by (with_reducible repeat (first | apply Kd.R_alloc | apply Kd.R_drewN | apply Kd.R_drew)); exact HO_32.out) hb); have n2_ := Aside0.mk (below_step (by repeat (first | (with_reducible first | exact HB.out | apply below_alloc | apply pw_below_drewN | apply below_drew1) | exact HB.out)) hb); clear HO_5; clear HO_32; clear HB; have HO_5 := n0_; have HO_32 := n1_; have HB := n2_; clear n0_ n1_ n2_; (try clear hb); (try clear hb2); (try clear hk); (try clear hi)) | ((with_reducible refine gate_callee (f := 9) rfl ?_); refine goesL_ (some 233) rfl rfl Try.func9 (by kernel_rfl) rfl #[.int .i64 (t439.length : Int), .int .i64 t440] rfl (by (try simp only [List.map_toArray, List.map_cons, List.map_nil]); first | done | rfl | (simp only [List.length_drop, List.length_take]; rfl)) ?_; (with_reducible refine (impl_MostArea.calls kj118 (t439.length : Int) t440 t494 true _ A130.out).mono ?_); rintro e w' ⟨rfl, ⟨nd, rfl⟩⟩; refine ⟨_, rfl, ?_⟩))
                                                    go_ret
                                                    exact ⟨by first | rfl | (simp [errW_none, errW_some] <;> rfl) | (simp [*, errW_none, errW_some] <;> rfl), by repeat (first | (with_reducible first | exact HB.out | apply below_alloc | apply pw_below_drewN | apply below_drew1) | exact HB.out)⟩
                                              · rw [if_neg c135] at H
                                                have c135b0 : (t490 == t443) = false := beq_eq_false_iff_ne.mpr c135
                                                have c135b1 : (t490 != t443) = true := bne_iff_ne.mpr c135
                                                as_aux_lemma =>
                                                  obtain rfl := Option.some.inj H
                                                  obtain ⟨Ao143, co143, eo143⟩ := Kd.R_slice HO_32.out
                                                  subst eo143
                                                  go_wp2_with (first | ((with_reducible refine gate_callee (f := 6) rfl ?_); refine goesL_ (some 217) rfl rfl Try.func6 (by kernel_rfl) rfl #[.slice Ao143 t481.length co143, .int .i64 (wrap64 (t440 + (t439.length : Int)))] rfl (by (try simp only [List.map_toArray, List.map_cons, List.map_nil]); first | done | rfl | (simp only [List.length_drop, List.length_take]; rfl)) ?_; (with_reducible refine (impl_SlopeArea.calls kj118 _ _ t481 (wrap64 (t440 + (t439.length : Int))) t490 true _ ?side1 ?side2 A128.out).mono ?_); (case side1 => repeat (first | exact (Kd.R_reads' HO_32.out).2.2 | (with_reducible refine Kd.C_alloc ?_ _) | (with_reducible refine Kd.C_drewN ?_ _) | (with_reducible refine Kd.C_drew ?_))); (case side2 => exact (Kd.R_reads' HO_32.out).2.1); rintro e w144 ⟨rfl, hb⟩; refine ⟨_, rfl, ?_⟩; have n0_ := Aside0.mk (Kd.R_below (by (with_reducible repeat (first | apply Kd.R_alloc | apply Kd.R_drewN | apply Kd.R_drew)); exact HO_5.out) hb); have n1_ := Aside0.mk (Kd.R_below (by (with_reducible repeat (first | apply Kd.R_alloc | apply Kd.R_drewN | apply Kd.R_drew)); exact HO_32.out) hb); have n2_ := Aside0.mk (below_step (by repeat (first | (with_reducible first | exact HB.out | apply below_alloc | apply pw_below_drewN | apply below_drew1) | exact HB.out)) hb); clear HO_5; clear HO_32; clear HB; have HO_5 := n0_; have HO_32 := n1_; have HB := n2_; clear n0_ n1_ n2_; (try clear hb); (try clear hb2); (try clear hk); (try clear hi)) | ((with_reducible refine gate_callee (f := 20) rfl ?_); refine goesL_ (some 226) rfl rfl Try.func20 (by kernel_rfl) rfl #[.slice Ao143 t481.length co143, .int .i64 (wrap64 (t440 + (t439.length : Int)))] rfl (by (try simp only [List.map_toArray, List.map_cons, List.map_nil]); first | done | rfl | (simp only [List.length_drop, List.length_take]; rfl)) ?_; (with_reducible refine (impl_IsSlopeParking.calls kj118 _ _ t481 (wrap64 (t440 + (t439.length : Int))) true true _ ?side1 ?side2 A129.out).mono ?_); (case side1 => repeat (first | exact (Kd.R_reads' HO_32.out).2.2 | (with_reducible refine Kd.C_alloc ?_ _) | (with_reducible refine Kd.C_drewN ?_ _) | (with_reducible refine Kd.C_drew ?_))); (case side2 => exact (Kd.R_reads' HO_32.out).2.1); rintro e w145 ⟨rfl, hb⟩; refine ⟨_, rfl, ?_⟩; have n0_ := Aside0.mk (Kd.R_below (by (with_reducible repeat (first | apply Kd.R_alloc | apply Kd.R_drewN | apply Kd.R_drew)); exact HO_5.out) hb); have n1_ := Aside0.mk (Kd.R_below (by (with_reducible repeat (first | apply Kd.R_alloc | apply Kd.R_drewN | apply Kd.R_drew)); exact HO_32.out) hb); have n2_ := Aside0.mk (below_step (by repeat (first | (with_reducible first | exact HB.out | apply below_alloc | apply pw_below_drewN | apply below_drew1) | exact HB.out)) hb); clear HO_5; clear HO_32; clear HB; have HO_5 := n0_; have HO_32 := n1_; have HB := n2_; clear n0_ n1_ n2_; (try clear hb); (try clear hb2); (try clear hk); (try clear hi)) | ((with_reducible refine gate_callee (f := 9) rfl ?_); refine goesL_ (some 233) rfl rfl Try.func9 (by kernel_rfl) rfl #[.int .i64 (t439.length : Int), .int .i64 t440] rfl (by (try simp only [List.map_toArray, List.map_cons, List.map_nil]); first | done | rfl | (simp only [List.length_drop, List.length_take]; rfl)) ?_; (with_reducible refine (impl_MostArea.calls kj118 (t439.length : Int) t440 t494 true _ A130.out).mono ?_); rintro e w' ⟨rfl, ⟨nd, rfl⟩⟩; refine ⟨_, rfl, ?_⟩))
                                                  go_ret
                                                  exact ⟨by first | rfl | (simp [errW_none, errW_some] <;> rfl) | (simp [*, errW_none, errW_some] <;> rfl), by repeat (first | (with_reducible first | exact HB.out | apply below_alloc | apply pw_below_drewN | apply below_drew1) | exact HB.out)⟩
                                            · replace c134 := Bool.eq_false_iff.mpr c134
                                              subst c134
                                              have H1 : (some false) = some r := by rw [if_neg (show ¬ (false = true) by decide)] at H; exact H
                                              clear H
                                              have H := H1
                                              clear H1
                                              as_aux_lemma =>
                                                obtain rfl := Option.some.inj H
                                                obtain ⟨Ao146, co146, eo146⟩ := Kd.R_slice HO_32.out
                                                subst eo146
                                                go_wp2_with (first | ((with_reducible refine gate_callee (f := 6) rfl ?_); refine goesL_ (some 217) rfl rfl Try.func6 (by kernel_rfl) rfl #[.slice Ao146 t481.length co146, .int .i64 (wrap64 (t440 + (t439.length : Int)))] rfl (by (try simp only [List.map_toArray, List.map_cons, List.map_nil]); first | done | rfl | (simp only [List.length_drop, List.length_take]; rfl)) ?_; (with_reducible refine (impl_SlopeArea.calls kj118 _ _ t481 (wrap64 (t440 + (t439.length : Int))) t490 true _ ?side1 ?side2 A128.out).mono ?_); (case side1 => repeat (first | exact (Kd.R_reads' HO_32.out).2.2 | (with_reducible refine Kd.C_alloc ?_ _) | (with_reducible refine Kd.C_drewN ?_ _) | (with_reducible refine Kd.C_drew ?_))); (case side2 => exact (Kd.R_reads' HO_32.out).2.1); rintro e w147 ⟨rfl, hb⟩; refine ⟨_, rfl, ?_⟩; have n0_ := Aside0.mk (Kd.R_below (by (with_reducible repeat (first | apply Kd.R_alloc | apply Kd.R_drewN | apply Kd.R_drew)); exact HO_5.out) hb); have n1_ := Aside0.mk (Kd.R_below (by (with_reducible repeat (first | apply Kd.R_alloc | apply Kd.R_drewN | apply Kd.R_drew)); exact HO_32.out) hb); have n2_ := Aside0.mk (below_step (by repeat (first | (with_reducible first | exact HB.out | apply below_alloc | apply pw_below_drewN | apply below_drew1) | exact HB.out)) hb); clear HO_5; clear HO_32; clear HB; have HO_5 := n0_; have HO_32 := n1_; have HB := n2_; clear n0_ n1_ n2_; (try clear hb); (try clear hb2); (try clear hk); (try clear hi)) | ((with_reducible refine gate_callee (f := 20) rfl ?_); refine goesL_ (some 226) rfl rfl Try.func20 (by kernel_rfl) rfl #[.slice Ao146 t481.length co146, .int .i64 (wrap64 (t440 + (t439.length : Int)))] rfl (by (try simp only [List.map_toArray, List.map_cons, List.map_nil]); first | done | rfl | (simp only [List.length_drop, List.length_take]; rfl)) ?_; (with_reducible refine (impl_IsSlopeParking.calls kj118 _ _ t481 (wrap64 (t440 + (t439.length : Int))) false true _ ?side1 ?side2 A129.out).mono ?_); (case side1 => repeat (first | exact (Kd.R_reads' HO_32.out).2.2 | (with_reducible refine Kd.C_alloc ?_ _) | (with_reducible refine Kd.C_drewN ?_ _) | (with_reducible refine Kd.C_drew ?_))); (case side2 => exact (Kd.R_reads' HO_32.out).2.1); rintro e w148 ⟨rfl, hb⟩; refine ⟨_, rfl, ?_⟩; have n0_ := Aside0.mk (Kd.R_below (by (with_reducible repeat (first | apply Kd.R_alloc | apply Kd.R_drewN | apply Kd.R_drew)); exact HO_5.out) hb); have n1_ := Aside0.mk (Kd.R_below (by (with_reducible repeat (first | apply Kd.R_alloc | apply Kd.R_drewN | apply Kd.R_drew)); exact HO_32.out) hb); have n2_ := Aside0.mk (below_step (by repeat (first | (with_reducible first | exact HB.out | apply below_alloc | apply pw_below_drewN | apply below_drew1) | exact HB.out)) hb); clear HO_5; clear HO_32; clear HB; have HO_5 := n0_; have HO_32 := n1_; have HB := n2_; clear n0_ n1_ n2_; (try clear hb); (try clear hb2); (try clear hk); (try clear hi)) | ((with_reducible refine gate_callee (f := 9) rfl ?_); refine goesL_ (some 233) rfl rfl Try.func9 (by kernel_rfl) rfl #[.int .i64 (t439.length : Int), .int .i64 t440] rfl (by (try simp only [List.map_toArray, List.map_cons, List.map_nil]); first | done | rfl | (simp only [List.length_drop, List.length_take]; rfl)) ?_; (with_reducible refine (impl_MostArea.calls kj118 (t439.length : Int) t440 t494 true _ A130.out).mono ?_); rintro e w' ⟨rfl, ⟨nd, rfl⟩⟩; refine ⟨_, rfl, ?_⟩))
                                                go_ret
                                                exact ⟨by first | rfl | (simp [errW_none, errW_some] <;> rfl) | (simp [*, errW_none, errW_some] <;> rfl), by repeat (first | (with_reducible first | exact HB.out | apply below_alloc | apply pw_below_drewN | apply below_drew1) | exact HB.out)⟩
                                          · replace c133 := Bool.eq_false_iff.mpr c133
                                            subst c133
                                            have H1 : (some false) = some r := by rw [if_neg (show ¬ (false = true) by decide)] at H; exact H
                                            clear H
                                            have H := H1
                                            clear H1
                                            as_aux_lemma =>
                                              obtain rfl := Option.some.inj H
                                              obtain ⟨Ao149, co149, eo149⟩ := Kd.R_slice HO_32.out
                                              subst eo149
                                              go_wp2_with (first | ((with_reducible refine gate_callee (f := 6) rfl ?_); refine goesL_ (some 217) rfl rfl Try.func6 (by kernel_rfl) rfl #[.slice Ao149 t481.length co149, .int .i64 (wrap64 (t440 + (t439.length : Int)))] rfl (by (try simp only [List.map_toArray, List.map_cons, List.map_nil]); first | done | rfl | (simp only [List.length_drop, List.length_take]; rfl)) ?_; (with_reducible refine (impl_SlopeArea.calls kj118 _ _ t481 (wrap64 (t440 + (t439.length : Int))) t490 true _ ?side1 ?side2 A128.out).mono ?_); (case side1 => repeat (first | exact (Kd.R_reads' HO_32.out).2.2 | (with_reducible refine Kd.C_alloc ?_ _) | (with_reducible refine Kd.C_drewN ?_ _) | (with_reducible refine Kd.C_drew ?_))); (case side2 => exact (Kd.R_reads' HO_32.out).2.1); rintro e w150 ⟨rfl, hb⟩; refine ⟨_, rfl, ?_⟩; have n0_ := Aside0.mk (Kd.R_below (by (with_reducible repeat (first | apply Kd.R_alloc | apply Kd.R_drewN | apply Kd.R_drew)); exact HO_5.out) hb); have n1_ := Aside0.mk (Kd.R_below (by (with_reducible repeat (first | apply Kd.R_alloc | apply Kd.R_drewN | apply Kd.R_drew)); exact HO_32.out) hb); have n2_ := Aside0.mk (below_step (by repeat (first | (with_reducible first | exact HB.out | apply below_alloc | apply pw_below_drewN | apply below_drew1) | exact HB.out)) hb); clear HO_5; clear HO_32; clear HB; have HO_5 := n0_; have HO_32 := n1_; have HB := n2_; clear n0_ n1_ n2_; (try clear hb); (try clear hb2); (try clear hk); (try clear hi)) | ((with_reducible refine gate_callee (f := 20) rfl ?_); refine goesL_ (some 226) rfl rfl Try.func20 (by kernel_rfl) rfl #[.slice Ao149 t481.length co149, .int .i64 (wrap64 (t440 + (t439.length : Int)))] rfl (by (try simp only [List.map_toArray, List.map_cons, List.map_nil]); first | done | rfl | (simp only [List.length_drop, List.length_take]; rfl)) ?_; (with_reducible refine (impl_IsSlopeParking.calls kj118 _ _ t481 (wrap64 (t440 + (t439.length : Int))) t492 true _ ?side1 ?side2 A129.out).mono ?_); (case side1 => repeat (first | exact (Kd.R_reads' HO_32.out).2.2 | (with_reducible refine Kd.C_alloc ?_ _) | (with_reducible refine Kd.C_drewN ?_ _) | (with_reducible refine Kd.C_drew ?_))); (case side2 => exact (Kd.R_reads' HO_32.out).2.1); rintro e w151 ⟨rfl, hb⟩; refine ⟨_, rfl, ?_⟩; have n0_ := Aside0.mk (Kd.R_below (by (with_reducible repeat (first | apply Kd.R_alloc | apply Kd.R_drewN | apply Kd.R_drew)); exact HO_5.out) hb); have n1_ := Aside0.mk (Kd.R_below (by (with_reducible repeat (first | apply Kd.R_alloc | apply Kd.R_drewN | apply Kd.R_drew)); exact HO_32.out) hb); have n2_ := Aside0.mk (below_step (by repeat (first | (with_reducible first | exact HB.out | apply below_alloc | apply pw_below_drewN | apply below_drew1) | exact HB.out)) hb); clear HO_5; clear HO_32; clear HB; have HO_5 := n0_; have HO_32 := n1_; have HB := n2_; clear n0_ n1_ n2_; (try clear hb); (try clear hb2); (try clear hk); (try clear hi)) | ((with_reducible refine gate_callee (f := 9) rfl ?_); refine goesL_ (some 233) rfl rfl Try.func9 (by kernel_rfl) rfl #[.int .i64 (t439.length : Int), .int .i64 t440] rfl (by (try simp only [List.map_toArray, List.map_cons, List.map_nil]); first | done | rfl | (simp only [List.length_drop, List.length_take]; rfl)) ?_; (with_reducible refine (impl_MostArea.calls kj118 (t439.length : Int) t440 t494 false _ A130.out).mono ?_); rintro e w' ⟨rfl, ⟨nd, rfl⟩⟩; refine ⟨_, rfl, ?_⟩))
                                              go_ret
                                              exact ⟨by first | rfl | (simp [errW_none, errW_some] <;> rfl) | (simp [*, errW_none, errW_some] <;> rfl), by repeat (first | (with_reducible first | exact HB.out | apply below_alloc | apply pw_below_drewN | apply below_drew1) | exact HB.out)⟩
                                        · replace c132 := Bool.eq_false_iff.mpr c132
                                          subst c132
                                          have H1 : (some false) = some r := by rw [if_neg (show ¬ (false = true) by decide)] at H; exact H
                                          clear H
                                          have H := H1
                                          clear H1
                                          as_aux_lemma =>
                                            obtain rfl := Option.some.inj H
                                            obtain ⟨Ao152, co152, eo152⟩ := Kd.R_slice HO_32.out
                                            subst eo152
                                            go_wp2_with (first | ((with_reducible refine gate_callee (f := 6) rfl ?_); refine goesL_ (some 217) rfl rfl Try.func6 (by kernel_rfl) rfl #[.slice Ao152 t481.length co152, .int .i64 (wrap64 (t440 + (t439.length : Int)))] rfl (by (try simp only [List.map_toArray, List.map_cons, List.map_nil]); first | done | rfl | (simp only [List.length_drop, List.length_take]; rfl)) ?_; (with_reducible refine (impl_SlopeArea.calls kj118 _ _ t481 (wrap64 (t440 + (t439.length : Int))) t490 true _ ?side1 ?side2 A128.out).mono ?_); (case side1 => repeat (first | exact (Kd.R_reads' HO_32.out).2.2 | (with_reducible refine Kd.C_alloc ?_ _) | (with_reducible refine Kd.C_drewN ?_ _) | (with_reducible refine Kd.C_drew ?_))); (case side2 => exact (Kd.R_reads' HO_32.out).2.1); rintro e w153 ⟨rfl, hb⟩; refine ⟨_, rfl, ?_⟩; have n0_ := Aside0.mk (Kd.R_below (by (with_reducible repeat (first | apply Kd.R_alloc | apply Kd.R_drewN | apply Kd.R_drew)); exact HO_5.out) hb); have n1_ := Aside0.mk (Kd.R_below (by (with_reducible repeat (first | apply Kd.R_alloc | apply Kd.R_drewN | apply Kd.R_drew)); exact HO_32.out) hb); have n2_ := Aside0.mk (below_step (by repeat (first | (with_reducible first | exact HB.out | apply below_alloc | apply pw_below_drewN | apply below_drew1) | exact HB.out)) hb); clear HO_5; clear HO_32; clear HB; have HO_5 := n0_; have HO_32 := n1_; have HB := n2_; clear n0_ n1_ n2_; (try clear hb); (try clear hb2); (try clear hk); (try clear hi)) | ((with_reducible refine gate_callee (f := 20) rfl ?_); refine goesL_ (some 226) rfl rfl Try.func20 (by kernel_rfl) rfl #[.slice Ao152 t481.length co152, .int .i64 (wrap64 (t440 + (t439.length : Int)))] rfl (by (try simp only [List.map_toArray, List.map_cons, List.map_nil]); first | done | rfl | (simp only [List.length_drop, List.length_take]; rfl)) ?_; (with_reducible refine (impl_IsSlopeParking.calls kj118 _ _ t481 (wrap64 (t440 + (t439.length : Int))) t492 false _ ?side1 ?side2 A129.out).mono ?_); (case side1 => repeat (first | exact (Kd.R_reads' HO_32.out).2.2 | (with_reducible refine Kd.C_alloc ?_ _) | (with_reducible refine Kd.C_drewN ?_ _) | (with_reducible refine Kd.C_drew ?_))); (case side2 => exact (Kd.R_reads' HO_32.out).2.1); rintro e w154 ⟨rfl, hb⟩; refine ⟨_, rfl, ?_⟩; have n0_ := Aside0.mk (Kd.R_below (by (with_reducible repeat (first | apply Kd.R_alloc | apply Kd.R_drewN | apply Kd.R_drew)); exact HO_5.out) hb); have n1_ := Aside0.mk (Kd.R_below (by (with_reducible repeat (first | apply Kd.R_alloc | apply Kd.R_drewN | apply Kd.R_drew)); exact HO_32.out) hb); have n2_ := Aside0.mk (below_step (by repeat (first | (with_reducible first | exact HB.out | apply below_alloc | apply pw_below_drewN | apply below_drew1) | exact HB.out)) hb); clear HO_5; clear HO_32; clear HB; have HO_5 := n0_; have HO_32 := n1_; have HB := n2_; clear n0_ n1_ n2_; (try clear hb); (try clear hb2); (try clear hk); (try clear hi)) | ((with_reducible refine gate_callee (f := 9) rfl ?_); refine goesL_ (some 233) rfl rfl Try.func9 (by kernel_rfl) rfl #[.int .i64 (t439.length : Int), .int .i64 t440] rfl (by (try simp only [List.map_toArray, List.map_cons, List.map_nil]); first | done | rfl | (simp only [List.length_drop, List.length_take]; rfl)) ?_; (with_reducible refine (impl_MostArea.calls kj118 (t439.length : Int) t440 t494 t495 _ A130.out).mono ?_); rintro e w' ⟨rfl, ⟨nd, rfl⟩⟩; refine ⟨_, rfl, ?_⟩))
                                            go_ret
                                            exact ⟨by first | rfl | (simp [errW_none, errW_some] <;> rfl) | (simp [*, errW_none, errW_some] <;> rfl), by repeat (first | (with_reducible first | exact HB.out | apply below_alloc | apply pw_below_drewN | apply below_drew1) | exact HB.out)⟩
                                      · replace c131 := Bool.eq_false_iff.mpr c131
                                        subst c131
                                        have H1 : (some false) = some r := by rw [if_neg (show ¬ (false = true) by decide)] at H; exact H
                                        clear H
                                        have H := H1
                                        clear H1
                                        as_aux_lemma =>
                                          obtain rfl := Option.some.inj H
                                          obtain ⟨Ao155, co155, eo155⟩ := Kd.R_slice HO_32.out
                                          subst eo155
                                          go_wp2_with (first | ((with_reducible refine gate_callee (f := 6) rfl ?_); refine goesL_ (some 217) rfl rfl Try.func6 (by kernel_rfl) rfl #[.slice Ao155 t481.length co155, .int .i64 (wrap64 (t440 + (t439.length : Int)))] rfl (by (try simp only [List.map_toArray, List.map_cons, List.map_nil]); first | done | rfl | (simp only [List.length_drop, List.length_take]; rfl)) ?_; (with_reducible refine (impl_SlopeArea.calls kj118 _ _ t481 (wrap64 (t440 + (t439.length : Int))) t490 false _ ?side1 ?side2 A128.out).mono ?_); (case side1 => repeat (first | exact (Kd.R_reads' HO_32.out).2.2 | (with_reducible refine Kd.C_alloc ?_ _) | (with_reducible refine Kd.C_drewN ?_ _) | (with_reducible refine Kd.C_drew ?_))); (case side2 => exact (Kd.R_reads' HO_32.out).2.1); rintro e w156 ⟨rfl, hb⟩; refine ⟨_, rfl, ?_⟩; have n0_ := Aside0.mk (Kd.R_below (by (with_reducible repeat (first | apply Kd.R_alloc | apply Kd.R_drewN | apply Kd.R_drew)); exact HO_5.out) hb); have n1_ := Aside0.mk (Kd.R_below (by (with_reducible repeat (first | apply Kd.R_alloc | apply Kd.R_drewN | apply Kd.R_drew)); exact HO_32.out) hb); have n2_ := Aside0.mk (below_step (by repeat (first | (with_reducible first | exact HB.out | apply below_alloc | apply pw_below_drewN | apply below_drew1) | exact HB.out)) hb); clear HO_5; clear HO_32; clear HB; have HO_5 := n0_; have HO_32 := n1_; have HB := n2_; clear n0_ n1_ n2_; (try clear hb); (try clear hb2); (try clear hk); (try clear hi)) | ((with_reducible refine gate_callee (f := 20) rfl ?_); refine goesL_ (some 226) rfl rfl Try.func20 (by kernel_rfl) rfl #[.slice Ao155 t481.length co155, .int .i64 (wrap64 (t440 + (t439.length : Int)))] rfl (by (try simp only [List.map_toArray, List.map_cons, List.map_nil]); first | done | rfl | (simp only [List.length_drop, List.length_take]; rfl)) ?_; (with_reducible refine (impl_IsSlopeParking.calls kj118 _ _ t481 (wrap64 (t440 + (t439.length : Int))) t492 t493 _ ?side1 ?side2 A129.out).mono ?_); (case side1 => repeat (first | exact (Kd.R_reads' HO_32.out).2.2 | (with_reducible refine Kd.C_alloc ?_ _) | (with_reducible refine Kd.C_drewN ?_ _) | (with_reducible refine Kd.C_drew ?_))); (case side2 => exact (Kd.R_reads' HO_32.out).2.1); rintro e w157 ⟨rfl, hb⟩; refine ⟨_, rfl, ?_⟩; have n0_ := Aside0.mk (Kd.R_below (by (with_reducible repeat (first | apply Kd.R_alloc | apply Kd.R_drewN | apply Kd.R_drew)); exact HO_5.out) hb); have n1_ := Aside0.mk (Kd.R_below (by (with_reducible repeat (first | apply Kd.R_alloc | apply Kd.R_drewN | apply Kd.R_drew)); exact HO_32.out) hb); have n2_ := Aside0.mk (below_step (by repeat (first | (with_reducible first | exact HB.out | apply below_alloc | apply pw_below_drewN | apply below_drew1) | exact HB.out)) hb); clear HO_5; clear HO_32; clear HB; have HO_5 := n0_; have HO_32 := n1_; have HB := n2_; clear n0_ n1_ n2_; (try clear hb); (try clear hb2); (try clear hk); (try clear hi)) | ((with_reducible refine gate_callee (f := 9) rfl ?_); refine goesL_ (some 233) rfl rfl Try.func9 (by kernel_rfl) rfl #[.int .i64 (t439.length : Int), .int .i64 t440] rfl (by (try simp only [List.map_toArray, List.map_cons, List.map_nil]); first | done | rfl | (simp only [List.length_drop, List.length_take]; rfl)) ?_; (with_reducible refine (impl_MostArea.calls kj118 (t439.length : Int) t440 t494 t495 _ A130.out).mono ?_); rintro e w' ⟨rfl, ⟨nd, rfl⟩⟩; refine ⟨_, rfl, ?_⟩))
                                          go_ret
                                          exact ⟨by first | rfl | (simp [errW_none, errW_some] <;> rfl) | (simp [*, errW_none, errW_some] <;> rfl), by repeat (first | (with_reducible first | exact HB.out | apply below_alloc | apply pw_below_drewN | apply below_drew1) | exact HB.out)⟩
                                    · replace c127 := Bool.eq_false_iff.mpr c127
                                      subst c127
                                      have H1 : (some true) = some r := by rw [if_neg (show ¬ (false = true) by decide)] at H; exact H
                                      clear H
                                      have H := H1
                                      clear H1
                                      as_aux_lemma =>
                                        obtain rfl := Option.some.inj H
                                        go_wp2
                                        go_ret
                                        exact ⟨by first | rfl | (simp [errW_none, errW_some] <;> rfl) | (simp [*, errW_none, errW_some] <;> rfl), by repeat (first | (with_reducible first | exact HB.out | apply below_alloc | apply pw_below_drewN | apply below_drew1) | exact HB.out)⟩

/-- THE ONE PURE STATEMENT of laws_FnSlopeAreas: yours. -/
def laws_FnSlopeAreas.Pure : Prop := ∀ (l0 : List Int) (l1 : List Int), l0.length ≤ maxLen → l0.length * 1 ≤ 140737488351232 → (∀ x ∈ l0, (Lit.int .u8 x).wf = true) → l1.length ≤ maxLen → l1.length * 1 ≤ 140737488351232 → (∀ x ∈ l1, (Lit.int .u8 x).wf = true) → ∃ k, laws_FnSlopeAreas.f k l0 l1 = some true
theorem laws_FnSlopeAreas.walk (P : laws_FnSlopeAreas.Pure) (a0 : Option Addr) (len0 cap0 : Nat) (z0 : List Int) (a1 : Option Addr) (len1 cap1 : Nat) (z1 : List Int) (w : World) (w0 : (a0 = none ∧ len0 = 0 ∧ cap0 = 0 ∧ z0 = []) ∨ ∃ x, a0 = some x ∧ len0 ≤ cap0 ∧ cap0 ≤ maxLen ∧ z0.length = cap0 ∧ (∀ i, i < z0.length → w.cell? (x.add i) = some (.int .u8 (z0.getD i 0))) ∧ ∀ n ∈ z0, (Lit.int .u8 n).wf = true) (y0 : len0 * 1 ≤ 140737488351232) (w1 : (a1 = none ∧ len1 = 0 ∧ cap1 = 0 ∧ z1 = []) ∨ ∃ x, a1 = some x ∧ len1 ≤ cap1 ∧ cap1 ≤ maxLen ∧ z1.length = cap1 ∧ (∀ i, i < z1.length → w.cell? (x.add i) = some (.int .u8 (z1.getD i 0))) ∧ ∀ n ∈ z1, (Lit.int .u8 n).wf = true) (y1 : len1 * 1 ≤ 140737488351232) :
    Calls Try.prog 3 #[.slice a0 len0 cap0, .slice a1 len1 cap1] w fun e w' => e = .returned (.bool true) ∧ Below w.heap.size w w' := by
  obtain ⟨l0, rfl, hr0, hm0, hw0, hc0⟩ := ReadsInt.ofRowC w0
  obtain ⟨l1, rfl, hr1, hm1, hw1, hc1⟩ := ReadsInt.ofRowC w1
  obtain ⟨k, h⟩ := P l0 l1 hm0 y0 hw0 hm1 y1 hw1
  refine (laws_FnSlopeAreas.calls k _ _ l0 _ _ l1 true w (Kd.C_of_reads (d := (0 : Int)) (h1 := fun _ => rfl) hr0) hc0 (Kd.C_of_reads (d := (0 : Int)) (h1 := fun _ => rfl) hr1) hc1 h).mono ?_
  rintro e w' ⟨rfl, hd⟩
  exact ⟨rfl, hd⟩

end Go.Proofs.Ytflfbkobpdooeaa.PAll
