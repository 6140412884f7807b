-- written by a program of this session (wip/gen/xpatch.py over the translation); Lean checks it
import Derived.Test.YtpcioeakogildaaPAllx0
import Derived.Test.YtpcioeakogildaaPAllx1
import Derived.Test.YtpcioeakogildaaPAllx2
import Derived.Test.YtpcioeakogildaaPAllx3
import Derived.Test.YtpcioeakogildaaPAllx4
import Derived.Test.YtpcioeakogildaaPAllx5
namespace Go.Proofs.Ytpcioeakogildaa.PAll
open Go.RowKit Go.Proofs.Ytpcioeakogildaa.Hand Go.Proofs.YtpcioeakogildaaW.PrintWords Go.Proofs.YtpcioeakogildaaW.PrintLast Go.Proofs.YtpcioeakogildaaW.PrintMore
attribute [local go_sem] max2_int min2_int max_two min_two max_three min_three max_four min_four   -- for this text's walks alone
set_option linter.unusedVariables false
set_option linter.unusedSimpArgs false

/-! ### laws_FnSlopesCounted: function 3 -/
mutual
def laws_FnSlopesCounted.j0 : Nat → List Int → List Int → Int → Int → Int → List Int → Bool → Int → Bool → Option (Bool)
  | 0, _, _, _, _, _, _, _, _, _ => none
  | k + 1, x0, x1, x5, x6, x7, x8, x9, x12, x109 => if x109 = true then (some false) else ((spec_DrawAllSlope.f k x1).bind fun bt413 => ((impl_AllSlope.f k bt413.1 bt413.2).bind fun bt415 => ((spec_AllSlope.f k bt413.1 bt413.2).bind fun bt419 => (if (bt415.2 != bt419.2) = true then (laws_FnSlopesCounted.j1 k x0 x1 x5 x6 x7 x8 x9 x12 bt413.1 bt413.2 bt415.1 bt415.2 true) else ((laws_wSameLists.f k bt415.1 bt419.1).bind fun t423 => (laws_FnSlopesCounted.j1 k x0 x1 x5 x6 x7 x8 x9 x12 bt413.1 bt413.2 bt415.1 bt415.2 (!t423)))))))
def laws_FnSlopesCounted.j1 : Nat → List Int → List Int → Int → Int → Int → List Int → Bool → Int → Int → Int → List (List Int) → Bool → Bool → Option (Bool)
  | 0, _, _, _, _, _, _, _, _, _, _, _, _, _ => none
  | k + 1, x0, x1, x5, x6, x7, x8, x9, x12, x16, x17, x18, x19, x135 => if x135 = true then (some false) else (if x19 = true then ((impl_CountSlope.f k x16 x17).bind fun bt424 => (if bt424.2 = true then (laws_FnSlopesCounted.j2 k x0 x1 x5 x6 x7 x8 x9 x12 x17 x18 (bt424.1 != (x18.length : Int))) else (laws_FnSlopesCounted.j2 k x0 x1 x5 x6 x7 x8 x9 x12 x17 x18 true))) else (laws_FnSlopesCounted.j4 k x5 x6 x7 x8 x9 x12))
def laws_FnSlopesCounted.j4 : Nat → Int → Int → Int → List Int → Bool → Int → Option (Bool)
  | 0, _, _, _, _, _, _ => none
  | k + 1, x5, x6, x7, x8, x9, x12 => if x9 = true then ((impl_RankSlope.f k x8 x6).bind fun bt434 => ((impl_SlopeAt.f k x5 x6 (wrap64 (x7 + 1))).bind fun bt436 => (if bt434.2 = true then (if bt434.1 = x7 then (if (bt436.2 == (decide ((wrap64 (x7 + 1)) < x12))) = true then (if bt436.2 = true then ((laws_wLess.f k x8 bt436.1).bind fun t440 => (some t440)) else (some true)) else (some false)) else (some false)) else (some false)))) else (some true)
def laws_FnSlopesCounted.j2 : Nat → List Int → List Int → Int → Int → Int → List Int → Bool → Int → Int → List (List Int) → Bool → Option (Bool)
  | 0, _, _, _, _, _, _, _, _, _, _, _ => none
  | k + 1, x0, x1, x5, x6, x7, x8, x9, x12, x17, x18, x150 => if x150 = true then (some false) else (laws_FnSlopesCounted.l0 k x0 x1 x5 x6 x7 x8 x9 x12 x17 x18 x18 (x18.length : Int) 0)
def laws_FnSlopesCounted.l0 : Nat → List Int → List Int → Int → Int → Int → List Int → Bool → Int → Int → List (List Int) → List (List Int) → Int → Int → Option (Bool)
  | 0, _, _, _, _, _, _, _, _, _, _, _, _, _ => none
  | k + 1, x0, x1, x5, x6, x7, x8, x9, x12, x17, x18, x151, x152, x153 => if x153 < x152 then (if 0 ≤ x153 then (if x153 < (x151.length : Int) then ((impl_IsSlopeParking.f k (rd_L2 x151 x153) x17).bind fun bt430 => (if bt430.2 = true then (if bt430.1 = true then (if x153 > 0 then (if 0 ≤ (wrap64 (x153 - 1)) then (if (wrap64 (x153 - 1)) < (x18.length : Int) then ((laws_wLess.f k (rd_L2 x18 (wrap64 (x153 - 1))) (rd_L2 x151 x153)).bind fun t433 => (if t433 = true then (laws_FnSlopesCounted.l0 k x0 x1 x5 x6 x7 x8 x9 x12 x17 x18 x151 x152 (wrap64 (x153 + 1))) else (some false))) else (none)) else (none)) else (laws_FnSlopesCounted.l0 k x0 x1 x5 x6 x7 x8 x9 x12 x17 x18 x151 x152 (wrap64 (x153 + 1)))) else (some false)) else (some false))) else (none)) else (none)) else (if (x18.length : Int) = 0 then (none) else (if 0 ≤ (Int.tmod (wrap64 ((x0.length : Int) + (x1.length : Int))) (x18.length : Int)) then (if (Int.tmod (wrap64 ((x0.length : Int) + (x1.length : Int))) (x18.length : Int)) < (x18.length : Int) then ((impl_RankSlope.f k (rd_L2 x18 (Int.tmod (wrap64 ((x0.length : Int) + (x1.length : Int))) (x18.length : Int))) x17).bind fun bt427 => (if bt427.2 = true then (if bt427.1 = (Int.tmod (wrap64 ((x0.length : Int) + (x1.length : Int))) (x18.length : Int)) then (laws_FnSlopesCounted.j4 k x5 x6 x7 x8 x9 x12) else (some false)) else (some false))) else (none)) else (none)))
end
def laws_FnSlopesCounted.f (k : Nat) (l0 : List Int) (l1 : List Int) : Option (Bool) := (laws_big.f l0 l1).bind fun t395 => (if t395 = true then (some true) else ((spec_DrawSlopeAt.f k l0).bind fun bt396 => ((impl_SlopeAt.f k bt396.1 bt396.2.1 bt396.2.2).bind fun bt399 => ((spec_SlopeAt.f k bt396.1 bt396.2.1 bt396.2.2).bind fun bt403 => ((impl_CountSlope.f k bt396.1 bt396.2.1).bind fun bt407 => ((spec_CountSlope.f k bt396.1 bt396.2.1).bind fun bt409 => (if (bt399.2 != bt403.2) = true then (laws_FnSlopesCounted.j0 k l0 l1 bt396.1 bt396.2.1 bt396.2.2 bt399.1 bt399.2 bt407.1 true) else ((laws_wSame.f k bt399.1 bt403.1).bind fun t411 => (if t411 = true then (if (bt407.2 != bt409.2) = true then (laws_FnSlopesCounted.j0 k l0 l1 bt396.1 bt396.2.1 bt396.2.2 bt399.1 bt399.2 bt407.1 true) else (if bt407.1 = bt409.1 then ((impl_IsSlope.f k bt396.1 bt396.2.1).bind fun t412 => (if (bt407.2 != t412) = true then (laws_FnSlopesCounted.j0 k l0 l1 bt396.1 bt396.2.1 bt396.2.2 bt399.1 bt399.2 bt407.1 true) else (if bt407.2 = true then (if bt396.2.2 ≥ 0 then (laws_FnSlopesCounted.j0 k l0 l1 bt396.1 bt396.2.1 bt396.2.2 bt399.1 bt399.2 bt407.1 (bt399.2 != (decide (bt396.2.2 < bt407.1)))) else (laws_FnSlopesCounted.j0 k l0 l1 bt396.1 bt396.2.1 bt396.2.2 bt399.1 bt399.2 bt407.1 (bt399.2 != false))) else (laws_FnSlopesCounted.j0 k l0 l1 bt396.1 bt396.2.1 bt396.2.2 bt399.1 bt399.2 bt407.1 (bt399.2 != false))))) else (laws_FnSlopesCounted.j0 k l0 l1 bt396.1 bt396.2.1 bt396.2.2 bt399.1 bt399.2 bt407.1 true))) else (laws_FnSlopesCounted.j0 k l0 l1 bt396.1 bt396.2.1 bt396.2.2 bt399.1 bt399.2 bt407.1 true))))))))))
theorem laws_FnSlopesCounted.mono_l : ∀ k, (∀ y0 y1 y2 y3 y4 y5 y6 y7 y8, LeO (laws_FnSlopesCounted.j0 k y0 y1 y2 y3 y4 y5 y6 y7 y8) (laws_FnSlopesCounted.j0 (k + 1) y0 y1 y2 y3 y4 y5 y6 y7 y8)) ∧ (∀ y0 y1 y2 y3 y4 y5 y6 y7 y8 y9 y10 y11 y12, LeO (laws_FnSlopesCounted.j1 k y0 y1 y2 y3 y4 y5 y6 y7 y8 y9 y10 y11 y12) (laws_FnSlopesCounted.j1 (k + 1) y0 y1 y2 y3 y4 y5 y6 y7 y8 y9 y10 y11 y12)) ∧ (∀ y0 y1 y2 y3 y4 y5, LeO (laws_FnSlopesCounted.j4 k y0 y1 y2 y3 y4 y5) (laws_FnSlopesCounted.j4 (k + 1) y0 y1 y2 y3 y4 y5)) ∧ (∀ y0 y1 y2 y3 y4 y5 y6 y7 y8 y9 y10, LeO (laws_FnSlopesCounted.j2 k y0 y1 y2 y3 y4 y5 y6 y7 y8 y9 y10) (laws_FnSlopesCounted.j2 (k + 1) y0 y1 y2 y3 y4 y5 y6 y7 y8 y9 y10)) ∧ (∀ y0 y1 y2 y3 y4 y5 y6 y7 y8 y9 y10 y11 y12, LeO (laws_FnSlopesCounted.l0 k y0 y1 y2 y3 y4 y5 y6 y7 y8 y9 y10 y11 y12) (laws_FnSlopesCounted.l0 (k + 1) y0 y1 y2 y3 y4 y5 y6 y7 y8 y9 y10 y11 y12))
  | 0 => ⟨fun _ _ _ _ _ _ _ _ _ r h => by simp [laws_FnSlopesCounted.j0] at h, fun _ _ _ _ _ _ _ _ _ _ _ _ _ r h => by simp [laws_FnSlopesCounted.j1] at h, fun _ _ _ _ _ _ r h => by simp [laws_FnSlopesCounted.j4] at h, fun _ _ _ _ _ _ _ _ _ _ _ r h => by simp [laws_FnSlopesCounted.j2] at h, fun _ _ _ _ _ _ _ _ _ _ _ _ _ r h => by simp [laws_FnSlopesCounted.l0] at h⟩
  | k + 1 => by
    obtain ⟨ih0, ih1, ih2, ih3, ih4⟩ := laws_FnSlopesCounted.mono_l k
    refine ⟨?_, ?_, ?_, ?_, ?_⟩
    · intro y0 y1 y2 y3 y4 y5 y6 y7 y8
      unfold laws_FnSlopesCounted.j0
      repeat' first
      | (with_reducible exact ih0 _ _ _ _ _ _ _ _ _)
      | (with_reducible exact ih1 _ _ _ _ _ _ _ _ _ _ _ _ _)
      | (with_reducible exact ih2 _ _ _ _ _ _)
      | (with_reducible exact ih3 _ _ _ _ _ _ _ _ _ _ _)
      | (with_reducible exact ih4 _ _ _ _ _ _ _ _ _ _ _ _ _)
      | (with_reducible exact impl_AllSlope.mono _ _ _)
      | (with_reducible exact impl_CountSlope.mono _ _ _)
      | (with_reducible exact impl_IsSlope.mono _ _ _)
      | (with_reducible exact impl_IsSlopeParking.mono _ _ _)
      | (with_reducible exact impl_RankSlope.mono _ _ _)
      | (with_reducible exact impl_SlopeAt.mono _ _ _ _)
      | (with_reducible exact laws_wLess.mono _ _ _)
      | (with_reducible exact laws_wSame.mono _ _ _)
      | (with_reducible exact laws_wSameLists.mono _ _ _)
      | (with_reducible exact spec_AllSlope.mono _ _ _)
      | (with_reducible exact spec_CountSlope.mono _ _ _)
      | (with_reducible exact spec_DrawAllSlope.mono _ _)
      | (with_reducible exact spec_DrawSlopeAt.mono _ _)
      | (with_reducible exact spec_SlopeAt.mono _ _ _ _)
      | (with_reducible exact LeO.refl _)
      | (with_reducible exact LeO.none _)
      | (with_reducible refine LeO.ite ?_ ?_)
      | (with_reducible refine LeO.bind ?_ (fun _ => ?_))
      | exact ih0 _ _ _ _ _ _ _ _ _
      | exact ih1 _ _ _ _ _ _ _ _ _ _ _ _ _
      | exact ih2 _ _ _ _ _ _
      | exact ih3 _ _ _ _ _ _ _ _ _ _ _
      | exact ih4 _ _ _ _ _ _ _ _ _ _ _ _ _
      | exact impl_AllSlope.mono _ _ _
      | exact impl_CountSlope.mono _ _ _
      | exact impl_IsSlope.mono _ _ _
      | exact impl_IsSlopeParking.mono _ _ _
      | exact impl_RankSlope.mono _ _ _
      | exact impl_SlopeAt.mono _ _ _ _
      | exact laws_wLess.mono _ _ _
      | exact laws_wSame.mono _ _ _
      | exact laws_wSameLists.mono _ _ _
      | exact spec_AllSlope.mono _ _ _
      | exact spec_CountSlope.mono _ _ _
      | exact spec_DrawAllSlope.mono _ _
      | exact spec_DrawSlopeAt.mono _ _
      | exact spec_SlopeAt.mono _ _ _ _
      | exact LeO.none _
      | refine LeO.ite ?_ ?_
      | refine LeO.bind ?_ (fun _ => ?_)
    · intro y0 y1 y2 y3 y4 y5 y6 y7 y8 y9 y10 y11 y12
      unfold laws_FnSlopesCounted.j1
      repeat' first
      | (with_reducible exact ih0 _ _ _ _ _ _ _ _ _)
      | (with_reducible exact ih1 _ _ _ _ _ _ _ _ _ _ _ _ _)
      | (with_reducible exact ih2 _ _ _ _ _ _)
      | (with_reducible exact ih3 _ _ _ _ _ _ _ _ _ _ _)
      | (with_reducible exact ih4 _ _ _ _ _ _ _ _ _ _ _ _ _)
      | (with_reducible exact impl_AllSlope.mono _ _ _)
      | (with_reducible exact impl_CountSlope.mono _ _ _)
      | (with_reducible exact impl_IsSlope.mono _ _ _)
      | (with_reducible exact impl_IsSlopeParking.mono _ _ _)
      | (with_reducible exact impl_RankSlope.mono _ _ _)
      | (with_reducible exact impl_SlopeAt.mono _ _ _ _)
      | (with_reducible exact laws_wLess.mono _ _ _)
      | (with_reducible exact laws_wSame.mono _ _ _)
      | (with_reducible exact laws_wSameLists.mono _ _ _)
      | (with_reducible exact spec_AllSlope.mono _ _ _)
      | (with_reducible exact spec_CountSlope.mono _ _ _)
      | (with_reducible exact spec_DrawAllSlope.mono _ _)
      | (with_reducible exact spec_DrawSlopeAt.mono _ _)
      | (with_reducible exact spec_SlopeAt.mono _ _ _ _)
      | (with_reducible exact LeO.refl _)
      | (with_reducible exact LeO.none _)
      | (with_reducible refine LeO.ite ?_ ?_)
      | (with_reducible refine LeO.bind ?_ (fun _ => ?_))
      | exact ih0 _ _ _ _ _ _ _ _ _
      | exact ih1 _ _ _ _ _ _ _ _ _ _ _ _ _
      | exact ih2 _ _ _ _ _ _
      | exact ih3 _ _ _ _ _ _ _ _ _ _ _
      | exact ih4 _ _ _ _ _ _ _ _ _ _ _ _ _
      | exact impl_AllSlope.mono _ _ _
      | exact impl_CountSlope.mono _ _ _
      | exact impl_IsSlope.mono _ _ _
      | exact impl_IsSlopeParking.mono _ _ _
      | exact impl_RankSlope.mono _ _ _
      | exact impl_SlopeAt.mono _ _ _ _
      | exact laws_wLess.mono _ _ _
      | exact laws_wSame.mono _ _ _
      | exact laws_wSameLists.mono _ _ _
      | exact spec_AllSlope.mono _ _ _
      | exact spec_CountSlope.mono _ _ _
      | exact spec_DrawAllSlope.mono _ _
      | exact spec_DrawSlopeAt.mono _ _
      | exact spec_SlopeAt.mono _ _ _ _
      | exact LeO.none _
      | refine LeO.ite ?_ ?_
      | refine LeO.bind ?_ (fun _ => ?_)
    · intro y0 y1 y2 y3 y4 y5
      unfold laws_FnSlopesCounted.j4
      repeat' first
      | (with_reducible exact ih0 _ _ _ _ _ _ _ _ _)
      | (with_reducible exact ih1 _ _ _ _ _ _ _ _ _ _ _ _ _)
      | (with_reducible exact ih2 _ _ _ _ _ _)
      | (with_reducible exact ih3 _ _ _ _ _ _ _ _ _ _ _)
      | (with_reducible exact ih4 _ _ _ _ _ _ _ _ _ _ _ _ _)
      | (with_reducible exact impl_AllSlope.mono _ _ _)
      | (with_reducible exact impl_CountSlope.mono _ _ _)
      | (with_reducible exact impl_IsSlope.mono _ _ _)
      | (with_reducible exact impl_IsSlopeParking.mono _ _ _)
      | (with_reducible exact impl_RankSlope.mono _ _ _)
      | (with_reducible exact impl_SlopeAt.mono _ _ _ _)
      | (with_reducible exact laws_wLess.mono _ _ _)
      | (with_reducible exact laws_wSame.mono _ _ _)
      | (with_reducible exact laws_wSameLists.mono _ _ _)
      | (with_reducible exact spec_AllSlope.mono _ _ _)
      | (with_reducible exact spec_CountSlope.mono _ _ _)
      | (with_reducible exact spec_DrawAllSlope.mono _ _)
      | (with_reducible exact spec_DrawSlopeAt.mono _ _)
      | (with_reducible exact spec_SlopeAt.mono _ _ _ _)
      | (with_reducible exact LeO.refl _)
      | (with_reducible exact LeO.none _)
      | (with_reducible refine LeO.ite ?_ ?_)
      | (with_reducible refine LeO.bind ?_ (fun _ => ?_))
      | exact ih0 _ _ _ _ _ _ _ _ _
      | exact ih1 _ _ _ _ _ _ _ _ _ _ _ _ _
      | exact ih2 _ _ _ _ _ _
      | exact ih3 _ _ _ _ _ _ _ _ _ _ _
      | exact ih4 _ _ _ _ _ _ _ _ _ _ _ _ _
      | exact impl_AllSlope.mono _ _ _
      | exact impl_CountSlope.mono _ _ _
      | exact impl_IsSlope.mono _ _ _
      | exact impl_IsSlopeParking.mono _ _ _
      | exact impl_RankSlope.mono _ _ _
      | exact impl_SlopeAt.mono _ _ _ _
      | exact laws_wLess.mono _ _ _
      | exact laws_wSame.mono _ _ _
      | exact laws_wSameLists.mono _ _ _
      | exact spec_AllSlope.mono _ _ _
      | exact spec_CountSlope.mono _ _ _
      | exact spec_DrawAllSlope.mono _ _
      | exact spec_DrawSlopeAt.mono _ _
      | exact spec_SlopeAt.mono _ _ _ _
      | exact LeO.none _
      | refine LeO.ite ?_ ?_
      | refine LeO.bind ?_ (fun _ => ?_)
    · intro y0 y1 y2 y3 y4 y5 y6 y7 y8 y9 y10
      unfold laws_FnSlopesCounted.j2
      repeat' first
      | (with_reducible exact ih0 _ _ _ _ _ _ _ _ _)
      | (with_reducible exact ih1 _ _ _ _ _ _ _ _ _ _ _ _ _)
      | (with_reducible exact ih2 _ _ _ _ _ _)
      | (with_reducible exact ih3 _ _ _ _ _ _ _ _ _ _ _)
      | (with_reducible exact ih4 _ _ _ _ _ _ _ _ _ _ _ _ _)
      | (with_reducible exact impl_AllSlope.mono _ _ _)
      | (with_reducible exact impl_CountSlope.mono _ _ _)
      | (with_reducible exact impl_IsSlope.mono _ _ _)
      | (with_reducible exact impl_IsSlopeParking.mono _ _ _)
      | (with_reducible exact impl_RankSlope.mono _ _ _)
      | (with_reducible exact impl_SlopeAt.mono _ _ _ _)
      | (with_reducible exact laws_wLess.mono _ _ _)
      | (with_reducible exact laws_wSame.mono _ _ _)
      | (with_reducible exact laws_wSameLists.mono _ _ _)
      | (with_reducible exact spec_AllSlope.mono _ _ _)
      | (with_reducible exact spec_CountSlope.mono _ _ _)
      | (with_reducible exact spec_DrawAllSlope.mono _ _)
      | (with_reducible exact spec_DrawSlopeAt.mono _ _)
      | (with_reducible exact spec_SlopeAt.mono _ _ _ _)
      | (with_reducible exact LeO.refl _)
      | (with_reducible exact LeO.none _)
      | (with_reducible refine LeO.ite ?_ ?_)
      | (with_reducible refine LeO.bind ?_ (fun _ => ?_))
      | exact ih0 _ _ _ _ _ _ _ _ _
      | exact ih1 _ _ _ _ _ _ _ _ _ _ _ _ _
      | exact ih2 _ _ _ _ _ _
      | exact ih3 _ _ _ _ _ _ _ _ _ _ _
      | exact ih4 _ _ _ _ _ _ _ _ _ _ _ _ _
      | exact impl_AllSlope.mono _ _ _
      | exact impl_CountSlope.mono _ _ _
      | exact impl_IsSlope.mono _ _ _
      | exact impl_IsSlopeParking.mono _ _ _
      | exact impl_RankSlope.mono _ _ _
      | exact impl_SlopeAt.mono _ _ _ _
      | exact laws_wLess.mono _ _ _
      | exact laws_wSame.mono _ _ _
      | exact laws_wSameLists.mono _ _ _
      | exact spec_AllSlope.mono _ _ _
      | exact spec_CountSlope.mono _ _ _
      | exact spec_DrawAllSlope.mono _ _
      | exact spec_DrawSlopeAt.mono _ _
      | exact spec_SlopeAt.mono _ _ _ _
      | exact LeO.none _
      | refine LeO.ite ?_ ?_
      | refine LeO.bind ?_ (fun _ => ?_)
    · intro y0 y1 y2 y3 y4 y5 y6 y7 y8 y9 y10 y11 y12
      unfold laws_FnSlopesCounted.l0
      repeat' first
      | (with_reducible exact ih0 _ _ _ _ _ _ _ _ _)
      | (with_reducible exact ih1 _ _ _ _ _ _ _ _ _ _ _ _ _)
      | (with_reducible exact ih2 _ _ _ _ _ _)
      | (with_reducible exact ih3 _ _ _ _ _ _ _ _ _ _ _)
      | (with_reducible exact ih4 _ _ _ _ _ _ _ _ _ _ _ _ _)
      | (with_reducible exact impl_AllSlope.mono _ _ _)
      | (with_reducible exact impl_CountSlope.mono _ _ _)
      | (with_reducible exact impl_IsSlope.mono _ _ _)
      | (with_reducible exact impl_IsSlopeParking.mono _ _ _)
      | (with_reducible exact impl_RankSlope.mono _ _ _)
      | (with_reducible exact impl_SlopeAt.mono _ _ _ _)
      | (with_reducible exact laws_wLess.mono _ _ _)
      | (with_reducible exact laws_wSame.mono _ _ _)
      | (with_reducible exact laws_wSameLists.mono _ _ _)
      | (with_reducible exact spec_AllSlope.mono _ _ _)
      | (with_reducible exact spec_CountSlope.mono _ _ _)
      | (with_reducible exact spec_DrawAllSlope.mono _ _)
      | (with_reducible exact spec_DrawSlopeAt.mono _ _)
      | (with_reducible exact spec_SlopeAt.mono _ _ _ _)
      | (with_reducible exact LeO.refl _)
      | (with_reducible exact LeO.none _)
      | (with_reducible refine LeO.ite ?_ ?_)
      | (with_reducible refine LeO.bind ?_ (fun _ => ?_))
      | exact ih0 _ _ _ _ _ _ _ _ _
      | exact ih1 _ _ _ _ _ _ _ _ _ _ _ _ _
      | exact ih2 _ _ _ _ _ _
      | exact ih3 _ _ _ _ _ _ _ _ _ _ _
      | exact ih4 _ _ _ _ _ _ _ _ _ _ _ _ _
      | exact impl_AllSlope.mono _ _ _
      | exact impl_CountSlope.mono _ _ _
      | exact impl_IsSlope.mono _ _ _
      | exact impl_IsSlopeParking.mono _ _ _
      | exact impl_RankSlope.mono _ _ _
      | exact impl_SlopeAt.mono _ _ _ _
      | exact laws_wLess.mono _ _ _
      | exact laws_wSame.mono _ _ _
      | exact laws_wSameLists.mono _ _ _
      | exact spec_AllSlope.mono _ _ _
      | exact spec_CountSlope.mono _ _ _
      | exact spec_DrawAllSlope.mono _ _
      | exact spec_DrawSlopeAt.mono _ _
      | exact spec_SlopeAt.mono _ _ _ _
      | exact LeO.none _
      | refine LeO.ite ?_ ?_
      | refine LeO.bind ?_ (fun _ => ?_)
theorem laws_FnSlopesCounted.mono : ∀ a0 a1 k, LeO (laws_FnSlopesCounted.f k a0 a1) (laws_FnSlopesCounted.f (k + 1) a0 a1) := by
  intro a0 a1 k
  obtain ⟨ih0, ih1, ih2, ih3, ih4⟩ := laws_FnSlopesCounted.mono_l k
  unfold laws_FnSlopesCounted.f
  repeat' first
      | (with_reducible exact ih0 _ _ _ _ _ _ _ _ _)
      | (with_reducible exact ih1 _ _ _ _ _ _ _ _ _ _ _ _ _)
      | (with_reducible exact ih2 _ _ _ _ _ _)
      | (with_reducible exact ih3 _ _ _ _ _ _ _ _ _ _ _)
      | (with_reducible exact ih4 _ _ _ _ _ _ _ _ _ _ _ _ _)
      | (with_reducible exact impl_AllSlope.mono _ _ _)
      | (with_reducible exact impl_CountSlope.mono _ _ _)
      | (with_reducible exact impl_IsSlope.mono _ _ _)
      | (with_reducible exact impl_IsSlopeParking.mono _ _ _)
      | (with_reducible exact impl_RankSlope.mono _ _ _)
      | (with_reducible exact impl_SlopeAt.mono _ _ _ _)
      | (with_reducible exact laws_wLess.mono _ _ _)
      | (with_reducible exact laws_wSame.mono _ _ _)
      | (with_reducible exact laws_wSameLists.mono _ _ _)
      | (with_reducible exact spec_AllSlope.mono _ _ _)
      | (with_reducible exact spec_CountSlope.mono _ _ _)
      | (with_reducible exact spec_DrawAllSlope.mono _ _)
      | (with_reducible exact spec_DrawSlopeAt.mono _ _)
      | (with_reducible exact spec_SlopeAt.mono _ _ _ _)
      | (with_reducible exact LeO.refl _)
      | (with_reducible exact LeO.none _)
      | (with_reducible refine LeO.ite ?_ ?_)
      | (with_reducible refine LeO.bind ?_ (fun _ => ?_))
      | exact ih0 _ _ _ _ _ _ _ _ _
      | exact ih1 _ _ _ _ _ _ _ _ _ _ _ _ _
      | exact ih2 _ _ _ _ _ _
      | exact ih3 _ _ _ _ _ _ _ _ _ _ _
      | exact ih4 _ _ _ _ _ _ _ _ _ _ _ _ _
      | exact impl_AllSlope.mono _ _ _
      | exact impl_CountSlope.mono _ _ _
      | exact impl_IsSlope.mono _ _ _
      | exact impl_IsSlopeParking.mono _ _ _
      | exact impl_RankSlope.mono _ _ _
      | exact impl_SlopeAt.mono _ _ _ _
      | exact laws_wLess.mono _ _ _
      | exact laws_wSame.mono _ _ _
      | exact laws_wSameLists.mono _ _ _
      | exact spec_AllSlope.mono _ _ _
      | exact spec_CountSlope.mono _ _ _
      | exact spec_DrawAllSlope.mono _ _
      | exact spec_DrawSlopeAt.mono _ _
      | exact spec_SlopeAt.mono _ _ _ _
      | exact LeO.none _
      | refine LeO.ite ?_ ?_
      | refine LeO.bind ?_ (fun _ => ?_)
set_option maxHeartbeats 8000000 in
set_option maxRecDepth 100000 in
theorem laws_FnSlopesCounted.calls (k : Nat) (A0 : Option Addr) (c0 : Nat) (l0 : List Int) (A1 : Option Addr) (c1 : Nat) (l1 : List Int) (r : Bool) (w : World) (hr0 : Kd.C (Kd.int .u8) w A0 l0.length l0) (hc0 : l0.length ≤ c0) (hr1 : Kd.C (Kd.int .u8) w A1 l1.length l1) (hc1 : l1.length ≤ c1) (h : laws_FnSlopesCounted.f k l0 l1 = some r) :
    Calls Try.prog 3 #[.slice A0 l0.length c0, .slice A1 l1.length c1] w fun e w' => e = .returned (.bool r) ∧ Below w.heap.size w w' := by
  have HR0 := Aside0.mk hr0
  have HC0 := Aside0.mk hc0
  clear hr0 hc0
  have HR1 := Aside0.mk hr1
  have HC1 := Aside0.mk hc1
  clear hr1 hc1
  have HB := Aside0.mk (Below.refl w.heap.size w)
  have H : ((laws_big.f l0 l1).bind fun t395 => (if t395 = true then (some true) else ((spec_DrawSlopeAt.f k l0).bind fun bt396 => ((impl_SlopeAt.f k bt396.1 bt396.2.1 bt396.2.2).bind fun bt399 => ((spec_SlopeAt.f k bt396.1 bt396.2.1 bt396.2.2).bind fun bt403 => ((impl_CountSlope.f k bt396.1 bt396.2.1).bind fun bt407 => ((spec_CountSlope.f k bt396.1 bt396.2.1).bind fun bt409 => (if (bt399.2 != bt403.2) = true then (laws_FnSlopesCounted.j0 k l0 l1 bt396.1 bt396.2.1 bt396.2.2 bt399.1 bt399.2 bt407.1 true) else ((laws_wSame.f k bt399.1 bt403.1).bind fun t411 => (if t411 = true then (if (bt407.2 != bt409.2) = true then (laws_FnSlopesCounted.j0 k l0 l1 bt396.1 bt396.2.1 bt396.2.2 bt399.1 bt399.2 bt407.1 true) else (if bt407.1 = bt409.1 then ((impl_IsSlope.f k bt396.1 bt396.2.1).bind fun t412 => (if (bt407.2 != t412) = true then (laws_FnSlopesCounted.j0 k l0 l1 bt396.1 bt396.2.1 bt396.2.2 bt399.1 bt399.2 bt407.1 true) else (if bt407.2 = true then (if bt396.2.2 ≥ 0 then (laws_FnSlopesCounted.j0 k l0 l1 bt396.1 bt396.2.1 bt396.2.2 bt399.1 bt399.2 bt407.1 (bt399.2 != (decide (bt396.2.2 < bt407.1)))) else (laws_FnSlopesCounted.j0 k l0 l1 bt396.1 bt396.2.1 bt396.2.2 bt399.1 bt399.2 bt407.1 (bt399.2 != false))) else (laws_FnSlopesCounted.j0 k l0 l1 bt396.1 bt396.2.1 bt396.2.2 bt399.1 bt399.2 bt407.1 (bt399.2 != false))))) else (laws_FnSlopesCounted.j0 k l0 l1 bt396.1 bt396.2.1 bt396.2.2 bt399.1 bt399.2 bt407.1 true))) else (laws_FnSlopesCounted.j0 k l0 l1 bt396.1 bt396.2.1 bt396.2.2 bt399.1 bt399.2 bt407.1 true))))))))))) = some r := h
  clear h
  replace H := Option.bind_eq_some_iff.mp H
  obtain ⟨t395, A30, H⟩ := H
  replace H : (if t395 = true then (some true) else ((spec_DrawSlopeAt.f k l0).bind fun bt396 => ((impl_SlopeAt.f k bt396.1 bt396.2.1 bt396.2.2).bind fun bt399 => ((spec_SlopeAt.f k bt396.1 bt396.2.1 bt396.2.2).bind fun bt403 => ((impl_CountSlope.f k bt396.1 bt396.2.1).bind fun bt407 => ((spec_CountSlope.f k bt396.1 bt396.2.1).bind fun bt409 => (if (bt399.2 != bt403.2) = true then (laws_FnSlopesCounted.j0 k l0 l1 bt396.1 bt396.2.1 bt396.2.2 bt399.1 bt399.2 bt407.1 true) else ((laws_wSame.f k bt399.1 bt403.1).bind fun t411 => (if t411 = true then (if (bt407.2 != bt409.2) = true then (laws_FnSlopesCounted.j0 k l0 l1 bt396.1 bt396.2.1 bt396.2.2 bt399.1 bt399.2 bt407.1 true) else (if bt407.1 = bt409.1 then ((impl_IsSlope.f k bt396.1 bt396.2.1).bind fun t412 => (if (bt407.2 != t412) = true then (laws_FnSlopesCounted.j0 k l0 l1 bt396.1 bt396.2.1 bt396.2.2 bt399.1 bt399.2 bt407.1 true) else (if bt407.2 = true then (if bt396.2.2 ≥ 0 then (laws_FnSlopesCounted.j0 k l0 l1 bt396.1 bt396.2.1 bt396.2.2 bt399.1 bt399.2 bt407.1 (bt399.2 != (decide (bt396.2.2 < bt407.1)))) else (laws_FnSlopesCounted.j0 k l0 l1 bt396.1 bt396.2.1 bt396.2.2 bt399.1 bt399.2 bt407.1 (bt399.2 != false))) else (laws_FnSlopesCounted.j0 k l0 l1 bt396.1 bt396.2.1 bt396.2.2 bt399.1 bt399.2 bt407.1 (bt399.2 != false))))) else (laws_FnSlopesCounted.j0 k l0 l1 bt396.1 bt396.2.1 bt396.2.2 bt399.1 bt399.2 bt407.1 true))) else (laws_FnSlopesCounted.j0 k l0 l1 bt396.1 bt396.2.1 bt396.2.2 bt399.1 bt399.2 bt407.1 true)))))))))) = some r := H
  have A3 := Aside0.mk A30
  clear A30
  by_cases c4 : t395 = true
  · subst c4
    have H1 : (some true) = some r := by rw [if_pos rfl] at H; exact H
    clear H
    have H := H1
    clear H1
    as_aux_lemma =>
      obtain rfl := Option.some.inj H
      go_enter Try.func3, Try.ntmps3
      go_wp2_with (first | ((with_reducible refine gate_callee (f := 4) rfl ?_); refine goesL_ (some 37) rfl rfl Try.func4 (by kernel_rfl) rfl #[.slice A0 l0.length c0, .slice A1 l1.length c1] rfl (by (try simp only [List.map_toArray, List.map_cons, List.map_nil]); first | done | rfl | (simp only [List.length_drop, List.length_take]; rfl)) ?_; (with_reducible refine (laws_big.calls _ _ l0 _ _ l1 true _ ?side1 ?side2 ?side3 ?side4 A3.out).mono ?_); (case side1 => repeat (first | exact HR0.out | (with_reducible refine Kd.C_alloc ?_ _) | (with_reducible refine Kd.C_drewN ?_ _) | (with_reducible refine Kd.C_drew ?_))); (case side2 => exact HC0.out); (case side3 => repeat (first | exact HR1.out | (with_reducible refine Kd.C_alloc ?_ _) | (with_reducible refine Kd.C_drewN ?_ _) | (with_reducible refine Kd.C_drew ?_))); (case side4 => exact HC1.out); rintro e w' ⟨rfl, ⟨nd, rfl⟩⟩; refine ⟨_, rfl, ?_⟩))
      go_ret
      exact ⟨by first | rfl | (simp [errW_none, errW_some] <;> rfl) | (simp [*, errW_none, errW_some] <;> rfl), by repeat (first | (with_reducible first | exact HB.out | apply below_alloc | apply pw_below_drewN | apply below_drew1) | exact HB.out)⟩
  · replace c4 := Bool.eq_false_iff.mpr c4
    subst c4
    have H1 : ((spec_DrawSlopeAt.f k l0).bind fun bt396 => ((impl_SlopeAt.f k bt396.1 bt396.2.1 bt396.2.2).bind fun bt399 => ((spec_SlopeAt.f k bt396.1 bt396.2.1 bt396.2.2).bind fun bt403 => ((impl_CountSlope.f k bt396.1 bt396.2.1).bind fun bt407 => ((spec_CountSlope.f k bt396.1 bt396.2.1).bind fun bt409 => (if (bt399.2 != bt403.2) = true then (laws_FnSlopesCounted.j0 k l0 l1 bt396.1 bt396.2.1 bt396.2.2 bt399.1 bt399.2 bt407.1 true) else ((laws_wSame.f k bt399.1 bt403.1).bind fun t411 => (if t411 = true then (if (bt407.2 != bt409.2) = true then (laws_FnSlopesCounted.j0 k l0 l1 bt396.1 bt396.2.1 bt396.2.2 bt399.1 bt399.2 bt407.1 true) else (if bt407.1 = bt409.1 then ((impl_IsSlope.f k bt396.1 bt396.2.1).bind fun t412 => (if (bt407.2 != t412) = true then (laws_FnSlopesCounted.j0 k l0 l1 bt396.1 bt396.2.1 bt396.2.2 bt399.1 bt399.2 bt407.1 true) else (if bt407.2 = true then (if bt396.2.2 ≥ 0 then (laws_FnSlopesCounted.j0 k l0 l1 bt396.1 bt396.2.1 bt396.2.2 bt399.1 bt399.2 bt407.1 (bt399.2 != (decide (bt396.2.2 < bt407.1)))) else (laws_FnSlopesCounted.j0 k l0 l1 bt396.1 bt396.2.1 bt396.2.2 bt399.1 bt399.2 bt407.1 (bt399.2 != false))) else (laws_FnSlopesCounted.j0 k l0 l1 bt396.1 bt396.2.1 bt396.2.2 bt399.1 bt399.2 bt407.1 (bt399.2 != false))))) else (laws_FnSlopesCounted.j0 k l0 l1 bt396.1 bt396.2.1 bt396.2.2 bt399.1 bt399.2 bt407.1 true))) else (laws_FnSlopesCounted.j0 k l0 l1 bt396.1 bt396.2.1 bt396.2.2 bt399.1 bt399.2 bt407.1 true))))))))) = some r := by rw [if_neg (show ¬ (false = true) by decide)] at H; exact H
    clear H
    have H := H1
    clear H1
    replace H := Option.bind_eq_some_iff.mp H
    obtain ⟨⟨t396, t397, t398⟩, A50, H⟩ := H
    replace H : ((impl_SlopeAt.f k t396 t397 t398).bind fun bt399 => ((spec_SlopeAt.f k t396 t397 t398).bind fun bt403 => ((impl_CountSlope.f k t396 t397).bind fun bt407 => ((spec_CountSlope.f k t396 t397).bind fun bt409 => (if (bt399.2 != bt403.2) = true then (laws_FnSlopesCounted.j0 k l0 l1 t396 t397 t398 bt399.1 bt399.2 bt407.1 true) else ((laws_wSame.f k bt399.1 bt403.1).bind fun t411 => (if t411 = true then (if (bt407.2 != bt409.2) = true then (laws_FnSlopesCounted.j0 k l0 l1 t396 t397 t398 bt399.1 bt399.2 bt407.1 true) else (if bt407.1 = bt409.1 then ((impl_IsSlope.f k t396 t397).bind fun t412 => (if (bt407.2 != t412) = true then (laws_FnSlopesCounted.j0 k l0 l1 t396 t397 t398 bt399.1 bt399.2 bt407.1 true) else (if bt407.2 = true then (if t398 ≥ 0 then (laws_FnSlopesCounted.j0 k l0 l1 t396 t397 t398 bt399.1 bt399.2 bt407.1 (bt399.2 != (decide (t398 < bt407.1)))) else (laws_FnSlopesCounted.j0 k l0 l1 t396 t397 t398 bt399.1 bt399.2 bt407.1 (bt399.2 != false))) else (laws_FnSlopesCounted.j0 k l0 l1 t396 t397 t398 bt399.1 bt399.2 bt407.1 (bt399.2 != false))))) else (laws_FnSlopesCounted.j0 k l0 l1 t396 t397 t398 bt399.1 bt399.2 bt407.1 true))) else (laws_FnSlopesCounted.j0 k l0 l1 t396 t397 t398 bt399.1 bt399.2 bt407.1 true)))))))) = some r := H
    have A5 := Aside0.mk A50
    clear A50
    replace H := Option.bind_eq_some_iff.mp H
    obtain ⟨⟨t399, t400⟩, A60, H⟩ := H
    replace H : ((spec_SlopeAt.f k t396 t397 t398).bind fun bt403 => ((impl_CountSlope.f k t396 t397).bind fun bt407 => ((spec_CountSlope.f k t396 t397).bind fun bt409 => (if (t400 != bt403.2) = true then (laws_FnSlopesCounted.j0 k l0 l1 t396 t397 t398 t399 t400 bt407.1 true) else ((laws_wSame.f k t399 bt403.1).bind fun t411 => (if t411 = true then (if (bt407.2 != bt409.2) = true then (laws_FnSlopesCounted.j0 k l0 l1 t396 t397 t398 t399 t400 bt407.1 true) else (if bt407.1 = bt409.1 then ((impl_IsSlope.f k t396 t397).bind fun t412 => (if (bt407.2 != t412) = true then (laws_FnSlopesCounted.j0 k l0 l1 t396 t397 t398 t399 t400 bt407.1 true) else (if bt407.2 = true then (if t398 ≥ 0 then (laws_FnSlopesCounted.j0 k l0 l1 t396 t397 t398 t399 t400 bt407.1 (t400 != (decide (t398 < bt407.1)))) else (laws_FnSlopesCounted.j0 k l0 l1 t396 t397 t398 t399 t400 bt407.1 (t400 != false))) else (laws_FnSlopesCounted.j0 k l0 l1 t396 t397 t398 t399 t400 bt407.1 (t400 != false))))) else (laws_FnSlopesCounted.j0 k l0 l1 t396 t397 t398 t399 t400 bt407.1 true))) else (laws_FnSlopesCounted.j0 k l0 l1 t396 t397 t398 t399 t400 bt407.1 true))))))) = some r := H
    have A6 := Aside0.mk A60
    clear A60
    replace H := Option.bind_eq_some_iff.mp H
    obtain ⟨⟨t403, t404⟩, A70, H⟩ := H
    replace H : ((impl_CountSlope.f k t396 t397).bind fun bt407 => ((spec_CountSlope.f k t396 t397).bind fun bt409 => (if (t400 != t404) = true then (laws_FnSlopesCounted.j0 k l0 l1 t396 t397 t398 t399 t400 bt407.1 true) else ((laws_wSame.f k t399 t403).bind fun t411 => (if t411 = true then (if (bt407.2 != bt409.2) = true then (laws_FnSlopesCounted.j0 k l0 l1 t396 t397 t398 t399 t400 bt407.1 true) else (if bt407.1 = bt409.1 then ((impl_IsSlope.f k t396 t397).bind fun t412 => (if (bt407.2 != t412) = true then (laws_FnSlopesCounted.j0 k l0 l1 t396 t397 t398 t399 t400 bt407.1 true) else (if bt407.2 = true then (if t398 ≥ 0 then (laws_FnSlopesCounted.j0 k l0 l1 t396 t397 t398 t399 t400 bt407.1 (t400 != (decide (t398 < bt407.1)))) else (laws_FnSlopesCounted.j0 k l0 l1 t396 t397 t398 t399 t400 bt407.1 (t400 != false))) else (laws_FnSlopesCounted.j0 k l0 l1 t396 t397 t398 t399 t400 bt407.1 (t400 != false))))) else (laws_FnSlopesCounted.j0 k l0 l1 t396 t397 t398 t399 t400 bt407.1 true))) else (laws_FnSlopesCounted.j0 k l0 l1 t396 t397 t398 t399 t400 bt407.1 true)))))) = some r := H
    have A7 := Aside0.mk A70
    clear A70
    replace H := Option.bind_eq_some_iff.mp H
    obtain ⟨⟨t407, t408⟩, A80, H⟩ := H
    replace H : ((spec_CountSlope.f k t396 t397).bind fun bt409 => (if (t400 != t404) = true then (laws_FnSlopesCounted.j0 k l0 l1 t396 t397 t398 t399 t400 t407 true) else ((laws_wSame.f k t399 t403).bind fun t411 => (if t411 = true then (if (t408 != bt409.2) = true then (laws_FnSlopesCounted.j0 k l0 l1 t396 t397 t398 t399 t400 t407 true) else (if t407 = bt409.1 then ((impl_IsSlope.f k t396 t397).bind fun t412 => (if (t408 != t412) = true then (laws_FnSlopesCounted.j0 k l0 l1 t396 t397 t398 t399 t400 t407 true) else (if t408 = true then (if t398 ≥ 0 then (laws_FnSlopesCounted.j0 k l0 l1 t396 t397 t398 t399 t400 t407 (t400 != (decide (t398 < t407)))) else (laws_FnSlopesCounted.j0 k l0 l1 t396 t397 t398 t399 t400 t407 (t400 != false))) else (laws_FnSlopesCounted.j0 k l0 l1 t396 t397 t398 t399 t400 t407 (t400 != false))))) else (laws_FnSlopesCounted.j0 k l0 l1 t396 t397 t398 t399 t400 t407 true))) else (laws_FnSlopesCounted.j0 k l0 l1 t396 t397 t398 t399 t400 t407 true))))) = some r := H
    have A8 := Aside0.mk A80
    clear A80
    replace H := Option.bind_eq_some_iff.mp H
    obtain ⟨⟨t409, t410⟩, A90, H⟩ := H
    replace H : (if (t400 != t404) = true then (laws_FnSlopesCounted.j0 k l0 l1 t396 t397 t398 t399 t400 t407 true) else ((laws_wSame.f k t399 t403).bind fun t411 => (if t411 = true then (if (t408 != t410) = true then (laws_FnSlopesCounted.j0 k l0 l1 t396 t397 t398 t399 t400 t407 true) else (if t407 = t409 then ((impl_IsSlope.f k t396 t397).bind fun t412 => (if (t408 != t412) = true then (laws_FnSlopesCounted.j0 k l0 l1 t396 t397 t398 t399 t400 t407 true) else (if t408 = true then (if t398 ≥ 0 then (laws_FnSlopesCounted.j0 k l0 l1 t396 t397 t398 t399 t400 t407 (t400 != (decide (t398 < t407)))) else (laws_FnSlopesCounted.j0 k l0 l1 t396 t397 t398 t399 t400 t407 (t400 != false))) else (laws_FnSlopesCounted.j0 k l0 l1 t396 t397 t398 t399 t400 t407 (t400 != false))))) else (laws_FnSlopesCounted.j0 k l0 l1 t396 t397 t398 t399 t400 t407 true))) else (laws_FnSlopesCounted.j0 k l0 l1 t396 t397 t398 t399 t400 t407 true)))) = some r := H
    have A9 := Aside0.mk A90
    clear A90
    have HC10 := Aside0.mk H
    clear H
    go_enter Try.func3, Try.ntmps3
    go_upto_region 8 with (first | ((with_reducible refine gate_callee (f := 4) rfl ?_); refine goesL_ (some 37) rfl rfl Try.func4 (by kernel_rfl) rfl #[.slice A0 l0.length c0, .slice A1 l1.length c1] rfl (by (try simp only [List.map_toArray, List.map_cons, List.map_nil]); first | done | rfl | (simp only [List.length_drop, List.length_take]; rfl)) ?_; (with_reducible refine (laws_big.calls _ _ l0 _ _ l1 false _ ?side1 ?side2 ?side3 ?side4 A3.out).mono ?_); (case side1 => repeat (first | exact HR0.out | (with_reducible refine Kd.C_alloc ?_ _) | (with_reducible refine Kd.C_drewN ?_ _) | (with_reducible refine Kd.C_drew ?_))); (case side2 => exact HC0.out); (case side3 => repeat (first | exact HR1.out | (with_reducible refine Kd.C_alloc ?_ _) | (with_reducible refine Kd.C_drewN ?_ _) | (with_reducible refine Kd.C_drew ?_))); (case side4 => exact HC1.out); rintro e w' ⟨rfl, ⟨nd, rfl⟩⟩; refine ⟨_, rfl, ?_⟩) | ((with_reducible refine gate_callee (f := 5) rfl ?_); refine goesL_ (some 40) rfl rfl Try.func5 (by kernel_rfl) rfl #[.slice A0 l0.length c0] rfl (by (try simp only [List.map_toArray, List.map_cons, List.map_nil]); first | done | rfl | (simp only [List.length_drop, List.length_take]; rfl)) ?_; (with_reducible refine (spec_DrawSlopeAt.calls k _ _ l0 t396 t397 t398 _ ?side1 ?side2 A5.out).mono ?_); (case side1 => repeat (first | exact HR0.out | (with_reducible refine Kd.C_alloc ?_ _) | (with_reducible refine Kd.C_drewN ?_ _) | (with_reducible refine Kd.C_drew ?_))); (case side2 => exact HC0.out); rintro e w11 ⟨rfl, hb⟩; refine ⟨_, rfl, ?_⟩; have n0_ := Aside0.mk (below_step (by repeat (first | (with_reducible first | exact HB.out | apply below_alloc | apply pw_below_drewN | apply below_drew1) | exact HB.out)) hb); clear HB; have HB := n0_; clear n0_; (try clear hb); (try clear hb2); (try clear hk); (try clear hi)) | ((with_reducible refine gate_callee (f := 6) rfl ?_); refine goesL_ (some 48) rfl rfl Try.func6 (by kernel_rfl) rfl #[.int .i64 t396, .int .i64 t397, .int .i64 t398] rfl (by (try simp only [List.map_toArray, List.map_cons, List.map_nil]); first | done | rfl | (simp only [List.length_drop, List.length_take]; rfl)) ?_; (with_reducible refine (impl_SlopeAt.calls k t396 t397 t398 t399 t400 _ A6.out).mono ?_); rintro e w12 ⟨v401, rfl, ho0, hb⟩; refine ⟨_, rfl, ?_⟩; have n0_ := Aside0.mk (Kd.R_lower ho0 (below_size (by repeat (first | (with_reducible first | exact HB.out | apply below_alloc | apply pw_below_drewN | apply below_drew1) | exact HB.out)))); have n1_ := Aside0.mk (below_step (by repeat (first | (with_reducible first | exact HB.out | apply below_alloc | apply pw_below_drewN | apply below_drew1) | exact HB.out)) hb); clear HB; have HO402 := n0_; have HB := n1_; clear n0_ n1_; (try clear hb); (try clear hb2); (try clear hk); (try clear hi); (try clear ho0)) | ((with_reducible refine gate_callee (f := 7) rfl ?_); refine goesL_ (some 55) rfl rfl Try.func7 (by kernel_rfl) rfl #[.int .i64 t396, .int .i64 t397, .int .i64 t398] rfl (by (try simp only [List.map_toArray, List.map_cons, List.map_nil]); first | done | rfl | (simp only [List.length_drop, List.length_take]; rfl)) ?_; (with_reducible refine (spec_SlopeAt.calls k t396 t397 t398 t403 t404 _ A7.out).mono ?_); rintro e w13 ⟨v405, rfl, ho0, hb⟩; refine ⟨_, rfl, ?_⟩; have n0_ := Aside0.mk (Kd.R_elder' (by (with_reducible repeat (first | apply Kd.R_alloc | apply Kd.R_drewN | apply Kd.R_drew)); exact HO402.out) (Kd.R_base ho0) hb); have n1_ := Aside0.mk (Kd.R_lower (Kd.R_new' ho0 (Kd.R_lt (by (with_reducible repeat (first | apply Kd.R_alloc | apply Kd.R_drewN | apply Kd.R_drew)); exact HO402.out))) (below_size (by repeat (first | (with_reducible first | exact HB.out | apply below_alloc | apply pw_below_drewN | apply below_drew1) | exact HB.out)))); have n2_ := Aside0.mk (below_step (by repeat (first | (with_reducible first | exact HB.out | apply below_alloc | apply pw_below_drewN | apply below_drew1) | exact HB.out)) hb); clear HO402; clear HB; have HO402 := n0_; have HO406 := n1_; have HB := n2_; clear n0_ n1_ n2_; (try clear hb); (try clear hb2); (try clear hk); (try clear hi); (try clear ho0)) | ((with_reducible refine gate_callee (f := 8) rfl ?_); refine goesL_ (some 61) rfl rfl Try.func8 (by kernel_rfl) rfl #[.int .i64 t396, .int .i64 t397] rfl (by (try simp only [List.map_toArray, List.map_cons, List.map_nil]); first | done | rfl | (simp only [List.length_drop, List.length_take]; rfl)) ?_; (with_reducible refine (impl_CountSlope.calls k t396 t397 t407 t408 _ A8.out).mono ?_); rintro e w' ⟨rfl, ⟨nd, rfl⟩⟩; refine ⟨_, rfl, ?_⟩) | ((with_reducible refine gate_callee (f := 9) rfl ?_); refine goesL_ (some 67) rfl rfl Try.func9 (by kernel_rfl) rfl #[.int .i64 t396, .int .i64 t397] rfl (by (try simp only [List.map_toArray, List.map_cons, List.map_nil]); first | done | rfl | (simp only [List.length_drop, List.length_take]; rfl)) ?_; (with_reducible refine (spec_CountSlope.calls k t396 t397 t409 t410 _ A9.out).mono ?_); rintro e w' ⟨rfl, ⟨nd, rfl⟩⟩; refine ⟨_, rfl, ?_⟩))
    (try simp only [Act.put, List.setIfInBounds_toArray, List.set_cons_zero, List.set_cons_succ])
    go_cut [109] (fun v109 wc => ∃ (kq : Nat) (x109_9 : Bool), v109 = .bool x109_9 ∧ Aside0 (laws_FnSlopesCounted.j0 kq l0 l1 t396 t397 t398 t399 t400 t407 x109_9 = some r) ∧ Aside0 (kq ≤ k) ∧ Aside0 (Kd.R (Kd.int .i64) 3 wc w.heap.size (fun _ => True) v401 t399) ∧ Aside0 (Below w.heap.size w wc))
    case first =>
      have H := HC10.out
      clear HC10
      by_cases c14 : (t400 != t404) = true
      · rw [if_pos c14] at H
        have c14b0 : (t400 != t404) = true := c14
        (try (have c14b1 : decide (t400 = t404) = false := by simpa using c14))
        (try (have c14b2 : (t400 == t404) = false := by simpa using c14))
        (try (have c14b3 : ¬ (t400 = t404) := by simpa using c14))
        clear c14
        (first | rw [c14b0] | (simp only [i64_w, i32_w]; rw [c14b0]) | skip)
        as_aux_lemma =>
          have H' := Aside0.mk H
          clear H
          go_wp2
          go_meet
          case rel => exact ⟨_, (true), (by first | rfl | (simp; done) | (simp [*]; done)), H', ⟨by first | omega | exact Nat.le_refl _⟩, ⟨by (with_reducible repeat (first | apply Kd.R_alloc | apply Kd.R_drewN | apply Kd.R_drew)); exact Kd.R_mono HO402.out (fun _ hk => trivial)⟩, ⟨by repeat (first | (with_reducible first | exact HB.out | apply below_alloc | apply pw_below_drewN | apply below_drew1) | exact HB.out)⟩⟩
      · rw [if_neg c14] at H
        have c14b0 : (t400 != t404) = false := by simpa using c14
        (try (have c14b1 : decide (t400 = t404) = true := by simpa using c14))
        (try (have c14b2 : (t400 == t404) = true := by simpa using c14))
        clear c14
        (first | rw [c14b0] | (simp only [i64_w, i32_w]; rw [c14b0]) | skip)
        replace H := Option.bind_eq_some_iff.mp H
        obtain ⟨t411, A150, H⟩ := H
        replace H : (if t411 = true then (if (t408 != t410) = true then (laws_FnSlopesCounted.j0 k l0 l1 t396 t397 t398 t399 t400 t407 true) else (if t407 = t409 then ((impl_IsSlope.f k t396 t397).bind fun t412 => (if (t408 != t412) = true then (laws_FnSlopesCounted.j0 k l0 l1 t396 t397 t398 t399 t400 t407 true) else (if t408 = true then (if t398 ≥ 0 then (laws_FnSlopesCounted.j0 k l0 l1 t396 t397 t398 t399 t400 t407 (t400 != (decide (t398 < t407)))) else (laws_FnSlopesCounted.j0 k l0 l1 t396 t397 t398 t399 t400 t407 (t400 != false))) else (laws_FnSlopesCounted.j0 k l0 l1 t396 t397 t398 t399 t400 t407 (t400 != false))))) else (laws_FnSlopesCounted.j0 k l0 l1 t396 t397 t398 t399 t400 t407 true))) else (laws_FnSlopesCounted.j0 k l0 l1 t396 t397 t398 t399 t400 t407 true)) = some r := H
        have A15 := Aside0.mk A150
        clear A150
        by_cases c16 : t411 = true
        · subst c16
          have H1 : (if (t408 != t410) = true then (laws_FnSlopesCounted.j0 k l0 l1 t396 t397 t398 t399 t400 t407 true) else (if t407 = t409 then ((impl_IsSlope.f k t396 t397).bind fun t412 => (if (t408 != t412) = true then (laws_FnSlopesCounted.j0 k l0 l1 t396 t397 t398 t399 t400 t407 true) else (if t408 = true then (if t398 ≥ 0 then (laws_FnSlopesCounted.j0 k l0 l1 t396 t397 t398 t399 t400 t407 (t400 != (decide (t398 < t407)))) else (laws_FnSlopesCounted.j0 k l0 l1 t396 t397 t398 t399 t400 t407 (t400 != false))) else (laws_FnSlopesCounted.j0 k l0 l1 t396 t397 t398 t399 t400 t407 (t400 != false))))) else (laws_FnSlopesCounted.j0 k l0 l1 t396 t397 t398 t399 t400 t407 true))) = some r := by rw [if_pos rfl] at H; exact H
          clear H
          have H := H1
          clear H1
          by_cases c17 : (t408 != t410) = true
          · rw [if_pos c17] at H
            have c17b0 : (t408 != t410) = true := c17
            (try (have c17b1 : decide (t408 = t410) = false := by simpa using c17))
            (try (have c17b2 : (t408 == t410) = false := by simpa using c17))
            (try (have c17b3 : ¬ (t408 = t410) := by simpa using c17))
            clear c17
            as_aux_lemma =>
              have H' := Aside0.mk H
              clear H
              obtain ⟨Ao18, co18, eo18⟩ := Kd.R_slice HO402.out
              subst eo18
              obtain ⟨Ao19, co19, eo19⟩ := Kd.R_slice HO406.out
              subst eo19
              go_wp2_with (first | (go_at_call 10; (with_reducible refine (laws_wSame.calls k _ _ t399 _ _ t403 true _ ?side1 ?side2 ?side3 ?side4 A15.out).mono ?_); (case side1 => repeat (first | exact (Kd.R_reads' HO402.out).2.2 | (with_reducible refine Kd.C_alloc ?_ _) | (with_reducible refine Kd.C_drewN ?_ _) | (with_reducible refine Kd.C_drew ?_))); (case side2 => exact (Kd.R_reads' HO402.out).2.1); (case side3 => repeat (first | exact (Kd.R_reads' HO406.out).2.2 | (with_reducible refine Kd.C_alloc ?_ _) | (with_reducible refine Kd.C_drewN ?_ _) | (with_reducible refine Kd.C_drew ?_))); (case side4 => exact (Kd.R_reads' HO406.out).2.1); rintro e w' ⟨rfl, ⟨nd, rfl⟩⟩))
              go_meet
              case rel => exact ⟨_, (true), (by first | rfl | (simp; done) | (simp [*]; done)), H', ⟨by first | omega | exact Nat.le_refl _⟩, ⟨by (with_reducible repeat (first | apply Kd.R_alloc | apply Kd.R_drewN | apply Kd.R_drew)); exact Kd.R_mono HO402.out (fun _ hk => trivial)⟩, ⟨by repeat (first | (with_reducible first | exact HB.out | apply below_alloc | apply pw_below_drewN | apply below_drew1) | exact HB.out)⟩⟩
          · rw [if_neg c17] at H
            have c17b0 : (t408 != t410) = false := by simpa using c17
            (try (have c17b1 : decide (t408 = t410) = true := by simpa using c17))
            (try (have c17b2 : (t408 == t410) = true := by simpa using c17))
            clear c17
            by_cases c20 : t407 = t409
            · rw [if_pos c20] at H
              have c20b0 : (t407 == t409) = true := beq_iff_eq.mpr c20
              have c20b1 : (t407 != t409) = false := bne_eq_false_iff_eq.mpr c20
              clear c20
              replace H := Option.bind_eq_some_iff.mp H
              obtain ⟨t412, A210, H⟩ := H
              replace H : (if (t408 != t412) = true then (laws_FnSlopesCounted.j0 k l0 l1 t396 t397 t398 t399 t400 t407 true) else (if t408 = true then (if t398 ≥ 0 then (laws_FnSlopesCounted.j0 k l0 l1 t396 t397 t398 t399 t400 t407 (t400 != (decide (t398 < t407)))) else (laws_FnSlopesCounted.j0 k l0 l1 t396 t397 t398 t399 t400 t407 (t400 != false))) else (laws_FnSlopesCounted.j0 k l0 l1 t396 t397 t398 t399 t400 t407 (t400 != false)))) = some r := H
              have A21 := Aside0.mk A210
              clear A210
              by_cases c22 : (t408 != t412) = true
              · rw [if_pos c22] at H
                have c22b0 : (t408 != t412) = true := c22
                (try (have c22b1 : decide (t408 = t412) = false := by simpa using c22))
                (try (have c22b2 : (t408 == t412) = false := by simpa using c22))
                (try (have c22b3 : ¬ (t408 = t412) := by simpa using c22))
                clear c22
                as_aux_lemma =>
                  have H' := Aside0.mk H
                  clear H
                  obtain ⟨Ao23, co23, eo23⟩ := Kd.R_slice HO402.out
                  subst eo23
                  obtain ⟨Ao24, co24, eo24⟩ := Kd.R_slice HO406.out
                  subst eo24
                  go_wp2_with (first | (go_at_call 10; (with_reducible refine (laws_wSame.calls k _ _ t399 _ _ t403 true _ ?side1 ?side2 ?side3 ?side4 A15.out).mono ?_); (case side1 => repeat (first | exact (Kd.R_reads' HO402.out).2.2 | (with_reducible refine Kd.C_alloc ?_ _) | (with_reducible refine Kd.C_drewN ?_ _) | (with_reducible refine Kd.C_drew ?_))); (case side2 => exact (Kd.R_reads' HO402.out).2.1); (case side3 => repeat (first | exact (Kd.R_reads' HO406.out).2.2 | (with_reducible refine Kd.C_alloc ?_ _) | (with_reducible refine Kd.C_drewN ?_ _) | (with_reducible refine Kd.C_drew ?_))); (case side4 => exact (Kd.R_reads' HO406.out).2.1); rintro e w' ⟨rfl, ⟨nd, rfl⟩⟩) | (go_at_call 11; (with_reducible refine (impl_IsSlope.calls k t396 t397 t412 _ A21.out).mono ?_); rintro e w' ⟨rfl, ⟨nd, rfl⟩⟩))
                  go_meet
                  case rel => exact ⟨_, (true), (by first | rfl | (simp; done) | (simp [*]; done)), H', ⟨by first | omega | exact Nat.le_refl _⟩, ⟨by (with_reducible repeat (first | apply Kd.R_alloc | apply Kd.R_drewN | apply Kd.R_drew)); exact Kd.R_mono HO402.out (fun _ hk => trivial)⟩, ⟨by repeat (first | (with_reducible first | exact HB.out | apply below_alloc | apply pw_below_drewN | apply below_drew1) | exact HB.out)⟩⟩
              · rw [if_neg c22] at H
                have c22b0 : (t408 != t412) = false := by simpa using c22
                (try (have c22b1 : decide (t408 = t412) = true := by simpa using c22))
                (try (have c22b2 : (t408 == t412) = true := by simpa using c22))
                clear c22
                by_cases c25 : t408 = true
                · subst c25
                  have H1 : (if t398 ≥ 0 then (laws_FnSlopesCounted.j0 k l0 l1 t396 t397 t398 t399 t400 t407 (t400 != (decide (t398 < t407)))) else (laws_FnSlopesCounted.j0 k l0 l1 t396 t397 t398 t399 t400 t407 (t400 != false))) = some r := by rw [if_pos rfl] at H; exact H
                  clear H
                  have H := H1
                  clear H1
                  by_cases c26 : t398 ≥ 0
                  · rw [if_pos c26] at H
                    have c26b0 : decide (0 ≤ t398) = true := decide_eq_true c26
                    clear c26
                    as_aux_lemma =>
                      have H' := Aside0.mk H
                      clear H
                      obtain ⟨Ao27, co27, eo27⟩ := Kd.R_slice HO402.out
                      subst eo27
                      obtain ⟨Ao28, co28, eo28⟩ := Kd.R_slice HO406.out
                      subst eo28
                      go_wp2_with (first | (go_at_call 10; (with_reducible refine (laws_wSame.calls k _ _ t399 _ _ t403 true _ ?side1 ?side2 ?side3 ?side4 A15.out).mono ?_); (case side1 => repeat (first | exact (Kd.R_reads' HO402.out).2.2 | (with_reducible refine Kd.C_alloc ?_ _) | (with_reducible refine Kd.C_drewN ?_ _) | (with_reducible refine Kd.C_drew ?_))); (case side2 => exact (Kd.R_reads' HO402.out).2.1); (case side3 => repeat (first | exact (Kd.R_reads' HO406.out).2.2 | (with_reducible refine Kd.C_alloc ?_ _) | (with_reducible refine Kd.C_drewN ?_ _) | (with_reducible refine Kd.C_drew ?_))); (case side4 => exact (Kd.R_reads' HO406.out).2.1); rintro e w' ⟨rfl, ⟨nd, rfl⟩⟩) | (go_at_call 11; (with_reducible refine (impl_IsSlope.calls k t396 t397 t412 _ A21.out).mono ?_); rintro e w' ⟨rfl, ⟨nd, rfl⟩⟩))
                      go_meet
                      case rel => exact ⟨_, ((t400 != (decide (t398 < t407)))), (by first | rfl | (simp; done) | (simp [*]; done)), H', ⟨by first | omega | exact Nat.le_refl _⟩, ⟨by (with_reducible repeat (first | apply Kd.R_alloc | apply Kd.R_drewN | apply Kd.R_drew)); exact Kd.R_mono HO402.out (fun _ hk => trivial)⟩, ⟨by repeat (first | (with_reducible first | exact HB.out | apply below_alloc | apply pw_below_drewN | apply below_drew1) | exact HB.out)⟩⟩
                  · rw [if_neg c26] at H
                    have c26b0 : decide (0 ≤ t398) = false := decide_eq_false c26
                    clear c26
                    as_aux_lemma =>
                      have H' := Aside0.mk H
                      clear H
                      obtain ⟨Ao29, co29, eo29⟩ := Kd.R_slice HO402.out
                      subst eo29
                      obtain ⟨Ao30, co30, eo30⟩ := Kd.R_slice HO406.out
                      subst eo30
                      go_wp2_with (first | (go_at_call 10; (with_reducible refine (laws_wSame.calls k _ _ t399 _ _ t403 true _ ?side1 ?side2 ?side3 ?side4 A15.out).mono ?_); (case side1 => repeat (first | exact (Kd.R_reads' HO402.out).2.2 | (with_reducible refine Kd.C_alloc ?_ _) | (with_reducible refine Kd.C_drewN ?_ _) | (with_reducible refine Kd.C_drew ?_))); (case side2 => exact (Kd.R_reads' HO402.out).2.1); (case side3 => repeat (first | exact (Kd.R_reads' HO406.out).2.2 | (with_reducible refine Kd.C_alloc ?_ _) | (with_reducible refine Kd.C_drewN ?_ _) | (with_reducible refine Kd.C_drew ?_))); (case side4 => exact (Kd.R_reads' HO406.out).2.1); rintro e w' ⟨rfl, ⟨nd, rfl⟩⟩) | (go_at_call 11; (with_reducible refine (impl_IsSlope.calls k t396 t397 t412 _ A21.out).mono ?_); rintro e w' ⟨rfl, ⟨nd, rfl⟩⟩))
                      go_meet
                      case rel => exact ⟨_, ((t400 != false)), (by first | rfl | (simp; done) | (simp [*]; done)), H', ⟨by first | omega | exact Nat.le_refl _⟩, ⟨by (with_reducible repeat (first | apply Kd.R_alloc | apply Kd.R_drewN | apply Kd.R_drew)); exact Kd.R_mono HO402.out (fun _ hk => trivial)⟩, ⟨by repeat (first | (with_reducible first | exact HB.out | apply below_alloc | apply pw_below_drewN | apply below_drew1) | exact HB.out)⟩⟩
                · replace c25 := Bool.eq_false_iff.mpr c25
                  subst c25
                  have H1 : (laws_FnSlopesCounted.j0 k l0 l1 t396 t397 t398 t399 t400 t407 (t400 != false)) = some r := by rw [if_neg (show ¬ (false = true) by decide)] at H; exact H
                  clear H
                  have H := H1
                  clear H1
                  as_aux_lemma =>
                    have H' := Aside0.mk H
                    clear H
                    obtain ⟨Ao31, co31, eo31⟩ := Kd.R_slice HO402.out
                    subst eo31
                    obtain ⟨Ao32, co32, eo32⟩ := Kd.R_slice HO406.out
                    subst eo32
                    go_wp2_with (first | (go_at_call 10; (with_reducible refine (laws_wSame.calls k _ _ t399 _ _ t403 true _ ?side1 ?side2 ?side3 ?side4 A15.out).mono ?_); (case side1 => repeat (first | exact (Kd.R_reads' HO402.out).2.2 | (with_reducible refine Kd.C_alloc ?_ _) | (with_reducible refine Kd.C_drewN ?_ _) | (with_reducible refine Kd.C_drew ?_))); (case side2 => exact (Kd.R_reads' HO402.out).2.1); (case side3 => repeat (first | exact (Kd.R_reads' HO406.out).2.2 | (with_reducible refine Kd.C_alloc ?_ _) | (with_reducible refine Kd.C_drewN ?_ _) | (with_reducible refine Kd.C_drew ?_))); (case side4 => exact (Kd.R_reads' HO406.out).2.1); rintro e w' ⟨rfl, ⟨nd, rfl⟩⟩) | (go_at_call 11; (with_reducible refine (impl_IsSlope.calls k t396 t397 t412 _ A21.out).mono ?_); rintro e w' ⟨rfl, ⟨nd, rfl⟩⟩))
                    go_meet
                    case rel => exact ⟨_, ((t400 != false)), (by first | rfl | (simp; done) | (simp [*]; done)), H', ⟨by first | omega | exact Nat.le_refl _⟩, ⟨by (with_reducible repeat (first | apply Kd.R_alloc | apply Kd.R_drewN | apply Kd.R_drew)); exact Kd.R_mono HO402.out (fun _ hk => trivial)⟩, ⟨by repeat (first | (with_reducible first | exact HB.out | apply below_alloc | apply pw_below_drewN | apply below_drew1) | exact HB.out)⟩⟩
            · rw [if_neg c20] at H
              have c20b0 : (t407 == t409) = false := beq_eq_false_iff_ne.mpr c20
              have c20b1 : (t407 != t409) = true := bne_iff_ne.mpr c20
              as_aux_lemma =>
                have H' := Aside0.mk H
                clear H
                obtain ⟨Ao33, co33, eo33⟩ := Kd.R_slice HO402.out
                subst eo33
                obtain ⟨Ao34, co34, eo34⟩ := Kd.R_slice HO406.out
                subst eo34
                go_wp2_with (first | (go_at_call 10; (with_reducible refine (laws_wSame.calls k _ _ t399 _ _ t403 true _ ?side1 ?side2 ?side3 ?side4 A15.out).mono ?_); (case side1 => repeat (first | exact (Kd.R_reads' HO402.out).2.2 | (with_reducible refine Kd.C_alloc ?_ _) | (with_reducible refine Kd.C_drewN ?_ _) | (with_reducible refine Kd.C_drew ?_))); (case side2 => exact (Kd.R_reads' HO402.out).2.1); (case side3 => repeat (first | exact (Kd.R_reads' HO406.out).2.2 | (with_reducible refine Kd.C_alloc ?_ _) | (with_reducible refine Kd.C_drewN ?_ _) | (with_reducible refine Kd.C_drew ?_))); (case side4 => exact (Kd.R_reads' HO406.out).2.1); rintro e w' ⟨rfl, ⟨nd, rfl⟩⟩))
                go_meet
                case rel => exact ⟨_, (true), (by first | rfl | (simp; done) | (simp [*]; done)), H', ⟨by first | omega | exact Nat.le_refl _⟩, ⟨by (with_reducible repeat (first | apply Kd.R_alloc | apply Kd.R_drewN | apply Kd.R_drew)); exact Kd.R_mono HO402.out (fun _ hk => trivial)⟩, ⟨by repeat (first | (with_reducible first | exact HB.out | apply below_alloc | apply pw_below_drewN | apply below_drew1) | exact HB.out)⟩⟩
        · replace c16 := Bool.eq_false_iff.mpr c16
          subst c16
          have H1 : (laws_FnSlopesCounted.j0 k l0 l1 t396 t397 t398 t399 t400 t407 true) = some r := by rw [if_neg (show ¬ (false = true) by decide)] at H; exact H
          clear H
          have H := H1
          clear H1
          as_aux_lemma =>
            have H' := Aside0.mk H
            clear H
            obtain ⟨Ao35, co35, eo35⟩ := Kd.R_slice HO402.out
            subst eo35
            obtain ⟨Ao36, co36, eo36⟩ := Kd.R_slice HO406.out
            subst eo36
            go_wp2_with (first | (go_at_call 10; (with_reducible refine (laws_wSame.calls k _ _ t399 _ _ t403 false _ ?side1 ?side2 ?side3 ?side4 A15.out).mono ?_); (case side1 => repeat (first | exact (Kd.R_reads' HO402.out).2.2 | (with_reducible refine Kd.C_alloc ?_ _) | (with_reducible refine Kd.C_drewN ?_ _) | (with_reducible refine Kd.C_drew ?_))); (case side2 => exact (Kd.R_reads' HO402.out).2.1); (case side3 => repeat (first | exact (Kd.R_reads' HO406.out).2.2 | (with_reducible refine Kd.C_alloc ?_ _) | (with_reducible refine Kd.C_drewN ?_ _) | (with_reducible refine Kd.C_drew ?_))); (case side4 => exact (Kd.R_reads' HO406.out).2.1); rintro e w' ⟨rfl, ⟨nd, rfl⟩⟩))
            go_meet
            case rel => exact ⟨_, (true), (by first | rfl | (simp; done) | (simp [*]; done)), H', ⟨by first | omega | exact Nat.le_refl _⟩, ⟨by (with_reducible repeat (first | apply Kd.R_alloc | apply Kd.R_drewN | apply Kd.R_drew)); exact Kd.R_mono HO402.out (fun _ hk => trivial)⟩, ⟨by repeat (first | (with_reducible first | exact HB.out | apply below_alloc | apply pw_below_drewN | apply below_drew1) | exact HB.out)⟩⟩
    case rest =>
      clear HC10
      try clear c1
      try clear c2
      try clear p2
      try clear c3
      try clear c4
      try clear c5
      try clear c6
      try clear c7
      try clear c8
      try clear c9
      try clear c14
      try clear c14b0
      try clear c14b1
      try clear c14b2
      try clear c16
      try clear c17
      try clear c17b0
      try clear c17b1
      try clear c17b2
      try clear c20
      try clear c20b0
      try clear c20b1
      try clear c22
      try clear c22b0
      try clear c22b1
      try clear c22b2
      try clear c25
      try clear c26
      try clear c26b0
      obtain ⟨kq, x109_9, rfl, HA, HJ9, HO_8, HB⟩ := hcut
      cases kq with
      | zero => exact absurd HA.out (by simp [laws_FnSlopesCounted.j0])
      | succ kj9 =>
        have H := HA.out
        clear HA
        simp only [laws_FnSlopesCounted.j0] at H
        by_cases c37 : x109_9 = true
        · subst c37
          have H1 : (some false) = some r := by rw [if_pos rfl] at H; exact H
          clear H
          have H := H1
          clear H1
          as_aux_lemma =>
            obtain rfl := Option.some.inj H
            go_wp2
            go_ret
            exact ⟨by first | rfl | (simp [errW_none, errW_some] <;> rfl) | (simp [*, errW_none, errW_some] <;> rfl), by repeat (first | (with_reducible first | exact HB.out | apply below_alloc | apply pw_below_drewN | apply below_drew1) | exact HB.out)⟩
        · replace c37 := Bool.eq_false_iff.mpr c37
          subst c37
          have H1 : ((spec_DrawAllSlope.f kj9 l1).bind fun bt413 => ((impl_AllSlope.f kj9 bt413.1 bt413.2).bind fun bt415 => ((spec_AllSlope.f kj9 bt413.1 bt413.2).bind fun bt419 => (if (bt415.2 != bt419.2) = true then (laws_FnSlopesCounted.j1 kj9 l0 l1 t396 t397 t398 t399 t400 t407 bt413.1 bt413.2 bt415.1 bt415.2 true) else ((laws_wSameLists.f kj9 bt415.1 bt419.1).bind fun t423 => (laws_FnSlopesCounted.j1 kj9 l0 l1 t396 t397 t398 t399 t400 t407 bt413.1 bt413.2 bt415.1 bt415.2 (!t423))))))) = some r := by rw [if_neg (show ¬ (false = true) by decide)] at H; exact H
          clear H
          have H := H1
          clear H1
          replace H := Option.bind_eq_some_iff.mp H
          obtain ⟨⟨t413, t414⟩, A380, H⟩ := H
          replace H : ((impl_AllSlope.f kj9 t413 t414).bind fun bt415 => ((spec_AllSlope.f kj9 t413 t414).bind fun bt419 => (if (bt415.2 != bt419.2) = true then (laws_FnSlopesCounted.j1 kj9 l0 l1 t396 t397 t398 t399 t400 t407 t413 t414 bt415.1 bt415.2 true) else ((laws_wSameLists.f kj9 bt415.1 bt419.1).bind fun t423 => (laws_FnSlopesCounted.j1 kj9 l0 l1 t396 t397 t398 t399 t400 t407 t413 t414 bt415.1 bt415.2 (!t423)))))) = some r := H
          have A38 := Aside0.mk A380
          clear A380
          replace H := Option.bind_eq_some_iff.mp H
          obtain ⟨⟨t415, t416⟩, A390, H⟩ := H
          replace H : ((spec_AllSlope.f kj9 t413 t414).bind fun bt419 => (if (t416 != bt419.2) = true then (laws_FnSlopesCounted.j1 kj9 l0 l1 t396 t397 t398 t399 t400 t407 t413 t414 t415 t416 true) else ((laws_wSameLists.f kj9 t415 bt419.1).bind fun t423 => (laws_FnSlopesCounted.j1 kj9 l0 l1 t396 t397 t398 t399 t400 t407 t413 t414 t415 t416 (!t423))))) = some r := H
          have A39 := Aside0.mk A390
          clear A390
          replace H := Option.bind_eq_some_iff.mp H
          obtain ⟨⟨t419, t422⟩, A400, H⟩ := H
          replace H : (if (t416 != t422) = true then (laws_FnSlopesCounted.j1 kj9 l0 l1 t396 t397 t398 t399 t400 t407 t413 t414 t415 t416 true) else ((laws_wSameLists.f kj9 t415 t419).bind fun t423 => (laws_FnSlopesCounted.j1 kj9 l0 l1 t396 t397 t398 t399 t400 t407 t413 t414 t415 t416 (!t423)))) = some r := H
          have A40 := Aside0.mk A400
          clear A400
          have HC41 := Aside0.mk H
          clear H
          go_upto_region 13 with (first | ((with_reducible refine gate_callee (f := 12) rfl ?_); refine goesL_ (some 112) rfl rfl Try.func12 (by kernel_rfl) rfl #[.slice A1 l1.length c1] rfl (by (try simp only [List.map_toArray, List.map_cons, List.map_nil]); first | done | rfl | (simp only [List.length_drop, List.length_take]; rfl)) ?_; (with_reducible refine (spec_DrawAllSlope.calls kj9 _ _ l1 t413 t414 _ ?side1 ?side2 A38.out).mono ?_); (case side1 => repeat (first | exact (Kd.C_below HR1.out HB.out) | (with_reducible refine Kd.C_alloc ?_ _) | (with_reducible refine Kd.C_drewN ?_ _) | (with_reducible refine Kd.C_drew ?_))); (case side2 => exact HC1.out); rintro e w42 ⟨rfl, hb⟩; refine ⟨_, rfl, ?_⟩; have n0_ := Aside0.mk (Kd.R_below (by (with_reducible repeat (first | apply Kd.R_alloc | apply Kd.R_drewN | apply Kd.R_drew)); exact HO_8.out) hb); have n1_ := Aside0.mk (below_step (by repeat (first | (with_reducible first | exact HB.out | apply below_alloc | apply pw_below_drewN | apply below_drew1) | exact HB.out)) hb); clear HO_8; clear HB; have HO_8 := n0_; have HB := n1_; clear n0_ n1_; (try clear hb); (try clear hb2); (try clear hk); (try clear hi)) | ((with_reducible refine gate_callee (f := 13) rfl ?_); refine goesL_ (some 118) rfl rfl Try.func13 (by kernel_rfl) rfl #[.int .i64 t413, .int .i64 t414] rfl (by (try simp only [List.map_toArray, List.map_cons, List.map_nil]); first | done | rfl | (simp only [List.length_drop, List.length_take]; rfl)) ?_; (with_reducible refine (impl_AllSlope.calls kj9 t413 t414 t415 t416 _ A39.out).mono ?_); rintro e w43 ⟨v417, rfl, ho0, hb⟩; refine ⟨_, rfl, ?_⟩; have n0_ := Aside0.mk (Kd.R_below (by (with_reducible repeat (first | apply Kd.R_alloc | apply Kd.R_drewN | apply Kd.R_drew)); exact HO_8.out) hb); have n1_ := Aside0.mk (Kd.N_lower (Kd.N_mono (ok' := fun k_ => some k_ ≠ (v401 : Value).ownBlock) (Kd.S_N (Kd.S_bound ho0)) (fun k_ hk_ => (Kd.fresh' (Kd.R_lt (by (with_reducible repeat (first | apply Kd.R_alloc | apply Kd.R_drewN | apply Kd.R_drew)); exact HO_8.out)) k_ hk_.2.1))) (below_size (by repeat (first | (with_reducible first | exact HB.out | apply below_alloc | apply pw_below_drewN | apply below_drew1) | exact HB.out)))); have n2_ := Aside0.mk (below_step (by repeat (first | (with_reducible first | exact HB.out | apply below_alloc | apply pw_below_drewN | apply below_drew1) | exact HB.out)) hb); clear HO_8; clear HB; have HO_8 := n0_; have HO418 := n1_; have HB := n2_; clear n0_ n1_ n2_; (try clear hb); (try clear hb2); (try clear hk); (try clear hi); (try clear ho0)) | ((with_reducible refine gate_callee (f := 14) rfl ?_); refine goesL_ (some 124) rfl rfl Try.func14 (by kernel_rfl) rfl #[.int .i64 t413, .int .i64 t414] rfl (by (try simp only [List.map_toArray, List.map_cons, List.map_nil]); first | done | rfl | (simp only [List.length_drop, List.length_take]; rfl)) ?_; (with_reducible refine (spec_AllSlope.calls kj9 t413 t414 t419 t422 _ A40.out).mono ?_); rintro e w44 ⟨v420, rfl, ho0, hb⟩; refine ⟨_, rfl, ?_⟩; have n0_ := Aside0.mk (Kd.R_below (by (with_reducible repeat (first | apply Kd.R_alloc | apply Kd.R_drewN | apply Kd.R_drew)); exact HO_8.out) hb); have n1_ := Aside0.mk (Kd.N_elder' (by (with_reducible repeat (first | apply Kd.N_alloc | apply Kd.N_drewN | apply Kd.N_drew)); exact HO418.out) (by first | exact Kd.N_base ho0 | exact Kd.S_base ho0) hb); have n2_ := Aside0.mk (Kd.N_lower (Kd.N_mono (ok' := fun k_ => some k_ ≠ (v401 : Value).ownBlock ∧ some k_ ≠ (v417 : Value).ownBlock) ho0 (fun k_ hk_ => ⟨(Kd.fresh' (Kd.R_lt (by (with_reducible repeat (first | apply Kd.R_alloc | apply Kd.R_drewN | apply Kd.R_drew)); exact HO_8.out)) k_ hk_), (Kd.fresh' (Kd.N_lt (by (with_reducible repeat (first | apply Kd.N_alloc | apply Kd.N_drewN | apply Kd.N_drew)); exact HO418.out)) k_ hk_)⟩)) (below_size (by repeat (first | (with_reducible first | exact HB.out | apply below_alloc | apply pw_below_drewN | apply below_drew1) | exact HB.out)))); have n3_ := Aside0.mk (below_step (by repeat (first | (with_reducible first | exact HB.out | apply below_alloc | apply pw_below_drewN | apply below_drew1) | exact HB.out)) hb); clear HO_8; clear HO418; clear HB; have HO_8 := n0_; have HO418 := n1_; have HO421 := n2_; have HB := n3_; clear n0_ n1_ n2_ n3_; (try clear hb); (try clear hb2); (try clear hk); (try clear hi); (try clear ho0)))
          (try simp only [Act.put, List.setIfInBounds_toArray, List.set_cons_zero, List.set_cons_succ])
          go_cut [135] (fun v135 wc => ∃ (kq : Nat) (x135_40 : Bool), v135 = .bool x135_40 ∧ Aside0 (laws_FnSlopesCounted.j1 kq l0 l1 t396 t397 t398 t399 t400 t407 t413 t414 t415 t416 x135_40 = some r) ∧ Aside0 (kq ≤ kj9) ∧ Aside0 (Kd.R (Kd.int .i64) 3 wc w.heap.size (fun _ => True) v401 t399) ∧ Aside0 (Kd.N (Kd.slice 3 (Kd.int .i64)) 26 wc w.heap.size (fun k_ => some k_ ≠ (v401 : Value).ownBlock) v417 t415) ∧ Aside0 (Below w.heap.size w wc))
          case first =>
            have H := HC41.out
            clear HC41
            by_cases c45 : (t416 != t422) = true
            · rw [if_pos c45] at H
              have c45b0 : (t416 != t422) = true := c45
              (try (have c45b1 : decide (t416 = t422) = false := by simpa using c45))
              (try (have c45b2 : (t416 == t422) = false := by simpa using c45))
              (try (have c45b3 : ¬ (t416 = t422) := by simpa using c45))
              clear c45
              (first | rw [c45b0] | (simp only [i64_w, i32_w]; rw [c45b0]) | skip)
              as_aux_lemma =>
                have H' := Aside0.mk H
                clear H
                go_wp2
                go_meet
                case rel => exact ⟨_, (true), (by first | rfl | (simp; done) | (simp [*]; done)), H', ⟨by have := HJ9.out; first | omega | exact Nat.le_refl _⟩, ⟨by (with_reducible repeat (first | apply Kd.R_alloc | apply Kd.R_drewN | apply Kd.R_drew)); exact HO_8.out⟩, ⟨by (with_reducible repeat (first | apply Kd.N_alloc | apply Kd.N_drewN | apply Kd.N_drew)); exact Kd.N_mono HO418.out (fun _ hk => hk.1)⟩, ⟨by repeat (first | (with_reducible first | exact HB.out | apply below_alloc | apply pw_below_drewN | apply below_drew1) | exact HB.out)⟩⟩
            · rw [if_neg c45] at H
              have c45b0 : (t416 != t422) = false := by simpa using c45
              (try (have c45b1 : decide (t416 = t422) = true := by simpa using c45))
              (try (have c45b2 : (t416 == t422) = true := by simpa using c45))
              clear c45
              (first | rw [c45b0] | (simp only [i64_w, i32_w]; rw [c45b0]) | skip)
              replace H := Option.bind_eq_some_iff.mp H
              obtain ⟨t423, A460, H⟩ := H
              replace H : (laws_FnSlopesCounted.j1 kj9 l0 l1 t396 t397 t398 t399 t400 t407 t413 t414 t415 t416 (!t423)) = some r := H
              have A46 := Aside0.mk A460
              clear A460
              as_aux_lemma =>
                have H' := Aside0.mk H
                clear H
                obtain ⟨Ao47, co47, eo47⟩ := Kd.N_slice HO418.out
                subst eo47
                obtain ⟨Ao48, co48, eo48⟩ := Kd.N_slice HO421.out
                subst eo48
                go_wp2_with (first | (go_at_call 15; (with_reducible refine (laws_wSameLists.calls kj9 _ _ t415 _ _ t419 t423 _ ?side1 ?side2 ?side3 ?side4 A46.out).mono ?_); (case side1 => repeat (first | exact (Kd.N_reads' HO418.out).2.2 | (with_reducible refine Kd.C_alloc ?_ _) | (with_reducible refine Kd.C_drewN ?_ _) | (with_reducible refine Kd.C_drew ?_))); (case side2 => exact (Kd.N_reads' HO418.out).2.1); (case side3 => repeat (first | exact (Kd.N_reads' HO421.out).2.2 | (with_reducible refine Kd.C_alloc ?_ _) | (with_reducible refine Kd.C_drewN ?_ _) | (with_reducible refine Kd.C_drew ?_))); (case side4 => exact (Kd.N_reads' HO421.out).2.1); rintro e w' ⟨rfl, ⟨nd, rfl⟩⟩))
                go_meet
                case rel => exact ⟨_, (!t423), (by first | rfl | (simp; done) | (simp [*]; done)), H', ⟨by have := HJ9.out; first | omega | exact Nat.le_refl _⟩, ⟨by (with_reducible repeat (first | apply Kd.R_alloc | apply Kd.R_drewN | apply Kd.R_drew)); exact HO_8.out⟩, ⟨by (with_reducible repeat (first | apply Kd.N_alloc | apply Kd.N_drewN | apply Kd.N_drew)); exact Kd.N_mono HO418.out (fun _ hk => hk.1)⟩, ⟨by repeat (first | (with_reducible first | exact HB.out | apply below_alloc | apply pw_below_drewN | apply below_drew1) | exact HB.out)⟩⟩
          case rest =>
            clear HC41
            try clear c1
            try clear c2
            try clear p2
            try clear c3
            try clear c4
            try clear c5
            try clear c6
            try clear c7
            try clear c8
            try clear c9
            try clear c12
            try clear c13
            try clear c14
            try clear c14b0
            try clear c14b1
            try clear c14b2
            try clear c16
            try clear c17
            try clear c17b0
            try clear c17b1
            try clear c17b2
            try clear c20
            try clear c20b0
            try clear c20b1
            try clear c22
            try clear c22b0
            try clear c22b1
            try clear c22b2
            try clear c25
            try clear c26
            try clear c26b0
            try clear c37
            try clear c45
            try clear c45b0
            try clear c45b1
            try clear c45b2
            try clear p2
            obtain ⟨kq, x135_40, rfl, HA, HJ40, HO_8, HO_18, HB⟩ := hcut
            cases kq with
            | zero => exact absurd HA.out (by simp [laws_FnSlopesCounted.j1])
            | succ kj40 =>
              have H := HA.out
              clear HA
              simp only [laws_FnSlopesCounted.j1] at H
              by_cases c49 : x135_40 = true
              · subst c49
                have H1 : (some false) = some r := by rw [if_pos rfl] at H; exact H
                clear H
                have H := H1
                clear H1
                as_aux_lemma =>
                  obtain rfl := Option.some.inj H
                  go_wp2
                  go_ret
                  exact ⟨by first | rfl | (simp [errW_none, errW_some] <;> rfl) | (simp [*, errW_none, errW_some] <;> rfl), by repeat (first | (with_reducible first | exact HB.out | apply below_alloc | apply pw_below_drewN | apply below_drew1) | exact HB.out)⟩
              · replace c49 := Bool.eq_false_iff.mpr c49
                subst c49
                have H1 : (if t416 = true then ((impl_CountSlope.f kj40 t413 t414).bind fun bt424 => (if bt424.2 = true then (laws_FnSlopesCounted.j2 kj40 l0 l1 t396 t397 t398 t399 t400 t407 t414 t415 (bt424.1 != (t415.length : Int))) else (laws_FnSlopesCounted.j2 kj40 l0 l1 t396 t397 t398 t399 t400 t407 t414 t415 true))) else (laws_FnSlopesCounted.j4 kj40 t396 t397 t398 t399 t400 t407)) = some r := by rw [if_neg (show ¬ (false = true) by decide)] at H; exact H
                clear H
                have H := H1
                clear H1
                have HC50 := Aside0.mk H
                clear H
                go_upto_if 136 with (fail)
                go_cut [] (fun wc => ∃ (kq : Nat), Aside0 (laws_FnSlopesCounted.j4 kq t396 t397 t398 t399 t400 t407 = some r) ∧ Aside0 (kq ≤ kj40) ∧ Aside0 (Kd.R (Kd.int .i64) 3 wc w.heap.size (fun _ => True) v401 t399) ∧ Aside0 (Below w.heap.size w wc))
                case first =>
                  have H := HC50.out
                  clear HC50
                  by_cases c51 : t416 = true
                  · subst c51
                    have H1 : ((impl_CountSlope.f kj40 t413 t414).bind fun bt424 => (if bt424.2 = true then (laws_FnSlopesCounted.j2 kj40 l0 l1 t396 t397 t398 t399 t400 t407 t414 t415 (bt424.1 != (t415.length : Int))) else (laws_FnSlopesCounted.j2 kj40 l0 l1 t396 t397 t398 t399 t400 t407 t414 t415 true))) = some r := by rw [if_pos rfl] at H; exact H
                    clear H
                    have H := H1
                    clear H1
                    replace H := Option.bind_eq_some_iff.mp H
                    obtain ⟨⟨t424, t425⟩, A520, H⟩ := H
                    replace H : (if t425 = true then (laws_FnSlopesCounted.j2 kj40 l0 l1 t396 t397 t398 t399 t400 t407 t414 t415 (t424 != (t415.length : Int))) else (laws_FnSlopesCounted.j2 kj40 l0 l1 t396 t397 t398 t399 t400 t407 t414 t415 true)) = some r := H
                    have A52 := Aside0.mk A520
                    clear A520
                    have HC53 := Aside0.mk H
                    clear H
                    go_upto_region 17 with (first | ((with_reducible refine gate_callee (f := 8) rfl ?_); refine goesL_ (some 140) rfl rfl Try.func8 (by kernel_rfl) rfl #[.int .i64 t413, .int .i64 t414] rfl (by (try simp only [List.map_toArray, List.map_cons, List.map_nil]); first | done | rfl | (simp only [List.length_drop, List.length_take]; rfl)) ?_; (with_reducible refine (impl_CountSlope.calls kj40 t413 t414 t424 t425 _ A52.out).mono ?_); rintro e w' ⟨rfl, ⟨nd, rfl⟩⟩; refine ⟨_, rfl, ?_⟩))
                    (try simp only [Act.put, List.setIfInBounds_toArray, List.set_cons_zero, List.set_cons_succ])
                    go_cut [150] (fun v150 wc => ∃ (kq : Nat) (x150_52 : Bool), v150 = .bool x150_52 ∧ Aside0 (laws_FnSlopesCounted.j2 kq l0 l1 t396 t397 t398 t399 t400 t407 t414 t415 x150_52 = some r) ∧ Aside0 (kq ≤ kj40) ∧ Aside0 (Kd.R (Kd.int .i64) 3 wc w.heap.size (fun _ => True) v401 t399) ∧ Aside0 (Kd.N (Kd.slice 3 (Kd.int .i64)) 26 wc w.heap.size (fun k_ => some k_ ≠ (v401 : Value).ownBlock) v417 t415) ∧ Aside0 (Below w.heap.size w wc))
                    case first =>
                      have H := HC53.out
                      clear HC53
                      by_cases c54 : t425 = true
                      · subst c54
                        have H1 : (laws_FnSlopesCounted.j2 kj40 l0 l1 t396 t397 t398 t399 t400 t407 t414 t415 (t424 != (t415.length : Int))) = some r := by rw [if_pos rfl] at H; exact H
                        clear H
                        have H := H1
                        clear H1
                        as_aux_lemma =>
                          have H' := Aside0.mk H
                          clear H
                          obtain ⟨Ao55, co55, eo55⟩ := Kd.N_slice HO_18.out
                          subst eo55
                          go_wp2
                          go_meet
                          case rel => exact ⟨_, ((t424 != (t415.length : Int))), (by first | rfl | (simp; done) | (simp [*]; done)), H', ⟨by have := HJ9.out; have := HJ40.out; first | omega | exact Nat.le_refl _⟩, ⟨by (with_reducible repeat (first | apply Kd.R_alloc | apply Kd.R_drewN | apply Kd.R_drew)); exact HO_8.out⟩, ⟨by (with_reducible repeat (first | apply Kd.N_alloc | apply Kd.N_drewN | apply Kd.N_drew)); exact HO_18.out⟩, ⟨by repeat (first | (with_reducible first | exact HB.out | apply below_alloc | apply pw_below_drewN | apply below_drew1) | exact HB.out)⟩⟩
                      · replace c54 := Bool.eq_false_iff.mpr c54
                        subst c54
                        have H1 : (laws_FnSlopesCounted.j2 kj40 l0 l1 t396 t397 t398 t399 t400 t407 t414 t415 true) = some r := by rw [if_neg (show ¬ (false = true) by decide)] at H; exact H
                        clear H
                        have H := H1
                        clear H1
                        as_aux_lemma =>
                          have H' := Aside0.mk H
                          clear H
                          go_wp2
                          go_meet
                          case rel => exact ⟨_, (true), (by first | rfl | (simp; done) | (simp [*]; done)), H', ⟨by have := HJ9.out; have := HJ40.out; first | omega | exact Nat.le_refl _⟩, ⟨by (with_reducible repeat (first | apply Kd.R_alloc | apply Kd.R_drewN | apply Kd.R_drew)); exact HO_8.out⟩, ⟨by (with_reducible repeat (first | apply Kd.N_alloc | apply Kd.N_drewN | apply Kd.N_drew)); exact HO_18.out⟩, ⟨by repeat (first | (with_reducible first | exact HB.out | apply below_alloc | apply pw_below_drewN | apply below_drew1) | exact HB.out)⟩⟩
                    case rest =>
                      clear HC53
                      try clear c1
                      try clear c2
                      try clear p2
                      try clear c3
                      try clear c4
                      try clear c5
                      try clear c6
                      try clear c7
                      try clear c8
                      try clear c9
                      try clear c12
                      try clear c13
                      try clear c14
                      try clear c14b0
                      try clear c14b1
                      try clear c14b2
                      try clear c16
                      try clear c17
                      try clear c17b0
                      try clear c17b1
                      try clear c17b2
                      try clear c20
                      try clear c20b0
                      try clear c20b1
                      try clear c22
                      try clear c22b0
                      try clear c22b1
                      try clear c22b2
                      try clear c25
                      try clear c26
                      try clear c26b0
                      try clear c37
                      try clear c45
                      try clear c45b0
                      try clear c45b1
                      try clear c45b2
                      try clear c49
                      try clear c51
                      try clear c54
                      try clear p2
                      obtain ⟨kq, x150_52, rfl, HA, HJ52, HO_8, HO_18, HB⟩ := hcut
                      cases kq with
                      | zero => exact absurd HA.out (by simp [laws_FnSlopesCounted.j2])
                      | succ kj52 =>
                        have H := HA.out
                        clear HA
                        simp only [laws_FnSlopesCounted.j2] at H
                        by_cases c56 : x150_52 = true
                        · subst c56
                          have H1 : (some false) = some r := by rw [if_pos rfl] at H; exact H
                          clear H
                          have H := H1
                          clear H1
                          as_aux_lemma =>
                            obtain rfl := Option.some.inj H
                            go_wp2
                            go_ret
                            exact ⟨by first | rfl | (simp [errW_none, errW_some] <;> rfl) | (simp [*, errW_none, errW_some] <;> rfl), by repeat (first | (with_reducible first | exact HB.out | apply below_alloc | apply pw_below_drewN | apply below_drew1) | exact HB.out)⟩
                        · replace c56 := Bool.eq_false_iff.mpr c56
                          subst c56
                          have H1 : (laws_FnSlopesCounted.l0 kj52 l0 l1 t396 t397 t398 t399 t400 t407 t414 t415 t415 (t415.length : Int) 0) = some r := by rw [if_neg (show ¬ (false = true) by decide)] at H; exact H
                          clear H
                          have H := H1
                          clear H1
                          have H' := Aside0.mk H
                          clear H
                          obtain ⟨Ao57, co57, eo57⟩ := Kd.N_slice HO_18.out
                          subst eo57
                          go_wp2
                          go_loopg [153] kj52 (fun kq v153 w' => ∃ (x153_4 : Int), v153 = .int .i64 x153_4 ∧ Aside0 (laws_FnSlopesCounted.l0 kq l0 l1 t396 t397 t398 t399 t400 t407 t414 t415 t415 (t415.length : Int) x153_4 = some r) ∧ Aside0 (kq ≤ kj52) ∧ Aside0 (Kd.R (Kd.int .i64) 3 w' w.heap.size (fun _ => True) v401 t399) ∧ Aside0 (Kd.N (Kd.slice 3 (Kd.int .i64)) 26 w' w.heap.size (fun k_ => some k_ ≠ (v401 : Value).ownBlock) (.slice Ao57 t415.length co57) t415) ∧ Aside0 (Kd.N (Kd.slice 3 (Kd.int .i64)) 26 w' w.heap.size (fun k_ => some k_ ≠ (v401 : Value).ownBlock) (.slice Ao57 t415.length co57) t415) ∧ Aside0 (Below w.heap.size w w'))
                          case atStart => exact ⟨(0), (by first | rfl | (simp; done) | (simp [*]; done)), H', ⟨Nat.le_refl _⟩, ⟨by (with_reducible repeat (first | apply Kd.R_alloc | apply Kd.R_drewN | apply Kd.R_drew)); exact HO_8.out⟩, ⟨by (with_reducible repeat (first | apply Kd.N_alloc | apply Kd.N_drewN | apply Kd.N_drew)); exact HO_18.out⟩, ⟨by (with_reducible repeat (first | apply Kd.N_alloc | apply Kd.N_drewN | apply Kd.N_drew)); exact HO_18.out⟩, ⟨by repeat (first | (with_reducible first | exact HB.out | apply below_alloc | apply pw_below_drewN | apply below_drew1) | exact HB.out)⟩⟩
                          case round =>
                            clear H'
                            try clear c1
                            try clear c2
                            try clear p2
                            try clear c3
                            try clear c4
                            try clear c5
                            try clear c6
                            try clear c7
                            try clear c8
                            try clear c9
                            try clear c12
                            try clear c13
                            try clear c14
                            try clear c14b0
                            try clear c14b1
                            try clear c14b2
                            try clear c16
                            try clear c17
                            try clear c17b0
                            try clear c17b1
                            try clear c17b2
                            try clear c20
                            try clear c20b0
                            try clear c20b1
                            try clear c22
                            try clear c22b0
                            try clear c22b1
                            try clear c22b2
                            try clear c25
                            try clear c26
                            try clear c26b0
                            try clear c37
                            try clear c45
                            try clear c45b0
                            try clear c45b1
                            try clear c45b2
                            try clear c49
                            try clear c51
                            try clear c54
                            try clear c56
                            try clear p2
                            obtain ⟨x153_4, rfl, HA, HK4, HO_8, HO_18, HO_151, HB⟩ := hrel
                            cases gk with
                            | zero => exact absurd HA.out (by simp [laws_FnSlopesCounted.l0])
                            | succ k4 =>
                              have H := HA.out
                              clear HA
                              simp only [laws_FnSlopesCounted.l0] at H
                              by_cases c58 : x153_4 < (t415.length : Int)
                              · rw [if_pos c58] at H
                                have c58b0 : decide (x153_4 < (t415.length : Int)) = true := decide_eq_true c58
                                clear c58
                                by_cases c59 : 0 ≤ x153_4
                                · rw [if_pos c59] at H
                                  have c59b0 : decide (0 ≤ x153_4) = true := decide_eq_true c59
                                  clear c59
                                  by_cases c60 : x153_4 < (t415.length : Int)
                                  · rw [if_pos c60] at H
                                    have c60b0 : decide (x153_4 < (t415.length : Int)) = true := decide_eq_true c60
                                    clear c60
                                    replace H := Option.bind_eq_some_iff.mp H
                                    obtain ⟨⟨t430, t431⟩, A610, H⟩ := H
                                    replace H : (if t431 = true then (if t430 = true then (if x153_4 > 0 then (if 0 ≤ (wrap64 (x153_4 - 1)) then (if (wrap64 (x153_4 - 1)) < (t415.length : Int) then ((laws_wLess.f k4 (rd_L2 t415 (wrap64 (x153_4 - 1))) (rd_L2 t415 x153_4)).bind fun t433 => (if t433 = true then (laws_FnSlopesCounted.l0 k4 l0 l1 t396 t397 t398 t399 t400 t407 t414 t415 t415 (t415.length : Int) (wrap64 (x153_4 + 1))) else (some false))) else (none)) else (none)) else (laws_FnSlopesCounted.l0 k4 l0 l1 t396 t397 t398 t399 t400 t407 t414 t415 t415 (t415.length : Int) (wrap64 (x153_4 + 1)))) else (some false)) else (some false)) = some r := H
                                    have A61 := Aside0.mk A610
                                    clear A610
                                    by_cases c62 : t431 = true
                                    · subst c62
                                      have H1 : (if t430 = true then (if x153_4 > 0 then (if 0 ≤ (wrap64 (x153_4 - 1)) then (if (wrap64 (x153_4 - 1)) < (t415.length : Int) then ((laws_wLess.f k4 (rd_L2 t415 (wrap64 (x153_4 - 1))) (rd_L2 t415 x153_4)).bind fun t433 => (if t433 = true then (laws_FnSlopesCounted.l0 k4 l0 l1 t396 t397 t398 t399 t400 t407 t414 t415 t415 (t415.length : Int) (wrap64 (x153_4 + 1))) else (some false))) else (none)) else (none)) else (laws_FnSlopesCounted.l0 k4 l0 l1 t396 t397 t398 t399 t400 t407 t414 t415 t415 (t415.length : Int) (wrap64 (x153_4 + 1)))) else (some false)) = some r := by rw [if_pos rfl] at H; exact H
                                      clear H
                                      have H := H1
                                      clear H1
                                      by_cases c63 : t430 = true
                                      · subst c63
                                        have H1 : (if x153_4 > 0 then (if 0 ≤ (wrap64 (x153_4 - 1)) then (if (wrap64 (x153_4 - 1)) < (t415.length : Int) then ((laws_wLess.f k4 (rd_L2 t415 (wrap64 (x153_4 - 1))) (rd_L2 t415 x153_4)).bind fun t433 => (if t433 = true then (laws_FnSlopesCounted.l0 k4 l0 l1 t396 t397 t398 t399 t400 t407 t414 t415 t415 (t415.length : Int) (wrap64 (x153_4 + 1))) else (some false))) else (none)) else (none)) else (laws_FnSlopesCounted.l0 k4 l0 l1 t396 t397 t398 t399 t400 t407 t414 t415 t415 (t415.length : Int) (wrap64 (x153_4 + 1)))) = some r := by rw [if_pos rfl] at H; exact H
                                        clear H
                                        have H := H1
                                        clear H1
                                        by_cases c64 : x153_4 > 0
                                        · rw [if_pos c64] at H
                                          have c64b0 : decide (0 < x153_4) = true := decide_eq_true c64
                                          clear c64
                                          obtain ⟨ji65, hji65⟩ : ∃ j_ : Int, (wrap64 (x153_4 - 1)) = j_ := ⟨_, rfl⟩
                                          replace H : (if 0 ≤ (ji65) then (if (ji65) < (t415.length : Int) then ((laws_wLess.f k4 (rd_L2 t415 (ji65)) (rd_L2 t415 x153_4)).bind fun t433 => (if t433 = true then (laws_FnSlopesCounted.l0 k4 l0 l1 t396 t397 t398 t399 t400 t407 t414 t415 t415 (t415.length : Int) (wrap64 (x153_4 + 1))) else (some false))) else (none)) else (none)) = some r := by first | (rw [hji65] at H; exact H) | (simp only [hji65] at H ⊢; exact H)
                                          (try rw [hji65] at A61)
                                          have hji65w : (IntKind.i64.wrap (x153_4 - 1)) = ji65 := (i64_w _).trans hji65
                                          by_cases c66 : 0 ≤ (ji65)
                                          · rw [if_pos c66] at H
                                            have c66b0 : decide (0 ≤ (ji65)) = true := decide_eq_true c66
                                            clear c66
                                            by_cases c67 : (ji65) < (t415.length : Int)
                                            · rw [if_pos c67] at H
                                              have c67b0 : decide ((ji65) < (t415.length : Int)) = true := decide_eq_true c67
                                              clear c67
                                              replace H := Option.bind_eq_some_iff.mp H
                                              obtain ⟨t433, A680, H⟩ := H
                                              replace H : (if t433 = true then (laws_FnSlopesCounted.l0 k4 l0 l1 t396 t397 t398 t399 t400 t407 t414 t415 t415 (t415.length : Int) (wrap64 (x153_4 + 1))) else (some false)) = some r := H
                                              have A68 := Aside0.mk A680
                                              clear A680
                                              by_cases c69 : t433 = true
                                              · subst c69
                                                have H1 : (laws_FnSlopesCounted.l0 k4 l0 l1 t396 t397 t398 t399 t400 t407 t414 t415 t415 (t415.length : Int) (wrap64 (x153_4 + 1))) = some r := by rw [if_pos rfl] at H; exact H
                                                clear H
                                                have H := H1
                                                clear H1
                                                as_aux_lemma =>
                                                  have H' := Aside0.mk H
                                                  clear H
                                                  have p429 : 0 ≤ (x153_4 : Int) := of_decide_eq_true (by first | (with_reducible assumption) | assumption)
                                                  have q429 : x153_4 < (t415.length : Int) := of_decide_eq_true (by first | (with_reducible assumption) | assumption)
                                                  obtain ⟨ad429, A429_0, c429_0, e429, hx429_0, hl429_0, hi429_0⟩ := at_L2 (Kd.N_reads' HO_151.out).2.2 x153_4 p429 q429
                                                  cases e429
                                                  obtain ⟨ce429, hce429, hMe429, hcc429⟩ := Kd.N_get HO_151.out [] x153_4 p429 (by first | exact q429 | exact of_decide_eq_true (by first | (with_reducible assumption) | assumption) | (have e_ := (Kd.N_reads' HO_151.out).1; omega))
                                                  obtain ⟨ua429_0, uc429_0, rfl, ul429_0, ge429_0⟩ := Kd.FK_slice_open hMe429
                                                  have hv429_0 := hcc429 0 _ rfl
                                                  rw [Nat.add_zero, show ((Kd.slice 3 (Kd.int .i64))).sz = 1 from rfl, Nat.mul_one] at hv429_0
                                                  replace hv429_0 := Option.some.inj (hv429_0.symm.trans hx429_0)
                                                  injection hv429_0 with hva_ hvn_ hvc_
                                                  rw [hva_] at ge429_0
                                                  rw [hvc_] at ul429_0
                                                  have HL429_0 := Aside0.mk (show Kd.V (Kd.int .i64) 3 _ w.heap.size _ _ (rd_L2 t415 x153_4) from Kd.V_mk ul429_0 ge429_0)
                                                  clear hva_ hvn_ hvc_ ge429_0 ul429_0
                                                  clear hcc429 hce429
                                                  have HR429_0 := Aside0.mk hi429_0
                                                  have HC429_0 := Aside0.mk hl429_0
                                                  clear hi429_0 hl429_0
                                                  replace p429 := eq_true p429
                                                  replace q429 := eq_true q429
                                                  go_wp2_with (first | ((with_reducible refine gate_callee (f := 16) rfl ?_); refine goesL_ (some 161) rfl rfl Try.func16 (by kernel_rfl) rfl #[.slice A429_0 (rd_L2 t415 x153_4).length c429_0, .int .i64 t414] rfl (by (try simp only [List.map_toArray, List.map_cons, List.map_nil]); first | done | rfl | (simp only [List.length_drop, List.length_take]; rfl)) ?_; (with_reducible refine (impl_IsSlopeParking.calls k4 _ _ (rd_L2 t415 x153_4) t414 true true _ ?side1 ?side2 A61.out).mono ?_); (case side1 => repeat (first | exact (by repeat (first | (with_reducible exact HR429_0.out) | (with_reducible refine Kd.C_alloc ?_ _) | (with_reducible refine Kd.C_drewN ?_ _) | (with_reducible refine Kd.C_drew ?_) | exact HR429_0.out)) | (with_reducible refine Kd.C_alloc ?_ _) | (with_reducible refine Kd.C_drewN ?_ _) | (with_reducible refine Kd.C_drew ?_))); (case side2 => exact HC429_0.out); rintro e w70 ⟨rfl, hb⟩; refine ⟨_, rfl, ?_⟩; have n0_ := Aside0.mk (Kd.R_below (by (with_reducible repeat (first | apply Kd.R_alloc | apply Kd.R_drewN | apply Kd.R_drew)); exact HO_8.out) hb); have n1_ := Aside0.mk (Kd.N_below (by (with_reducible repeat (first | apply Kd.N_alloc | apply Kd.N_drewN | apply Kd.N_drew)); exact HO_18.out) hb); have n2_ := Aside0.mk (Kd.N_below (by (with_reducible repeat (first | apply Kd.N_alloc | apply Kd.N_drewN | apply Kd.N_drew)); exact HO_151.out) hb); have n3_ := Aside0.mk (Kd.V_below (by (with_reducible repeat (first | apply Kd.V_alloc | apply Kd.V_drewN | apply Kd.V_drew)); exact HL429_0.out) hb); have n4_ := Aside0.mk (Kd.C_below (by repeat (first | (with_reducible exact HR429_0.out) | (with_reducible refine Kd.C_alloc ?_ _) | (with_reducible refine Kd.C_drewN ?_ _) | (with_reducible refine Kd.C_drew ?_) | exact HR429_0.out)) hb); have n5_ := Aside0.mk (below_step (by repeat (first | (with_reducible first | exact HB.out | apply below_alloc | apply pw_below_drewN | apply below_drew1) | exact HB.out)) hb); clear HO_8; clear HO_18; clear HO_151; clear HL429_0; clear HR429_0; clear HB; have HO_8 := n0_; have HO_18 := n1_; have HO_151 := n2_; have HL429_0 := n3_; have HR429_0 := n4_; have HB := n5_; clear n0_ n1_ n2_ n3_ n4_ n5_; (try clear hb); (try clear hb2); (try clear hk); (try clear hi); have p432 : 0 ≤ ((ji65) : Int) := of_decide_eq_true (by first | (with_reducible assumption) | assumption); have q432 : (ji65) < (t415.length : Int) := of_decide_eq_true (by first | (with_reducible assumption) | assumption); obtain ⟨ad432, A432_0, c432_0, e432, hx432_0, hl432_0, hi432_0⟩ := at_L2 (Kd.N_reads' HO_18.out).2.2 (ji65) p432 q432; obtain rfl : ad429 = ad432 := (by injection e432); obtain ⟨ce432, hce432, hMe432, hcc432⟩ := Kd.N_get HO_18.out [] (ji65) p432 (by first | exact q432 | exact of_decide_eq_true (by first | (with_reducible assumption) | assumption) | (have e_ := (Kd.N_reads' HO_18.out).1; omega)); obtain ⟨ua432_0, uc432_0, rfl, ul432_0, ge432_0⟩ := Kd.FK_slice_open hMe432; have hv432_0 := hcc432 0 _ rfl; rw [Nat.add_zero, show ((Kd.slice 3 (Kd.int .i64))).sz = 1 from rfl, Nat.mul_one] at hv432_0; replace hv432_0 := Option.some.inj (hv432_0.symm.trans hx432_0); injection hv432_0 with hva_ hvn_ hvc_; rw [hva_] at ge432_0; rw [hvc_] at ul432_0; have HL432_0 := Aside0.mk (show Kd.V (Kd.int .i64) 3 _ w.heap.size _ _ (rd_L2 t415 (ji65)) from Kd.V_mk ul432_0 ge432_0); clear hva_ hvn_ hvc_ ge432_0 ul432_0; clear hcc432 hce432; have HR432_0 := Aside0.mk hi432_0; have HC432_0 := Aside0.mk hl432_0; clear hi432_0 hl432_0; replace p432 := eq_true p432; replace q432 := eq_true q432) | (go_at_call 17; (with_reducible refine (laws_wLess.calls k4 _ _ (rd_L2 t415 (ji65)) _ _ (rd_L2 t415 x153_4) true _ ?side1 ?side2 ?side3 ?side4 A68.out).mono ?_); (case side1 => repeat (first | exact (by repeat (first | (with_reducible exact HR432_0.out) | (with_reducible refine Kd.C_alloc ?_ _) | (with_reducible refine Kd.C_drewN ?_ _) | (with_reducible refine Kd.C_drew ?_) | exact HR432_0.out)) | (with_reducible refine Kd.C_alloc ?_ _) | (with_reducible refine Kd.C_drewN ?_ _) | (with_reducible refine Kd.C_drew ?_))); (case side2 => exact HC432_0.out); (case side3 => repeat (first | exact (by repeat (first | (with_reducible exact HR429_0.out) | (with_reducible refine Kd.C_alloc ?_ _) | (with_reducible refine Kd.C_drewN ?_ _) | (with_reducible refine Kd.C_drew ?_) | exact HR429_0.out)) | (with_reducible refine Kd.C_alloc ?_ _) | (with_reducible refine Kd.C_drewN ?_ _) | (with_reducible refine Kd.C_drew ?_))); (case side4 => exact HC429_0.out); rintro e w' ⟨rfl, ⟨nd, rfl⟩⟩))
                                                  go_roundg k4
                                                  case measure => have := HJ9.out; have := HJ40.out; have := HJ52.out; have := HK4.out; omega
                                                  case rel => exact ⟨(wrap64 (x153_4 + 1)), (by first | rfl | (simp; done) | (simp [*]; done)), H', ⟨by have := HJ9.out; have := HJ40.out; have := HJ52.out; have := HK4.out; omega⟩, ⟨by (with_reducible repeat (first | apply Kd.R_alloc | apply Kd.R_drewN | apply Kd.R_drew)); exact HO_8.out⟩, ⟨by (with_reducible repeat (first | apply Kd.N_alloc | apply Kd.N_drewN | apply Kd.N_drew)); exact HO_18.out⟩, ⟨by (with_reducible repeat (first | apply Kd.N_alloc | apply Kd.N_drewN | apply Kd.N_drew)); exact HO_151.out⟩, ⟨by repeat (first | (with_reducible first | exact HB.out | apply below_alloc | apply pw_below_drewN | apply below_drew1) | exact HB.out)⟩⟩
                                              · replace c69 := Bool.eq_false_iff.mpr c69
                                                subst c69
                                                have H1 : (some false) = some r := by rw [if_neg (show ¬ (false = true) by decide)] at H; exact H
                                                clear H
                                                have H := H1
                                                clear H1
                                                as_aux_lemma =>
                                                  obtain rfl := Option.some.inj H
                                                  have p429 : 0 ≤ (x153_4 : Int) := of_decide_eq_true (by first | (with_reducible assumption) | assumption)
                                                  have q429 : x153_4 < (t415.length : Int) := of_decide_eq_true (by first | (with_reducible assumption) | assumption)
                                                  obtain ⟨ad429, A429_0, c429_0, e429, hx429_0, hl429_0, hi429_0⟩ := at_L2 (Kd.N_reads' HO_151.out).2.2 x153_4 p429 q429
                                                  cases e429
                                                  obtain ⟨ce429, hce429, hMe429, hcc429⟩ := Kd.N_get HO_151.out [] x153_4 p429 (by first | exact q429 | exact of_decide_eq_true (by first | (with_reducible assumption) | assumption) | (have e_ := (Kd.N_reads' HO_151.out).1; omega))
                                                  obtain ⟨ua429_0, uc429_0, rfl, ul429_0, ge429_0⟩ := Kd.FK_slice_open hMe429
                                                  have hv429_0 := hcc429 0 _ rfl
                                                  rw [Nat.add_zero, show ((Kd.slice 3 (Kd.int .i64))).sz = 1 from rfl, Nat.mul_one] at hv429_0
                                                  replace hv429_0 := Option.some.inj (hv429_0.symm.trans hx429_0)
                                                  injection hv429_0 with hva_ hvn_ hvc_
                                                  rw [hva_] at ge429_0
                                                  rw [hvc_] at ul429_0
                                                  have HL429_0 := Aside0.mk (show Kd.V (Kd.int .i64) 3 _ w.heap.size _ _ (rd_L2 t415 x153_4) from Kd.V_mk ul429_0 ge429_0)
                                                  clear hva_ hvn_ hvc_ ge429_0 ul429_0
                                                  clear hcc429 hce429
                                                  have HR429_0 := Aside0.mk hi429_0
                                                  have HC429_0 := Aside0.mk hl429_0
                                                  clear hi429_0 hl429_0
                                                  replace p429 := eq_true p429
                                                  replace q429 := eq_true q429
                                                  go_wp2_with (first | ((with_reducible refine gate_callee (f := 16) rfl ?_); refine goesL_ (some 161) rfl rfl Try.func16 (by kernel_rfl) rfl #[.slice A429_0 (rd_L2 t415 x153_4).length c429_0, .int .i64 t414] rfl (by (try simp only [List.map_toArray, List.map_cons, List.map_nil]); first | done | rfl | (simp only [List.length_drop, List.length_take]; rfl)) ?_; (with_reducible refine (impl_IsSlopeParking.calls k4 _ _ (rd_L2 t415 x153_4) t414 true true _ ?side1 ?side2 A61.out).mono ?_); (case side1 => repeat (first | exact (by repeat (first | (with_reducible exact HR429_0.out) | (with_reducible refine Kd.C_alloc ?_ _) | (with_reducible refine Kd.C_drewN ?_ _) | (with_reducible refine Kd.C_drew ?_) | exact HR429_0.out)) | (with_reducible refine Kd.C_alloc ?_ _) | (with_reducible refine Kd.C_drewN ?_ _) | (with_reducible refine Kd.C_drew ?_))); (case side2 => exact HC429_0.out); rintro e w71 ⟨rfl, hb⟩; refine ⟨_, rfl, ?_⟩; have n0_ := Aside0.mk (Kd.R_below (by (with_reducible repeat (first | apply Kd.R_alloc | apply Kd.R_drewN | apply Kd.R_drew)); exact HO_8.out) hb); have n1_ := Aside0.mk (Kd.N_below (by (with_reducible repeat (first | apply Kd.N_alloc | apply Kd.N_drewN | apply Kd.N_drew)); exact HO_18.out) hb); have n2_ := Aside0.mk (Kd.N_below (by (with_reducible repeat (first | apply Kd.N_alloc | apply Kd.N_drewN | apply Kd.N_drew)); exact HO_151.out) hb); have n3_ := Aside0.mk (Kd.V_below (by (with_reducible repeat (first | apply Kd.V_alloc | apply Kd.V_drewN | apply Kd.V_drew)); exact HL429_0.out) hb); have n4_ := Aside0.mk (Kd.C_below (by repeat (first | (with_reducible exact HR429_0.out) | (with_reducible refine Kd.C_alloc ?_ _) | (with_reducible refine Kd.C_drewN ?_ _) | (with_reducible refine Kd.C_drew ?_) | exact HR429_0.out)) hb); have n5_ := Aside0.mk (below_step (by repeat (first | (with_reducible first | exact HB.out | apply below_alloc | apply pw_below_drewN | apply below_drew1) | exact HB.out)) hb); clear HO_8; clear HO_18; clear HO_151; clear HL429_0; clear HR429_0; clear HB; have HO_8 := n0_; have HO_18 := n1_; have HO_151 := n2_; have HL429_0 := n3_; have HR429_0 := n4_; have HB := n5_; clear n0_ n1_ n2_ n3_ n4_ n5_; (try clear hb); (try clear hb2); (try clear hk); (try clear hi); have p432 : 0 ≤ ((ji65) : Int) := of_decide_eq_true (by first | (with_reducible assumption) | assumption); have q432 : (ji65) < (t415.length : Int) := of_decide_eq_true (by first | (with_reducible assumption) | assumption); obtain ⟨ad432, A432_0, c432_0, e432, hx432_0, hl432_0, hi432_0⟩ := at_L2 (Kd.N_reads' HO_18.out).2.2 (ji65) p432 q432; obtain rfl : ad429 = ad432 := (by injection e432); obtain ⟨ce432, hce432, hMe432, hcc432⟩ := Kd.N_get HO_18.out [] (ji65) p432 (by first | exact q432 | exact of_decide_eq_true (by first | (with_reducible assumption) | assumption) | (have e_ := (Kd.N_reads' HO_18.out).1; omega)); obtain ⟨ua432_0, uc432_0, rfl, ul432_0, ge432_0⟩ := Kd.FK_slice_open hMe432; have hv432_0 := hcc432 0 _ rfl; rw [Nat.add_zero, show ((Kd.slice 3 (Kd.int .i64))).sz = 1 from rfl, Nat.mul_one] at hv432_0; replace hv432_0 := Option.some.inj (hv432_0.symm.trans hx432_0); injection hv432_0 with hva_ hvn_ hvc_; rw [hva_] at ge432_0; rw [hvc_] at ul432_0; have HL432_0 := Aside0.mk (show Kd.V (Kd.int .i64) 3 _ w.heap.size _ _ (rd_L2 t415 (ji65)) from Kd.V_mk ul432_0 ge432_0); clear hva_ hvn_ hvc_ ge432_0 ul432_0; clear hcc432 hce432; have HR432_0 := Aside0.mk hi432_0; have HC432_0 := Aside0.mk hl432_0; clear hi432_0 hl432_0; replace p432 := eq_true p432; replace q432 := eq_true q432) | (go_at_call 17; (with_reducible refine (laws_wLess.calls k4 _ _ (rd_L2 t415 (ji65)) _ _ (rd_L2 t415 x153_4) false _ ?side1 ?side2 ?side3 ?side4 A68.out).mono ?_); (case side1 => repeat (first | exact (by repeat (first | (with_reducible exact HR432_0.out) | (with_reducible refine Kd.C_alloc ?_ _) | (with_reducible refine Kd.C_drewN ?_ _) | (with_reducible refine Kd.C_drew ?_) | exact HR432_0.out)) | (with_reducible refine Kd.C_alloc ?_ _) | (with_reducible refine Kd.C_drewN ?_ _) | (with_reducible refine Kd.C_drew ?_))); (case side2 => exact HC432_0.out); (case side3 => repeat (first | exact (by repeat (first | (with_reducible exact HR429_0.out) | (with_reducible refine Kd.C_alloc ?_ _) | (with_reducible refine Kd.C_drewN ?_ _) | (with_reducible refine Kd.C_drew ?_) | exact HR429_0.out)) | (with_reducible refine Kd.C_alloc ?_ _) | (with_reducible refine Kd.C_drewN ?_ _) | (with_reducible refine Kd.C_drew ?_))); (case side4 => exact HC429_0.out); rintro e w' ⟨rfl, ⟨nd, rfl⟩⟩))
                                                  go_ret
                                                  exact ⟨by first | rfl | (simp [errW_none, errW_some] <;> rfl) | (simp only [← hji65]; first | rfl | (simp [errW_none, errW_some] <;> rfl)) | (simp [*, errW_none, errW_some] <;> rfl), by repeat (first | (with_reducible first | exact HB.out | apply below_alloc | apply pw_below_drewN | apply below_drew1) | exact HB.out)⟩
                                            · rw [if_neg c67] at H
                                              exact absurd H (by simp)
                                          · rw [if_neg c66] at H
                                            exact absurd H (by simp)
                                        · rw [if_neg c64] at H
                                          have c64b0 : decide (0 < x153_4) = false := decide_eq_false c64
                                          clear c64
                                          as_aux_lemma =>
                                            have H' := Aside0.mk H
                                            clear H
                                            have p429 : 0 ≤ (x153_4 : Int) := of_decide_eq_true (by first | (with_reducible assumption) | assumption)
                                            have q429 : x153_4 < (t415.length : Int) := of_decide_eq_true (by first | (with_reducible assumption) | assumption)
                                            obtain ⟨ad429, A429_0, c429_0, e429, hx429_0, hl429_0, hi429_0⟩ := at_L2 (Kd.N_reads' HO_151.out).2.2 x153_4 p429 q429
                                            cases e429
                                            obtain ⟨ce429, hce429, hMe429, hcc429⟩ := Kd.N_get HO_151.out [] x153_4 p429 (by first | exact q429 | exact of_decide_eq_true (by first | (with_reducible assumption) | assumption) | (have e_ := (Kd.N_reads' HO_151.out).1; omega))
                                            obtain ⟨ua429_0, uc429_0, rfl, ul429_0, ge429_0⟩ := Kd.FK_slice_open hMe429
                                            have hv429_0 := hcc429 0 _ rfl
                                            rw [Nat.add_zero, show ((Kd.slice 3 (Kd.int .i64))).sz = 1 from rfl, Nat.mul_one] at hv429_0
                                            replace hv429_0 := Option.some.inj (hv429_0.symm.trans hx429_0)
                                            injection hv429_0 with hva_ hvn_ hvc_
                                            rw [hva_] at ge429_0
                                            rw [hvc_] at ul429_0
                                            have HL429_0 := Aside0.mk (show Kd.V (Kd.int .i64) 3 _ w.heap.size _ _ (rd_L2 t415 x153_4) from Kd.V_mk ul429_0 ge429_0)
                                            clear hva_ hvn_ hvc_ ge429_0 ul429_0
                                            clear hcc429 hce429
                                            have HR429_0 := Aside0.mk hi429_0
                                            have HC429_0 := Aside0.mk hl429_0
                                            clear hi429_0 hl429_0
                                            replace p429 := eq_true p429
                                            replace q429 := eq_true q429
                                            go_wp2_with (first | ((with_reducible refine gate_callee (f := 16) rfl ?_); refine goesL_ (some 161) rfl rfl Try.func16 (by kernel_rfl) rfl #[.slice A429_0 (rd_L2 t415 x153_4).length c429_0, .int .i64 t414] rfl (by (try simp only [List.map_toArray, List.map_cons, List.map_nil]); first | done | rfl | (simp only [List.length_drop, List.length_take]; rfl)) ?_; (with_reducible refine (impl_IsSlopeParking.calls k4 _ _ (rd_L2 t415 x153_4) t414 true true _ ?side1 ?side2 A61.out).mono ?_); (case side1 => repeat (first | exact (by repeat (first | (with_reducible exact HR429_0.out) | (with_reducible refine Kd.C_alloc ?_ _) | (with_reducible refine Kd.C_drewN ?_ _) | (with_reducible refine Kd.C_drew ?_) | exact HR429_0.out)) | (with_reducible refine Kd.C_alloc ?_ _) | (with_reducible refine Kd.C_drewN ?_ _) | (with_reducible refine Kd.C_drew ?_))); (case side2 => exact HC429_0.out); rintro e w72 ⟨rfl, hb⟩; refine ⟨_, rfl, ?_⟩; have n0_ := Aside0.mk (Kd.R_below (by (with_reducible repeat (first | apply Kd.R_alloc | apply Kd.R_drewN | apply Kd.R_drew)); exact HO_8.out) hb); have n1_ := Aside0.mk (Kd.N_below (by (with_reducible repeat (first | apply Kd.N_alloc | apply Kd.N_drewN | apply Kd.N_drew)); exact HO_18.out) hb); have n2_ := Aside0.mk (Kd.N_below (by (with_reducible repeat (first | apply Kd.N_alloc | apply Kd.N_drewN | apply Kd.N_drew)); exact HO_151.out) hb); have n3_ := Aside0.mk (Kd.V_below (by (with_reducible repeat (first | apply Kd.V_alloc | apply Kd.V_drewN | apply Kd.V_drew)); exact HL429_0.out) hb); have n4_ := Aside0.mk (Kd.C_below (by repeat (first | (with_reducible exact HR429_0.out) | (with_reducible refine Kd.C_alloc ?_ _) | (with_reducible refine Kd.C_drewN ?_ _) | (with_reducible refine Kd.C_drew ?_) | exact HR429_0.out)) hb); have n5_ := Aside0.mk (below_step (by repeat (first | (with_reducible first | exact HB.out | apply below_alloc | apply pw_below_drewN | apply below_drew1) | exact HB.out)) hb); clear HO_8; clear HO_18; clear HO_151; clear HL429_0; clear HR429_0; clear HB; have HO_8 := n0_; have HO_18 := n1_; have HO_151 := n2_; have HL429_0 := n3_; have HR429_0 := n4_; have HB := n5_; clear n0_ n1_ n2_ n3_ n4_ n5_; (try clear hb); (try clear hb2); (try clear hk); (try clear hi)))
                                            go_roundg k4
                                            case measure => have := HJ9.out; have := HJ40.out; have := HJ52.out; have := HK4.out; omega
                                            case rel => exact ⟨(wrap64 (x153_4 + 1)), (by first | rfl | (simp; done) | (simp [*]; done)), H', ⟨by have := HJ9.out; have := HJ40.out; have := HJ52.out; have := HK4.out; omega⟩, ⟨by (with_reducible repeat (first | apply Kd.R_alloc | apply Kd.R_drewN | apply Kd.R_drew)); exact HO_8.out⟩, ⟨by (with_reducible repeat (first | apply Kd.N_alloc | apply Kd.N_drewN | apply Kd.N_drew)); exact HO_18.out⟩, ⟨by (with_reducible repeat (first | apply Kd.N_alloc | apply Kd.N_drewN | apply Kd.N_drew)); exact HO_151.out⟩, ⟨by repeat (first | (with_reducible first | exact HB.out | apply below_alloc | apply pw_below_drewN | apply below_drew1) | exact HB.out)⟩⟩
                                      · replace c63 := Bool.eq_false_iff.mpr c63
                                        subst c63
                                        have H1 : (some false) = some r := by rw [if_neg (show ¬ (false = true) by decide)] at H; exact H
                                        clear H
                                        have H := H1
                                        clear H1
                                        as_aux_lemma =>
                                          obtain rfl := Option.some.inj H
                                          have p429 : 0 ≤ (x153_4 : Int) := of_decide_eq_true (by first | (with_reducible assumption) | assumption)
                                          have q429 : x153_4 < (t415.length : Int) := of_decide_eq_true (by first | (with_reducible assumption) | assumption)
                                          obtain ⟨ad429, A429_0, c429_0, e429, hx429_0, hl429_0, hi429_0⟩ := at_L2 (Kd.N_reads' HO_151.out).2.2 x153_4 p429 q429
                                          cases e429
                                          obtain ⟨ce429, hce429, hMe429, hcc429⟩ := Kd.N_get HO_151.out [] x153_4 p429 (by first | exact q429 | exact of_decide_eq_true (by first | (with_reducible assumption) | assumption) | (have e_ := (Kd.N_reads' HO_151.out).1; omega))
                                          obtain ⟨ua429_0, uc429_0, rfl, ul429_0, ge429_0⟩ := Kd.FK_slice_open hMe429
                                          have hv429_0 := hcc429 0 _ rfl
                                          rw [Nat.add_zero, show ((Kd.slice 3 (Kd.int .i64))).sz = 1 from rfl, Nat.mul_one] at hv429_0
                                          replace hv429_0 := Option.some.inj (hv429_0.symm.trans hx429_0)
                                          injection hv429_0 with hva_ hvn_ hvc_
                                          rw [hva_] at ge429_0
                                          rw [hvc_] at ul429_0
                                          have HL429_0 := Aside0.mk (show Kd.V (Kd.int .i64) 3 _ w.heap.size _ _ (rd_L2 t415 x153_4) from Kd.V_mk ul429_0 ge429_0)
                                          clear hva_ hvn_ hvc_ ge429_0 ul429_0
                                          clear hcc429 hce429
                                          have HR429_0 := Aside0.mk hi429_0
                                          have HC429_0 := Aside0.mk hl429_0
                                          clear hi429_0 hl429_0
                                          replace p429 := eq_true p429
                                          replace q429 := eq_true q429
                                          go_wp2_with (first | ((with_reducible refine gate_callee (f := 16) rfl ?_); refine goesL_ (some 161) rfl rfl Try.func16 (by kernel_rfl) rfl #[.slice A429_0 (rd_L2 t415 x153_4).length c429_0, .int .i64 t414] rfl (by (try simp only [List.map_toArray, List.map_cons, List.map_nil]); first | done | rfl | (simp only [List.length_drop, List.length_take]; rfl)) ?_; (with_reducible refine (impl_IsSlopeParking.calls k4 _ _ (rd_L2 t415 x153_4) t414 false true _ ?side1 ?side2 A61.out).mono ?_); (case side1 => repeat (first | exact (by repeat (first | (with_reducible exact HR429_0.out) | (with_reducible refine Kd.C_alloc ?_ _) | (with_reducible refine Kd.C_drewN ?_ _) | (with_reducible refine Kd.C_drew ?_) | exact HR429_0.out)) | (with_reducible refine Kd.C_alloc ?_ _) | (with_reducible refine Kd.C_drewN ?_ _) | (with_reducible refine Kd.C_drew ?_))); (case side2 => exact HC429_0.out); rintro e w73 ⟨rfl, hb⟩; refine ⟨_, rfl, ?_⟩; have n0_ := Aside0.mk (Kd.R_below (by (with_reducible repeat (first | apply Kd.R_alloc | apply Kd.R_drewN | apply Kd.R_drew)); exact HO_8.out) hb); have n1_ := Aside0.mk (Kd.N_below (by (with_reducible repeat (first | apply Kd.N_alloc | apply Kd.N_drewN | apply Kd.N_drew)); exact HO_18.out) hb); have n2_ := Aside0.mk (Kd.N_below (by (with_reducible repeat (first | apply Kd.N_alloc | apply Kd.N_drewN | apply Kd.N_drew)); exact HO_151.out) hb); have n3_ := Aside0.mk (Kd.V_below (by (with_reducible repeat (first | apply Kd.V_alloc | apply Kd.V_drewN | apply Kd.V_drew)); exact HL429_0.out) hb); have n4_ := Aside0.mk (Kd.C_below (by repeat (first | (with_reducible exact HR429_0.out) | (with_reducible refine Kd.C_alloc ?_ _) | (with_reducible refine Kd.C_drewN ?_ _) | (with_reducible refine Kd.C_drew ?_) | exact HR429_0.out)) hb); have n5_ := Aside0.mk (below_step (by repeat (first | (with_reducible first | exact HB.out | apply below_alloc | apply pw_below_drewN | apply below_drew1) | exact HB.out)) hb); clear HO_8; clear HO_18; clear HO_151; clear HL429_0; clear HR429_0; clear HB; have HO_8 := n0_; have HO_18 := n1_; have HO_151 := n2_; have HL429_0 := n3_; have HR429_0 := n4_; have HB := n5_; clear n0_ n1_ n2_ n3_ n4_ n5_; (try clear hb); (try clear hb2); (try clear hk); (try clear hi)))
                                          go_ret
                                          exact ⟨by first | rfl | (simp [errW_none, errW_some] <;> rfl) | (simp [*, errW_none, errW_some] <;> rfl), by repeat (first | (with_reducible first | exact HB.out | apply below_alloc | apply pw_below_drewN | apply below_drew1) | exact HB.out)⟩
                                    · replace c62 := Bool.eq_false_iff.mpr c62
                                      subst c62
                                      have H1 : (some false) = some r := by rw [if_neg (show ¬ (false = true) by decide)] at H; exact H
                                      clear H
                                      have H := H1
                                      clear H1
                                      as_aux_lemma =>
                                        obtain rfl := Option.some.inj H
                                        have p429 : 0 ≤ (x153_4 : Int) := of_decide_eq_true (by first | (with_reducible assumption) | assumption)
                                        have q429 : x153_4 < (t415.length : Int) := of_decide_eq_true (by first | (with_reducible assumption) | assumption)
                                        obtain ⟨ad429, A429_0, c429_0, e429, hx429_0, hl429_0, hi429_0⟩ := at_L2 (Kd.N_reads' HO_151.out).2.2 x153_4 p429 q429
                                        cases e429
                                        obtain ⟨ce429, hce429, hMe429, hcc429⟩ := Kd.N_get HO_151.out [] x153_4 p429 (by first | exact q429 | exact of_decide_eq_true (by first | (with_reducible assumption) | assumption) | (have e_ := (Kd.N_reads' HO_151.out).1; omega))
                                        obtain ⟨ua429_0, uc429_0, rfl, ul429_0, ge429_0⟩ := Kd.FK_slice_open hMe429
                                        have hv429_0 := hcc429 0 _ rfl
                                        rw [Nat.add_zero, show ((Kd.slice 3 (Kd.int .i64))).sz = 1 from rfl, Nat.mul_one] at hv429_0
                                        replace hv429_0 := Option.some.inj (hv429_0.symm.trans hx429_0)
                                        injection hv429_0 with hva_ hvn_ hvc_
                                        rw [hva_] at ge429_0
                                        rw [hvc_] at ul429_0
                                        have HL429_0 := Aside0.mk (show Kd.V (Kd.int .i64) 3 _ w.heap.size _ _ (rd_L2 t415 x153_4) from Kd.V_mk ul429_0 ge429_0)
                                        clear hva_ hvn_ hvc_ ge429_0 ul429_0
                                        clear hcc429 hce429
                                        have HR429_0 := Aside0.mk hi429_0
                                        have HC429_0 := Aside0.mk hl429_0
                                        clear hi429_0 hl429_0
                                        replace p429 := eq_true p429
                                        replace q429 := eq_true q429
                                        go_wp2_with (first | ((with_reducible refine gate_callee (f := 16) rfl ?_); refine goesL_ (some 161) rfl rfl Try.func16 (by kernel_rfl) rfl #[.slice A429_0 (rd_L2 t415 x153_4).length c429_0, .int .i64 t414] rfl (by (try simp only [List.map_toArray, List.map_cons, List.map_nil]); first | done | rfl | (simp only [List.length_drop, List.length_take]; rfl)) ?_; (with_reducible refine (impl_IsSlopeParking.calls k4 _ _ (rd_L2 t415 x153_4) t414 t430 false _ ?side1 ?side2 A61.out).mono ?_); (case side1 => repeat (first | exact (by repeat (first | (with_reducible exact HR429_0.out) | (with_reducible refine Kd.C_alloc ?_ _) | (with_reducible refine Kd.C_drewN ?_ _) | (with_reducible refine Kd.C_drew ?_) | exact HR429_0.out)) | (with_reducible refine Kd.C_alloc ?_ _) | (with_reducible refine Kd.C_drewN ?_ _) | (with_reducible refine Kd.C_drew ?_))); (case side2 => exact HC429_0.out); rintro e w74 ⟨rfl, hb⟩; refine ⟨_, rfl, ?_⟩; have n0_ := Aside0.mk (Kd.R_below (by (with_reducible repeat (first | apply Kd.R_alloc | apply Kd.R_drewN | apply Kd.R_drew)); exact HO_8.out) hb); have n1_ := Aside0.mk (Kd.N_below (by (with_reducible repeat (first | apply Kd.N_alloc | apply Kd.N_drewN | apply Kd.N_drew)); exact HO_18.out) hb); have n2_ := Aside0.mk (Kd.N_below (by (with_reducible repeat (first | apply Kd.N_alloc | apply Kd.N_drewN | apply Kd.N_drew)); exact HO_151.out) hb); have n3_ := Aside0.mk (Kd.V_below (by (with_reducible repeat (first | apply Kd.V_alloc | apply Kd.V_drewN | apply Kd.V_drew)); exact HL429_0.out) hb); have n4_ := Aside0.mk (Kd.C_below (by repeat (first | (with_reducible exact HR429_0.out) | (with_reducible refine Kd.C_alloc ?_ _) | (with_reducible refine Kd.C_drewN ?_ _) | (with_reducible refine Kd.C_drew ?_) | exact HR429_0.out)) hb); have n5_ := Aside0.mk (below_step (by repeat (first | (with_reducible first | exact HB.out | apply below_alloc | apply pw_below_drewN | apply below_drew1) | exact HB.out)) hb); clear HO_8; clear HO_18; clear HO_151; clear HL429_0; clear HR429_0; clear HB; have HO_8 := n0_; have HO_18 := n1_; have HO_151 := n2_; have HL429_0 := n3_; have HR429_0 := n4_; have HB := n5_; clear n0_ n1_ n2_ n3_ n4_ n5_; (try clear hb); (try clear hb2); (try clear hk); (try clear hi)))
                                        go_ret
                                        exact ⟨by first | rfl | (simp [errW_none, errW_some] <;> rfl) | (simp [*, errW_none, errW_some] <;> rfl), by repeat (first | (with_reducible first | exact HB.out | apply below_alloc | apply pw_below_drewN | apply below_drew1) | exact HB.out)⟩
                                  · rw [if_neg c60] at H
                                    exact absurd H (by simp)
                                · rw [if_neg c59] at H
                                  exact absurd H (by simp)
                              · rw [if_neg c58] at H
                                have c58b0 : decide (x153_4 < (t415.length : Int)) = false := decide_eq_false c58
                                clear c58
                                by_cases c75 : (t415.length : Int) = 0
                                · rw [if_pos c75] at H
                                  exact absurd H (by simp)
                                · rw [if_neg c75] at H
                                  have c75b0 : ((t415.length : Int) == 0) = false := beq_eq_false_iff_ne.mpr c75
                                  have c75b1 : ((t415.length : Int) != 0) = true := bne_iff_ne.mpr c75
                                  have c75b2 : ¬ (t415 = []) := fun h_ => c75 (by rw [h_]; rfl)
                                  obtain ⟨ji76, hji76⟩ : ∃ j_ : Int, (Int.tmod (wrap64 ((l0.length : Int) + (l1.length : Int))) (t415.length : Int)) = j_ := ⟨_, rfl⟩
                                  replace H : (if 0 ≤ (ji76) then (if (ji76) < (t415.length : Int) then ((impl_RankSlope.f k4 (rd_L2 t415 (ji76)) t414).bind fun bt427 => (if bt427.2 = true then (if bt427.1 = (ji76) then (laws_FnSlopesCounted.j4 k4 t396 t397 t398 t399 t400 t407) else (some false)) else (some false))) else (none)) else (none)) = some r := by first | (rw [hji76] at H; exact H) | (simp only [hji76] at H ⊢; exact H)
                                  by_cases c77 : 0 ≤ (ji76)
                                  · rw [if_pos c77] at H
                                    have c77b0 : decide (0 ≤ (ji76)) = true := decide_eq_true c77
                                    clear c77
                                    by_cases c78 : (ji76) < (t415.length : Int)
                                    · rw [if_pos c78] at H
                                      have c78b0 : decide ((ji76) < (t415.length : Int)) = true := decide_eq_true c78
                                      clear c78
                                      replace H := Option.bind_eq_some_iff.mp H
                                      obtain ⟨⟨t427, t428⟩, A790, H⟩ := H
                                      replace H : (if t428 = true then (if t427 = (ji76) then (laws_FnSlopesCounted.j4 k4 t396 t397 t398 t399 t400 t407) else (some false)) else (some false)) = some r := H
                                      have A79 := Aside0.mk A790
                                      clear A790
                                      by_cases c80 : t428 = true
                                      · subst c80
                                        have H1 : (if t427 = (ji76) then (laws_FnSlopesCounted.j4 k4 t396 t397 t398 t399 t400 t407) else (some false)) = some r := by rw [if_pos rfl] at H; exact H
                                        clear H
                                        have H := H1
                                        clear H1
                                        by_cases c81 : t427 = (ji76)
                                        · rw [if_pos c81] at H
                                          have c81b0 : (t427 == (ji76)) = true := beq_iff_eq.mpr c81
                                          have c81b1 : (t427 != (ji76)) = false := bne_eq_false_iff_eq.mpr c81
                                          clear c81
                                          as_aux_lemma =>
                                            have H' := Aside0.mk H
                                            clear H
                                            have p426 : 0 ≤ ((ji76) : Int) := of_decide_eq_true (by first | (with_reducible assumption) | assumption)
                                            have q426 : (ji76) < (t415.length : Int) := of_decide_eq_true (by first | (with_reducible assumption) | assumption)
                                            obtain ⟨ad426, A426_0, c426_0, e426, hx426_0, hl426_0, hi426_0⟩ := at_L2 (Kd.N_reads' HO_18.out).2.2 (ji76) p426 q426
                                            cases e426
                                            obtain ⟨ce426, hce426, hMe426, hcc426⟩ := Kd.N_get HO_18.out [] (ji76) p426 (by first | exact q426 | exact of_decide_eq_true (by first | (with_reducible assumption) | assumption) | (have e_ := (Kd.N_reads' HO_18.out).1; omega))
                                            obtain ⟨ua426_0, uc426_0, rfl, ul426_0, ge426_0⟩ := Kd.FK_slice_open hMe426
                                            have hv426_0 := hcc426 0 _ rfl
                                            rw [Nat.add_zero, show ((Kd.slice 3 (Kd.int .i64))).sz = 1 from rfl, Nat.mul_one] at hv426_0
                                            replace hv426_0 := Option.some.inj (hv426_0.symm.trans hx426_0)
                                            injection hv426_0 with hva_ hvn_ hvc_
                                            rw [hva_] at ge426_0
                                            rw [hvc_] at ul426_0
                                            have HL426_0 := Aside0.mk (show Kd.V (Kd.int .i64) 3 _ w.heap.size _ _ (rd_L2 t415 (ji76)) from Kd.V_mk ul426_0 ge426_0)
                                            clear hva_ hvn_ hvc_ ge426_0 ul426_0
                                            clear hcc426 hce426
                                            have HR426_0 := Aside0.mk hi426_0
                                            have HC426_0 := Aside0.mk hl426_0
                                            clear hi426_0 hl426_0
                                            replace p426 := eq_true p426
                                            replace q426 := eq_true q426
                                            go_wp2_with (first | ((with_reducible refine gate_callee (f := 18) rfl ?_); refine goesL_ (some 199) rfl rfl Try.func18 (by kernel_rfl) rfl #[.slice A426_0 (rd_L2 t415 (ji76)).length c426_0, .int .i64 t414] rfl (by (try simp only [List.map_toArray, List.map_cons, List.map_nil]); first | done | (simp only [hji76]; rfl) | rfl | (simp only [List.length_drop, List.length_take]; rfl)) ?_; (with_reducible refine (impl_RankSlope.calls k4 _ _ (rd_L2 t415 (ji76)) t414 t427 true _ ?side1 ?side2 A79.out).mono ?_); (case side1 => repeat (first | exact (by repeat (first | (with_reducible exact HR426_0.out) | (with_reducible refine Kd.C_alloc ?_ _) | (with_reducible refine Kd.C_drewN ?_ _) | (with_reducible refine Kd.C_drew ?_) | exact HR426_0.out)) | (with_reducible refine Kd.C_alloc ?_ _) | (with_reducible refine Kd.C_drewN ?_ _) | (with_reducible refine Kd.C_drew ?_))); (case side2 => exact HC426_0.out); rintro e w82 ⟨rfl, hb⟩; refine ⟨_, rfl, ?_⟩; have n0_ := Aside0.mk (Kd.R_below (by (with_reducible repeat (first | apply Kd.R_alloc | apply Kd.R_drewN | apply Kd.R_drew)); exact HO_8.out) hb); have n1_ := Aside0.mk (Kd.N_below (by (with_reducible repeat (first | apply Kd.N_alloc | apply Kd.N_drewN | apply Kd.N_drew)); exact HO_18.out) hb); have n2_ := Aside0.mk (Kd.N_below (by (with_reducible repeat (first | apply Kd.N_alloc | apply Kd.N_drewN | apply Kd.N_drew)); exact HO_151.out) hb); have n3_ := Aside0.mk (Kd.V_below (by (with_reducible repeat (first | apply Kd.V_alloc | apply Kd.V_drewN | apply Kd.V_drew)); exact HL426_0.out) hb); have n4_ := Aside0.mk (Kd.C_below (by repeat (first | (with_reducible exact HR426_0.out) | (with_reducible refine Kd.C_alloc ?_ _) | (with_reducible refine Kd.C_drewN ?_ _) | (with_reducible refine Kd.C_drew ?_) | exact HR426_0.out)) hb); have n5_ := Aside0.mk (below_step (by repeat (first | (with_reducible first | exact HB.out | apply below_alloc | apply pw_below_drewN | apply below_drew1) | exact HB.out)) hb); clear HO_8; clear HO_18; clear HO_151; clear HL426_0; clear HR426_0; clear HB; have HO_8 := n0_; have HO_18 := n1_; have HO_151 := n2_; have HL426_0 := n3_; have HR426_0 := n4_; have HB := n5_; clear n0_ n1_ n2_ n3_ n4_ n5_; (try clear hb); (try clear hb2); (try clear hk); (try clear hi)))
                                            go_meet
                                            case rel => exact ⟨_, H', ⟨by have := HJ9.out; have := HJ40.out; have := HJ52.out; have := HK4.out; first | omega | exact Nat.le_refl _⟩, ⟨by (with_reducible repeat (first | apply Kd.R_alloc | apply Kd.R_drewN | apply Kd.R_drew)); exact HO_8.out⟩, ⟨by repeat (first | (with_reducible first | exact HB.out | apply below_alloc | apply pw_below_drewN | apply below_drew1) | exact HB.out)⟩⟩
                                        · rw [if_neg c81] at H
                                          have c81b0 : (t427 == (ji76)) = false := beq_eq_false_iff_ne.mpr c81
                                          have c81b1 : (t427 != (ji76)) = true := bne_iff_ne.mpr c81
                                          as_aux_lemma =>
                                            obtain rfl := Option.some.inj H
                                            have p426 : 0 ≤ ((ji76) : Int) := of_decide_eq_true (by first | (with_reducible assumption) | assumption)
                                            have q426 : (ji76) < (t415.length : Int) := of_decide_eq_true (by first | (with_reducible assumption) | assumption)
                                            obtain ⟨ad426, A426_0, c426_0, e426, hx426_0, hl426_0, hi426_0⟩ := at_L2 (Kd.N_reads' HO_18.out).2.2 (ji76) p426 q426
                                            cases e426
                                            obtain ⟨ce426, hce426, hMe426, hcc426⟩ := Kd.N_get HO_18.out [] (ji76) p426 (by first | exact q426 | exact of_decide_eq_true (by first | (with_reducible assumption) | assumption) | (have e_ := (Kd.N_reads' HO_18.out).1; omega))
                                            obtain ⟨ua426_0, uc426_0, rfl, ul426_0, ge426_0⟩ := Kd.FK_slice_open hMe426
                                            have hv426_0 := hcc426 0 _ rfl
                                            rw [Nat.add_zero, show ((Kd.slice 3 (Kd.int .i64))).sz = 1 from rfl, Nat.mul_one] at hv426_0
                                            replace hv426_0 := Option.some.inj (hv426_0.symm.trans hx426_0)
                                            injection hv426_0 with hva_ hvn_ hvc_
                                            rw [hva_] at ge426_0
                                            rw [hvc_] at ul426_0
                                            have HL426_0 := Aside0.mk (show Kd.V (Kd.int .i64) 3 _ w.heap.size _ _ (rd_L2 t415 (ji76)) from Kd.V_mk ul426_0 ge426_0)
                                            clear hva_ hvn_ hvc_ ge426_0 ul426_0
                                            clear hcc426 hce426
                                            have HR426_0 := Aside0.mk hi426_0
                                            have HC426_0 := Aside0.mk hl426_0
                                            clear hi426_0 hl426_0
                                            replace p426 := eq_true p426
                                            replace q426 := eq_true q426
                                            go_wp2_with (first | ((with_reducible refine gate_callee (f := 18) rfl ?_); refine goesL_ (some 199) rfl rfl Try.func18 (by kernel_rfl) rfl #[.slice A426_0 (rd_L2 t415 (ji76)).length c426_0, .int .i64 t414] rfl (by (try simp only [List.map_toArray, List.map_cons, List.map_nil]); first | done | (simp only [hji76]; rfl) | rfl | (simp only [List.length_drop, List.length_take]; rfl)) ?_; (with_reducible refine (impl_RankSlope.calls k4 _ _ (rd_L2 t415 (ji76)) t414 t427 true _ ?side1 ?side2 A79.out).mono ?_); (case side1 => repeat (first | exact (by repeat (first | (with_reducible exact HR426_0.out) | (with_reducible refine Kd.C_alloc ?_ _) | (with_reducible refine Kd.C_drewN ?_ _) | (with_reducible refine Kd.C_drew ?_) | exact HR426_0.out)) | (with_reducible refine Kd.C_alloc ?_ _) | (with_reducible refine Kd.C_drewN ?_ _) | (with_reducible refine Kd.C_drew ?_))); (case side2 => exact HC426_0.out); rintro e w83 ⟨rfl, hb⟩; refine ⟨_, rfl, ?_⟩; have n0_ := Aside0.mk (Kd.R_below (by (with_reducible repeat (first | apply Kd.R_alloc | apply Kd.R_drewN | apply Kd.R_drew)); exact HO_8.out) hb); have n1_ := Aside0.mk (Kd.N_below (by (with_reducible repeat (first | apply Kd.N_alloc | apply Kd.N_drewN | apply Kd.N_drew)); exact HO_18.out) hb); have n2_ := Aside0.mk (Kd.N_below (by (with_reducible repeat (first | apply Kd.N_alloc | apply Kd.N_drewN | apply Kd.N_drew)); exact HO_151.out) hb); have n3_ := Aside0.mk (Kd.V_below (by (with_reducible repeat (first | apply Kd.V_alloc | apply Kd.V_drewN | apply Kd.V_drew)); exact HL426_0.out) hb); have n4_ := Aside0.mk (Kd.C_below (by repeat (first | (with_reducible exact HR426_0.out) | (with_reducible refine Kd.C_alloc ?_ _) | (with_reducible refine Kd.C_drewN ?_ _) | (with_reducible refine Kd.C_drew ?_) | exact HR426_0.out)) hb); have n5_ := Aside0.mk (below_step (by repeat (first | (with_reducible first | exact HB.out | apply below_alloc | apply pw_below_drewN | apply below_drew1) | exact HB.out)) hb); clear HO_8; clear HO_18; clear HO_151; clear HL426_0; clear HR426_0; clear HB; have HO_8 := n0_; have HO_18 := n1_; have HO_151 := n2_; have HL426_0 := n3_; have HR426_0 := n4_; have HB := n5_; clear n0_ n1_ n2_ n3_ n4_ n5_; (try clear hb); (try clear hb2); (try clear hk); (try clear hi)))
                                            go_ret
                                            exact ⟨by first | rfl | (simp [errW_none, errW_some] <;> rfl) | (simp only [← hji76]; first | rfl | (simp [errW_none, errW_some] <;> rfl)) | (simp [*, errW_none, errW_some] <;> rfl), by repeat (first | (with_reducible first | exact HB.out | apply below_alloc | apply pw_below_drewN | apply below_drew1) | exact HB.out)⟩
                                      · replace c80 := Bool.eq_false_iff.mpr c80
                                        subst c80
                                        have H1 : (some false) = some r := by rw [if_neg (show ¬ (false = true) by decide)] at H; exact H
                                        clear H
                                        have H := H1
                                        clear H1
                                        as_aux_lemma =>
                                          obtain rfl := Option.some.inj H
                                          have p426 : 0 ≤ ((ji76) : Int) := of_decide_eq_true (by first | (with_reducible assumption) | assumption)
                                          have q426 : (ji76) < (t415.length : Int) := of_decide_eq_true (by first | (with_reducible assumption) | assumption)
                                          obtain ⟨ad426, A426_0, c426_0, e426, hx426_0, hl426_0, hi426_0⟩ := at_L2 (Kd.N_reads' HO_18.out).2.2 (ji76) p426 q426
                                          cases e426
                                          obtain ⟨ce426, hce426, hMe426, hcc426⟩ := Kd.N_get HO_18.out [] (ji76) p426 (by first | exact q426 | exact of_decide_eq_true (by first | (with_reducible assumption) | assumption) | (have e_ := (Kd.N_reads' HO_18.out).1; omega))
                                          obtain ⟨ua426_0, uc426_0, rfl, ul426_0, ge426_0⟩ := Kd.FK_slice_open hMe426
                                          have hv426_0 := hcc426 0 _ rfl
                                          rw [Nat.add_zero, show ((Kd.slice 3 (Kd.int .i64))).sz = 1 from rfl, Nat.mul_one] at hv426_0
                                          replace hv426_0 := Option.some.inj (hv426_0.symm.trans hx426_0)
                                          injection hv426_0 with hva_ hvn_ hvc_
                                          rw [hva_] at ge426_0
                                          rw [hvc_] at ul426_0
                                          have HL426_0 := Aside0.mk (show Kd.V (Kd.int .i64) 3 _ w.heap.size _ _ (rd_L2 t415 (ji76)) from Kd.V_mk ul426_0 ge426_0)
                                          clear hva_ hvn_ hvc_ ge426_0 ul426_0
                                          clear hcc426 hce426
                                          have HR426_0 := Aside0.mk hi426_0
                                          have HC426_0 := Aside0.mk hl426_0
                                          clear hi426_0 hl426_0
                                          replace p426 := eq_true p426
                                          replace q426 := eq_true q426
                                          go_wp2_with (first | ((with_reducible refine gate_callee (f := 18) rfl ?_); refine goesL_ (some 199) rfl rfl Try.func18 (by kernel_rfl) rfl #[.slice A426_0 (rd_L2 t415 (ji76)).length c426_0, .int .i64 t414] rfl (by (try simp only [List.map_toArray, List.map_cons, List.map_nil]); first | done | (simp only [hji76]; rfl) | rfl | (simp only [List.length_drop, List.length_take]; rfl)) ?_; (with_reducible refine (impl_RankSlope.calls k4 _ _ (rd_L2 t415 (ji76)) t414 t427 false _ ?side1 ?side2 A79.out).mono ?_); (case side1 => repeat (first | exact (by repeat (first | (with_reducible exact HR426_0.out) | (with_reducible refine Kd.C_alloc ?_ _) | (with_reducible refine Kd.C_drewN ?_ _) | (with_reducible refine Kd.C_drew ?_) | exact HR426_0.out)) | (with_reducible refine Kd.C_alloc ?_ _) | (with_reducible refine Kd.C_drewN ?_ _) | (with_reducible refine Kd.C_drew ?_))); (case side2 => exact HC426_0.out); rintro e w84 ⟨rfl, hb⟩; refine ⟨_, rfl, ?_⟩; have n0_ := Aside0.mk (Kd.R_below (by (with_reducible repeat (first | apply Kd.R_alloc | apply Kd.R_drewN | apply Kd.R_drew)); exact HO_8.out) hb); have n1_ := Aside0.mk (Kd.N_below (by (with_reducible repeat (first | apply Kd.N_alloc | apply Kd.N_drewN | apply Kd.N_drew)); exact HO_18.out) hb); have n2_ := Aside0.mk (Kd.N_below (by (with_reducible repeat (first | apply Kd.N_alloc | apply Kd.N_drewN | apply Kd.N_drew)); exact HO_151.out) hb); have n3_ := Aside0.mk (Kd.V_below (by (with_reducible repeat (first | apply Kd.V_alloc | apply Kd.V_drewN | apply Kd.V_drew)); exact HL426_0.out) hb); have n4_ := Aside0.mk (Kd.C_below (by repeat (first | (with_reducible exact HR426_0.out) | (with_reducible refine Kd.C_alloc ?_ _) | (with_reducible refine Kd.C_drewN ?_ _) | (with_reducible refine Kd.C_drew ?_) | exact HR426_0.out)) hb); have n5_ := Aside0.mk (below_step (by repeat (first | (with_reducible first | exact HB.out | apply below_alloc | apply pw_below_drewN | apply below_drew1) | exact HB.out)) hb); clear HO_8; clear HO_18; clear HO_151; clear HL426_0; clear HR426_0; clear HB; have HO_8 := n0_; have HO_18 := n1_; have HO_151 := n2_; have HL426_0 := n3_; have HR426_0 := n4_; have HB := n5_; clear n0_ n1_ n2_ n3_ n4_ n5_; (try clear hb); (try clear hb2); (try clear hk); (try clear hi)))
                                          go_ret
                                          exact ⟨by first | rfl | (simp [errW_none, errW_some] <;> rfl) | (simp only [← hji76]; first | rfl | (simp [errW_none, errW_some] <;> rfl)) | (simp [*, errW_none, errW_some] <;> rfl), by repeat (first | (with_reducible first | exact HB.out | apply below_alloc | apply pw_below_drewN | apply below_drew1) | exact HB.out)⟩
                                    · rw [if_neg c78] at H
                                      exact absurd H (by simp)
                                  · rw [if_neg c77] at H
                                    exact absurd H (by simp)
                  · replace c51 := Bool.eq_false_iff.mpr c51
                    subst c51
                    have H1 : (laws_FnSlopesCounted.j4 kj40 t396 t397 t398 t399 t400 t407) = some r := by rw [if_neg (show ¬ (false = true) by decide)] at H; exact H
                    clear H
                    have H := H1
                    clear H1
                    as_aux_lemma =>
                      have H' := Aside0.mk H
                      clear H
                      go_wp2
                      go_meet
                      case rel => exact ⟨_, H', ⟨by have := HJ9.out; have := HJ40.out; first | omega | exact Nat.le_refl _⟩, ⟨by (with_reducible repeat (first | apply Kd.R_alloc | apply Kd.R_drewN | apply Kd.R_drew)); exact HO_8.out⟩, ⟨by repeat (first | (with_reducible first | exact HB.out | apply below_alloc | apply pw_below_drewN | apply below_drew1) | exact HB.out)⟩⟩
                case rest =>
                  clear HC50
                  try clear c1
                  try clear c2
                  try clear p2
                  try clear c3
                  try clear c4
                  try clear p4
                  try clear q4
                  try clear hx4
                  try clear c5
                  try clear c6
                  try clear p6
                  try clear c7
                  try clear c8
                  try clear c9
                  try clear c12
                  try clear c13
                  try clear c14
                  try clear c14b0
                  try clear c14b1
                  try clear c14b2
                  try clear c16
                  try clear c17
                  try clear c17b0
                  try clear c17b1
                  try clear c17b2
                  try clear c18
                  try clear c20
                  try clear c20b0
                  try clear c20b1
                  try clear c22
                  try clear c22b0
                  try clear c22b1
                  try clear c22b2
                  try clear c25
                  try clear c26
                  try clear c26b0
                  try clear c37
                  try clear c42
                  try clear p42
                  try clear q42
                  try clear hx42
                  try clear c43
                  try clear p43
                  try clear q43
                  try clear hx43
                  try clear c45
                  try clear c45b0
                  try clear c45b1
                  try clear c45b2
                  try clear c49
                  try clear c51
                  try clear c54
                  try clear c56
                  try clear c58
                  try clear c58b0
                  try clear c59
                  try clear c59b0
                  try clear c60
                  try clear c60b0
                  try clear c62
                  try clear c63
                  try clear c64
                  try clear c64b0
                  try clear p64
                  try clear c66
                  try clear c66b0
                  try clear c67
                  try clear c67b0
                  try clear c69
                  try clear c75
                  try clear c75b0
                  try clear c75b1
                  try clear c75b2
                  try clear c77
                  try clear c77b0
                  try clear c78
                  try clear c78b0
                  try clear c80
                  try clear c81
                  try clear c81b0
                  try clear c81b1
                  try clear hx426_0
                  try clear hx429_0
                  try clear hx432_0
                  try clear p2
                  try clear p426
                  try clear p429
                  try clear p432
                  try clear q426
                  try clear q429
                  try clear q432
                  obtain ⟨kq, HA, HJ49, HO_8, HB⟩ := hcut
                  cases kq with
                  | zero => exact absurd HA.out (by simp [laws_FnSlopesCounted.j4])
                  | succ kj49 =>
                    have H := HA.out
                    clear HA
                    simp only [laws_FnSlopesCounted.j4] at H
                    by_cases c85 : t400 = true
                    · subst c85
                      have H1 : ((impl_RankSlope.f kj49 t399 t397).bind fun bt434 => ((impl_SlopeAt.f kj49 t396 t397 (wrap64 (t398 + 1))).bind fun bt436 => (if bt434.2 = true then (if bt434.1 = t398 then (if (bt436.2 == (decide ((wrap64 (t398 + 1)) < t407))) = true then (if bt436.2 = true then ((laws_wLess.f kj49 t399 bt436.1).bind fun t440 => (some t440)) else (some true)) else (some false)) else (some false)) else (some false)))) = some r := by rw [if_pos rfl] at H; exact H
                      clear H
                      have H := H1
                      clear H1
                      replace H := Option.bind_eq_some_iff.mp H
                      obtain ⟨⟨t434, t435⟩, A860, H⟩ := H
                      replace H : ((impl_SlopeAt.f kj49 t396 t397 (wrap64 (t398 + 1))).bind fun bt436 => (if t435 = true then (if t434 = t398 then (if (bt436.2 == (decide ((wrap64 (t398 + 1)) < t407))) = true then (if bt436.2 = true then ((laws_wLess.f kj49 t399 bt436.1).bind fun t440 => (some t440)) else (some true)) else (some false)) else (some false)) else (some false))) = some r := H
                      have A86 := Aside0.mk A860
                      clear A860
                      replace H := Option.bind_eq_some_iff.mp H
                      obtain ⟨⟨t436, t437⟩, A870, H⟩ := H
                      replace H : (if t435 = true then (if t434 = t398 then (if (t437 == (decide ((wrap64 (t398 + 1)) < t407))) = true then (if t437 = true then ((laws_wLess.f kj49 t399 t436).bind fun t440 => (some t440)) else (some true)) else (some false)) else (some false)) else (some false)) = some r := H
                      have A87 := Aside0.mk A870
                      clear A870
                      by_cases c88 : t435 = true
                      · subst c88
                        have H1 : (if t434 = t398 then (if (t437 == (decide ((wrap64 (t398 + 1)) < t407))) = true then (if t437 = true then ((laws_wLess.f kj49 t399 t436).bind fun t440 => (some t440)) else (some true)) else (some false)) else (some false)) = some r := by rw [if_pos rfl] at H; exact H
                        clear H
                        have H := H1
                        clear H1
                        by_cases c89 : t434 = t398
                        · rw [if_pos c89] at H
                          have c89b0 : (t434 == t398) = true := beq_iff_eq.mpr c89
                          have c89b1 : (t434 != t398) = false := bne_eq_false_iff_eq.mpr c89
                          clear c89
                          by_cases c90 : (t437 == (decide ((wrap64 (t398 + 1)) < t407))) = true
                          · rw [if_pos c90] at H
                            have c90b0 : (t437 == (decide ((wrap64 (t398 + 1)) < t407))) = true := c90
                            (try (have c90b1 : decide (t437 = (decide ((wrap64 (t398 + 1)) < t407))) = true := by simpa using c90))
                            (try (have c90b2 : (t437 == (decide ((wrap64 (t398 + 1)) < t407))) = true := by simpa using c90))
                            clear c90
                            by_cases c91 : t437 = true
                            · subst c91
                              have H1 : ((laws_wLess.f kj49 t399 t436).bind fun t440 => (some t440)) = some r := by rw [if_pos rfl] at H; exact H
                              clear H
                              have H := H1
                              clear H1
                              replace H := Option.bind_eq_some_iff.mp H
                              obtain ⟨t440, A920, H⟩ := H
                              replace H : (some t440) = some r := H
                              have A92 := Aside0.mk A920
                              clear A920
                              as_aux_lemma =>
                                obtain rfl := Option.some.inj H
                                obtain ⟨Ao93, co93, eo93⟩ := Kd.R_slice HO_8.out
                                subst eo93
                                go_wp2_with (first | ((with_reducible refine gate_callee (f := 18) rfl ?_); refine goesL_ (some 214) rfl rfl Try.func18 (by kernel_rfl) rfl #[.slice Ao93 t399.length co93, .int .i64 t397] rfl (by (try simp only [List.map_toArray, List.map_cons, List.map_nil]); first | done | rfl | (simp only [List.length_drop, List.length_take]; rfl)) ?_; (with_reducible refine (impl_RankSlope.calls kj49 _ _ t399 t397 t434 true _ ?side1 ?side2 A86.out).mono ?_); (case side1 => repeat (first | exact (Kd.R_reads' HO_8.out).2.2 | (with_reducible refine Kd.C_alloc ?_ _) | (with_reducible refine Kd.C_drewN ?_ _) | (with_reducible refine Kd.C_drew ?_))); (case side2 => exact (Kd.R_reads' HO_8.out).2.1); rintro e w94 ⟨rfl, hb⟩; refine ⟨_, rfl, ?_⟩; have n0_ := Aside0.mk (Kd.R_below (by (with_reducible repeat (first | apply Kd.R_alloc | apply Kd.R_drewN | apply Kd.R_drew)); exact HO_8.out) hb); have n1_ := Aside0.mk (below_step (by repeat (first | (with_reducible first | exact HB.out | apply below_alloc | apply pw_below_drewN | apply below_drew1) | exact HB.out)) hb); clear HO_8; clear HB; have HO_8 := n0_; have HB := n1_; clear n0_ n1_; (try clear hb); (try clear hb2); (try clear hk); (try clear hi)) | ((with_reducible refine gate_callee (f := 6) rfl ?_); refine goesL_ (some 222) rfl rfl Try.func6 (by kernel_rfl) rfl #[.int .i64 t396, .int .i64 t397, .int .i64 (wrap64 (t398 + 1))] rfl (by (try simp only [List.map_toArray, List.map_cons, List.map_nil]); first | done | rfl | (simp only [List.length_drop, List.length_take]; rfl)) ?_; (with_reducible refine (impl_SlopeAt.calls kj49 t396 t397 (wrap64 (t398 + 1)) t436 true _ A87.out).mono ?_); rintro e w95 ⟨v438, rfl, ho0, hb⟩; refine ⟨_, rfl, ?_⟩; have n0_ := Aside0.mk (Kd.R_elder' (by (with_reducible repeat (first | apply Kd.R_alloc | apply Kd.R_drewN | apply Kd.R_drew)); exact HO_8.out) (Kd.R_base ho0) hb); have n1_ := Aside0.mk (Kd.R_lower (Kd.R_new' ho0 (Kd.R_lt (by (with_reducible repeat (first | apply Kd.R_alloc | apply Kd.R_drewN | apply Kd.R_drew)); exact HO_8.out))) (below_size (by repeat (first | (with_reducible first | exact HB.out | apply below_alloc | apply pw_below_drewN | apply below_drew1) | exact HB.out)))); have n2_ := Aside0.mk (below_step (by repeat (first | (with_reducible first | exact HB.out | apply below_alloc | apply pw_below_drewN | apply below_drew1) | exact HB.out)) hb); clear HO_8; clear HB; have HO_8 := n0_; have HO439 := n1_; have HB := n2_; clear n0_ n1_ n2_; (try clear hb); (try clear hb2); (try clear hk); (try clear hi); (try clear ho0); obtain ⟨Ao96, co96, eo96⟩ := Kd.R_slice HO439.out; subst eo96) | (go_at_call 17; (with_reducible refine (laws_wLess.calls kj49 _ _ t399 _ _ t436 t440 _ ?side1 ?side2 ?side3 ?side4 A92.out).mono ?_); (case side1 => repeat (first | exact (Kd.R_reads' HO_8.out).2.2 | (with_reducible refine Kd.C_alloc ?_ _) | (with_reducible refine Kd.C_drewN ?_ _) | (with_reducible refine Kd.C_drew ?_))); (case side2 => exact (Kd.R_reads' HO_8.out).2.1); (case side3 => repeat (first | exact (Kd.R_reads' HO439.out).2.2 | (with_reducible refine Kd.C_alloc ?_ _) | (with_reducible refine Kd.C_drewN ?_ _) | (with_reducible refine Kd.C_drew ?_))); (case side4 => exact (Kd.R_reads' HO439.out).2.1); rintro e w' ⟨rfl, ⟨nd, rfl⟩⟩))
                                go_ret
                                exact ⟨by first | rfl | (simp [errW_none, errW_some] <;> rfl) | (simp [*, errW_none, errW_some] <;> rfl), by repeat (first | (with_reducible first | exact HB.out | apply below_alloc | apply pw_below_drewN | apply below_drew1) | exact HB.out)⟩
                            · replace c91 := Bool.eq_false_iff.mpr c91
                              subst c91
                              have H1 : (some true) = some r := by rw [if_neg (show ¬ (false = true) by decide)] at H; exact H
                              clear H
                              have H := H1
                              clear H1
                              as_aux_lemma =>
                                obtain rfl := Option.some.inj H
                                obtain ⟨Ao97, co97, eo97⟩ := Kd.R_slice HO_8.out
                                subst eo97
                                go_wp2_with (first | ((with_reducible refine gate_callee (f := 18) rfl ?_); refine goesL_ (some 214) rfl rfl Try.func18 (by kernel_rfl) rfl #[.slice Ao97 t399.length co97, .int .i64 t397] rfl (by (try simp only [List.map_toArray, List.map_cons, List.map_nil]); first | done | rfl | (simp only [List.length_drop, List.length_take]; rfl)) ?_; (with_reducible refine (impl_RankSlope.calls kj49 _ _ t399 t397 t434 true _ ?side1 ?side2 A86.out).mono ?_); (case side1 => repeat (first | exact (Kd.R_reads' HO_8.out).2.2 | (with_reducible refine Kd.C_alloc ?_ _) | (with_reducible refine Kd.C_drewN ?_ _) | (with_reducible refine Kd.C_drew ?_))); (case side2 => exact (Kd.R_reads' HO_8.out).2.1); rintro e w98 ⟨rfl, hb⟩; refine ⟨_, rfl, ?_⟩; have n0_ := Aside0.mk (Kd.R_below (by (with_reducible repeat (first | apply Kd.R_alloc | apply Kd.R_drewN | apply Kd.R_drew)); exact HO_8.out) hb); have n1_ := Aside0.mk (below_step (by repeat (first | (with_reducible first | exact HB.out | apply below_alloc | apply pw_below_drewN | apply below_drew1) | exact HB.out)) hb); clear HO_8; clear HB; have HO_8 := n0_; have HB := n1_; clear n0_ n1_; (try clear hb); (try clear hb2); (try clear hk); (try clear hi)) | ((with_reducible refine gate_callee (f := 6) rfl ?_); refine goesL_ (some 222) rfl rfl Try.func6 (by kernel_rfl) rfl #[.int .i64 t396, .int .i64 t397, .int .i64 (wrap64 (t398 + 1))] rfl (by (try simp only [List.map_toArray, List.map_cons, List.map_nil]); first | done | rfl | (simp only [List.length_drop, List.length_take]; rfl)) ?_; (with_reducible refine (impl_SlopeAt.calls kj49 t396 t397 (wrap64 (t398 + 1)) t436 false _ A87.out).mono ?_); rintro e w99 ⟨v438, rfl, ho0, hb⟩; refine ⟨_, rfl, ?_⟩; have n0_ := Aside0.mk (Kd.R_elder' (by (with_reducible repeat (first | apply Kd.R_alloc | apply Kd.R_drewN | apply Kd.R_drew)); exact HO_8.out) (Kd.R_base ho0) hb); have n1_ := Aside0.mk (Kd.R_lower (Kd.R_new' ho0 (Kd.R_lt (by (with_reducible repeat (first | apply Kd.R_alloc | apply Kd.R_drewN | apply Kd.R_drew)); exact HO_8.out))) (below_size (by repeat (first | (with_reducible first | exact HB.out | apply below_alloc | apply pw_below_drewN | apply below_drew1) | exact HB.out)))); have n2_ := Aside0.mk (below_step (by repeat (first | (with_reducible first | exact HB.out | apply below_alloc | apply pw_below_drewN | apply below_drew1) | exact HB.out)) hb); clear HO_8; clear HB; have HO_8 := n0_; have HO439 := n1_; have HB := n2_; clear n0_ n1_ n2_; (try clear hb); (try clear hb2); (try clear hk); (try clear hi); (try clear ho0)))
                                go_ret
                                exact ⟨by first | rfl | (simp [errW_none, errW_some] <;> rfl) | (simp [*, errW_none, errW_some] <;> rfl), by repeat (first | (with_reducible first | exact HB.out | apply below_alloc | apply pw_below_drewN | apply below_drew1) | exact HB.out)⟩
                          · rw [if_neg c90] at H
                            have c90b0 : (t437 == (decide ((wrap64 (t398 + 1)) < t407))) = false := by simpa using c90
                            (try (have c90b1 : decide (t437 = (decide ((wrap64 (t398 + 1)) < t407))) = false := by simpa using c90))
                            (try (have c90b2 : (t437 == (decide ((wrap64 (t398 + 1)) < t407))) = false := by simpa using c90))
                            (try (have c90b3 : ¬ (t437 = (decide ((wrap64 (t398 + 1)) < t407))) := by simpa using c90))
                            clear c90
                            as_aux_lemma =>
                              obtain rfl := Option.some.inj H
                              obtain ⟨Ao100, co100, eo100⟩ := Kd.R_slice HO_8.out
                              subst eo100
                              go_wp2_with (first | ((with_reducible refine gate_callee (f := 18) rfl ?_); refine goesL_ (some 214) rfl rfl Try.func18 (by kernel_rfl) rfl #[.slice Ao100 t399.length co100, .int .i64 t397] rfl (by (try simp only [List.map_toArray, List.map_cons, List.map_nil]); first | done | rfl | (simp only [List.length_drop, List.length_take]; rfl)) ?_; (with_reducible refine (impl_RankSlope.calls kj49 _ _ t399 t397 t434 true _ ?side1 ?side2 A86.out).mono ?_); (case side1 => repeat (first | exact (Kd.R_reads' HO_8.out).2.2 | (with_reducible refine Kd.C_alloc ?_ _) | (with_reducible refine Kd.C_drewN ?_ _) | (with_reducible refine Kd.C_drew ?_))); (case side2 => exact (Kd.R_reads' HO_8.out).2.1); rintro e w101 ⟨rfl, hb⟩; refine ⟨_, rfl, ?_⟩; have n0_ := Aside0.mk (Kd.R_below (by (with_reducible repeat (first | apply Kd.R_alloc | apply Kd.R_drewN | apply Kd.R_drew)); exact HO_8.out) hb); have n1_ := Aside0.mk (below_step (by repeat (first | (with_reducible first | exact HB.out | apply below_alloc | apply pw_below_drewN | apply below_drew1) | exact HB.out)) hb); clear HO_8; clear HB; have HO_8 := n0_; have HB := n1_; clear n0_ n1_; (try clear hb); (try clear hb2); (try clear hk); (try clear hi)) | ((with_reducible refine gate_callee (f := 6) rfl ?_); refine goesL_ (some 222) rfl rfl Try.func6 (by kernel_rfl) rfl #[.int .i64 t396, .int .i64 t397, .int .i64 (wrap64 (t398 + 1))] rfl (by (try simp only [List.map_toArray, List.map_cons, List.map_nil]); first | done | rfl | (simp only [List.length_drop, List.length_take]; rfl)) ?_; (with_reducible refine (impl_SlopeAt.calls kj49 t396 t397 (wrap64 (t398 + 1)) t436 t437 _ A87.out).mono ?_); rintro e w102 ⟨v438, rfl, ho0, hb⟩; refine ⟨_, rfl, ?_⟩; have n0_ := Aside0.mk (Kd.R_elder' (by (with_reducible repeat (first | apply Kd.R_alloc | apply Kd.R_drewN | apply Kd.R_drew)); exact HO_8.out) (Kd.R_base ho0) hb); have n1_ := Aside0.mk (Kd.R_lower (Kd.R_new' ho0 (Kd.R_lt (by (with_reducible repeat (first | apply Kd.R_alloc | apply Kd.R_drewN | apply Kd.R_drew)); exact HO_8.out))) (below_size (by repeat (first | (with_reducible first | exact HB.out | apply below_alloc | apply pw_below_drewN | apply below_drew1) | exact HB.out)))); have n2_ := Aside0.mk (below_step (by repeat (first | (with_reducible first | exact HB.out | apply below_alloc | apply pw_below_drewN | apply below_drew1) | exact HB.out)) hb); clear HO_8; clear HB; have HO_8 := n0_; have HO439 := n1_; have HB := n2_; clear n0_ n1_ n2_; (try clear hb); (try clear hb2); (try clear hk); (try clear hi); (try clear ho0)))
                              go_ret
                              exact ⟨by first | rfl | (simp [errW_none, errW_some] <;> rfl) | (simp [*, errW_none, errW_some] <;> rfl), by repeat (first | (with_reducible first | exact HB.out | apply below_alloc | apply pw_below_drewN | apply below_drew1) | exact HB.out)⟩
                        · rw [if_neg c89] at H
                          have c89b0 : (t434 == t398) = false := beq_eq_false_iff_ne.mpr c89
                          have c89b1 : (t434 != t398) = true := bne_iff_ne.mpr c89
                          as_aux_lemma =>
                            obtain rfl := Option.some.inj H
                            obtain ⟨Ao103, co103, eo103⟩ := Kd.R_slice HO_8.out
                            subst eo103
                            go_wp2_with (first | ((with_reducible refine gate_callee (f := 18) rfl ?_); refine goesL_ (some 214) rfl rfl Try.func18 (by kernel_rfl) rfl #[.slice Ao103 t399.length co103, .int .i64 t397] rfl (by (try simp only [List.map_toArray, List.map_cons, List.map_nil]); first | done | rfl | (simp only [List.length_drop, List.length_take]; rfl)) ?_; (with_reducible refine (impl_RankSlope.calls kj49 _ _ t399 t397 t434 true _ ?side1 ?side2 A86.out).mono ?_); (case side1 => repeat (first | exact (Kd.R_reads' HO_8.out).2.2 | (with_reducible refine Kd.C_alloc ?_ _) | (with_reducible refine Kd.C_drewN ?_ _) | (with_reducible refine Kd.C_drew ?_))); (case side2 => exact (Kd.R_reads' HO_8.out).2.1); rintro e w104 ⟨rfl, hb⟩; refine ⟨_, rfl, ?_⟩; have n0_ := Aside0.mk (Kd.R_below (by (with_reducible repeat (first | apply Kd.R_alloc | apply Kd.R_drewN | apply Kd.R_drew)); exact HO_8.out) hb); have n1_ := Aside0.mk (below_step (by repeat (first | (with_reducible first | exact HB.out | apply below_alloc | apply pw_below_drewN | apply below_drew1) | exact HB.out)) hb); clear HO_8; clear HB; have HO_8 := n0_; have HB := n1_; clear n0_ n1_; (try clear hb); (try clear hb2); (try clear hk); (try clear hi)) | ((with_reducible refine gate_callee (f := 6) rfl ?_); refine goesL_ (some 222) rfl rfl Try.func6 (by kernel_rfl) rfl #[.int .i64 t396, .int .i64 t397, .int .i64 (wrap64 (t398 + 1))] rfl (by (try simp only [List.map_toArray, List.map_cons, List.map_nil]); first | done | rfl | (simp only [List.length_drop, List.length_take]; rfl)) ?_; (with_reducible refine (impl_SlopeAt.calls kj49 t396 t397 (wrap64 (t398 + 1)) t436 t437 _ A87.out).mono ?_); rintro e w105 ⟨v438, rfl, ho0, hb⟩; refine ⟨_, rfl, ?_⟩; have n0_ := Aside0.mk (Kd.R_elder' (by (with_reducible repeat (first | apply Kd.R_alloc | apply Kd.R_drewN | apply Kd.R_drew)); exact HO_8.out) (Kd.R_base ho0) hb); have n1_ := Aside0.mk (Kd.R_lower (Kd.R_new' ho0 (Kd.R_lt (by (with_reducible repeat (first | apply Kd.R_alloc | apply Kd.R_drewN | apply Kd.R_drew)); exact HO_8.out))) (below_size (by repeat (first | (with_reducible first | exact HB.out | apply below_alloc | apply pw_below_drewN | apply below_drew1) | exact HB.out)))); have n2_ := Aside0.mk (below_step (by repeat (first | (with_reducible first | exact HB.out | apply below_alloc | apply pw_below_drewN | apply below_drew1) | exact HB.out)) hb); clear HO_8; clear HB; have HO_8 := n0_; have HO439 := n1_; have HB := n2_; clear n0_ n1_ n2_; (try clear hb); (try clear hb2); (try clear hk); (try clear hi); (try clear ho0)))
                            go_ret
                            exact ⟨by first | rfl | (simp [errW_none, errW_some] <;> rfl) | (simp [*, errW_none, errW_some] <;> rfl), by repeat (first | (with_reducible first | exact HB.out | apply below_alloc | apply pw_below_drewN | apply below_drew1) | exact HB.out)⟩
                      · replace c88 := Bool.eq_false_iff.mpr c88
                        subst c88
                        have H1 : (some false) = some r := by rw [if_neg (show ¬ (false = true) by decide)] at H; exact H
                        clear H
                        have H := H1
                        clear H1
                        as_aux_lemma =>
                          obtain rfl := Option.some.inj H
                          obtain ⟨Ao106, co106, eo106⟩ := Kd.R_slice HO_8.out
                          subst eo106
                          go_wp2_with (first | ((with_reducible refine gate_callee (f := 18) rfl ?_); refine goesL_ (some 214) rfl rfl Try.func18 (by kernel_rfl) rfl #[.slice Ao106 t399.length co106, .int .i64 t397] rfl (by (try simp only [List.map_toArray, List.map_cons, List.map_nil]); first | done | rfl | (simp only [List.length_drop, List.length_take]; rfl)) ?_; (with_reducible refine (impl_RankSlope.calls kj49 _ _ t399 t397 t434 false _ ?side1 ?side2 A86.out).mono ?_); (case side1 => repeat (first | exact (Kd.R_reads' HO_8.out).2.2 | (with_reducible refine Kd.C_alloc ?_ _) | (with_reducible refine Kd.C_drewN ?_ _) | (with_reducible refine Kd.C_drew ?_))); (case side2 => exact (Kd.R_reads' HO_8.out).2.1); rintro e w107 ⟨rfl, hb⟩; refine ⟨_, rfl, ?_⟩; have n0_ := Aside0.mk (Kd.R_below (by (with_reducible repeat (first | apply Kd.R_alloc | apply Kd.R_drewN | apply Kd.R_drew)); exact HO_8.out) hb); have n1_ := Aside0.mk (below_step (by repeat (first | (with_reducible first | exact HB.out | apply below_alloc | apply pw_below_drewN | apply below_drew1) | exact HB.out)) hb); clear HO_8; clear HB; have HO_8 := n0_; have HB := n1_; clear n0_ n1_; (try clear hb); (try clear hb2); (try clear hk); (try clear hi)) | ((with_reducible refine gate_callee (f := 6) rfl ?_); refine goesL_ (some 222) rfl rfl Try.func6 (by kernel_rfl) rfl #[.int .i64 t396, .int .i64 t397, .int .i64 (wrap64 (t398 + 1))] rfl (by (try simp only [List.map_toArray, List.map_cons, List.map_nil]); first | done | rfl | (simp only [List.length_drop, List.length_take]; rfl)) ?_; (with_reducible refine (impl_SlopeAt.calls kj49 t396 t397 (wrap64 (t398 + 1)) t436 t437 _ A87.out).mono ?_); rintro e w108 ⟨v438, rfl, ho0, hb⟩; refine ⟨_, rfl, ?_⟩; have n0_ := Aside0.mk (Kd.R_elder' (by (with_reducible repeat (first | apply Kd.R_alloc | apply Kd.R_drewN | apply Kd.R_drew)); exact HO_8.out) (Kd.R_base ho0) hb); have n1_ := Aside0.mk (Kd.R_lower (Kd.R_new' ho0 (Kd.R_lt (by (with_reducible repeat (first | apply Kd.R_alloc | apply Kd.R_drewN | apply Kd.R_drew)); exact HO_8.out))) (below_size (by repeat (first | (with_reducible first | exact HB.out | apply below_alloc | apply pw_below_drewN | apply below_drew1) | exact HB.out)))); have n2_ := Aside0.mk (below_step (by repeat (first | (with_reducible first | exact HB.out | apply below_alloc | apply pw_below_drewN | apply below_drew1) | exact HB.out)) hb); clear HO_8; clear HB; have HO_8 := n0_; have HO439 := n1_; have HB := n2_; clear n0_ n1_ n2_; (try clear hb); (try clear hb2); (try clear hk); (try clear hi); (try clear ho0)))
                          go_ret
                          exact ⟨by first | rfl | (simp [errW_none, errW_some] <;> rfl) | (simp [*, errW_none, errW_some] <;> rfl), by repeat (first | (with_reducible first | exact HB.out | apply below_alloc | apply pw_below_drewN | apply below_drew1) | exact HB.out)⟩
                    · replace c85 := Bool.eq_false_iff.mpr c85
                      subst c85
                      have H1 : (some true) = some r := by rw [if_neg (show ¬ (false = true) by decide)] at H; exact H
                      clear H
                      have H := H1
                      clear H1
                      as_aux_lemma =>
                        obtain rfl := Option.some.inj H
                        go_wp2
                        go_ret
                        exact ⟨by first | rfl | (simp [errW_none, errW_some] <;> rfl) | (simp [*, errW_none, errW_some] <;> rfl), by repeat (first | (with_reducible first | exact HB.out | apply below_alloc | apply pw_below_drewN | apply below_drew1) | exact HB.out)⟩

/-- THE ONE PURE STATEMENT of laws_FnSlopesCounted: yours. -/
def laws_FnSlopesCounted.Pure : Prop := ∀ (l0 : List Int) (l1 : List Int), l0.length ≤ maxLen → l0.length * 1 ≤ 140737488351232 → (∀ x ∈ l0, (Lit.int .u8 x).wf = true) → l1.length ≤ maxLen → l1.length * 1 ≤ 140737488351232 → (∀ x ∈ l1, (Lit.int .u8 x).wf = true) → ∃ k, laws_FnSlopesCounted.f k l0 l1 = some true
theorem laws_FnSlopesCounted.walk (P : laws_FnSlopesCounted.Pure) (a0 : Option Addr) (len0 cap0 : Nat) (z0 : List Int) (a1 : Option Addr) (len1 cap1 : Nat) (z1 : List Int) (w : World) (w0 : (a0 = none ∧ len0 = 0 ∧ cap0 = 0 ∧ z0 = []) ∨ ∃ x, a0 = some x ∧ len0 ≤ cap0 ∧ cap0 ≤ maxLen ∧ z0.length = cap0 ∧ (∀ i, i < z0.length → w.cell? (x.add i) = some (.int .u8 (z0.getD i 0))) ∧ ∀ n ∈ z0, (Lit.int .u8 n).wf = true) (y0 : len0 * 1 ≤ 140737488351232) (w1 : (a1 = none ∧ len1 = 0 ∧ cap1 = 0 ∧ z1 = []) ∨ ∃ x, a1 = some x ∧ len1 ≤ cap1 ∧ cap1 ≤ maxLen ∧ z1.length = cap1 ∧ (∀ i, i < z1.length → w.cell? (x.add i) = some (.int .u8 (z1.getD i 0))) ∧ ∀ n ∈ z1, (Lit.int .u8 n).wf = true) (y1 : len1 * 1 ≤ 140737488351232) :
    Calls Try.prog 3 #[.slice a0 len0 cap0, .slice a1 len1 cap1] w fun e w' => e = .returned (.bool true) ∧ Below w.heap.size w w' := by
  obtain ⟨l0, rfl, hr0, hm0, hw0, hc0⟩ := ReadsInt.ofRowC w0
  obtain ⟨l1, rfl, hr1, hm1, hw1, hc1⟩ := ReadsInt.ofRowC w1
  obtain ⟨k, h⟩ := P l0 l1 hm0 y0 hw0 hm1 y1 hw1
  refine (laws_FnSlopesCounted.calls k _ _ l0 _ _ l1 true w (Kd.C_of_reads (d := (0 : Int)) (h1 := fun _ => rfl) hr0) hc0 (Kd.C_of_reads (d := (0 : Int)) (h1 := fun _ => rfl) hr1) hc1 h).mono ?_
  rintro e w' ⟨rfl, hd⟩
  exact ⟨rfl, hd⟩

end Go.Proofs.Ytpcioeakogildaa.PAll
