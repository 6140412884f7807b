-- written by a program of this session (wip/gen/xpatch.py over the translation); Lean checks it
import Derived.Test.YtcfolhafjeefaaaPAllx0
import Derived.Test.YtcfolhafjeefaaaPAllx1
import Derived.Test.YtcfolhafjeefaaaPAllx2
import Derived.Test.YtcfolhafjeefaaaPAllx3
import Derived.Test.YtcfolhafjeefaaaPAllx4
import Derived.Test.YtcfolhafjeefaaaPAllx5
import Derived.Test.YtcfolhafjeefaaaPAllx6
namespace Go.Proofs.Ytcfolhafjeefaaa.PAll
open Go.RowKit Go.Proofs.Ytcfolhafjeefaaa.Hand Go.Proofs.YtcfolhafjeefaaaW.PrintWords Go.Proofs.YtcfolhafjeefaaaW.PrintLast Go.Proofs.YtcfolhafjeefaaaW.PrintMore
attribute [local go_sem] max2_int min2_int max_two min_two max_three min_three max_four min_four   -- for this text's walks alone
set_option linter.unusedVariables false
set_option linter.unusedSimpArgs false

/-! ### laws_FnPrimeParts: function 3 -/
mutual
def laws_FnPrimeParts.j0 : Nat → List Int → List Int → List (List Int) → Bool → Bool → Bool → Option (Bool)
  | 0, _, _, _, _, _, _ => none
  | k + 1, x1, x5, x6, x7, x10, x87 => if x87 = true then (some false) else (if x7 = true then ((impl_CutsOf.f k x5).bind fun bt434 => (if bt434.2 = true then (if (x5.length : Int) > 0 then (if (x10 != ((bt434.1.length : Int) == 0)) = true then (laws_FnPrimeParts.j1 k x1 x5 x6 true) else (laws_FnPrimeParts.j1 k x1 x5 x6 ((x6.length : Int) != (wrap64 ((bt434.1.length : Int) + 1))))) else (if (x10 != false) = true then (laws_FnPrimeParts.j1 k x1 x5 x6 true) else (laws_FnPrimeParts.j1 k x1 x5 x6 false))) else (laws_FnPrimeParts.j1 k x1 x5 x6 true))) else (laws_FnPrimeParts.j3 k x1))
def laws_FnPrimeParts.j3 : Nat → List Int → Option (Bool)
  | 0, _ => none
  | k + 1, x1 => (spec_DrawAllPrime.f x1).bind fun t451 => ((impl_AllPrime.f k t451).bind fun bt452 => ((spec_AllPrime.f k t451).bind fun bt456 => (if (bt452.2 != bt456.2) = true then (laws_FnPrimeParts.j4 k x1 t451 bt452.1 bt452.2 true) else ((laws_jRows.f k bt452.1 bt456.1).bind fun t460 => (laws_FnPrimeParts.j4 k x1 t451 bt452.1 bt452.2 (!t460))))))
def laws_FnPrimeParts.j4 : Nat → List Int → Int → List (List Int) → Bool → Bool → Option (Bool)
  | 0, _, _, _, _, _ => none
  | k + 1, x1, x27, x28, x29, x210 => if x210 = true then (some false) else (if x29 = true then ((impl_CountPrime.f k x27).bind fun bt461 => (if bt461.2 = true then (laws_FnPrimeParts.j5 k x1 (bt461.1 != (x28.length : Int))) else (laws_FnPrimeParts.j5 k x1 true))) else ((spec_DrawCountPrime.f x1).bind fun t468 => ((impl_CountPrime.f k t468).bind fun bt469 => ((spec_CountPrime.f k t468).bind fun bt471 => (if (bt469.2 == bt471.2) = true then (some (bt469.1 == bt471.1)) else (some false))))))
def laws_FnPrimeParts.j5 : Nat → List Int → Bool → Option (Bool)
  | 0, _, _ => none
  | k + 1, x1, x224 => if x224 = true then (some false) else ((spec_DrawCountPrime.f x1).bind fun t463 => ((impl_CountPrime.f k t463).bind fun bt464 => ((spec_CountPrime.f k t463).bind fun bt466 => (if (bt464.2 == bt466.2) = true then (some (bt464.1 == bt466.1)) else (some false)))))
def laws_FnPrimeParts.j1 : Nat → List Int → List Int → List (List Int) → Bool → Option (Bool)
  | 0, _, _, _, _ => none
  | k + 1, x1, x5, x6, x120 => if x120 = true then (some false) else (laws_FnPrimeParts.l0 k x1 x5 ([] : List Int) x6 (x6.length : Int) 0)
def laws_FnPrimeParts.l0 : Nat → List Int → List Int → List Int → List (List Int) → Int → Int → Option (Bool)
  | 0, _, _, _, _, _, _ => none
  | k + 1, x1, x5, x16, x121, x122, x123 => if x123 < x122 then (if 0 ≤ x123 then (if x123 < (x121.length : Int) then ((impl_IsPrime.f k (rd_L3 x121 x123)).bind fun bt439 => ((impl_JoinParking.f k x16 (rd_L3 x121 x123)).bind fun bt441 => (if bt439.2 = true then (if bt439.1 = true then (if bt441.2 = true then (laws_FnPrimeParts.l0 k x1 x5 bt441.1 x121 x122 (wrap64 (x123 + 1))) else (some false)) else (some false)) else (some false)))) else (none)) else (none)) else (if (x16.length : Int) = (x5.length : Int) then (if (x5.length : Int) > 0 then ((impl_TotalDistance.f k x5 (x5.length : Int)).bind fun bt445 => ((impl_TotalDistance.f k x16 (x5.length : Int)).bind fun bt447 => (if bt445.2 = true then (if bt447.2 = true then (if bt445.1 = bt447.1 then ((laws_jSum.f k x5).bind fun t449 => ((laws_jSum.f k x16).bind fun t450 => (if t449 = t450 then (laws_FnPrimeParts.j3 k x1) else (some false)))) else (some false)) else (some false)) else (some false)))) else (laws_FnPrimeParts.j3 k x1)) else (some false))
end
def laws_FnPrimeParts.f (k : Nat) (l0 : List Int) (l1 : List Int) : Option (Bool) := (laws_big.f l0 l1).bind fun t417 => (if t417 = true then (some true) else ((spec_DrawPrimeParts.f k l0).bind fun t418 => ((impl_PrimeParts.f k t418).bind fun bt421 => ((spec_PrimeParts.f k t418).bind fun bt425 => ((impl_IsPrime.f k t418).bind fun bt429 => ((spec_IsPrime.f k t418).bind fun bt431 => (if (bt421.2 != bt425.2) = true then (laws_FnPrimeParts.j0 k l1 t418 bt421.1 bt421.2 bt429.1 true) else ((laws_jRows.f k bt421.1 bt425.1).bind fun t433 => (if t433 = true then (if (bt429.2 != bt431.2) = true then (laws_FnPrimeParts.j0 k l1 t418 bt421.1 bt421.2 bt429.1 true) else (if (bt429.1 != bt431.1) = true then (laws_FnPrimeParts.j0 k l1 t418 bt421.1 bt421.2 bt429.1 true) else (laws_FnPrimeParts.j0 k l1 t418 bt421.1 bt421.2 bt429.1 (bt429.2 != bt421.2)))) else (laws_FnPrimeParts.j0 k l1 t418 bt421.1 bt421.2 bt429.1 true))))))))))
theorem laws_FnPrimeParts.mono_l : ∀ k, (∀ y0 y1 y2 y3 y4 y5, LeO (laws_FnPrimeParts.j0 k y0 y1 y2 y3 y4 y5) (laws_FnPrimeParts.j0 (k + 1) y0 y1 y2 y3 y4 y5)) ∧ (∀ y0, LeO (laws_FnPrimeParts.j3 k y0) (laws_FnPrimeParts.j3 (k + 1) y0)) ∧ (∀ y0 y1 y2 y3 y4, LeO (laws_FnPrimeParts.j4 k y0 y1 y2 y3 y4) (laws_FnPrimeParts.j4 (k + 1) y0 y1 y2 y3 y4)) ∧ (∀ y0 y1, LeO (laws_FnPrimeParts.j5 k y0 y1) (laws_FnPrimeParts.j5 (k + 1) y0 y1)) ∧ (∀ y0 y1 y2 y3, LeO (laws_FnPrimeParts.j1 k y0 y1 y2 y3) (laws_FnPrimeParts.j1 (k + 1) y0 y1 y2 y3)) ∧ (∀ y0 y1 y2 y3 y4 y5, LeO (laws_FnPrimeParts.l0 k y0 y1 y2 y3 y4 y5) (laws_FnPrimeParts.l0 (k + 1) y0 y1 y2 y3 y4 y5))
  | 0 => ⟨fun _ _ _ _ _ _ r h => by simp [laws_FnPrimeParts.j0] at h, fun _ r h => by simp [laws_FnPrimeParts.j3] at h, fun _ _ _ _ _ r h => by simp [laws_FnPrimeParts.j4] at h, fun _ _ r h => by simp [laws_FnPrimeParts.j5] at h, fun _ _ _ _ r h => by simp [laws_FnPrimeParts.j1] at h, fun _ _ _ _ _ _ r h => by simp [laws_FnPrimeParts.l0] at h⟩
  | k + 1 => by
    obtain ⟨ih0, ih1, ih2, ih3, ih4, ih5⟩ := laws_FnPrimeParts.mono_l k
    refine ⟨?_, ?_, ?_, ?_, ?_, ?_⟩
    · intro y0 y1 y2 y3 y4 y5
      unfold laws_FnPrimeParts.j0
      repeat' first
      | (with_reducible exact ih0 _ _ _ _ _ _)
      | (with_reducible exact ih1 _)
      | (with_reducible exact ih2 _ _ _ _ _)
      | (with_reducible exact ih3 _ _)
      | (with_reducible exact ih4 _ _ _ _)
      | (with_reducible exact ih5 _ _ _ _ _ _)
      | (with_reducible exact impl_AllPrime.mono _ _)
      | (with_reducible exact impl_CountPrime.mono _ _)
      | (with_reducible exact impl_CutsOf.mono _ _)
      | (with_reducible exact impl_IsPrime.mono _ _)
      | (with_reducible exact impl_JoinParking.mono _ _ _)
      | (with_reducible exact impl_PrimeParts.mono _ _)
      | (with_reducible exact impl_TotalDistance.mono _ _ _)
      | (with_reducible exact laws_jRows.mono _ _ _)
      | (with_reducible exact laws_jSum.mono _ _)
      | (with_reducible exact spec_AllPrime.mono _ _)
      | (with_reducible exact spec_CountPrime.mono _ _)
      | (with_reducible exact spec_DrawPrimeParts.mono _ _)
      | (with_reducible exact spec_IsPrime.mono _ _)
      | (with_reducible exact spec_PrimeParts.mono _ _)
      | (with_reducible exact LeO.refl _)
      | (with_reducible exact LeO.none _)
      | (with_reducible refine LeO.ite ?_ ?_)
      | (with_reducible refine LeO.bind ?_ (fun _ => ?_))
      | exact ih0 _ _ _ _ _ _
      | exact ih1 _
      | exact ih2 _ _ _ _ _
      | exact ih3 _ _
      | exact ih4 _ _ _ _
      | exact ih5 _ _ _ _ _ _
      | exact impl_AllPrime.mono _ _
      | exact impl_CountPrime.mono _ _
      | exact impl_CutsOf.mono _ _
      | exact impl_IsPrime.mono _ _
      | exact impl_JoinParking.mono _ _ _
      | exact impl_PrimeParts.mono _ _
      | exact impl_TotalDistance.mono _ _ _
      | exact laws_jRows.mono _ _ _
      | exact laws_jSum.mono _ _
      | exact spec_AllPrime.mono _ _
      | exact spec_CountPrime.mono _ _
      | exact spec_DrawPrimeParts.mono _ _
      | exact spec_IsPrime.mono _ _
      | exact spec_PrimeParts.mono _ _
      | exact LeO.none _
      | refine LeO.ite ?_ ?_
      | refine LeO.bind ?_ (fun _ => ?_)
    · intro y0
      unfold laws_FnPrimeParts.j3
      repeat' first
      | (with_reducible exact ih0 _ _ _ _ _ _)
      | (with_reducible exact ih1 _)
      | (with_reducible exact ih2 _ _ _ _ _)
      | (with_reducible exact ih3 _ _)
      | (with_reducible exact ih4 _ _ _ _)
      | (with_reducible exact ih5 _ _ _ _ _ _)
      | (with_reducible exact impl_AllPrime.mono _ _)
      | (with_reducible exact impl_CountPrime.mono _ _)
      | (with_reducible exact impl_CutsOf.mono _ _)
      | (with_reducible exact impl_IsPrime.mono _ _)
      | (with_reducible exact impl_JoinParking.mono _ _ _)
      | (with_reducible exact impl_PrimeParts.mono _ _)
      | (with_reducible exact impl_TotalDistance.mono _ _ _)
      | (with_reducible exact laws_jRows.mono _ _ _)
      | (with_reducible exact laws_jSum.mono _ _)
      | (with_reducible exact spec_AllPrime.mono _ _)
      | (with_reducible exact spec_CountPrime.mono _ _)
      | (with_reducible exact spec_DrawPrimeParts.mono _ _)
      | (with_reducible exact spec_IsPrime.mono _ _)
      | (with_reducible exact spec_PrimeParts.mono _ _)
      | (with_reducible exact LeO.refl _)
      | (with_reducible exact LeO.none _)
      | (with_reducible refine LeO.ite ?_ ?_)
      | (with_reducible refine LeO.bind ?_ (fun _ => ?_))
      | exact ih0 _ _ _ _ _ _
      | exact ih1 _
      | exact ih2 _ _ _ _ _
      | exact ih3 _ _
      | exact ih4 _ _ _ _
      | exact ih5 _ _ _ _ _ _
      | exact impl_AllPrime.mono _ _
      | exact impl_CountPrime.mono _ _
      | exact impl_CutsOf.mono _ _
      | exact impl_IsPrime.mono _ _
      | exact impl_JoinParking.mono _ _ _
      | exact impl_PrimeParts.mono _ _
      | exact impl_TotalDistance.mono _ _ _
      | exact laws_jRows.mono _ _ _
      | exact laws_jSum.mono _ _
      | exact spec_AllPrime.mono _ _
      | exact spec_CountPrime.mono _ _
      | exact spec_DrawPrimeParts.mono _ _
      | exact spec_IsPrime.mono _ _
      | exact spec_PrimeParts.mono _ _
      | exact LeO.none _
      | refine LeO.ite ?_ ?_
      | refine LeO.bind ?_ (fun _ => ?_)
    · intro y0 y1 y2 y3 y4
      unfold laws_FnPrimeParts.j4
      repeat' first
      | (with_reducible exact ih0 _ _ _ _ _ _)
      | (with_reducible exact ih1 _)
      | (with_reducible exact ih2 _ _ _ _ _)
      | (with_reducible exact ih3 _ _)
      | (with_reducible exact ih4 _ _ _ _)
      | (with_reducible exact ih5 _ _ _ _ _ _)
      | (with_reducible exact impl_AllPrime.mono _ _)
      | (with_reducible exact impl_CountPrime.mono _ _)
      | (with_reducible exact impl_CutsOf.mono _ _)
      | (with_reducible exact impl_IsPrime.mono _ _)
      | (with_reducible exact impl_JoinParking.mono _ _ _)
      | (with_reducible exact impl_PrimeParts.mono _ _)
      | (with_reducible exact impl_TotalDistance.mono _ _ _)
      | (with_reducible exact laws_jRows.mono _ _ _)
      | (with_reducible exact laws_jSum.mono _ _)
      | (with_reducible exact spec_AllPrime.mono _ _)
      | (with_reducible exact spec_CountPrime.mono _ _)
      | (with_reducible exact spec_DrawPrimeParts.mono _ _)
      | (with_reducible exact spec_IsPrime.mono _ _)
      | (with_reducible exact spec_PrimeParts.mono _ _)
      | (with_reducible exact LeO.refl _)
      | (with_reducible exact LeO.none _)
      | (with_reducible refine LeO.ite ?_ ?_)
      | (with_reducible refine LeO.bind ?_ (fun _ => ?_))
      | exact ih0 _ _ _ _ _ _
      | exact ih1 _
      | exact ih2 _ _ _ _ _
      | exact ih3 _ _
      | exact ih4 _ _ _ _
      | exact ih5 _ _ _ _ _ _
      | exact impl_AllPrime.mono _ _
      | exact impl_CountPrime.mono _ _
      | exact impl_CutsOf.mono _ _
      | exact impl_IsPrime.mono _ _
      | exact impl_JoinParking.mono _ _ _
      | exact impl_PrimeParts.mono _ _
      | exact impl_TotalDistance.mono _ _ _
      | exact laws_jRows.mono _ _ _
      | exact laws_jSum.mono _ _
      | exact spec_AllPrime.mono _ _
      | exact spec_CountPrime.mono _ _
      | exact spec_DrawPrimeParts.mono _ _
      | exact spec_IsPrime.mono _ _
      | exact spec_PrimeParts.mono _ _
      | exact LeO.none _
      | refine LeO.ite ?_ ?_
      | refine LeO.bind ?_ (fun _ => ?_)
    · intro y0 y1
      unfold laws_FnPrimeParts.j5
      repeat' first
      | (with_reducible exact ih0 _ _ _ _ _ _)
      | (with_reducible exact ih1 _)
      | (with_reducible exact ih2 _ _ _ _ _)
      | (with_reducible exact ih3 _ _)
      | (with_reducible exact ih4 _ _ _ _)
      | (with_reducible exact ih5 _ _ _ _ _ _)
      | (with_reducible exact impl_AllPrime.mono _ _)
      | (with_reducible exact impl_CountPrime.mono _ _)
      | (with_reducible exact impl_CutsOf.mono _ _)
      | (with_reducible exact impl_IsPrime.mono _ _)
      | (with_reducible exact impl_JoinParking.mono _ _ _)
      | (with_reducible exact impl_PrimeParts.mono _ _)
      | (with_reducible exact impl_TotalDistance.mono _ _ _)
      | (with_reducible exact laws_jRows.mono _ _ _)
      | (with_reducible exact laws_jSum.mono _ _)
      | (with_reducible exact spec_AllPrime.mono _ _)
      | (with_reducible exact spec_CountPrime.mono _ _)
      | (with_reducible exact spec_DrawPrimeParts.mono _ _)
      | (with_reducible exact spec_IsPrime.mono _ _)
      | (with_reducible exact spec_PrimeParts.mono _ _)
      | (with_reducible exact LeO.refl _)
      | (with_reducible exact LeO.none _)
      | (with_reducible refine LeO.ite ?_ ?_)
      | (with_reducible refine LeO.bind ?_ (fun _ => ?_))
      | exact ih0 _ _ _ _ _ _
      | exact ih1 _
      | exact ih2 _ _ _ _ _
      | exact ih3 _ _
      | exact ih4 _ _ _ _
      | exact ih5 _ _ _ _ _ _
      | exact impl_AllPrime.mono _ _
      | exact impl_CountPrime.mono _ _
      | exact impl_CutsOf.mono _ _
      | exact impl_IsPrime.mono _ _
      | exact impl_JoinParking.mono _ _ _
      | exact impl_PrimeParts.mono _ _
      | exact impl_TotalDistance.mono _ _ _
      | exact laws_jRows.mono _ _ _
      | exact laws_jSum.mono _ _
      | exact spec_AllPrime.mono _ _
      | exact spec_CountPrime.mono _ _
      | exact spec_DrawPrimeParts.mono _ _
      | exact spec_IsPrime.mono _ _
      | exact spec_PrimeParts.mono _ _
      | exact LeO.none _
      | refine LeO.ite ?_ ?_
      | refine LeO.bind ?_ (fun _ => ?_)
    · intro y0 y1 y2 y3
      unfold laws_FnPrimeParts.j1
      repeat' first
      | (with_reducible exact ih0 _ _ _ _ _ _)
      | (with_reducible exact ih1 _)
      | (with_reducible exact ih2 _ _ _ _ _)
      | (with_reducible exact ih3 _ _)
      | (with_reducible exact ih4 _ _ _ _)
      | (with_reducible exact ih5 _ _ _ _ _ _)
      | (with_reducible exact impl_AllPrime.mono _ _)
      | (with_reducible exact impl_CountPrime.mono _ _)
      | (with_reducible exact impl_CutsOf.mono _ _)
      | (with_reducible exact impl_IsPrime.mono _ _)
      | (with_reducible exact impl_JoinParking.mono _ _ _)
      | (with_reducible exact impl_PrimeParts.mono _ _)
      | (with_reducible exact impl_TotalDistance.mono _ _ _)
      | (with_reducible exact laws_jRows.mono _ _ _)
      | (with_reducible exact laws_jSum.mono _ _)
      | (with_reducible exact spec_AllPrime.mono _ _)
      | (with_reducible exact spec_CountPrime.mono _ _)
      | (with_reducible exact spec_DrawPrimeParts.mono _ _)
      | (with_reducible exact spec_IsPrime.mono _ _)
      | (with_reducible exact spec_PrimeParts.mono _ _)
      | (with_reducible exact LeO.refl _)
      | (with_reducible exact LeO.none _)
      | (with_reducible refine LeO.ite ?_ ?_)
      | (with_reducible refine LeO.bind ?_ (fun _ => ?_))
      | exact ih0 _ _ _ _ _ _
      | exact ih1 _
      | exact ih2 _ _ _ _ _
      | exact ih3 _ _
      | exact ih4 _ _ _ _
      | exact ih5 _ _ _ _ _ _
      | exact impl_AllPrime.mono _ _
      | exact impl_CountPrime.mono _ _
      | exact impl_CutsOf.mono _ _
      | exact impl_IsPrime.mono _ _
      | exact impl_JoinParking.mono _ _ _
      | exact impl_PrimeParts.mono _ _
      | exact impl_TotalDistance.mono _ _ _
      | exact laws_jRows.mono _ _ _
      | exact laws_jSum.mono _ _
      | exact spec_AllPrime.mono _ _
      | exact spec_CountPrime.mono _ _
      | exact spec_DrawPrimeParts.mono _ _
      | exact spec_IsPrime.mono _ _
      | exact spec_PrimeParts.mono _ _
      | exact LeO.none _
      | refine LeO.ite ?_ ?_
      | refine LeO.bind ?_ (fun _ => ?_)
    · intro y0 y1 y2 y3 y4 y5
      unfold laws_FnPrimeParts.l0
      repeat' first
      | (with_reducible exact ih0 _ _ _ _ _ _)
      | (with_reducible exact ih1 _)
      | (with_reducible exact ih2 _ _ _ _ _)
      | (with_reducible exact ih3 _ _)
      | (with_reducible exact ih4 _ _ _ _)
      | (with_reducible exact ih5 _ _ _ _ _ _)
      | (with_reducible exact impl_AllPrime.mono _ _)
      | (with_reducible exact impl_CountPrime.mono _ _)
      | (with_reducible exact impl_CutsOf.mono _ _)
      | (with_reducible exact impl_IsPrime.mono _ _)
      | (with_reducible exact impl_JoinParking.mono _ _ _)
      | (with_reducible exact impl_PrimeParts.mono _ _)
      | (with_reducible exact impl_TotalDistance.mono _ _ _)
      | (with_reducible exact laws_jRows.mono _ _ _)
      | (with_reducible exact laws_jSum.mono _ _)
      | (with_reducible exact spec_AllPrime.mono _ _)
      | (with_reducible exact spec_CountPrime.mono _ _)
      | (with_reducible exact spec_DrawPrimeParts.mono _ _)
      | (with_reducible exact spec_IsPrime.mono _ _)
      | (with_reducible exact spec_PrimeParts.mono _ _)
      | (with_reducible exact LeO.refl _)
      | (with_reducible exact LeO.none _)
      | (with_reducible refine LeO.ite ?_ ?_)
      | (with_reducible refine LeO.bind ?_ (fun _ => ?_))
      | exact ih0 _ _ _ _ _ _
      | exact ih1 _
      | exact ih2 _ _ _ _ _
      | exact ih3 _ _
      | exact ih4 _ _ _ _
      | exact ih5 _ _ _ _ _ _
      | exact impl_AllPrime.mono _ _
      | exact impl_CountPrime.mono _ _
      | exact impl_CutsOf.mono _ _
      | exact impl_IsPrime.mono _ _
      | exact impl_JoinParking.mono _ _ _
      | exact impl_PrimeParts.mono _ _
      | exact impl_TotalDistance.mono _ _ _
      | exact laws_jRows.mono _ _ _
      | exact laws_jSum.mono _ _
      | exact spec_AllPrime.mono _ _
      | exact spec_CountPrime.mono _ _
      | exact spec_DrawPrimeParts.mono _ _
      | exact spec_IsPrime.mono _ _
      | exact spec_PrimeParts.mono _ _
      | exact LeO.none _
      | refine LeO.ite ?_ ?_
      | refine LeO.bind ?_ (fun _ => ?_)
theorem laws_FnPrimeParts.mono : ∀ a0 a1 k, LeO (laws_FnPrimeParts.f k a0 a1) (laws_FnPrimeParts.f (k + 1) a0 a1) := by
  intro a0 a1 k
  obtain ⟨ih0, ih1, ih2, ih3, ih4, ih5⟩ := laws_FnPrimeParts.mono_l k
  unfold laws_FnPrimeParts.f
  repeat' first
      | (with_reducible exact ih0 _ _ _ _ _ _)
      | (with_reducible exact ih1 _)
      | (with_reducible exact ih2 _ _ _ _ _)
      | (with_reducible exact ih3 _ _)
      | (with_reducible exact ih4 _ _ _ _)
      | (with_reducible exact ih5 _ _ _ _ _ _)
      | (with_reducible exact impl_AllPrime.mono _ _)
      | (with_reducible exact impl_CountPrime.mono _ _)
      | (with_reducible exact impl_CutsOf.mono _ _)
      | (with_reducible exact impl_IsPrime.mono _ _)
      | (with_reducible exact impl_JoinParking.mono _ _ _)
      | (with_reducible exact impl_PrimeParts.mono _ _)
      | (with_reducible exact impl_TotalDistance.mono _ _ _)
      | (with_reducible exact laws_jRows.mono _ _ _)
      | (with_reducible exact laws_jSum.mono _ _)
      | (with_reducible exact spec_AllPrime.mono _ _)
      | (with_reducible exact spec_CountPrime.mono _ _)
      | (with_reducible exact spec_DrawPrimeParts.mono _ _)
      | (with_reducible exact spec_IsPrime.mono _ _)
      | (with_reducible exact spec_PrimeParts.mono _ _)
      | (with_reducible exact LeO.refl _)
      | (with_reducible exact LeO.none _)
      | (with_reducible refine LeO.ite ?_ ?_)
      | (with_reducible refine LeO.bind ?_ (fun _ => ?_))
      | exact ih0 _ _ _ _ _ _
      | exact ih1 _
      | exact ih2 _ _ _ _ _
      | exact ih3 _ _
      | exact ih4 _ _ _ _
      | exact ih5 _ _ _ _ _ _
      | exact impl_AllPrime.mono _ _
      | exact impl_CountPrime.mono _ _
      | exact impl_CutsOf.mono _ _
      | exact impl_IsPrime.mono _ _
      | exact impl_JoinParking.mono _ _ _
      | exact impl_PrimeParts.mono _ _
      | exact impl_TotalDistance.mono _ _ _
      | exact laws_jRows.mono _ _ _
      | exact laws_jSum.mono _ _
      | exact spec_AllPrime.mono _ _
      | exact spec_CountPrime.mono _ _
      | exact spec_DrawPrimeParts.mono _ _
      | exact spec_IsPrime.mono _ _
      | exact spec_PrimeParts.mono _ _
      | exact LeO.none _
      | refine LeO.ite ?_ ?_
      | refine LeO.bind ?_ (fun _ => ?_)
set_option maxHeartbeats 8000000 in
set_option maxRecDepth 100000 in
theorem laws_FnPrimeParts.calls (k : Nat) (A0 : Option Addr) (c0 : Nat) (l0 : List Int) (A1 : Option Addr) (c1 : Nat) (l1 : List Int) (r : Bool) (w : World) (hr0 : Kd.C (Kd.int .u8) w A0 l0.length l0) (hc0 : l0.length ≤ c0) (hr1 : Kd.C (Kd.int .u8) w A1 l1.length l1) (hc1 : l1.length ≤ c1) (h : laws_FnPrimeParts.f k l0 l1 = some r) :
    Calls Try.prog 3 #[.slice A0 l0.length c0, .slice A1 l1.length c1] w fun e w' => e = .returned (.bool r) ∧ Below w.heap.size w w' := by
  have HR0 := Aside0.mk hr0
  have HC0 := Aside0.mk hc0
  clear hr0 hc0
  have HR1 := Aside0.mk hr1
  have HC1 := Aside0.mk hc1
  clear hr1 hc1
  have HB := Aside0.mk (Below.refl w.heap.size w)
  have H : ((laws_big.f l0 l1).bind fun t417 => (if t417 = true then (some true) else ((spec_DrawPrimeParts.f k l0).bind fun t418 => ((impl_PrimeParts.f k t418).bind fun bt421 => ((spec_PrimeParts.f k t418).bind fun bt425 => ((impl_IsPrime.f k t418).bind fun bt429 => ((spec_IsPrime.f k t418).bind fun bt431 => (if (bt421.2 != bt425.2) = true then (laws_FnPrimeParts.j0 k l1 t418 bt421.1 bt421.2 bt429.1 true) else ((laws_jRows.f k bt421.1 bt425.1).bind fun t433 => (if t433 = true then (if (bt429.2 != bt431.2) = true then (laws_FnPrimeParts.j0 k l1 t418 bt421.1 bt421.2 bt429.1 true) else (if (bt429.1 != bt431.1) = true then (laws_FnPrimeParts.j0 k l1 t418 bt421.1 bt421.2 bt429.1 true) else (laws_FnPrimeParts.j0 k l1 t418 bt421.1 bt421.2 bt429.1 (bt429.2 != bt421.2)))) else (laws_FnPrimeParts.j0 k l1 t418 bt421.1 bt421.2 bt429.1 true))))))))))) = some r := h
  clear h
  replace H := Option.bind_eq_some_iff.mp H
  obtain ⟨t417, A30, H⟩ := H
  replace H : (if t417 = true then (some true) else ((spec_DrawPrimeParts.f k l0).bind fun t418 => ((impl_PrimeParts.f k t418).bind fun bt421 => ((spec_PrimeParts.f k t418).bind fun bt425 => ((impl_IsPrime.f k t418).bind fun bt429 => ((spec_IsPrime.f k t418).bind fun bt431 => (if (bt421.2 != bt425.2) = true then (laws_FnPrimeParts.j0 k l1 t418 bt421.1 bt421.2 bt429.1 true) else ((laws_jRows.f k bt421.1 bt425.1).bind fun t433 => (if t433 = true then (if (bt429.2 != bt431.2) = true then (laws_FnPrimeParts.j0 k l1 t418 bt421.1 bt421.2 bt429.1 true) else (if (bt429.1 != bt431.1) = true then (laws_FnPrimeParts.j0 k l1 t418 bt421.1 bt421.2 bt429.1 true) else (laws_FnPrimeParts.j0 k l1 t418 bt421.1 bt421.2 bt429.1 (bt429.2 != bt421.2)))) else (laws_FnPrimeParts.j0 k l1 t418 bt421.1 bt421.2 bt429.1 true)))))))))) = some r := H
  have A3 := Aside0.mk A30
  clear A30
  by_cases c4 : t417 = true
  · subst c4
    have H1 : (some true) = some r := by rw [if_pos rfl] at H; exact H
    clear H
    have H := H1
    clear H1
    as_aux_lemma =>
      obtain rfl := Option.some.inj H
      go_enter Try.func3, Try.ntmps3
      go_wp2_with (first | ((with_reducible refine gate_callee (f := 4) rfl ?_); refine goesL_ (some 41) rfl rfl Try.func4 (by kernel_rfl) rfl #[.slice A0 l0.length c0, .slice A1 l1.length c1] rfl (by (try simp only [List.map_toArray, List.map_cons, List.map_nil]); first | done | rfl | (simp only [List.length_drop, List.length_take]; rfl)) ?_; (with_reducible refine (laws_big.calls _ _ l0 _ _ l1 true _ ?side1 ?side2 ?side3 ?side4 A3.out).mono ?_); (case side1 => repeat (first | exact HR0.out | (with_reducible refine Kd.C_alloc ?_ _) | (with_reducible refine Kd.C_drewN ?_ _) | (with_reducible refine Kd.C_drew ?_))); (case side2 => exact HC0.out); (case side3 => repeat (first | exact HR1.out | (with_reducible refine Kd.C_alloc ?_ _) | (with_reducible refine Kd.C_drewN ?_ _) | (with_reducible refine Kd.C_drew ?_))); (case side4 => exact HC1.out); rintro e w' ⟨rfl, ⟨nd, rfl⟩⟩; refine ⟨_, rfl, ?_⟩))
      go_ret
      exact ⟨by first | rfl | (simp [errW_none, errW_some] <;> rfl) | (simp [*, errW_none, errW_some] <;> rfl), by repeat (first | (with_reducible first | exact HB.out | apply below_alloc | apply pw_below_drewN | apply below_drew1) | exact HB.out)⟩
  · replace c4 := Bool.eq_false_iff.mpr c4
    subst c4
    have H1 : ((spec_DrawPrimeParts.f k l0).bind fun t418 => ((impl_PrimeParts.f k t418).bind fun bt421 => ((spec_PrimeParts.f k t418).bind fun bt425 => ((impl_IsPrime.f k t418).bind fun bt429 => ((spec_IsPrime.f k t418).bind fun bt431 => (if (bt421.2 != bt425.2) = true then (laws_FnPrimeParts.j0 k l1 t418 bt421.1 bt421.2 bt429.1 true) else ((laws_jRows.f k bt421.1 bt425.1).bind fun t433 => (if t433 = true then (if (bt429.2 != bt431.2) = true then (laws_FnPrimeParts.j0 k l1 t418 bt421.1 bt421.2 bt429.1 true) else (if (bt429.1 != bt431.1) = true then (laws_FnPrimeParts.j0 k l1 t418 bt421.1 bt421.2 bt429.1 true) else (laws_FnPrimeParts.j0 k l1 t418 bt421.1 bt421.2 bt429.1 (bt429.2 != bt421.2)))) else (laws_FnPrimeParts.j0 k l1 t418 bt421.1 bt421.2 bt429.1 true))))))))) = some r := by rw [if_neg (show ¬ (false = true) by decide)] at H; exact H
    clear H
    have H := H1
    clear H1
    replace H := Option.bind_eq_some_iff.mp H
    obtain ⟨t418, A50, H⟩ := H
    replace H : ((impl_PrimeParts.f k t418).bind fun bt421 => ((spec_PrimeParts.f k t418).bind fun bt425 => ((impl_IsPrime.f k t418).bind fun bt429 => ((spec_IsPrime.f k t418).bind fun bt431 => (if (bt421.2 != bt425.2) = true then (laws_FnPrimeParts.j0 k l1 t418 bt421.1 bt421.2 bt429.1 true) else ((laws_jRows.f k bt421.1 bt425.1).bind fun t433 => (if t433 = true then (if (bt429.2 != bt431.2) = true then (laws_FnPrimeParts.j0 k l1 t418 bt421.1 bt421.2 bt429.1 true) else (if (bt429.1 != bt431.1) = true then (laws_FnPrimeParts.j0 k l1 t418 bt421.1 bt421.2 bt429.1 true) else (laws_FnPrimeParts.j0 k l1 t418 bt421.1 bt421.2 bt429.1 (bt429.2 != bt421.2)))) else (laws_FnPrimeParts.j0 k l1 t418 bt421.1 bt421.2 bt429.1 true)))))))) = some r := H
    have A5 := Aside0.mk A50
    clear A50
    replace H := Option.bind_eq_some_iff.mp H
    obtain ⟨⟨t421, t422⟩, A60, H⟩ := H
    replace H : ((spec_PrimeParts.f k t418).bind fun bt425 => ((impl_IsPrime.f k t418).bind fun bt429 => ((spec_IsPrime.f k t418).bind fun bt431 => (if (t422 != bt425.2) = true then (laws_FnPrimeParts.j0 k l1 t418 t421 t422 bt429.1 true) else ((laws_jRows.f k t421 bt425.1).bind fun t433 => (if t433 = true then (if (bt429.2 != bt431.2) = true then (laws_FnPrimeParts.j0 k l1 t418 t421 t422 bt429.1 true) else (if (bt429.1 != bt431.1) = true then (laws_FnPrimeParts.j0 k l1 t418 t421 t422 bt429.1 true) else (laws_FnPrimeParts.j0 k l1 t418 t421 t422 bt429.1 (bt429.2 != t422)))) else (laws_FnPrimeParts.j0 k l1 t418 t421 t422 bt429.1 true))))))) = some r := H
    have A6 := Aside0.mk A60
    clear A60
    replace H := Option.bind_eq_some_iff.mp H
    obtain ⟨⟨t425, t426⟩, A70, H⟩ := H
    replace H : ((impl_IsPrime.f k t418).bind fun bt429 => ((spec_IsPrime.f k t418).bind fun bt431 => (if (t422 != t426) = true then (laws_FnPrimeParts.j0 k l1 t418 t421 t422 bt429.1 true) else ((laws_jRows.f k t421 t425).bind fun t433 => (if t433 = true then (if (bt429.2 != bt431.2) = true then (laws_FnPrimeParts.j0 k l1 t418 t421 t422 bt429.1 true) else (if (bt429.1 != bt431.1) = true then (laws_FnPrimeParts.j0 k l1 t418 t421 t422 bt429.1 true) else (laws_FnPrimeParts.j0 k l1 t418 t421 t422 bt429.1 (bt429.2 != t422)))) else (laws_FnPrimeParts.j0 k l1 t418 t421 t422 bt429.1 true)))))) = some r := H
    have A7 := Aside0.mk A70
    clear A70
    replace H := Option.bind_eq_some_iff.mp H
    obtain ⟨⟨t429, t430⟩, A80, H⟩ := H
    replace H : ((spec_IsPrime.f k t418).bind fun bt431 => (if (t422 != t426) = true then (laws_FnPrimeParts.j0 k l1 t418 t421 t422 t429 true) else ((laws_jRows.f k t421 t425).bind fun t433 => (if t433 = true then (if (t430 != bt431.2) = true then (laws_FnPrimeParts.j0 k l1 t418 t421 t422 t429 true) else (if (t429 != bt431.1) = true then (laws_FnPrimeParts.j0 k l1 t418 t421 t422 t429 true) else (laws_FnPrimeParts.j0 k l1 t418 t421 t422 t429 (t430 != t422)))) else (laws_FnPrimeParts.j0 k l1 t418 t421 t422 t429 true))))) = some r := H
    have A8 := Aside0.mk A80
    clear A80
    replace H := Option.bind_eq_some_iff.mp H
    obtain ⟨⟨t431, t432⟩, A90, H⟩ := H
    replace H : (if (t422 != t426) = true then (laws_FnPrimeParts.j0 k l1 t418 t421 t422 t429 true) else ((laws_jRows.f k t421 t425).bind fun t433 => (if t433 = true then (if (t430 != t432) = true then (laws_FnPrimeParts.j0 k l1 t418 t421 t422 t429 true) else (if (t429 != t431) = true then (laws_FnPrimeParts.j0 k l1 t418 t421 t422 t429 true) else (laws_FnPrimeParts.j0 k l1 t418 t421 t422 t429 (t430 != t422)))) else (laws_FnPrimeParts.j0 k l1 t418 t421 t422 t429 true)))) = some r := H
    have A9 := Aside0.mk A90
    clear A90
    have HC10 := Aside0.mk H
    clear H
    go_enter Try.func3, Try.ntmps3
    go_upto_region 8 with (first | ((with_reducible refine gate_callee (f := 4) rfl ?_); refine goesL_ (some 41) rfl rfl Try.func4 (by kernel_rfl) rfl #[.slice A0 l0.length c0, .slice A1 l1.length c1] rfl (by (try simp only [List.map_toArray, List.map_cons, List.map_nil]); first | done | rfl | (simp only [List.length_drop, List.length_take]; rfl)) ?_; (with_reducible refine (laws_big.calls _ _ l0 _ _ l1 false _ ?side1 ?side2 ?side3 ?side4 A3.out).mono ?_); (case side1 => repeat (first | exact HR0.out | (with_reducible refine Kd.C_alloc ?_ _) | (with_reducible refine Kd.C_drewN ?_ _) | (with_reducible refine Kd.C_drew ?_))); (case side2 => exact HC0.out); (case side3 => repeat (first | exact HR1.out | (with_reducible refine Kd.C_alloc ?_ _) | (with_reducible refine Kd.C_drewN ?_ _) | (with_reducible refine Kd.C_drew ?_))); (case side4 => exact HC1.out); rintro e w' ⟨rfl, ⟨nd, rfl⟩⟩; refine ⟨_, rfl, ?_⟩) | ((with_reducible refine gate_callee (f := 5) rfl ?_); refine goesL_ (some 43) rfl rfl Try.func5 (by kernel_rfl) rfl #[.slice A0 l0.length c0] rfl (by (try simp only [List.map_toArray, List.map_cons, List.map_nil]); first | done | rfl | (simp only [List.length_drop, List.length_take]; rfl)) ?_; (with_reducible refine (spec_DrawPrimeParts.calls k _ _ l0 t418 _ ?side1 ?side2 A5.out).mono ?_); (case side1 => repeat (first | exact HR0.out | (with_reducible refine Kd.C_alloc ?_ _) | (with_reducible refine Kd.C_drewN ?_ _) | (with_reducible refine Kd.C_drew ?_))); (case side2 => exact HC0.out); rintro e w11 ⟨v419, rfl, ho0, hb⟩; refine ⟨_, rfl, ?_⟩; have n0_ := Aside0.mk (Kd.R_lower ho0 (below_size (by repeat (first | (with_reducible first | exact HB.out | apply below_alloc | apply pw_below_drewN | apply below_drew1) | exact HB.out)))); have n1_ := Aside0.mk (below_step (by repeat (first | (with_reducible first | exact HB.out | apply below_alloc | apply pw_below_drewN | apply below_drew1) | exact HB.out)) hb); clear HB; have HO420 := n0_; have HB := n1_; clear n0_ n1_; (try clear hb); (try clear hb2); (try clear hk); (try clear hi); (try clear ho0); obtain ⟨Ao12, co12, eo12⟩ := Kd.R_slice HO420.out; subst eo12) | ((with_reducible refine gate_callee (f := 6) rfl ?_); refine goesL_ (some 46) rfl rfl Try.func6 (by kernel_rfl) rfl #[.slice Ao12 t418.length co12] rfl (by (try simp only [List.map_toArray, List.map_cons, List.map_nil]); first | done | rfl | (simp only [List.length_drop, List.length_take]; rfl)) ?_; (with_reducible refine (impl_PrimeParts.calls k _ _ t418 t421 t422 _ ?side1 ?side2 A6.out).mono ?_); (case side1 => repeat (first | exact (Kd.R_reads' HO420.out).2.2 | (with_reducible refine Kd.C_alloc ?_ _) | (with_reducible refine Kd.C_drewN ?_ _) | (with_reducible refine Kd.C_drew ?_))); (case side2 => exact (Kd.R_reads' HO420.out).2.1); rintro e w13 ⟨v423, rfl, ho0, hb⟩; refine ⟨_, rfl, ?_⟩; have n0_ := Aside0.mk (Kd.R_below (by (with_reducible repeat (first | apply Kd.R_alloc | apply Kd.R_drewN | apply Kd.R_drew)); exact HO420.out) hb); have n1_ := Aside0.mk (Kd.N_lower (Kd.N_mono (ok' := fun k_ => some k_ ≠ (.slice Ao12 t418.length co12 : Value).ownBlock) (Kd.S_N (Kd.S_bound ho0)) (fun k_ hk_ => (Kd.fresh' (Kd.R_lt (by (with_reducible repeat (first | apply Kd.R_alloc | apply Kd.R_drewN | apply Kd.R_drew)); exact HO420.out)) k_ hk_.2.1))) (below_size (by repeat (first | (with_reducible first | exact HB.out | apply below_alloc | apply pw_below_drewN | apply below_drew1) | exact HB.out)))); have n2_ := Aside0.mk (below_step (by repeat (first | (with_reducible first | exact HB.out | apply below_alloc | apply pw_below_drewN | apply below_drew1) | exact HB.out)) hb); clear HO420; clear HB; have HO420 := n0_; have HO424 := n1_; have HB := n2_; clear n0_ n1_ n2_; (try clear hb); (try clear hb2); (try clear hk); (try clear hi); (try clear ho0)) | ((with_reducible refine gate_callee (f := 7) rfl ?_); refine goesL_ (some 51) rfl rfl Try.func7 (by kernel_rfl) rfl #[.slice Ao12 t418.length co12] rfl (by (try simp only [List.map_toArray, List.map_cons, List.map_nil]); first | done | rfl | (simp only [List.length_drop, List.length_take]; rfl)) ?_; (with_reducible refine (spec_PrimeParts.calls k _ _ t418 t425 t426 _ ?side1 ?side2 A7.out).mono ?_); (case side1 => repeat (first | exact (Kd.R_reads' HO420.out).2.2 | (with_reducible refine Kd.C_alloc ?_ _) | (with_reducible refine Kd.C_drewN ?_ _) | (with_reducible refine Kd.C_drew ?_))); (case side2 => exact (Kd.R_reads' HO420.out).2.1); rintro e w14 ⟨v427, rfl, ho0, hb⟩; refine ⟨_, rfl, ?_⟩; have n0_ := Aside0.mk (Kd.R_below (by (with_reducible repeat (first | apply Kd.R_alloc | apply Kd.R_drewN | apply Kd.R_drew)); exact HO420.out) hb); have n1_ := Aside0.mk (Kd.N_elder' (by (with_reducible repeat (first | apply Kd.N_alloc | apply Kd.N_drewN | apply Kd.N_drew)); exact HO424.out) (by first | exact Kd.N_base ho0 | exact Kd.S_base ho0) hb); have n2_ := Aside0.mk (Kd.N_lower (Kd.N_mono (ok' := fun k_ => some k_ ≠ (.slice Ao12 t418.length co12 : Value).ownBlock ∧ some k_ ≠ (v423 : Value).ownBlock) (Kd.S_N (Kd.S_bound ho0)) (fun k_ hk_ => ⟨(Kd.fresh' (Kd.R_lt (by (with_reducible repeat (first | apply Kd.R_alloc | apply Kd.R_drewN | apply Kd.R_drew)); exact HO420.out)) k_ hk_.2.1), (Kd.fresh' (Kd.N_lt (by (with_reducible repeat (first | apply Kd.N_alloc | apply Kd.N_drewN | apply Kd.N_drew)); exact HO424.out)) k_ hk_.2.1)⟩)) (below_size (by repeat (first | (with_reducible first | exact HB.out | apply below_alloc | apply pw_below_drewN | apply below_drew1) | exact HB.out)))); have n3_ := Aside0.mk (below_step (by repeat (first | (with_reducible first | exact HB.out | apply below_alloc | apply pw_below_drewN | apply below_drew1) | exact HB.out)) hb); clear HO420; clear HO424; clear HB; have HO420 := n0_; have HO424 := n1_; have HO428 := n2_; have HB := n3_; clear n0_ n1_ n2_ n3_; (try clear hb); (try clear hb2); (try clear hk); (try clear hi); (try clear ho0)) | ((with_reducible refine gate_callee (f := 8) rfl ?_); refine goesL_ (some 56) rfl rfl Try.func8 (by kernel_rfl) rfl #[.slice Ao12 t418.length co12] rfl (by (try simp only [List.map_toArray, List.map_cons, List.map_nil]); first | done | rfl | (simp only [List.length_drop, List.length_take]; rfl)) ?_; (with_reducible refine (impl_IsPrime.calls k _ _ t418 t429 t430 _ ?side1 ?side2 A8.out).mono ?_); (case side1 => repeat (first | exact (Kd.R_reads' HO420.out).2.2 | (with_reducible refine Kd.C_alloc ?_ _) | (with_reducible refine Kd.C_drewN ?_ _) | (with_reducible refine Kd.C_drew ?_))); (case side2 => exact (Kd.R_reads' HO420.out).2.1); rintro e w15 ⟨rfl, hb⟩; refine ⟨_, rfl, ?_⟩; have n0_ := Aside0.mk (Kd.R_below (by (with_reducible repeat (first | apply Kd.R_alloc | apply Kd.R_drewN | apply Kd.R_drew)); exact HO420.out) hb); have n1_ := Aside0.mk (Kd.N_below (by (with_reducible repeat (first | apply Kd.N_alloc | apply Kd.N_drewN | apply Kd.N_drew)); exact HO424.out) hb); have n2_ := Aside0.mk (Kd.N_below (by (with_reducible repeat (first | apply Kd.N_alloc | apply Kd.N_drewN | apply Kd.N_drew)); exact HO428.out) hb); have n3_ := Aside0.mk (below_step (by repeat (first | (with_reducible first | exact HB.out | apply below_alloc | apply pw_below_drewN | apply below_drew1) | exact HB.out)) hb); clear HO420; clear HO424; clear HO428; clear HB; have HO420 := n0_; have HO424 := n1_; have HO428 := n2_; have HB := n3_; clear n0_ n1_ n2_ n3_; (try clear hb); (try clear hb2); (try clear hk); (try clear hi)) | ((with_reducible refine gate_callee (f := 9) rfl ?_); refine goesL_ (some 61) rfl rfl Try.func9 (by kernel_rfl) rfl #[.slice Ao12 t418.length co12] rfl (by (try simp only [List.map_toArray, List.map_cons, List.map_nil]); first | done | rfl | (simp only [List.length_drop, List.length_take]; rfl)) ?_; (with_reducible refine (spec_IsPrime.calls k _ _ t418 t431 t432 _ ?side1 ?side2 A9.out).mono ?_); (case side1 => repeat (first | exact (Kd.R_reads' HO420.out).2.2 | (with_reducible refine Kd.C_alloc ?_ _) | (with_reducible refine Kd.C_drewN ?_ _) | (with_reducible refine Kd.C_drew ?_))); (case side2 => exact (Kd.R_reads' HO420.out).2.1); rintro e w16 ⟨rfl, hb⟩; refine ⟨_, rfl, ?_⟩; have n0_ := Aside0.mk (Kd.R_below (by (with_reducible repeat (first | apply Kd.R_alloc | apply Kd.R_drewN | apply Kd.R_drew)); exact HO420.out) hb); have n1_ := Aside0.mk (Kd.N_below (by (with_reducible repeat (first | apply Kd.N_alloc | apply Kd.N_drewN | apply Kd.N_drew)); exact HO424.out) hb); have n2_ := Aside0.mk (Kd.N_below (by (with_reducible repeat (first | apply Kd.N_alloc | apply Kd.N_drewN | apply Kd.N_drew)); exact HO428.out) hb); have n3_ := Aside0.mk (below_step (by repeat (first | (with_reducible first | exact HB.out | apply below_alloc | apply pw_below_drewN | apply below_drew1) | exact HB.out)) hb); clear HO420; clear HO424; clear HO428; clear HB; have HO420 := n0_; have HO424 := n1_; have HO428 := n2_; have HB := n3_; clear n0_ n1_ n2_ n3_; (try clear hb); (try clear hb2); (try clear hk); (try clear hi)))
    (try simp only [Act.put, List.setIfInBounds_toArray, List.set_cons_zero, List.set_cons_succ])
    go_cut [87] (fun v87 wc => ∃ (kq : Nat) (x87_9 : Bool), v87 = .bool x87_9 ∧ Aside0 (laws_FnPrimeParts.j0 kq l1 t418 t421 t422 t429 x87_9 = some r) ∧ Aside0 (kq ≤ k) ∧ Aside0 (Kd.R (Kd.int .i64) 3 wc w.heap.size (fun _ => True) (.slice Ao12 t418.length co12) t418) ∧ Aside0 (Kd.N (Kd.slice 3 (Kd.int .i64)) 24 wc w.heap.size (fun k_ => some k_ ≠ ((.slice Ao12 t418.length co12) : Value).ownBlock) v423 t421) ∧ Aside0 (Below w.heap.size w wc))
    case first =>
      have H := HC10.out
      clear HC10
      by_cases c17 : (t422 != t426) = true
      · rw [if_pos c17] at H
        have c17b0 : (t422 != t426) = true := c17
        (try (have c17b1 : decide (t422 = t426) = false := by simpa using c17))
        (try (have c17b2 : (t422 == t426) = false := by simpa using c17))
        (try (have c17b3 : ¬ (t422 = t426) := by simpa using c17))
        clear c17
        (first | rw [c17b0] | (simp only [i64_w, i32_w]; rw [c17b0]) | skip)
        as_aux_lemma =>
          have H' := Aside0.mk H
          clear H
          go_wp2
          go_meet
          case rel => exact ⟨_, (true), (by first | rfl | (simp; done) | (simp [*]; done)), H', ⟨by first | omega | exact Nat.le_refl _⟩, ⟨by (with_reducible repeat (first | apply Kd.R_alloc | apply Kd.R_drewN | apply Kd.R_drew)); exact HO420.out⟩, ⟨by (with_reducible repeat (first | apply Kd.N_alloc | apply Kd.N_drewN | apply Kd.N_drew)); exact Kd.N_mono HO424.out (fun _ hk => hk.1)⟩, ⟨by repeat (first | (with_reducible first | exact HB.out | apply below_alloc | apply pw_below_drewN | apply below_drew1) | exact HB.out)⟩⟩
      · rw [if_neg c17] at H
        have c17b0 : (t422 != t426) = false := by simpa using c17
        (try (have c17b1 : decide (t422 = t426) = true := by simpa using c17))
        (try (have c17b2 : (t422 == t426) = true := by simpa using c17))
        clear c17
        (first | rw [c17b0] | (simp only [i64_w, i32_w]; rw [c17b0]) | skip)
        replace H := Option.bind_eq_some_iff.mp H
        obtain ⟨t433, A180, H⟩ := H
        replace H : (if t433 = true then (if (t430 != t432) = true then (laws_FnPrimeParts.j0 k l1 t418 t421 t422 t429 true) else (if (t429 != t431) = true then (laws_FnPrimeParts.j0 k l1 t418 t421 t422 t429 true) else (laws_FnPrimeParts.j0 k l1 t418 t421 t422 t429 (t430 != t422)))) else (laws_FnPrimeParts.j0 k l1 t418 t421 t422 t429 true)) = some r := H
        have A18 := Aside0.mk A180
        clear A180
        by_cases c19 : t433 = true
        · subst c19
          have H1 : (if (t430 != t432) = true then (laws_FnPrimeParts.j0 k l1 t418 t421 t422 t429 true) else (if (t429 != t431) = true then (laws_FnPrimeParts.j0 k l1 t418 t421 t422 t429 true) else (laws_FnPrimeParts.j0 k l1 t418 t421 t422 t429 (t430 != t422)))) = some r := by rw [if_pos rfl] at H; exact H
          clear H
          have H := H1
          clear H1
          by_cases c20 : (t430 != t432) = true
          · rw [if_pos c20] at H
            have c20b0 : (t430 != t432) = true := c20
            (try (have c20b1 : decide (t430 = t432) = false := by simpa using c20))
            (try (have c20b2 : (t430 == t432) = false := by simpa using c20))
            (try (have c20b3 : ¬ (t430 = t432) := by simpa using c20))
            clear c20
            as_aux_lemma =>
              have H' := Aside0.mk H
              clear H
              obtain ⟨Ao21, co21, eo21⟩ := Kd.N_slice HO424.out
              subst eo21
              obtain ⟨Ao22, co22, eo22⟩ := Kd.N_slice HO428.out
              subst eo22
              go_wp2_with (first | (go_at_call 10; (with_reducible refine (laws_jRows.calls k _ _ t421 _ _ t425 true _ ?side1 ?side2 ?side3 ?side4 A18.out).mono ?_); (case side1 => repeat (first | exact (Kd.N_reads' HO424.out).2.2 | (with_reducible refine Kd.C_alloc ?_ _) | (with_reducible refine Kd.C_drewN ?_ _) | (with_reducible refine Kd.C_drew ?_))); (case side2 => exact (Kd.N_reads' HO424.out).2.1); (case side3 => repeat (first | exact (Kd.N_reads' HO428.out).2.2 | (with_reducible refine Kd.C_alloc ?_ _) | (with_reducible refine Kd.C_drewN ?_ _) | (with_reducible refine Kd.C_drew ?_))); (case side4 => exact (Kd.N_reads' HO428.out).2.1); rintro e w' ⟨rfl, ⟨nd, rfl⟩⟩))
              go_meet
              case rel => exact ⟨_, (true), (by first | rfl | (simp; done) | (simp [*]; done)), H', ⟨by first | omega | exact Nat.le_refl _⟩, ⟨by (with_reducible repeat (first | apply Kd.R_alloc | apply Kd.R_drewN | apply Kd.R_drew)); exact HO420.out⟩, ⟨by (with_reducible repeat (first | apply Kd.N_alloc | apply Kd.N_drewN | apply Kd.N_drew)); exact Kd.N_mono HO424.out (fun _ hk => hk.1)⟩, ⟨by repeat (first | (with_reducible first | exact HB.out | apply below_alloc | apply pw_below_drewN | apply below_drew1) | exact HB.out)⟩⟩
          · rw [if_neg c20] at H
            have c20b0 : (t430 != t432) = false := by simpa using c20
            (try (have c20b1 : decide (t430 = t432) = true := by simpa using c20))
            (try (have c20b2 : (t430 == t432) = true := by simpa using c20))
            clear c20
            by_cases c23 : (t429 != t431) = true
            · rw [if_pos c23] at H
              have c23b0 : (t429 != t431) = true := c23
              (try (have c23b1 : decide (t429 = t431) = false := by simpa using c23))
              (try (have c23b2 : (t429 == t431) = false := by simpa using c23))
              (try (have c23b3 : ¬ (t429 = t431) := by simpa using c23))
              clear c23
              as_aux_lemma =>
                have H' := Aside0.mk H
                clear H
                obtain ⟨Ao24, co24, eo24⟩ := Kd.N_slice HO424.out
                subst eo24
                obtain ⟨Ao25, co25, eo25⟩ := Kd.N_slice HO428.out
                subst eo25
                go_wp2_with (first | (go_at_call 10; (with_reducible refine (laws_jRows.calls k _ _ t421 _ _ t425 true _ ?side1 ?side2 ?side3 ?side4 A18.out).mono ?_); (case side1 => repeat (first | exact (Kd.N_reads' HO424.out).2.2 | (with_reducible refine Kd.C_alloc ?_ _) | (with_reducible refine Kd.C_drewN ?_ _) | (with_reducible refine Kd.C_drew ?_))); (case side2 => exact (Kd.N_reads' HO424.out).2.1); (case side3 => repeat (first | exact (Kd.N_reads' HO428.out).2.2 | (with_reducible refine Kd.C_alloc ?_ _) | (with_reducible refine Kd.C_drewN ?_ _) | (with_reducible refine Kd.C_drew ?_))); (case side4 => exact (Kd.N_reads' HO428.out).2.1); rintro e w' ⟨rfl, ⟨nd, rfl⟩⟩))
                go_meet
                case rel => exact ⟨_, (true), (by first | rfl | (simp; done) | (simp [*]; done)), H', ⟨by first | omega | exact Nat.le_refl _⟩, ⟨by (with_reducible repeat (first | apply Kd.R_alloc | apply Kd.R_drewN | apply Kd.R_drew)); exact HO420.out⟩, ⟨by (with_reducible repeat (first | apply Kd.N_alloc | apply Kd.N_drewN | apply Kd.N_drew)); exact Kd.N_mono HO424.out (fun _ hk => hk.1)⟩, ⟨by repeat (first | (with_reducible first | exact HB.out | apply below_alloc | apply pw_below_drewN | apply below_drew1) | exact HB.out)⟩⟩
            · rw [if_neg c23] at H
              have c23b0 : (t429 != t431) = false := by simpa using c23
              (try (have c23b1 : decide (t429 = t431) = true := by simpa using c23))
              (try (have c23b2 : (t429 == t431) = true := by simpa using c23))
              clear c23
              as_aux_lemma =>
                have H' := Aside0.mk H
                clear H
                obtain ⟨Ao26, co26, eo26⟩ := Kd.N_slice HO424.out
                subst eo26
                obtain ⟨Ao27, co27, eo27⟩ := Kd.N_slice HO428.out
                subst eo27
                go_wp2_with (first | (go_at_call 10; (with_reducible refine (laws_jRows.calls k _ _ t421 _ _ t425 true _ ?side1 ?side2 ?side3 ?side4 A18.out).mono ?_); (case side1 => repeat (first | exact (Kd.N_reads' HO424.out).2.2 | (with_reducible refine Kd.C_alloc ?_ _) | (with_reducible refine Kd.C_drewN ?_ _) | (with_reducible refine Kd.C_drew ?_))); (case side2 => exact (Kd.N_reads' HO424.out).2.1); (case side3 => repeat (first | exact (Kd.N_reads' HO428.out).2.2 | (with_reducible refine Kd.C_alloc ?_ _) | (with_reducible refine Kd.C_drewN ?_ _) | (with_reducible refine Kd.C_drew ?_))); (case side4 => exact (Kd.N_reads' HO428.out).2.1); rintro e w' ⟨rfl, ⟨nd, rfl⟩⟩))
                go_meet
                case rel => exact ⟨_, ((t430 != t422)), (by first | rfl | (simp; done) | (simp [*]; done)), H', ⟨by first | omega | exact Nat.le_refl _⟩, ⟨by (with_reducible repeat (first | apply Kd.R_alloc | apply Kd.R_drewN | apply Kd.R_drew)); exact HO420.out⟩, ⟨by (with_reducible repeat (first | apply Kd.N_alloc | apply Kd.N_drewN | apply Kd.N_drew)); exact Kd.N_mono HO424.out (fun _ hk => hk.1)⟩, ⟨by repeat (first | (with_reducible first | exact HB.out | apply below_alloc | apply pw_below_drewN | apply below_drew1) | exact HB.out)⟩⟩
        · replace c19 := Bool.eq_false_iff.mpr c19
          subst c19
          have H1 : (laws_FnPrimeParts.j0 k l1 t418 t421 t422 t429 true) = some r := by rw [if_neg (show ¬ (false = true) by decide)] at H; exact H
          clear H
          have H := H1
          clear H1
          as_aux_lemma =>
            have H' := Aside0.mk H
            clear H
            obtain ⟨Ao28, co28, eo28⟩ := Kd.N_slice HO424.out
            subst eo28
            obtain ⟨Ao29, co29, eo29⟩ := Kd.N_slice HO428.out
            subst eo29
            go_wp2_with (first | (go_at_call 10; (with_reducible refine (laws_jRows.calls k _ _ t421 _ _ t425 false _ ?side1 ?side2 ?side3 ?side4 A18.out).mono ?_); (case side1 => repeat (first | exact (Kd.N_reads' HO424.out).2.2 | (with_reducible refine Kd.C_alloc ?_ _) | (with_reducible refine Kd.C_drewN ?_ _) | (with_reducible refine Kd.C_drew ?_))); (case side2 => exact (Kd.N_reads' HO424.out).2.1); (case side3 => repeat (first | exact (Kd.N_reads' HO428.out).2.2 | (with_reducible refine Kd.C_alloc ?_ _) | (with_reducible refine Kd.C_drewN ?_ _) | (with_reducible refine Kd.C_drew ?_))); (case side4 => exact (Kd.N_reads' HO428.out).2.1); rintro e w' ⟨rfl, ⟨nd, rfl⟩⟩))
            go_meet
            case rel => exact ⟨_, (true), (by first | rfl | (simp; done) | (simp [*]; done)), H', ⟨by first | omega | exact Nat.le_refl _⟩, ⟨by (with_reducible repeat (first | apply Kd.R_alloc | apply Kd.R_drewN | apply Kd.R_drew)); exact HO420.out⟩, ⟨by (with_reducible repeat (first | apply Kd.N_alloc | apply Kd.N_drewN | apply Kd.N_drew)); exact Kd.N_mono HO424.out (fun _ hk => hk.1)⟩, ⟨by repeat (first | (with_reducible first | exact HB.out | apply below_alloc | apply pw_below_drewN | apply below_drew1) | exact HB.out)⟩⟩
    case rest =>
      clear HC10
      try clear c1
      try clear c2
      try clear p2
      try clear c3
      try clear c4
      try clear c5
      try clear c6
      try clear c7
      try clear c8
      try clear c9
      try clear c17
      try clear c17b0
      try clear c17b1
      try clear c17b2
      try clear c19
      try clear c20
      try clear c20b0
      try clear c20b1
      try clear c20b2
      try clear c23
      try clear c23b0
      try clear c23b1
      try clear c23b2
      obtain ⟨kq, x87_9, rfl, HA, HJ9, HO_5, HO_6, HB⟩ := hcut
      cases kq with
      | zero => exact absurd HA.out (by simp [laws_FnPrimeParts.j0])
      | succ kj9 =>
        have H := HA.out
        clear HA
        simp only [laws_FnPrimeParts.j0] at H
        by_cases c30 : x87_9 = true
        · subst c30
          have H1 : (some false) = some r := by rw [if_pos rfl] at H; exact H
          clear H
          have H := H1
          clear H1
          as_aux_lemma =>
            obtain rfl := Option.some.inj H
            go_wp2
            go_ret
            exact ⟨by first | rfl | (simp [errW_none, errW_some] <;> rfl) | (simp [*, errW_none, errW_some] <;> rfl), by repeat (first | (with_reducible first | exact HB.out | apply below_alloc | apply pw_below_drewN | apply below_drew1) | exact HB.out)⟩
        · replace c30 := Bool.eq_false_iff.mpr c30
          subst c30
          have H1 : (if t422 = true then ((impl_CutsOf.f kj9 t418).bind fun bt434 => (if bt434.2 = true then (if (t418.length : Int) > 0 then (if (t429 != ((bt434.1.length : Int) == 0)) = true then (laws_FnPrimeParts.j1 kj9 l1 t418 t421 true) else (laws_FnPrimeParts.j1 kj9 l1 t418 t421 ((t421.length : Int) != (wrap64 ((bt434.1.length : Int) + 1))))) else (if (t429 != false) = true then (laws_FnPrimeParts.j1 kj9 l1 t418 t421 true) else (laws_FnPrimeParts.j1 kj9 l1 t418 t421 false))) else (laws_FnPrimeParts.j1 kj9 l1 t418 t421 true))) else (laws_FnPrimeParts.j3 kj9 l1)) = some r := by rw [if_neg (show ¬ (false = true) by decide)] at H; exact H
          clear H
          have H := H1
          clear H1
          have HC31 := Aside0.mk H
          clear H
          go_upto_if 88 with (fail)
          go_cut [] (fun wc => ∃ (kq : Nat), Aside0 (laws_FnPrimeParts.j3 kq l1 = some r) ∧ Aside0 (kq ≤ kj9) ∧ Aside0 (Below w.heap.size w wc))
          case first =>
            have H := HC31.out
            clear HC31
            by_cases c32 : t422 = true
            · subst c32
              have H1 : ((impl_CutsOf.f kj9 t418).bind fun bt434 => (if bt434.2 = true then (if (t418.length : Int) > 0 then (if (t429 != ((bt434.1.length : Int) == 0)) = true then (laws_FnPrimeParts.j1 kj9 l1 t418 t421 true) else (laws_FnPrimeParts.j1 kj9 l1 t418 t421 ((t421.length : Int) != (wrap64 ((bt434.1.length : Int) + 1))))) else (if (t429 != false) = true then (laws_FnPrimeParts.j1 kj9 l1 t418 t421 true) else (laws_FnPrimeParts.j1 kj9 l1 t418 t421 false))) else (laws_FnPrimeParts.j1 kj9 l1 t418 t421 true))) = some r := by rw [if_pos rfl] at H; exact H
              clear H
              have H := H1
              clear H1
              replace H := Option.bind_eq_some_iff.mp H
              obtain ⟨⟨t434, t435⟩, A330, H⟩ := H
              replace H : (if t435 = true then (if (t418.length : Int) > 0 then (if (t429 != ((t434.length : Int) == 0)) = true then (laws_FnPrimeParts.j1 kj9 l1 t418 t421 true) else (laws_FnPrimeParts.j1 kj9 l1 t418 t421 ((t421.length : Int) != (wrap64 ((t434.length : Int) + 1))))) else (if (t429 != false) = true then (laws_FnPrimeParts.j1 kj9 l1 t418 t421 true) else (laws_FnPrimeParts.j1 kj9 l1 t418 t421 false))) else (laws_FnPrimeParts.j1 kj9 l1 t418 t421 true)) = some r := H
              have A33 := Aside0.mk A330
              clear A330
              have HC34 := Aside0.mk H
              clear H
              go_upto_region 12 with (first | ((with_reducible refine gate_callee (f := 11) rfl ?_); refine goesL_ (some 91) rfl rfl Try.func11 (by kernel_rfl) rfl #[.slice Ao12 t418.length co12] rfl (by (try simp only [List.map_toArray, List.map_cons, List.map_nil]); first | done | rfl | (simp only [List.length_drop, List.length_take]; rfl)) ?_; (with_reducible refine (impl_CutsOf.calls kj9 _ _ t418 t434 t435 _ ?side1 ?side2 A33.out).mono ?_); (case side1 => repeat (first | exact (Kd.R_reads' HO_5.out).2.2 | (with_reducible refine Kd.C_alloc ?_ _) | (with_reducible refine Kd.C_drewN ?_ _) | (with_reducible refine Kd.C_drew ?_))); (case side2 => exact (Kd.R_reads' HO_5.out).2.1); rintro e w35 ⟨v436, rfl, ho0, hb⟩; refine ⟨_, rfl, ?_⟩; have n0_ := Aside0.mk (Kd.R_elder' (by (with_reducible repeat (first | apply Kd.R_alloc | apply Kd.R_drewN | apply Kd.R_drew)); exact HO_5.out) (Kd.R_base ho0) hb); have n1_ := Aside0.mk (Kd.N_elder' (by (with_reducible repeat (first | apply Kd.N_alloc | apply Kd.N_drewN | apply Kd.N_drew)); exact HO_6.out) (Kd.R_base ho0) hb); have n2_ := Aside0.mk (Kd.R_lower (Kd.R_new' ho0 (Kd.R_lt (by (with_reducible repeat (first | apply Kd.R_alloc | apply Kd.R_drewN | apply Kd.R_drew)); exact HO_5.out))) (below_size (by repeat (first | (with_reducible first | exact HB.out | apply below_alloc | apply pw_below_drewN | apply below_drew1) | exact HB.out)))); have n3_ := Aside0.mk (below_step (by repeat (first | (with_reducible first | exact HB.out | apply below_alloc | apply pw_below_drewN | apply below_drew1) | exact HB.out)) hb); clear HO_5; clear HO_6; clear HB; have HO_5 := n0_; have HO_6 := n1_; have HO437 := n2_; have HB := n3_; clear n0_ n1_ n2_ n3_; (try clear hb); (try clear hb2); (try clear hk); (try clear hi); (try clear ho0)))
              (try simp only [Act.put, List.setIfInBounds_toArray, List.set_cons_zero, List.set_cons_succ])
              go_cut [120] (fun v120 wc => ∃ (kq : Nat) (x120_33 : Bool), v120 = .bool x120_33 ∧ Aside0 (laws_FnPrimeParts.j1 kq l1 t418 t421 x120_33 = some r) ∧ Aside0 (kq ≤ kj9) ∧ Aside0 (Kd.R (Kd.int .i64) 3 wc w.heap.size (fun _ => True) (.slice Ao12 t418.length co12) t418) ∧ Aside0 (Kd.N (Kd.slice 3 (Kd.int .i64)) 24 wc w.heap.size (fun k_ => some k_ ≠ ((.slice Ao12 t418.length co12) : Value).ownBlock) v423 t421) ∧ Aside0 (Below w.heap.size w wc))
              case first =>
                have H := HC34.out
                clear HC34
                by_cases c36 : t435 = true
                · subst c36
                  have H1 : (if (t418.length : Int) > 0 then (if (t429 != ((t434.length : Int) == 0)) = true then (laws_FnPrimeParts.j1 kj9 l1 t418 t421 true) else (laws_FnPrimeParts.j1 kj9 l1 t418 t421 ((t421.length : Int) != (wrap64 ((t434.length : Int) + 1))))) else (if (t429 != false) = true then (laws_FnPrimeParts.j1 kj9 l1 t418 t421 true) else (laws_FnPrimeParts.j1 kj9 l1 t418 t421 false))) = some r := by rw [if_pos rfl] at H; exact H
                  clear H
                  have H := H1
                  clear H1
                  by_cases c37 : (t418.length : Int) > 0
                  · rw [if_pos c37] at H
                    have c37b0 : decide (0 < (t418.length : Int)) = true := decide_eq_true c37
                    have c37b1 : decide (0 < t418.length) = true := decide_eq_true (by omega)
                    clear c37
                    (first | rw [c37b0] | (simp only [i64_w, i32_w]; rw [c37b0]) | skip)
                    by_cases c38 : (t429 != ((t434.length : Int) == 0)) = true
                    · rw [if_pos c38] at H
                      have c38b0 : (t429 != ((t434.length : Int) == 0)) = true := c38
                      (try (have c38b1 : decide (t429 = ((t434.length : Int) == 0)) = false := by simpa using c38))
                      (try (have c38b2 : (t429 == ((t434.length : Int) == 0)) = false := by simpa using c38))
                      (try (have c38b3 : ¬ (t429 = ((t434.length : Int) == 0)) := by simpa using c38))
                      clear c38
                      as_aux_lemma =>
                        have H' := Aside0.mk H
                        clear H
                        obtain ⟨Ao39, co39, eo39⟩ := Kd.R_slice HO437.out
                        subst eo39
                        go_wp2
                        go_meet
                        case rel => exact ⟨_, (true), (by first | rfl | (simp; done) | (simp [*]; done)), H', ⟨by have := HJ9.out; first | omega | exact Nat.le_refl _⟩, ⟨by (with_reducible repeat (first | apply Kd.R_alloc | apply Kd.R_drewN | apply Kd.R_drew)); exact Kd.R_mono HO_5.out (fun _ hk => trivial)⟩, ⟨by (with_reducible repeat (first | apply Kd.N_alloc | apply Kd.N_drewN | apply Kd.N_drew)); exact Kd.N_mono HO_6.out (fun _ hk => hk.1)⟩, ⟨by repeat (first | (with_reducible first | exact HB.out | apply below_alloc | apply pw_below_drewN | apply below_drew1) | exact HB.out)⟩⟩
                    · rw [if_neg c38] at H
                      have c38b0 : (t429 != ((t434.length : Int) == 0)) = false := by simpa using c38
                      (try (have c38b1 : decide (t429 = ((t434.length : Int) == 0)) = true := by simpa using c38))
                      (try (have c38b2 : (t429 == ((t434.length : Int) == 0)) = true := by simpa using c38))
                      clear c38
                      as_aux_lemma =>
                        have H' := Aside0.mk H
                        clear H
                        obtain ⟨Ao40, co40, eo40⟩ := Kd.R_slice HO437.out
                        subst eo40
                        obtain ⟨Ao41, co41, eo41⟩ := Kd.N_slice HO_6.out
                        subst eo41
                        go_wp2
                        go_meet
                        case rel => exact ⟨_, (((t421.length : Int) != (wrap64 ((t434.length : Int) + 1)))), (by first | rfl | (simp; done) | (simp [*]; done)), H', ⟨by have := HJ9.out; first | omega | exact Nat.le_refl _⟩, ⟨by (with_reducible repeat (first | apply Kd.R_alloc | apply Kd.R_drewN | apply Kd.R_drew)); exact Kd.R_mono HO_5.out (fun _ hk => trivial)⟩, ⟨by (with_reducible repeat (first | apply Kd.N_alloc | apply Kd.N_drewN | apply Kd.N_drew)); exact Kd.N_mono HO_6.out (fun _ hk => hk.1)⟩, ⟨by repeat (first | (with_reducible first | exact HB.out | apply below_alloc | apply pw_below_drewN | apply below_drew1) | exact HB.out)⟩⟩
                  · rw [if_neg c37] at H
                    have c37b0 : decide (0 < (t418.length : Int)) = false := decide_eq_false c37
                    have c37b1 : decide (0 < t418.length) = false := decide_eq_false (by omega)
                    clear c37
                    (first | rw [c37b0] | (simp only [i64_w, i32_w]; rw [c37b0]) | skip)
                    by_cases c42 : (t429 != false) = true
                    · rw [if_pos c42] at H
                      have c42b0 : (t429 != false) = true := c42
                      (try (have c42b1 : decide (t429 = false) = false := by simpa using c42))
                      (try (have c42b2 : (t429 == false) = false := by simpa using c42))
                      (try (have c42b3 : ¬ (t429 = false) := by simpa using c42))
                      clear c42
                      as_aux_lemma =>
                        have H' := Aside0.mk H
                        clear H
                        go_wp2
                        go_meet
                        case rel => exact ⟨_, (true), (by first | rfl | (simp; done) | (simp [*]; done)), H', ⟨by have := HJ9.out; first | omega | exact Nat.le_refl _⟩, ⟨by (with_reducible repeat (first | apply Kd.R_alloc | apply Kd.R_drewN | apply Kd.R_drew)); exact Kd.R_mono HO_5.out (fun _ hk => trivial)⟩, ⟨by (with_reducible repeat (first | apply Kd.N_alloc | apply Kd.N_drewN | apply Kd.N_drew)); exact Kd.N_mono HO_6.out (fun _ hk => hk.1)⟩, ⟨by repeat (first | (with_reducible first | exact HB.out | apply below_alloc | apply pw_below_drewN | apply below_drew1) | exact HB.out)⟩⟩
                    · rw [if_neg c42] at H
                      have c42b0 : (t429 != false) = false := by simpa using c42
                      (try (have c42b1 : decide (t429 = false) = true := by simpa using c42))
                      (try (have c42b2 : (t429 == false) = true := by simpa using c42))
                      clear c42
                      as_aux_lemma =>
                        have H' := Aside0.mk H
                        clear H
                        go_wp2
                        go_meet
                        case rel => exact ⟨_, (false), (by first | rfl | (simp; done) | (simp [*]; done)), H', ⟨by have := HJ9.out; first | omega | exact Nat.le_refl _⟩, ⟨by (with_reducible repeat (first | apply Kd.R_alloc | apply Kd.R_drewN | apply Kd.R_drew)); exact Kd.R_mono HO_5.out (fun _ hk => trivial)⟩, ⟨by (with_reducible repeat (first | apply Kd.N_alloc | apply Kd.N_drewN | apply Kd.N_drew)); exact Kd.N_mono HO_6.out (fun _ hk => hk.1)⟩, ⟨by repeat (first | (with_reducible first | exact HB.out | apply below_alloc | apply pw_below_drewN | apply below_drew1) | exact HB.out)⟩⟩
                · replace c36 := Bool.eq_false_iff.mpr c36
                  subst c36
                  have H1 : (laws_FnPrimeParts.j1 kj9 l1 t418 t421 true) = some r := by rw [if_neg (show ¬ (false = true) by decide)] at H; exact H
                  clear H
                  have H := H1
                  clear H1
                  as_aux_lemma =>
                    have H' := Aside0.mk H
                    clear H
                    go_wp2
                    go_meet
                    case rel => exact ⟨_, (true), (by first | rfl | (simp; done) | (simp [*]; done)), H', ⟨by have := HJ9.out; first | omega | exact Nat.le_refl _⟩, ⟨by (with_reducible repeat (first | apply Kd.R_alloc | apply Kd.R_drewN | apply Kd.R_drew)); exact Kd.R_mono HO_5.out (fun _ hk => trivial)⟩, ⟨by (with_reducible repeat (first | apply Kd.N_alloc | apply Kd.N_drewN | apply Kd.N_drew)); exact Kd.N_mono HO_6.out (fun _ hk => hk.1)⟩, ⟨by repeat (first | (with_reducible first | exact HB.out | apply below_alloc | apply pw_below_drewN | apply below_drew1) | exact HB.out)⟩⟩
              case rest =>
                clear HC34
                try clear c1
                try clear c2
                try clear p2
                try clear c3
                try clear c4
                try clear c5
                try clear c6
                try clear p6
                try clear c7
                try clear c8
                try clear c9
                try clear c11
                try clear c17
                try clear c17b0
                try clear c17b1
                try clear c17b2
                try clear c19
                try clear c20
                try clear c20b0
                try clear c20b1
                try clear c20b2
                try clear c23
                try clear c23b0
                try clear c23b1
                try clear c23b2
                try clear c30
                try clear c32
                try clear c36
                try clear c37
                try clear c37b0
                try clear c37b1
                try clear c38
                try clear c38b0
                try clear c38b1
                try clear c38b2
                try clear c42
                try clear c42b0
                try clear c42b1
                try clear c42b2
                try clear p2
                obtain ⟨kq, x120_33, rfl, HA, HJ33, HO_5, HO_6, HB⟩ := hcut
                cases kq with
                | zero => exact absurd HA.out (by simp [laws_FnPrimeParts.j1])
                | succ kj33 =>
                  have H := HA.out
                  clear HA
                  simp only [laws_FnPrimeParts.j1] at H
                  by_cases c43 : x120_33 = true
                  · subst c43
                    have H1 : (some false) = some r := by rw [if_pos rfl] at H; exact H
                    clear H
                    have H := H1
                    clear H1
                    as_aux_lemma =>
                      obtain rfl := Option.some.inj H
                      go_wp2
                      go_ret
                      exact ⟨by first | rfl | (simp [errW_none, errW_some] <;> rfl) | (simp [*, errW_none, errW_some] <;> rfl), by repeat (first | (with_reducible first | exact HB.out | apply below_alloc | apply pw_below_drewN | apply below_drew1) | exact HB.out)⟩
                  · replace c43 := Bool.eq_false_iff.mpr c43
                    subst c43
                    have H1 : (laws_FnPrimeParts.l0 kj33 l1 t418 ([] : List Int) t421 (t421.length : Int) 0) = some r := by rw [if_neg (show ¬ (false = true) by decide)] at H; exact H
                    clear H
                    have H := H1
                    clear H1
                    have H' := Aside0.mk H
                    clear H
                    obtain ⟨Ao44, co44, eo44⟩ := Kd.N_slice HO_6.out
                    subst eo44
                    go_wp2
                    go_loopg [16, 123] kj33 (fun kq v16 v123 w' => ∃ (x16_3 : List Int) (x123_3 : Int), v123 = .int .i64 x123_3 ∧ Aside0 (laws_FnPrimeParts.l0 kq l1 t418 x16_3 t421 (t421.length : Int) x123_3 = some r) ∧ Aside0 (kq ≤ kj33) ∧ Aside0 (Kd.R (Kd.int .i64) 3 w' w.heap.size (fun k_ => some k_ ≠ (v16 : Value).ownBlock) (.slice Ao12 t418.length co12) t418) ∧ Aside0 (Kd.R (Kd.int .i64) 3 w' w.heap.size (fun k_ => some k_ ≠ ((.slice Ao12 t418.length co12) : Value).ownBlock) v16 x16_3) ∧ Aside0 (Kd.N (Kd.slice 3 (Kd.int .i64)) 24 w' w.heap.size (fun k_ => some k_ ≠ ((.slice Ao12 t418.length co12) : Value).ownBlock ∧ some k_ ≠ (v16 : Value).ownBlock) (.slice Ao44 t421.length co44) t421) ∧ Aside0 (Below w.heap.size w w'))
                    case atStart => exact ⟨(([] : List Int)), (0), (by first | rfl | (simp; done) | (simp [*]; done)), H', ⟨Nat.le_refl _⟩, ⟨by (with_reducible repeat (first | apply Kd.R_alloc | apply Kd.R_drewN | apply Kd.R_drew)); exact Kd.R_mono HO_5.out (fun _ hk => (by simp [Value.ownBlock]))⟩, ⟨by first | exact Kd.R_nil _ _ _ _ _ | exact Kd.N_nil _ _ _ _ _ | exact Kd.V_nil _ _ _ _ _ | exact Kd.Q_nil _ _ _ _ _ | exact Kd.S_nil _ _ _ _ _⟩, ⟨by (with_reducible repeat (first | apply Kd.N_alloc | apply Kd.N_drewN | apply Kd.N_drew)); exact Kd.N_mono HO_6.out (fun _ hk => ⟨hk, (by simp [Value.ownBlock])⟩)⟩, ⟨by repeat (first | (with_reducible first | exact HB.out | apply below_alloc | apply pw_below_drewN | apply below_drew1) | exact HB.out)⟩⟩
                    case round =>
                      clear H'
                      try clear c1
                      try clear c2
                      try clear p2
                      try clear c3
                      try clear c4
                      try clear c5
                      try clear c6
                      try clear p6
                      try clear c7
                      try clear c8
                      try clear c9
                      try clear c11
                      try clear c17
                      try clear c17b0
                      try clear c17b1
                      try clear c17b2
                      try clear c19
                      try clear c20
                      try clear c20b0
                      try clear c20b1
                      try clear c20b2
                      try clear c23
                      try clear c23b0
                      try clear c23b1
                      try clear c23b2
                      try clear c30
                      try clear c32
                      try clear c36
                      try clear c37
                      try clear c37b0
                      try clear c37b1
                      try clear c38
                      try clear c38b0
                      try clear c38b1
                      try clear c38b2
                      try clear c42
                      try clear c42b0
                      try clear c42b1
                      try clear c42b2
                      try clear c43
                      try clear p2
                      try clear p6
                      obtain ⟨x16_3, x123_3, rfl, HA, HK3, HO_5, HO_16, HO_121, HB⟩ := hrel
                      cases gk with
                      | zero => exact absurd HA.out (by simp [laws_FnPrimeParts.l0])
                      | succ k3 =>
                        have H := HA.out
                        clear HA
                        simp only [laws_FnPrimeParts.l0] at H
                        by_cases c45 : x123_3 < (t421.length : Int)
                        · rw [if_pos c45] at H
                          have c45b0 : decide (x123_3 < (t421.length : Int)) = true := decide_eq_true c45
                          clear c45
                          by_cases c46 : 0 ≤ x123_3
                          · rw [if_pos c46] at H
                            have c46b0 : decide (0 ≤ x123_3) = true := decide_eq_true c46
                            clear c46
                            by_cases c47 : x123_3 < (t421.length : Int)
                            · rw [if_pos c47] at H
                              have c47b0 : decide (x123_3 < (t421.length : Int)) = true := decide_eq_true c47
                              clear c47
                              replace H := Option.bind_eq_some_iff.mp H
                              obtain ⟨⟨t439, t440⟩, A480, H⟩ := H
                              replace H : ((impl_JoinParking.f k3 x16_3 (rd_L3 t421 x123_3)).bind fun bt441 => (if t440 = true then (if t439 = true then (if bt441.2 = true then (laws_FnPrimeParts.l0 k3 l1 t418 bt441.1 t421 (t421.length : Int) (wrap64 (x123_3 + 1))) else (some false)) else (some false)) else (some false))) = some r := H
                              have A48 := Aside0.mk A480
                              clear A480
                              replace H := Option.bind_eq_some_iff.mp H
                              obtain ⟨⟨t441, t442⟩, A490, H⟩ := H
                              replace H : (if t440 = true then (if t439 = true then (if t442 = true then (laws_FnPrimeParts.l0 k3 l1 t418 t441 t421 (t421.length : Int) (wrap64 (x123_3 + 1))) else (some false)) else (some false)) else (some false)) = some r := H
                              have A49 := Aside0.mk A490
                              clear A490
                              by_cases c50 : t440 = true
                              · subst c50
                                have H1 : (if t439 = true then (if t442 = true then (laws_FnPrimeParts.l0 k3 l1 t418 t441 t421 (t421.length : Int) (wrap64 (x123_3 + 1))) else (some false)) else (some false)) = some r := by rw [if_pos rfl] at H; exact H
                                clear H
                                have H := H1
                                clear H1
                                by_cases c51 : t439 = true
                                · subst c51
                                  have H1 : (if t442 = true then (laws_FnPrimeParts.l0 k3 l1 t418 t441 t421 (t421.length : Int) (wrap64 (x123_3 + 1))) else (some false)) = some r := by rw [if_pos rfl] at H; exact H
                                  clear H
                                  have H := H1
                                  clear H1
                                  by_cases c52 : t442 = true
                                  · subst c52
                                    have H1 : (laws_FnPrimeParts.l0 k3 l1 t418 t441 t421 (t421.length : Int) (wrap64 (x123_3 + 1))) = some r := by rw [if_pos rfl] at H; exact H
                                    clear H
                                    have H := H1
                                    clear H1
                                    as_aux_lemma =>
                                      have H' := Aside0.mk H
                                      clear H
                                      have p438 : 0 ≤ (x123_3 : Int) := of_decide_eq_true (by first | (with_reducible assumption) | assumption)
                                      have q438 : x123_3 < (t421.length : Int) := of_decide_eq_true (by first | (with_reducible assumption) | assumption)
                                      obtain ⟨ad438, A438_0, c438_0, e438, hx438_0, hl438_0, hi438_0⟩ := at_L3 (Kd.N_reads' HO_121.out).2.2 x123_3 p438 q438
                                      cases e438
                                      obtain ⟨ce438, hce438, hMe438, hcc438⟩ := Kd.N_get HO_121.out [] x123_3 p438 (by first | exact q438 | exact of_decide_eq_true (by first | (with_reducible assumption) | assumption) | (have e_ := (Kd.N_reads' HO_121.out).1; omega))
                                      obtain ⟨ua438_0, uc438_0, rfl, ul438_0, ge438_0⟩ := Kd.FK_slice_open hMe438
                                      have hv438_0 := hcc438 0 _ rfl
                                      rw [Nat.add_zero, show ((Kd.slice 3 (Kd.int .i64))).sz = 1 from rfl, Nat.mul_one] at hv438_0
                                      replace hv438_0 := Option.some.inj (hv438_0.symm.trans hx438_0)
                                      injection hv438_0 with hva_ hvn_ hvc_
                                      rw [hva_] at ge438_0
                                      rw [hvc_] at ul438_0
                                      have HL438_0 := Aside0.mk (show Kd.V (Kd.int .i64) 3 _ w.heap.size _ _ (rd_L3 t421 x123_3) from Kd.V_mk ul438_0 ge438_0)
                                      clear hva_ hvn_ hvc_ ge438_0 ul438_0
                                      clear hcc438 hce438
                                      have HR438_0 := Aside0.mk hi438_0
                                      have HC438_0 := Aside0.mk hl438_0
                                      clear hi438_0 hl438_0
                                      replace p438 := eq_true p438
                                      replace q438 := eq_true q438
                                      go_wp2_with (first | ((with_reducible refine gate_callee (f := 8) rfl ?_); refine goesL_ (some 129) rfl rfl Try.func8 (by kernel_rfl) rfl #[.slice A438_0 (rd_L3 t421 x123_3).length c438_0] rfl (by (try simp only [List.map_toArray, List.map_cons, List.map_nil]); first | done | rfl | (simp only [List.length_drop, List.length_take]; rfl)) ?_; (with_reducible refine (impl_IsPrime.calls k3 _ _ (rd_L3 t421 x123_3) true true _ ?side1 ?side2 A48.out).mono ?_); (case side1 => repeat (first | exact (by repeat (first | (with_reducible exact HR438_0.out) | (with_reducible refine Kd.C_alloc ?_ _) | (with_reducible refine Kd.C_drewN ?_ _) | (with_reducible refine Kd.C_drew ?_) | exact HR438_0.out)) | (with_reducible refine Kd.C_alloc ?_ _) | (with_reducible refine Kd.C_drewN ?_ _) | (with_reducible refine Kd.C_drew ?_))); (case side2 => exact HC438_0.out); rintro e w53 ⟨rfl, hb⟩; refine ⟨_, rfl, ?_⟩; have n0_ := Aside0.mk (Kd.R_below (by (with_reducible repeat (first | apply Kd.R_alloc | apply Kd.R_drewN | apply Kd.R_drew)); exact HO_5.out) hb); have n1_ := Aside0.mk (Kd.R_below (by (with_reducible repeat (first | apply Kd.R_alloc | apply Kd.R_drewN | apply Kd.R_drew)); exact HO_16.out) hb); have n2_ := Aside0.mk (Kd.N_below (by (with_reducible repeat (first | apply Kd.N_alloc | apply Kd.N_drewN | apply Kd.N_drew)); exact HO_121.out) hb); have n3_ := Aside0.mk (Kd.V_below (by (with_reducible repeat (first | apply Kd.V_alloc | apply Kd.V_drewN | apply Kd.V_drew)); exact HL438_0.out) hb); have n4_ := Aside0.mk (Kd.C_below (by repeat (first | (with_reducible exact HR438_0.out) | (with_reducible refine Kd.C_alloc ?_ _) | (with_reducible refine Kd.C_drewN ?_ _) | (with_reducible refine Kd.C_drew ?_) | exact HR438_0.out)) hb); have n5_ := Aside0.mk (below_step (by repeat (first | (with_reducible first | exact HB.out | apply below_alloc | apply pw_below_drewN | apply below_drew1) | exact HB.out)) hb); clear HO_5; clear HO_16; clear HO_121; clear HL438_0; clear HR438_0; clear HB; have HO_5 := n0_; have HO_16 := n1_; have HO_121 := n2_; have HL438_0 := n3_; have HR438_0 := n4_; have HB := n5_; clear n0_ n1_ n2_ n3_ n4_ n5_; (try clear hb); (try clear hb2); (try clear hk); (try clear hi); obtain ⟨Ao54, co54, eo54⟩ := Kd.R_slice HO_16.out; subst eo54) | ((with_reducible refine gate_callee (f := 12) rfl ?_); refine goesL_ (some 135) rfl rfl Try.func12 (by kernel_rfl) rfl #[.slice Ao54 x16_3.length co54, .slice A438_0 (rd_L3 t421 x123_3).length c438_0] rfl (by (try simp only [List.map_toArray, List.map_cons, List.map_nil]); first | done | rfl | (simp only [List.length_drop, List.length_take]; rfl)) ?_; (with_reducible refine (impl_JoinParking.calls k3 _ _ x16_3 _ _ (rd_L3 t421 x123_3) t441 true _ ?side1 ?side2 ?side3 ?side4 A49.out).mono ?_); (case side1 => repeat (first | exact (Kd.R_reads' HO_16.out).2.2 | (with_reducible refine Kd.C_alloc ?_ _) | (with_reducible refine Kd.C_drewN ?_ _) | (with_reducible refine Kd.C_drew ?_))); (case side2 => exact (Kd.R_reads' HO_16.out).2.1); (case side3 => repeat (first | exact (by repeat (first | (with_reducible exact HR438_0.out) | (with_reducible refine Kd.C_alloc ?_ _) | (with_reducible refine Kd.C_drewN ?_ _) | (with_reducible refine Kd.C_drew ?_) | exact HR438_0.out)) | (with_reducible refine Kd.C_alloc ?_ _) | (with_reducible refine Kd.C_drewN ?_ _) | (with_reducible refine Kd.C_drew ?_))); (case side4 => exact HC438_0.out); rintro e w55 ⟨v443, rfl, ho0, hb⟩; refine ⟨_, rfl, ?_⟩; have n0_ := Aside0.mk (Kd.R_elder' (by (with_reducible repeat (first | apply Kd.R_alloc | apply Kd.R_drewN | apply Kd.R_drew)); exact HO_5.out) (Kd.R_base ho0) hb); have n1_ := Aside0.mk (Kd.R_elder' (by (with_reducible repeat (first | apply Kd.R_alloc | apply Kd.R_drewN | apply Kd.R_drew)); exact HO_16.out) (Kd.R_base ho0) hb); have n2_ := Aside0.mk (Kd.N_elder' (by (with_reducible repeat (first | apply Kd.N_alloc | apply Kd.N_drewN | apply Kd.N_drew)); exact HO_121.out) (Kd.R_base ho0) hb); have n3_ := Aside0.mk (Kd.V_elder' (by (with_reducible repeat (first | apply Kd.V_alloc | apply Kd.V_drewN | apply Kd.V_drew)); exact HL438_0.out) (Kd.R_base ho0) hb); have n4_ := Aside0.mk (Kd.R_lower (Kd.R_new' (Kd.R_new' ho0 (Kd.R_lt (by (with_reducible repeat (first | apply Kd.R_alloc | apply Kd.R_drewN | apply Kd.R_drew)); exact HO_5.out))) (Kd.R_lt (by (with_reducible repeat (first | apply Kd.R_alloc | apply Kd.R_drewN | apply Kd.R_drew)); exact HO_16.out))) (below_size (by repeat (first | (with_reducible first | exact HB.out | apply below_alloc | apply pw_below_drewN | apply below_drew1) | exact HB.out)))); have n5_ := Aside0.mk (Kd.C_below (by repeat (first | (with_reducible exact HR438_0.out) | (with_reducible refine Kd.C_alloc ?_ _) | (with_reducible refine Kd.C_drewN ?_ _) | (with_reducible refine Kd.C_drew ?_) | exact HR438_0.out)) hb); have n6_ := Aside0.mk (below_step (by repeat (first | (with_reducible first | exact HB.out | apply below_alloc | apply pw_below_drewN | apply below_drew1) | exact HB.out)) hb); clear HO_5; clear HO_16; clear HO_121; clear HL438_0; clear HR438_0; clear HB; have HO_5 := n0_; have HO_16 := n1_; have HO_121 := n2_; have HL438_0 := n3_; have HO444 := n4_; have HR438_0 := n5_; have HB := n6_; clear n0_ n1_ n2_ n3_ n4_ n5_ n6_; (try clear hb); (try clear hb2); (try clear hk); (try clear hi); (try clear ho0)))
                                      go_roundg k3
                                      case measure => have := HJ9.out; have := HJ33.out; have := HK3.out; omega
                                      case rel => exact ⟨(t441), (wrap64 (x123_3 + 1)), (by first | rfl | (simp; done) | (simp [*]; done)), H', ⟨by have := HJ9.out; have := HJ33.out; have := HK3.out; omega⟩, ⟨by (with_reducible repeat (first | apply Kd.R_alloc | apply Kd.R_drewN | apply Kd.R_drew)); exact Kd.R_mono HO_5.out (fun _ hk => hk.2)⟩, ⟨by (with_reducible repeat (first | apply Kd.R_alloc | apply Kd.R_drewN | apply Kd.R_drew)); exact Kd.R_mono HO444.out (fun _ hk => hk.1.2)⟩, ⟨by (with_reducible repeat (first | apply Kd.N_alloc | apply Kd.N_drewN | apply Kd.N_drew)); exact Kd.N_mono HO_121.out (fun _ hk => ⟨hk.1.1, hk.2⟩)⟩, ⟨by repeat (first | (with_reducible first | exact HB.out | apply below_alloc | apply pw_below_drewN | apply below_drew1) | exact HB.out)⟩⟩
                                  · replace c52 := Bool.eq_false_iff.mpr c52
                                    subst c52
                                    have H1 : (some false) = some r := by rw [if_neg (show ¬ (false = true) by decide)] at H; exact H
                                    clear H
                                    have H := H1
                                    clear H1
                                    as_aux_lemma =>
                                      obtain rfl := Option.some.inj H
                                      have p438 : 0 ≤ (x123_3 : Int) := of_decide_eq_true (by first | (with_reducible assumption) | assumption)
                                      have q438 : x123_3 < (t421.length : Int) := of_decide_eq_true (by first | (with_reducible assumption) | assumption)
                                      obtain ⟨ad438, A438_0, c438_0, e438, hx438_0, hl438_0, hi438_0⟩ := at_L3 (Kd.N_reads' HO_121.out).2.2 x123_3 p438 q438
                                      cases e438
                                      obtain ⟨ce438, hce438, hMe438, hcc438⟩ := Kd.N_get HO_121.out [] x123_3 p438 (by first | exact q438 | exact of_decide_eq_true (by first | (with_reducible assumption) | assumption) | (have e_ := (Kd.N_reads' HO_121.out).1; omega))
                                      obtain ⟨ua438_0, uc438_0, rfl, ul438_0, ge438_0⟩ := Kd.FK_slice_open hMe438
                                      have hv438_0 := hcc438 0 _ rfl
                                      rw [Nat.add_zero, show ((Kd.slice 3 (Kd.int .i64))).sz = 1 from rfl, Nat.mul_one] at hv438_0
                                      replace hv438_0 := Option.some.inj (hv438_0.symm.trans hx438_0)
                                      injection hv438_0 with hva_ hvn_ hvc_
                                      rw [hva_] at ge438_0
                                      rw [hvc_] at ul438_0
                                      have HL438_0 := Aside0.mk (show Kd.V (Kd.int .i64) 3 _ w.heap.size _ _ (rd_L3 t421 x123_3) from Kd.V_mk ul438_0 ge438_0)
                                      clear hva_ hvn_ hvc_ ge438_0 ul438_0
                                      clear hcc438 hce438
                                      have HR438_0 := Aside0.mk hi438_0
                                      have HC438_0 := Aside0.mk hl438_0
                                      clear hi438_0 hl438_0
                                      replace p438 := eq_true p438
                                      replace q438 := eq_true q438
                                      go_wp2_with (first | ((with_reducible refine gate_callee (f := 8) rfl ?_); refine goesL_ (some 129) rfl rfl Try.func8 (by kernel_rfl) rfl #[.slice A438_0 (rd_L3 t421 x123_3).length c438_0] rfl (by (try simp only [List.map_toArray, List.map_cons, List.map_nil]); first | done | rfl | (simp only [List.length_drop, List.length_take]; rfl)) ?_; (with_reducible refine (impl_IsPrime.calls k3 _ _ (rd_L3 t421 x123_3) true true _ ?side1 ?side2 A48.out).mono ?_); (case side1 => repeat (first | exact (by repeat (first | (with_reducible exact HR438_0.out) | (with_reducible refine Kd.C_alloc ?_ _) | (with_reducible refine Kd.C_drewN ?_ _) | (with_reducible refine Kd.C_drew ?_) | exact HR438_0.out)) | (with_reducible refine Kd.C_alloc ?_ _) | (with_reducible refine Kd.C_drewN ?_ _) | (with_reducible refine Kd.C_drew ?_))); (case side2 => exact HC438_0.out); rintro e w56 ⟨rfl, hb⟩; refine ⟨_, rfl, ?_⟩; have n0_ := Aside0.mk (Kd.R_below (by (with_reducible repeat (first | apply Kd.R_alloc | apply Kd.R_drewN | apply Kd.R_drew)); exact HO_5.out) hb); have n1_ := Aside0.mk (Kd.R_below (by (with_reducible repeat (first | apply Kd.R_alloc | apply Kd.R_drewN | apply Kd.R_drew)); exact HO_16.out) hb); have n2_ := Aside0.mk (Kd.N_below (by (with_reducible repeat (first | apply Kd.N_alloc | apply Kd.N_drewN | apply Kd.N_drew)); exact HO_121.out) hb); have n3_ := Aside0.mk (Kd.V_below (by (with_reducible repeat (first | apply Kd.V_alloc | apply Kd.V_drewN | apply Kd.V_drew)); exact HL438_0.out) hb); have n4_ := Aside0.mk (Kd.C_below (by repeat (first | (with_reducible exact HR438_0.out) | (with_reducible refine Kd.C_alloc ?_ _) | (with_reducible refine Kd.C_drewN ?_ _) | (with_reducible refine Kd.C_drew ?_) | exact HR438_0.out)) hb); have n5_ := Aside0.mk (below_step (by repeat (first | (with_reducible first | exact HB.out | apply below_alloc | apply pw_below_drewN | apply below_drew1) | exact HB.out)) hb); clear HO_5; clear HO_16; clear HO_121; clear HL438_0; clear HR438_0; clear HB; have HO_5 := n0_; have HO_16 := n1_; have HO_121 := n2_; have HL438_0 := n3_; have HR438_0 := n4_; have HB := n5_; clear n0_ n1_ n2_ n3_ n4_ n5_; (try clear hb); (try clear hb2); (try clear hk); (try clear hi); obtain ⟨Ao57, co57, eo57⟩ := Kd.R_slice HO_16.out; subst eo57) | ((with_reducible refine gate_callee (f := 12) rfl ?_); refine goesL_ (some 135) rfl rfl Try.func12 (by kernel_rfl) rfl #[.slice Ao57 x16_3.length co57, .slice A438_0 (rd_L3 t421 x123_3).length c438_0] rfl (by (try simp only [List.map_toArray, List.map_cons, List.map_nil]); first | done | rfl | (simp only [List.length_drop, List.length_take]; rfl)) ?_; (with_reducible refine (impl_JoinParking.calls k3 _ _ x16_3 _ _ (rd_L3 t421 x123_3) t441 false _ ?side1 ?side2 ?side3 ?side4 A49.out).mono ?_); (case side1 => repeat (first | exact (Kd.R_reads' HO_16.out).2.2 | (with_reducible refine Kd.C_alloc ?_ _) | (with_reducible refine Kd.C_drewN ?_ _) | (with_reducible refine Kd.C_drew ?_))); (case side2 => exact (Kd.R_reads' HO_16.out).2.1); (case side3 => repeat (first | exact (by repeat (first | (with_reducible exact HR438_0.out) | (with_reducible refine Kd.C_alloc ?_ _) | (with_reducible refine Kd.C_drewN ?_ _) | (with_reducible refine Kd.C_drew ?_) | exact HR438_0.out)) | (with_reducible refine Kd.C_alloc ?_ _) | (with_reducible refine Kd.C_drewN ?_ _) | (with_reducible refine Kd.C_drew ?_))); (case side4 => exact HC438_0.out); rintro e w58 ⟨v443, rfl, ho0, hb⟩; refine ⟨_, rfl, ?_⟩; have n0_ := Aside0.mk (Kd.R_elder' (by (with_reducible repeat (first | apply Kd.R_alloc | apply Kd.R_drewN | apply Kd.R_drew)); exact HO_5.out) (Kd.R_base ho0) hb); have n1_ := Aside0.mk (Kd.R_elder' (by (with_reducible repeat (first | apply Kd.R_alloc | apply Kd.R_drewN | apply Kd.R_drew)); exact HO_16.out) (Kd.R_base ho0) hb); have n2_ := Aside0.mk (Kd.N_elder' (by (with_reducible repeat (first | apply Kd.N_alloc | apply Kd.N_drewN | apply Kd.N_drew)); exact HO_121.out) (Kd.R_base ho0) hb); have n3_ := Aside0.mk (Kd.V_elder' (by (with_reducible repeat (first | apply Kd.V_alloc | apply Kd.V_drewN | apply Kd.V_drew)); exact HL438_0.out) (Kd.R_base ho0) hb); have n4_ := Aside0.mk (Kd.R_lower (Kd.R_new' (Kd.R_new' ho0 (Kd.R_lt (by (with_reducible repeat (first | apply Kd.R_alloc | apply Kd.R_drewN | apply Kd.R_drew)); exact HO_5.out))) (Kd.R_lt (by (with_reducible repeat (first | apply Kd.R_alloc | apply Kd.R_drewN | apply Kd.R_drew)); exact HO_16.out))) (below_size (by repeat (first | (with_reducible first | exact HB.out | apply below_alloc | apply pw_below_drewN | apply below_drew1) | exact HB.out)))); have n5_ := Aside0.mk (Kd.C_below (by repeat (first | (with_reducible exact HR438_0.out) | (with_reducible refine Kd.C_alloc ?_ _) | (with_reducible refine Kd.C_drewN ?_ _) | (with_reducible refine Kd.C_drew ?_) | exact HR438_0.out)) hb); have n6_ := Aside0.mk (below_step (by repeat (first | (with_reducible first | exact HB.out | apply below_alloc | apply pw_below_drewN | apply below_drew1) | exact HB.out)) hb); clear HO_5; clear HO_16; clear HO_121; clear HL438_0; clear HR438_0; clear HB; have HO_5 := n0_; have HO_16 := n1_; have HO_121 := n2_; have HL438_0 := n3_; have HO444 := n4_; have HR438_0 := n5_; have HB := n6_; clear n0_ n1_ n2_ n3_ n4_ n5_ n6_; (try clear hb); (try clear hb2); (try clear hk); (try clear hi); (try clear ho0)))
                                      go_ret
                                      exact ⟨by first | rfl | (simp [errW_none, errW_some] <;> rfl) | (simp [*, errW_none, errW_some] <;> rfl), by repeat (first | (with_reducible first | exact HB.out | apply below_alloc | apply pw_below_drewN | apply below_drew1) | exact HB.out)⟩
                                · replace c51 := Bool.eq_false_iff.mpr c51
                                  subst c51
                                  have H1 : (some false) = some r := by rw [if_neg (show ¬ (false = true) by decide)] at H; exact H
                                  clear H
                                  have H := H1
                                  clear H1
                                  as_aux_lemma =>
                                    obtain rfl := Option.some.inj H
                                    have p438 : 0 ≤ (x123_3 : Int) := of_decide_eq_true (by first | (with_reducible assumption) | assumption)
                                    have q438 : x123_3 < (t421.length : Int) := of_decide_eq_true (by first | (with_reducible assumption) | assumption)
                                    obtain ⟨ad438, A438_0, c438_0, e438, hx438_0, hl438_0, hi438_0⟩ := at_L3 (Kd.N_reads' HO_121.out).2.2 x123_3 p438 q438
                                    cases e438
                                    obtain ⟨ce438, hce438, hMe438, hcc438⟩ := Kd.N_get HO_121.out [] x123_3 p438 (by first | exact q438 | exact of_decide_eq_true (by first | (with_reducible assumption) | assumption) | (have e_ := (Kd.N_reads' HO_121.out).1; omega))
                                    obtain ⟨ua438_0, uc438_0, rfl, ul438_0, ge438_0⟩ := Kd.FK_slice_open hMe438
                                    have hv438_0 := hcc438 0 _ rfl
                                    rw [Nat.add_zero, show ((Kd.slice 3 (Kd.int .i64))).sz = 1 from rfl, Nat.mul_one] at hv438_0
                                    replace hv438_0 := Option.some.inj (hv438_0.symm.trans hx438_0)
                                    injection hv438_0 with hva_ hvn_ hvc_
                                    rw [hva_] at ge438_0
                                    rw [hvc_] at ul438_0
                                    have HL438_0 := Aside0.mk (show Kd.V (Kd.int .i64) 3 _ w.heap.size _ _ (rd_L3 t421 x123_3) from Kd.V_mk ul438_0 ge438_0)
                                    clear hva_ hvn_ hvc_ ge438_0 ul438_0
                                    clear hcc438 hce438
                                    have HR438_0 := Aside0.mk hi438_0
                                    have HC438_0 := Aside0.mk hl438_0
                                    clear hi438_0 hl438_0
                                    replace p438 := eq_true p438
                                    replace q438 := eq_true q438
                                    go_wp2_with (first | ((with_reducible refine gate_callee (f := 8) rfl ?_); refine goesL_ (some 129) rfl rfl Try.func8 (by kernel_rfl) rfl #[.slice A438_0 (rd_L3 t421 x123_3).length c438_0] rfl (by (try simp only [List.map_toArray, List.map_cons, List.map_nil]); first | done | rfl | (simp only [List.length_drop, List.length_take]; rfl)) ?_; (with_reducible refine (impl_IsPrime.calls k3 _ _ (rd_L3 t421 x123_3) false true _ ?side1 ?side2 A48.out).mono ?_); (case side1 => repeat (first | exact (by repeat (first | (with_reducible exact HR438_0.out) | (with_reducible refine Kd.C_alloc ?_ _) | (with_reducible refine Kd.C_drewN ?_ _) | (with_reducible refine Kd.C_drew ?_) | exact HR438_0.out)) | (with_reducible refine Kd.C_alloc ?_ _) | (with_reducible refine Kd.C_drewN ?_ _) | (with_reducible refine Kd.C_drew ?_))); (case side2 => exact HC438_0.out); rintro e w59 ⟨rfl, hb⟩; refine ⟨_, rfl, ?_⟩; have n0_ := Aside0.mk (Kd.R_below (by (with_reducible repeat (first | apply Kd.R_alloc | apply Kd.R_drewN | apply Kd.R_drew)); exact HO_5.out) hb); have n1_ := Aside0.mk (Kd.R_below (by (with_reducible repeat (first | apply Kd.R_alloc | apply Kd.R_drewN | apply Kd.R_drew)); exact HO_16.out) hb); have n2_ := Aside0.mk (Kd.N_below (by (with_reducible repeat (first | apply Kd.N_alloc | apply Kd.N_drewN | apply Kd.N_drew)); exact HO_121.out) hb); have n3_ := Aside0.mk (Kd.V_below (by (with_reducible repeat (first | apply Kd.V_alloc | apply Kd.V_drewN | apply Kd.V_drew)); exact HL438_0.out) hb); have n4_ := Aside0.mk (Kd.C_below (by repeat (first | (with_reducible exact HR438_0.out) | (with_reducible refine Kd.C_alloc ?_ _) | (with_reducible refine Kd.C_drewN ?_ _) | (with_reducible refine Kd.C_drew ?_) | exact HR438_0.out)) hb); have n5_ := Aside0.mk (below_step (by repeat (first | (with_reducible first | exact HB.out | apply below_alloc | apply pw_below_drewN | apply below_drew1) | exact HB.out)) hb); clear HO_5; clear HO_16; clear HO_121; clear HL438_0; clear HR438_0; clear HB; have HO_5 := n0_; have HO_16 := n1_; have HO_121 := n2_; have HL438_0 := n3_; have HR438_0 := n4_; have HB := n5_; clear n0_ n1_ n2_ n3_ n4_ n5_; (try clear hb); (try clear hb2); (try clear hk); (try clear hi); obtain ⟨Ao60, co60, eo60⟩ := Kd.R_slice HO_16.out; subst eo60) | ((with_reducible refine gate_callee (f := 12) rfl ?_); refine goesL_ (some 135) rfl rfl Try.func12 (by kernel_rfl) rfl #[.slice Ao60 x16_3.length co60, .slice A438_0 (rd_L3 t421 x123_3).length c438_0] rfl (by (try simp only [List.map_toArray, List.map_cons, List.map_nil]); first | done | rfl | (simp only [List.length_drop, List.length_take]; rfl)) ?_; (with_reducible refine (impl_JoinParking.calls k3 _ _ x16_3 _ _ (rd_L3 t421 x123_3) t441 t442 _ ?side1 ?side2 ?side3 ?side4 A49.out).mono ?_); (case side1 => repeat (first | exact (Kd.R_reads' HO_16.out).2.2 | (with_reducible refine Kd.C_alloc ?_ _) | (with_reducible refine Kd.C_drewN ?_ _) | (with_reducible refine Kd.C_drew ?_))); (case side2 => exact (Kd.R_reads' HO_16.out).2.1); (case side3 => repeat (first | exact (by repeat (first | (with_reducible exact HR438_0.out) | (with_reducible refine Kd.C_alloc ?_ _) | (with_reducible refine Kd.C_drewN ?_ _) | (with_reducible refine Kd.C_drew ?_) | exact HR438_0.out)) | (with_reducible refine Kd.C_alloc ?_ _) | (with_reducible refine Kd.C_drewN ?_ _) | (with_reducible refine Kd.C_drew ?_))); (case side4 => exact HC438_0.out); rintro e w61 ⟨v443, rfl, ho0, hb⟩; refine ⟨_, rfl, ?_⟩; have n0_ := Aside0.mk (Kd.R_elder' (by (with_reducible repeat (first | apply Kd.R_alloc | apply Kd.R_drewN | apply Kd.R_drew)); exact HO_5.out) (Kd.R_base ho0) hb); have n1_ := Aside0.mk (Kd.R_elder' (by (with_reducible repeat (first | apply Kd.R_alloc | apply Kd.R_drewN | apply Kd.R_drew)); exact HO_16.out) (Kd.R_base ho0) hb); have n2_ := Aside0.mk (Kd.N_elder' (by (with_reducible repeat (first | apply Kd.N_alloc | apply Kd.N_drewN | apply Kd.N_drew)); exact HO_121.out) (Kd.R_base ho0) hb); have n3_ := Aside0.mk (Kd.V_elder' (by (with_reducible repeat (first | apply Kd.V_alloc | apply Kd.V_drewN | apply Kd.V_drew)); exact HL438_0.out) (Kd.R_base ho0) hb); have n4_ := Aside0.mk (Kd.R_lower (Kd.R_new' (Kd.R_new' ho0 (Kd.R_lt (by (with_reducible repeat (first | apply Kd.R_alloc | apply Kd.R_drewN | apply Kd.R_drew)); exact HO_5.out))) (Kd.R_lt (by (with_reducible repeat (first | apply Kd.R_alloc | apply Kd.R_drewN | apply Kd.R_drew)); exact HO_16.out))) (below_size (by repeat (first | (with_reducible first | exact HB.out | apply below_alloc | apply pw_below_drewN | apply below_drew1) | exact HB.out)))); have n5_ := Aside0.mk (Kd.C_below (by repeat (first | (with_reducible exact HR438_0.out) | (with_reducible refine Kd.C_alloc ?_ _) | (with_reducible refine Kd.C_drewN ?_ _) | (with_reducible refine Kd.C_drew ?_) | exact HR438_0.out)) hb); have n6_ := Aside0.mk (below_step (by repeat (first | (with_reducible first | exact HB.out | apply below_alloc | apply pw_below_drewN | apply below_drew1) | exact HB.out)) hb); clear HO_5; clear HO_16; clear HO_121; clear HL438_0; clear HR438_0; clear HB; have HO_5 := n0_; have HO_16 := n1_; have HO_121 := n2_; have HL438_0 := n3_; have HO444 := n4_; have HR438_0 := n5_; have HB := n6_; clear n0_ n1_ n2_ n3_ n4_ n5_ n6_; (try clear hb); (try clear hb2); (try clear hk); (try clear hi); (try clear ho0)))
                                    go_ret
                                    exact ⟨by first | rfl | (simp [errW_none, errW_some] <;> rfl) | (simp [*, errW_none, errW_some] <;> rfl), by repeat (first | (with_reducible first | exact HB.out | apply below_alloc | apply pw_below_drewN | apply below_drew1) | exact HB.out)⟩
                              · replace c50 := Bool.eq_false_iff.mpr c50
                                subst c50
                                have H1 : (some false) = some r := by rw [if_neg (show ¬ (false = true) by decide)] at H; exact H
                                clear H
                                have H := H1
                                clear H1
                                as_aux_lemma =>
                                  obtain rfl := Option.some.inj H
                                  have p438 : 0 ≤ (x123_3 : Int) := of_decide_eq_true (by first | (with_reducible assumption) | assumption)
                                  have q438 : x123_3 < (t421.length : Int) := of_decide_eq_true (by first | (with_reducible assumption) | assumption)
                                  obtain ⟨ad438, A438_0, c438_0, e438, hx438_0, hl438_0, hi438_0⟩ := at_L3 (Kd.N_reads' HO_121.out).2.2 x123_3 p438 q438
                                  cases e438
                                  obtain ⟨ce438, hce438, hMe438, hcc438⟩ := Kd.N_get HO_121.out [] x123_3 p438 (by first | exact q438 | exact of_decide_eq_true (by first | (with_reducible assumption) | assumption) | (have e_ := (Kd.N_reads' HO_121.out).1; omega))
                                  obtain ⟨ua438_0, uc438_0, rfl, ul438_0, ge438_0⟩ := Kd.FK_slice_open hMe438
                                  have hv438_0 := hcc438 0 _ rfl
                                  rw [Nat.add_zero, show ((Kd.slice 3 (Kd.int .i64))).sz = 1 from rfl, Nat.mul_one] at hv438_0
                                  replace hv438_0 := Option.some.inj (hv438_0.symm.trans hx438_0)
                                  injection hv438_0 with hva_ hvn_ hvc_
                                  rw [hva_] at ge438_0
                                  rw [hvc_] at ul438_0
                                  have HL438_0 := Aside0.mk (show Kd.V (Kd.int .i64) 3 _ w.heap.size _ _ (rd_L3 t421 x123_3) from Kd.V_mk ul438_0 ge438_0)
                                  clear hva_ hvn_ hvc_ ge438_0 ul438_0
                                  clear hcc438 hce438
                                  have HR438_0 := Aside0.mk hi438_0
                                  have HC438_0 := Aside0.mk hl438_0
                                  clear hi438_0 hl438_0
                                  replace p438 := eq_true p438
                                  replace q438 := eq_true q438
                                  go_wp2_with (first | ((with_reducible refine gate_callee (f := 8) rfl ?_); refine goesL_ (some 129) rfl rfl Try.func8 (by kernel_rfl) rfl #[.slice A438_0 (rd_L3 t421 x123_3).length c438_0] rfl (by (try simp only [List.map_toArray, List.map_cons, List.map_nil]); first | done | rfl | (simp only [List.length_drop, List.length_take]; rfl)) ?_; (with_reducible refine (impl_IsPrime.calls k3 _ _ (rd_L3 t421 x123_3) t439 false _ ?side1 ?side2 A48.out).mono ?_); (case side1 => repeat (first | exact (by repeat (first | (with_reducible exact HR438_0.out) | (with_reducible refine Kd.C_alloc ?_ _) | (with_reducible refine Kd.C_drewN ?_ _) | (with_reducible refine Kd.C_drew ?_) | exact HR438_0.out)) | (with_reducible refine Kd.C_alloc ?_ _) | (with_reducible refine Kd.C_drewN ?_ _) | (with_reducible refine Kd.C_drew ?_))); (case side2 => exact HC438_0.out); rintro e w62 ⟨rfl, hb⟩; refine ⟨_, rfl, ?_⟩; have n0_ := Aside0.mk (Kd.R_below (by (with_reducible repeat (first | apply Kd.R_alloc | apply Kd.R_drewN | apply Kd.R_drew)); exact HO_5.out) hb); have n1_ := Aside0.mk (Kd.R_below (by (with_reducible repeat (first | apply Kd.R_alloc | apply Kd.R_drewN | apply Kd.R_drew)); exact HO_16.out) hb); have n2_ := Aside0.mk (Kd.N_below (by (with_reducible repeat (first | apply Kd.N_alloc | apply Kd.N_drewN | apply Kd.N_drew)); exact HO_121.out) hb); have n3_ := Aside0.mk (Kd.V_below (by (with_reducible repeat (first | apply Kd.V_alloc | apply Kd.V_drewN | apply Kd.V_drew)); exact HL438_0.out) hb); have n4_ := Aside0.mk (Kd.C_below (by repeat (first | (with_reducible exact HR438_0.out) | (with_reducible refine Kd.C_alloc ?_ _) | (with_reducible refine Kd.C_drewN ?_ _) | (with_reducible refine Kd.C_drew ?_) | exact HR438_0.out)) hb); have n5_ := Aside0.mk (below_step (by repeat (first | (with_reducible first | exact HB.out | apply below_alloc | apply pw_below_drewN | apply below_drew1) | exact HB.out)) hb); clear HO_5; clear HO_16; clear HO_121; clear HL438_0; clear HR438_0; clear HB; have HO_5 := n0_; have HO_16 := n1_; have HO_121 := n2_; have HL438_0 := n3_; have HR438_0 := n4_; have HB := n5_; clear n0_ n1_ n2_ n3_ n4_ n5_; (try clear hb); (try clear hb2); (try clear hk); (try clear hi); obtain ⟨Ao63, co63, eo63⟩ := Kd.R_slice HO_16.out; subst eo63) | ((with_reducible refine gate_callee (f := 12) rfl ?_); refine goesL_ (some 135) rfl rfl Try.func12 (by kernel_rfl) rfl #[.slice Ao63 x16_3.length co63, .slice A438_0 (rd_L3 t421 x123_3).length c438_0] rfl (by (try simp only [List.map_toArray, List.map_cons, List.map_nil]); first | done | rfl | (simp only [List.length_drop, List.length_take]; rfl)) ?_; (with_reducible refine (impl_JoinParking.calls k3 _ _ x16_3 _ _ (rd_L3 t421 x123_3) t441 t442 _ ?side1 ?side2 ?side3 ?side4 A49.out).mono ?_); (case side1 => repeat (first | exact (Kd.R_reads' HO_16.out).2.2 | (with_reducible refine Kd.C_alloc ?_ _) | (with_reducible refine Kd.C_drewN ?_ _) | (with_reducible refine Kd.C_drew ?_))); (case side2 => exact (Kd.R_reads' HO_16.out).2.1); (case side3 => repeat (first | exact (by repeat (first | (with_reducible exact HR438_0.out) | (with_reducible refine Kd.C_alloc ?_ _) | (with_reducible refine Kd.C_drewN ?_ _) | (with_reducible refine Kd.C_drew ?_) | exact HR438_0.out)) | (with_reducible refine Kd.C_alloc ?_ _) | (with_reducible refine Kd.C_drewN ?_ _) | (with_reducible refine Kd.C_drew ?_))); (case side4 => exact HC438_0.out); rintro e w64 ⟨v443, rfl, ho0, hb⟩; refine ⟨_, rfl, ?_⟩; have n0_ := Aside0.mk (Kd.R_elder' (by (with_reducible repeat (first | apply Kd.R_alloc | apply Kd.R_drewN | apply Kd.R_drew)); exact HO_5.out) (Kd.R_base ho0) hb); have n1_ := Aside0.mk (Kd.R_elder' (by (with_reducible repeat (first | apply Kd.R_alloc | apply Kd.R_drewN | apply Kd.R_drew)); exact HO_16.out) (Kd.R_base ho0) hb); have n2_ := Aside0.mk (Kd.N_elder' (by (with_reducible repeat (first | apply Kd.N_alloc | apply Kd.N_drewN | apply Kd.N_drew)); exact HO_121.out) (Kd.R_base ho0) hb); have n3_ := Aside0.mk (Kd.V_elder' (by (with_reducible repeat (first | apply Kd.V_alloc | apply Kd.V_drewN | apply Kd.V_drew)); exact HL438_0.out) (Kd.R_base ho0) hb); have n4_ := Aside0.mk (Kd.R_lower (Kd.R_new' (Kd.R_new' ho0 (Kd.R_lt (by (with_reducible repeat (first | apply Kd.R_alloc | apply Kd.R_drewN | apply Kd.R_drew)); exact HO_5.out))) (Kd.R_lt (by (with_reducible repeat (first | apply Kd.R_alloc | apply Kd.R_drewN | apply Kd.R_drew)); exact HO_16.out))) (below_size (by repeat (first | (with_reducible first | exact HB.out | apply below_alloc | apply pw_below_drewN | apply below_drew1) | exact HB.out)))); have n5_ := Aside0.mk (Kd.C_below (by repeat (first | (with_reducible exact HR438_0.out) | (with_reducible refine Kd.C_alloc ?_ _) | (with_reducible refine Kd.C_drewN ?_ _) | (with_reducible refine Kd.C_drew ?_) | exact HR438_0.out)) hb); have n6_ := Aside0.mk (below_step (by repeat (first | (with_reducible first | exact HB.out | apply below_alloc | apply pw_below_drewN | apply below_drew1) | exact HB.out)) hb); clear HO_5; clear HO_16; clear HO_121; clear HL438_0; clear HR438_0; clear HB; have HO_5 := n0_; have HO_16 := n1_; have HO_121 := n2_; have HL438_0 := n3_; have HO444 := n4_; have HR438_0 := n5_; have HB := n6_; clear n0_ n1_ n2_ n3_ n4_ n5_ n6_; (try clear hb); (try clear hb2); (try clear hk); (try clear hi); (try clear ho0)))
                                  go_ret
                                  exact ⟨by first | rfl | (simp [errW_none, errW_some] <;> rfl) | (simp [*, errW_none, errW_some] <;> rfl), by repeat (first | (with_reducible first | exact HB.out | apply below_alloc | apply pw_below_drewN | apply below_drew1) | exact HB.out)⟩
                            · rw [if_neg c47] at H
                              exact absurd H (by simp)
                          · rw [if_neg c46] at H
                            exact absurd H (by simp)
                        · rw [if_neg c45] at H
                          have c45b0 : decide (x123_3 < (t421.length : Int)) = false := decide_eq_false c45
                          clear c45
                          by_cases c65 : (x16_3.length : Int) = (t418.length : Int)
                          · rw [if_pos c65] at H
                            have c65b0 : ((x16_3.length : Int) == (t418.length : Int)) = true := beq_iff_eq.mpr c65
                            have c65b1 : ((x16_3.length : Int) != (t418.length : Int)) = false := bne_eq_false_iff_eq.mpr c65
                            have c65b2 : (x16_3.length == t418.length) = true := by first | simpa using c65 | (simp at c65 ⊢; omega)
                            clear c65
                            by_cases c66 : (t418.length : Int) > 0
                            · rw [if_pos c66] at H
                              have c66b0 : decide (0 < (t418.length : Int)) = true := decide_eq_true c66
                              have c66b1 : decide (0 < t418.length) = true := decide_eq_true (by omega)
                              clear c66
                              replace H := Option.bind_eq_some_iff.mp H
                              obtain ⟨⟨t445, t446⟩, A670, H⟩ := H
                              replace H : ((impl_TotalDistance.f k3 x16_3 (t418.length : Int)).bind fun bt447 => (if t446 = true then (if bt447.2 = true then (if t445 = bt447.1 then ((laws_jSum.f k3 t418).bind fun t449 => ((laws_jSum.f k3 x16_3).bind fun t450 => (if t449 = t450 then (laws_FnPrimeParts.j3 k3 l1) else (some false)))) else (some false)) else (some false)) else (some false))) = some r := H
                              have A67 := Aside0.mk A670
                              clear A670
                              replace H := Option.bind_eq_some_iff.mp H
                              obtain ⟨⟨t447, t448⟩, A680, H⟩ := H
                              replace H : (if t446 = true then (if t448 = true then (if t445 = t447 then ((laws_jSum.f k3 t418).bind fun t449 => ((laws_jSum.f k3 x16_3).bind fun t450 => (if t449 = t450 then (laws_FnPrimeParts.j3 k3 l1) else (some false)))) else (some false)) else (some false)) else (some false)) = some r := H
                              have A68 := Aside0.mk A680
                              clear A680
                              by_cases c69 : t446 = true
                              · subst c69
                                have H1 : (if t448 = true then (if t445 = t447 then ((laws_jSum.f k3 t418).bind fun t449 => ((laws_jSum.f k3 x16_3).bind fun t450 => (if t449 = t450 then (laws_FnPrimeParts.j3 k3 l1) else (some false)))) else (some false)) else (some false)) = some r := by rw [if_pos rfl] at H; exact H
                                clear H
                                have H := H1
                                clear H1
                                by_cases c70 : t448 = true
                                · subst c70
                                  have H1 : (if t445 = t447 then ((laws_jSum.f k3 t418).bind fun t449 => ((laws_jSum.f k3 x16_3).bind fun t450 => (if t449 = t450 then (laws_FnPrimeParts.j3 k3 l1) else (some false)))) else (some false)) = some r := by rw [if_pos rfl] at H; exact H
                                  clear H
                                  have H := H1
                                  clear H1
                                  by_cases c71 : t445 = t447
                                  · rw [if_pos c71] at H
                                    have c71b0 : (t445 == t447) = true := beq_iff_eq.mpr c71
                                    have c71b1 : (t445 != t447) = false := bne_eq_false_iff_eq.mpr c71
                                    clear c71
                                    replace H := Option.bind_eq_some_iff.mp H
                                    obtain ⟨t449, A720, H⟩ := H
                                    replace H : ((laws_jSum.f k3 x16_3).bind fun t450 => (if t449 = t450 then (laws_FnPrimeParts.j3 k3 l1) else (some false))) = some r := H
                                    have A72 := Aside0.mk A720
                                    clear A720
                                    replace H := Option.bind_eq_some_iff.mp H
                                    obtain ⟨t450, A730, H⟩ := H
                                    replace H : (if t449 = t450 then (laws_FnPrimeParts.j3 k3 l1) else (some false)) = some r := H
                                    have A73 := Aside0.mk A730
                                    clear A730
                                    by_cases c74 : t449 = t450
                                    · rw [if_pos c74] at H
                                      have c74b0 : (t449 == t450) = true := beq_iff_eq.mpr c74
                                      have c74b1 : (t449 != t450) = false := bne_eq_false_iff_eq.mpr c74
                                      clear c74
                                      as_aux_lemma =>
                                        have H' := Aside0.mk H
                                        clear H
                                        obtain ⟨Ao75, co75, eo75⟩ := Kd.R_slice HO_16.out
                                        subst eo75
                                        go_wp2_with (first | ((with_reducible refine gate_callee (f := 13) rfl ?_); refine goesL_ (some 162) rfl rfl Try.func13 (by kernel_rfl) rfl #[.slice Ao12 t418.length co12, .int .i64 (t418.length : Int)] rfl (by (try simp only [List.map_toArray, List.map_cons, List.map_nil]); first | done | rfl | (simp only [List.length_drop, List.length_take]; rfl)) ?_; (with_reducible refine (impl_TotalDistance.calls k3 _ _ t418 (t418.length : Int) t445 true _ ?side1 ?side2 A67.out).mono ?_); (case side1 => repeat (first | exact (Kd.R_reads' HO_5.out).2.2 | (with_reducible refine Kd.C_alloc ?_ _) | (with_reducible refine Kd.C_drewN ?_ _) | (with_reducible refine Kd.C_drew ?_))); (case side2 => exact (Kd.R_reads' HO_5.out).2.1); rintro e w76 ⟨rfl, hb⟩; refine ⟨_, rfl, ?_⟩; have n0_ := Aside0.mk (Kd.R_below (by (with_reducible repeat (first | apply Kd.R_alloc | apply Kd.R_drewN | apply Kd.R_drew)); exact HO_5.out) hb); have n1_ := Aside0.mk (Kd.R_below (by (with_reducible repeat (first | apply Kd.R_alloc | apply Kd.R_drewN | apply Kd.R_drew)); exact HO_16.out) hb); have n2_ := Aside0.mk (Kd.N_below (by (with_reducible repeat (first | apply Kd.N_alloc | apply Kd.N_drewN | apply Kd.N_drew)); exact HO_121.out) hb); have n3_ := Aside0.mk (below_step (by repeat (first | (with_reducible first | exact HB.out | apply below_alloc | apply pw_below_drewN | apply below_drew1) | exact HB.out)) hb); clear HO_5; clear HO_16; clear HO_121; clear HB; have HO_5 := n0_; have HO_16 := n1_; have HO_121 := n2_; have HB := n3_; clear n0_ n1_ n2_ n3_; (try clear hb); (try clear hb2); (try clear hk); (try clear hi)) | ((with_reducible refine gate_callee (f := 13) rfl ?_); refine goesL_ (some 169) rfl rfl Try.func13 (by kernel_rfl) rfl #[.slice Ao75 x16_3.length co75, .int .i64 (t418.length : Int)] rfl (by (try simp only [List.map_toArray, List.map_cons, List.map_nil]); first | done | rfl | (simp only [List.length_drop, List.length_take]; rfl)) ?_; (with_reducible refine (impl_TotalDistance.calls k3 _ _ x16_3 (t418.length : Int) t447 true _ ?side1 ?side2 A68.out).mono ?_); (case side1 => repeat (first | exact (Kd.R_reads' HO_16.out).2.2 | (with_reducible refine Kd.C_alloc ?_ _) | (with_reducible refine Kd.C_drewN ?_ _) | (with_reducible refine Kd.C_drew ?_))); (case side2 => exact (Kd.R_reads' HO_16.out).2.1); rintro e w77 ⟨rfl, hb⟩; refine ⟨_, rfl, ?_⟩; have n0_ := Aside0.mk (Kd.R_below (by (with_reducible repeat (first | apply Kd.R_alloc | apply Kd.R_drewN | apply Kd.R_drew)); exact HO_5.out) hb); have n1_ := Aside0.mk (Kd.R_below (by (with_reducible repeat (first | apply Kd.R_alloc | apply Kd.R_drewN | apply Kd.R_drew)); exact HO_16.out) hb); have n2_ := Aside0.mk (Kd.N_below (by (with_reducible repeat (first | apply Kd.N_alloc | apply Kd.N_drewN | apply Kd.N_drew)); exact HO_121.out) hb); have n3_ := Aside0.mk (below_step (by repeat (first | (with_reducible first | exact HB.out | apply below_alloc | apply pw_below_drewN | apply below_drew1) | exact HB.out)) hb); clear HO_5; clear HO_16; clear HO_121; clear HB; have HO_5 := n0_; have HO_16 := n1_; have HO_121 := n2_; have HB := n3_; clear n0_ n1_ n2_ n3_; (try clear hb); (try clear hb2); (try clear hk); (try clear hi)) | (go_at_call 14; (with_reducible refine (laws_jSum.calls k3 _ _ t418 t449 _ ?side1 ?side2 A72.out).mono ?_); (case side1 => repeat (first | exact (Kd.R_reads' HO_5.out).2.2 | (with_reducible refine Kd.C_alloc ?_ _) | (with_reducible refine Kd.C_drewN ?_ _) | (with_reducible refine Kd.C_drew ?_))); (case side2 => exact (Kd.R_reads' HO_5.out).2.1); rintro e w' ⟨rfl, ⟨nd, rfl⟩⟩) | (go_at_call 14; (with_reducible refine (laws_jSum.calls k3 _ _ x16_3 t450 _ ?side1 ?side2 A73.out).mono ?_); (case side1 => repeat (first | exact (Kd.R_reads' HO_16.out).2.2 | (with_reducible refine Kd.C_alloc ?_ _) | (with_reducible refine Kd.C_drewN ?_ _) | (with_reducible refine Kd.C_drew ?_))); (case side2 => exact (Kd.R_reads' HO_16.out).2.1); rintro e w' ⟨rfl, ⟨nd, rfl⟩⟩))
                                        go_meet
                                        case rel => exact ⟨_, H', ⟨by have := HJ9.out; have := HJ33.out; have := HK3.out; first | omega | exact Nat.le_refl _⟩, ⟨by repeat (first | (with_reducible first | exact HB.out | apply below_alloc | apply pw_below_drewN | apply below_drew1) | exact HB.out)⟩⟩
                                    · rw [if_neg c74] at H
                                      have c74b0 : (t449 == t450) = false := beq_eq_false_iff_ne.mpr c74
                                      have c74b1 : (t449 != t450) = true := bne_iff_ne.mpr c74
                                      as_aux_lemma =>
                                        obtain rfl := Option.some.inj H
                                        obtain ⟨Ao78, co78, eo78⟩ := Kd.R_slice HO_16.out
                                        subst eo78
                                        go_wp2_with (first | ((with_reducible refine gate_callee (f := 13) rfl ?_); refine goesL_ (some 162) rfl rfl Try.func13 (by kernel_rfl) rfl #[.slice Ao12 t418.length co12, .int .i64 (t418.length : Int)] rfl (by (try simp only [List.map_toArray, List.map_cons, List.map_nil]); first | done | rfl | (simp only [List.length_drop, List.length_take]; rfl)) ?_; (with_reducible refine (impl_TotalDistance.calls k3 _ _ t418 (t418.length : Int) t445 true _ ?side1 ?side2 A67.out).mono ?_); (case side1 => repeat (first | exact (Kd.R_reads' HO_5.out).2.2 | (with_reducible refine Kd.C_alloc ?_ _) | (with_reducible refine Kd.C_drewN ?_ _) | (with_reducible refine Kd.C_drew ?_))); (case side2 => exact (Kd.R_reads' HO_5.out).2.1); rintro e w79 ⟨rfl, hb⟩; refine ⟨_, rfl, ?_⟩; have n0_ := Aside0.mk (Kd.R_below (by (with_reducible repeat (first | apply Kd.R_alloc | apply Kd.R_drewN | apply Kd.R_drew)); exact HO_5.out) hb); have n1_ := Aside0.mk (Kd.R_below (by (with_reducible repeat (first | apply Kd.R_alloc | apply Kd.R_drewN | apply Kd.R_drew)); exact HO_16.out) hb); have n2_ := Aside0.mk (Kd.N_below (by (with_reducible repeat (first | apply Kd.N_alloc | apply Kd.N_drewN | apply Kd.N_drew)); exact HO_121.out) hb); have n3_ := Aside0.mk (below_step (by repeat (first | (with_reducible first | exact HB.out | apply below_alloc | apply pw_below_drewN | apply below_drew1) | exact HB.out)) hb); clear HO_5; clear HO_16; clear HO_121; clear HB; have HO_5 := n0_; have HO_16 := n1_; have HO_121 := n2_; have HB := n3_; clear n0_ n1_ n2_ n3_; (try clear hb); (try clear hb2); (try clear hk); (try clear hi)) | ((with_reducible refine gate_callee (f := 13) rfl ?_); refine goesL_ (some 169) rfl rfl Try.func13 (by kernel_rfl) rfl #[.slice Ao78 x16_3.length co78, .int .i64 (t418.length : Int)] rfl (by (try simp only [List.map_toArray, List.map_cons, List.map_nil]); first | done | rfl | (simp only [List.length_drop, List.length_take]; rfl)) ?_; (with_reducible refine (impl_TotalDistance.calls k3 _ _ x16_3 (t418.length : Int) t447 true _ ?side1 ?side2 A68.out).mono ?_); (case side1 => repeat (first | exact (Kd.R_reads' HO_16.out).2.2 | (with_reducible refine Kd.C_alloc ?_ _) | (with_reducible refine Kd.C_drewN ?_ _) | (with_reducible refine Kd.C_drew ?_))); (case side2 => exact (Kd.R_reads' HO_16.out).2.1); rintro e w80 ⟨rfl, hb⟩; refine ⟨_, rfl, ?_⟩; have n0_ := Aside0.mk (Kd.R_below (by (with_reducible repeat (first | apply Kd.R_alloc | apply Kd.R_drewN | apply Kd.R_drew)); exact HO_5.out) hb); have n1_ := Aside0.mk (Kd.R_below (by (with_reducible repeat (first | apply Kd.R_alloc | apply Kd.R_drewN | apply Kd.R_drew)); exact HO_16.out) hb); have n2_ := Aside0.mk (Kd.N_below (by (with_reducible repeat (first | apply Kd.N_alloc | apply Kd.N_drewN | apply Kd.N_drew)); exact HO_121.out) hb); have n3_ := Aside0.mk (below_step (by repeat (first | (with_reducible first | exact HB.out | apply below_alloc | apply pw_below_drewN | apply below_drew1) | exact HB.out)) hb); clear HO_5; clear HO_16; clear HO_121; clear HB; have HO_5 := n0_; have HO_16 := n1_; have HO_121 := n2_; have HB := n3_; clear n0_ n1_ n2_ n3_; (try clear hb); (try clear hb2); (try clear hk); (try clear hi)) | (go_at_call 14; (with_reducible refine (laws_jSum.calls k3 _ _ t418 t449 _ ?side1 ?side2 A72.out).mono ?_); (case side1 => repeat (first | exact (Kd.R_reads' HO_5.out).2.2 | (with_reducible refine Kd.C_alloc ?_ _) | (with_reducible refine Kd.C_drewN ?_ _) | (with_reducible refine Kd.C_drew ?_))); (case side2 => exact (Kd.R_reads' HO_5.out).2.1); rintro e w' ⟨rfl, ⟨nd, rfl⟩⟩) | (go_at_call 14; (with_reducible refine (laws_jSum.calls k3 _ _ x16_3 t450 _ ?side1 ?side2 A73.out).mono ?_); (case side1 => repeat (first | exact (Kd.R_reads' HO_16.out).2.2 | (with_reducible refine Kd.C_alloc ?_ _) | (with_reducible refine Kd.C_drewN ?_ _) | (with_reducible refine Kd.C_drew ?_))); (case side2 => exact (Kd.R_reads' HO_16.out).2.1); rintro e w' ⟨rfl, ⟨nd, rfl⟩⟩))
                                        go_ret
                                        exact ⟨by first | rfl | (simp [errW_none, errW_some] <;> rfl) | (simp [*, errW_none, errW_some] <;> rfl), by repeat (first | (with_reducible first | exact HB.out | apply below_alloc | apply pw_below_drewN | apply below_drew1) | exact HB.out)⟩
                                  · rw [if_neg c71] at H
                                    have c71b0 : (t445 == t447) = false := beq_eq_false_iff_ne.mpr c71
                                    have c71b1 : (t445 != t447) = true := bne_iff_ne.mpr c71
                                    as_aux_lemma =>
                                      obtain rfl := Option.some.inj H
                                      obtain ⟨Ao81, co81, eo81⟩ := Kd.R_slice HO_16.out
                                      subst eo81
                                      go_wp2_with (first | ((with_reducible refine gate_callee (f := 13) rfl ?_); refine goesL_ (some 162) rfl rfl Try.func13 (by kernel_rfl) rfl #[.slice Ao12 t418.length co12, .int .i64 (t418.length : Int)] rfl (by (try simp only [List.map_toArray, List.map_cons, List.map_nil]); first | done | rfl | (simp only [List.length_drop, List.length_take]; rfl)) ?_; (with_reducible refine (impl_TotalDistance.calls k3 _ _ t418 (t418.length : Int) t445 true _ ?side1 ?side2 A67.out).mono ?_); (case side1 => repeat (first | exact (Kd.R_reads' HO_5.out).2.2 | (with_reducible refine Kd.C_alloc ?_ _) | (with_reducible refine Kd.C_drewN ?_ _) | (with_reducible refine Kd.C_drew ?_))); (case side2 => exact (Kd.R_reads' HO_5.out).2.1); rintro e w82 ⟨rfl, hb⟩; refine ⟨_, rfl, ?_⟩; have n0_ := Aside0.mk (Kd.R_below (by (with_reducible repeat (first | apply Kd.R_alloc | apply Kd.R_drewN | apply Kd.R_drew)); exact HO_5.out) hb); have n1_ := Aside0.mk (Kd.R_below (by (with_reducible repeat (first | apply Kd.R_alloc | apply Kd.R_drewN | apply Kd.R_drew)); exact HO_16.out) hb); have n2_ := Aside0.mk (Kd.N_below (by (with_reducible repeat (first | apply Kd.N_alloc | apply Kd.N_drewN | apply Kd.N_drew)); exact HO_121.out) hb); have n3_ := Aside0.mk (below_step (by repeat (first | (with_reducible first | exact HB.out | apply below_alloc | apply pw_below_drewN | apply below_drew1) | exact HB.out)) hb); clear HO_5; clear HO_16; clear HO_121; clear HB; have HO_5 := n0_; have HO_16 := n1_; have HO_121 := n2_; have HB := n3_; clear n0_ n1_ n2_ n3_; (try clear hb); (try clear hb2); (try clear hk); (try clear hi)) | ((with_reducible refine gate_callee (f := 13) rfl ?_); refine goesL_ (some 169) rfl rfl Try.func13 (by kernel_rfl) rfl #[.slice Ao81 x16_3.length co81, .int .i64 (t418.length : Int)] rfl (by (try simp only [List.map_toArray, List.map_cons, List.map_nil]); first | done | rfl | (simp only [List.length_drop, List.length_take]; rfl)) ?_; (with_reducible refine (impl_TotalDistance.calls k3 _ _ x16_3 (t418.length : Int) t447 true _ ?side1 ?side2 A68.out).mono ?_); (case side1 => repeat (first | exact (Kd.R_reads' HO_16.out).2.2 | (with_reducible refine Kd.C_alloc ?_ _) | (with_reducible refine Kd.C_drewN ?_ _) | (with_reducible refine Kd.C_drew ?_))); (case side2 => exact (Kd.R_reads' HO_16.out).2.1); rintro e w83 ⟨rfl, hb⟩; refine ⟨_, rfl, ?_⟩; have n0_ := Aside0.mk (Kd.R_below (by (with_reducible repeat (first | apply Kd.R_alloc | apply Kd.R_drewN | apply Kd.R_drew)); exact HO_5.out) hb); have n1_ := Aside0.mk (Kd.R_below (by (with_reducible repeat (first | apply Kd.R_alloc | apply Kd.R_drewN | apply Kd.R_drew)); exact HO_16.out) hb); have n2_ := Aside0.mk (Kd.N_below (by (with_reducible repeat (first | apply Kd.N_alloc | apply Kd.N_drewN | apply Kd.N_drew)); exact HO_121.out) hb); have n3_ := Aside0.mk (below_step (by repeat (first | (with_reducible first | exact HB.out | apply below_alloc | apply pw_below_drewN | apply below_drew1) | exact HB.out)) hb); clear HO_5; clear HO_16; clear HO_121; clear HB; have HO_5 := n0_; have HO_16 := n1_; have HO_121 := n2_; have HB := n3_; clear n0_ n1_ n2_ n3_; (try clear hb); (try clear hb2); (try clear hk); (try clear hi)))
                                      go_ret
                                      exact ⟨by first | rfl | (simp [errW_none, errW_some] <;> rfl) | (simp [*, errW_none, errW_some] <;> rfl), by repeat (first | (with_reducible first | exact HB.out | apply below_alloc | apply pw_below_drewN | apply below_drew1) | exact HB.out)⟩
                                · replace c70 := Bool.eq_false_iff.mpr c70
                                  subst c70
                                  have H1 : (some false) = some r := by rw [if_neg (show ¬ (false = true) by decide)] at H; exact H
                                  clear H
                                  have H := H1
                                  clear H1
                                  as_aux_lemma =>
                                    obtain rfl := Option.some.inj H
                                    obtain ⟨Ao84, co84, eo84⟩ := Kd.R_slice HO_16.out
                                    subst eo84
                                    go_wp2_with (first | ((with_reducible refine gate_callee (f := 13) rfl ?_); refine goesL_ (some 162) rfl rfl Try.func13 (by kernel_rfl) rfl #[.slice Ao12 t418.length co12, .int .i64 (t418.length : Int)] rfl (by (try simp only [List.map_toArray, List.map_cons, List.map_nil]); first | done | rfl | (simp only [List.length_drop, List.length_take]; rfl)) ?_; (with_reducible refine (impl_TotalDistance.calls k3 _ _ t418 (t418.length : Int) t445 true _ ?side1 ?side2 A67.out).mono ?_); (case side1 => repeat (first | exact (Kd.R_reads' HO_5.out).2.2 | (with_reducible refine Kd.C_alloc ?_ _) | (with_reducible refine Kd.C_drewN ?_ _) | (with_reducible refine Kd.C_drew ?_))); (case side2 => exact (Kd.R_reads' HO_5.out).2.1); rintro e w85 ⟨rfl, hb⟩; refine ⟨_, rfl, ?_⟩; have n0_ := Aside0.mk (Kd.R_below (by (with_reducible repeat (first | apply Kd.R_alloc | apply Kd.R_drewN | apply Kd.R_drew)); exact HO_5.out) hb); have n1_ := Aside0.mk (Kd.R_below (by (with_reducible repeat (first | apply Kd.R_alloc | apply Kd.R_drewN | apply Kd.R_drew)); exact HO_16.out) hb); have n2_ := Aside0.mk (Kd.N_below (by (with_reducible repeat (first | apply Kd.N_alloc | apply Kd.N_drewN | apply Kd.N_drew)); exact HO_121.out) hb); have n3_ := Aside0.mk (below_step (by repeat (first | (with_reducible first | exact HB.out | apply below_alloc | apply pw_below_drewN | apply below_drew1) | exact HB.out)) hb); clear HO_5; clear HO_16; clear HO_121; clear HB; have HO_5 := n0_; have HO_16 := n1_; have HO_121 := n2_; have HB := n3_; clear n0_ n1_ n2_ n3_; (try clear hb); (try clear hb2); (try clear hk); (try clear hi)) | ((with_reducible refine gate_callee (f := 13) rfl ?_); refine goesL_ (some 169) rfl rfl Try.func13 (by kernel_rfl) rfl #[.slice Ao84 x16_3.length co84, .int .i64 (t418.length : Int)] rfl (by (try simp only [List.map_toArray, List.map_cons, List.map_nil]); first | done | rfl | (simp only [List.length_drop, List.length_take]; rfl)) ?_; (with_reducible refine (impl_TotalDistance.calls k3 _ _ x16_3 (t418.length : Int) t447 false _ ?side1 ?side2 A68.out).mono ?_); (case side1 => repeat (first | exact (Kd.R_reads' HO_16.out).2.2 | (with_reducible refine Kd.C_alloc ?_ _) | (with_reducible refine Kd.C_drewN ?_ _) | (with_reducible refine Kd.C_drew ?_))); (case side2 => exact (Kd.R_reads' HO_16.out).2.1); rintro e w86 ⟨rfl, hb⟩; refine ⟨_, rfl, ?_⟩; have n0_ := Aside0.mk (Kd.R_below (by (with_reducible repeat (first | apply Kd.R_alloc | apply Kd.R_drewN | apply Kd.R_drew)); exact HO_5.out) hb); have n1_ := Aside0.mk (Kd.R_below (by (with_reducible repeat (first | apply Kd.R_alloc | apply Kd.R_drewN | apply Kd.R_drew)); exact HO_16.out) hb); have n2_ := Aside0.mk (Kd.N_below (by (with_reducible repeat (first | apply Kd.N_alloc | apply Kd.N_drewN | apply Kd.N_drew)); exact HO_121.out) hb); have n3_ := Aside0.mk (below_step (by repeat (first | (with_reducible first | exact HB.out | apply below_alloc | apply pw_below_drewN | apply below_drew1) | exact HB.out)) hb); clear HO_5; clear HO_16; clear HO_121; clear HB; have HO_5 := n0_; have HO_16 := n1_; have HO_121 := n2_; have HB := n3_; clear n0_ n1_ n2_ n3_; (try clear hb); (try clear hb2); (try clear hk); (try clear hi)))
                                    go_ret
                                    exact ⟨by first | rfl | (simp [errW_none, errW_some] <;> rfl) | (simp [*, errW_none, errW_some] <;> rfl), by repeat (first | (with_reducible first | exact HB.out | apply below_alloc | apply pw_below_drewN | apply below_drew1) | exact HB.out)⟩
                              · replace c69 := Bool.eq_false_iff.mpr c69
                                subst c69
                                have H1 : (some false) = some r := by rw [if_neg (show ¬ (false = true) by decide)] at H; exact H
                                clear H
                                have H := H1
                                clear H1
                                as_aux_lemma =>
                                  obtain rfl := Option.some.inj H
                                  obtain ⟨Ao87, co87, eo87⟩ := Kd.R_slice HO_16.out
                                  subst eo87
                                  go_wp2_with (first | ((with_reducible refine gate_callee (f := 13) rfl ?_); refine goesL_ (some 162) rfl rfl Try.func13 (by kernel_rfl) rfl #[.slice Ao12 t418.length co12, .int .i64 (t418.length : Int)] rfl (by (try simp only [List.map_toArray, List.map_cons, List.map_nil]); first | done | rfl | (simp only [List.length_drop, List.length_take]; rfl)) ?_; (with_reducible refine (impl_TotalDistance.calls k3 _ _ t418 (t418.length : Int) t445 false _ ?side1 ?side2 A67.out).mono ?_); (case side1 => repeat (first | exact (Kd.R_reads' HO_5.out).2.2 | (with_reducible refine Kd.C_alloc ?_ _) | (with_reducible refine Kd.C_drewN ?_ _) | (with_reducible refine Kd.C_drew ?_))); (case side2 => exact (Kd.R_reads' HO_5.out).2.1); rintro e w88 ⟨rfl, hb⟩; refine ⟨_, rfl, ?_⟩; have n0_ := Aside0.mk (Kd.R_below (by (with_reducible repeat (first | apply Kd.R_alloc | apply Kd.R_drewN | apply Kd.R_drew)); exact HO_5.out) hb); have n1_ := Aside0.mk (Kd.R_below (by (with_reducible repeat (first | apply Kd.R_alloc | apply Kd.R_drewN | apply Kd.R_drew)); exact HO_16.out) hb); have n2_ := Aside0.mk (Kd.N_below (by (with_reducible repeat (first | apply Kd.N_alloc | apply Kd.N_drewN | apply Kd.N_drew)); exact HO_121.out) hb); have n3_ := Aside0.mk (below_step (by repeat (first | (with_reducible first | exact HB.out | apply below_alloc | apply pw_below_drewN | apply below_drew1) | exact HB.out)) hb); clear HO_5; clear HO_16; clear HO_121; clear HB; have HO_5 := n0_; have HO_16 := n1_; have HO_121 := n2_; have HB := n3_; clear n0_ n1_ n2_ n3_; (try clear hb); (try clear hb2); (try clear hk); (try clear hi)) | ((with_reducible refine gate_callee (f := 13) rfl ?_); refine goesL_ (some 169) rfl rfl Try.func13 (by kernel_rfl) rfl #[.slice Ao87 x16_3.length co87, .int .i64 (t418.length : Int)] rfl (by (try simp only [List.map_toArray, List.map_cons, List.map_nil]); first | done | rfl | (simp only [List.length_drop, List.length_take]; rfl)) ?_; (with_reducible refine (impl_TotalDistance.calls k3 _ _ x16_3 (t418.length : Int) t447 t448 _ ?side1 ?side2 A68.out).mono ?_); (case side1 => repeat (first | exact (Kd.R_reads' HO_16.out).2.2 | (with_reducible refine Kd.C_alloc ?_ _) | (with_reducible refine Kd.C_drewN ?_ _) | (with_reducible refine Kd.C_drew ?_))); (case side2 => exact (Kd.R_reads' HO_16.out).2.1); rintro e w89 ⟨rfl, hb⟩; refine ⟨_, rfl, ?_⟩; have n0_ := Aside0.mk (Kd.R_below (by (with_reducible repeat (first | apply Kd.R_alloc | apply Kd.R_drewN | apply Kd.R_drew)); exact HO_5.out) hb); have n1_ := Aside0.mk (Kd.R_below (by (with_reducible repeat (first | apply Kd.R_alloc | apply Kd.R_drewN | apply Kd.R_drew)); exact HO_16.out) hb); have n2_ := Aside0.mk (Kd.N_below (by (with_reducible repeat (first | apply Kd.N_alloc | apply Kd.N_drewN | apply Kd.N_drew)); exact HO_121.out) hb); have n3_ := Aside0.mk (below_step (by repeat (first | (with_reducible first | exact HB.out | apply below_alloc | apply pw_below_drewN | apply below_drew1) | exact HB.out)) hb); clear HO_5; clear HO_16; clear HO_121; clear HB; have HO_5 := n0_; have HO_16 := n1_; have HO_121 := n2_; have HB := n3_; clear n0_ n1_ n2_ n3_; (try clear hb); (try clear hb2); (try clear hk); (try clear hi)))
                                  go_ret
                                  exact ⟨by first | rfl | (simp [errW_none, errW_some] <;> rfl) | (simp [*, errW_none, errW_some] <;> rfl), by repeat (first | (with_reducible first | exact HB.out | apply below_alloc | apply pw_below_drewN | apply below_drew1) | exact HB.out)⟩
                            · rw [if_neg c66] at H
                              have c66b0 : decide (0 < (t418.length : Int)) = false := decide_eq_false c66
                              have c66b1 : decide (0 < t418.length) = false := decide_eq_false (by omega)
                              clear c66
                              as_aux_lemma =>
                                have H' := Aside0.mk H
                                clear H
                                obtain ⟨Ao90, co90, eo90⟩ := Kd.R_slice HO_16.out
                                subst eo90
                                go_wp2
                                go_meet
                                case rel => exact ⟨_, H', ⟨by have := HJ9.out; have := HJ33.out; have := HK3.out; first | omega | exact Nat.le_refl _⟩, ⟨by repeat (first | (with_reducible first | exact HB.out | apply below_alloc | apply pw_below_drewN | apply below_drew1) | exact HB.out)⟩⟩
                          · rw [if_neg c65] at H
                            have c65b0 : ((x16_3.length : Int) == (t418.length : Int)) = false := beq_eq_false_iff_ne.mpr c65
                            have c65b1 : ((x16_3.length : Int) != (t418.length : Int)) = true := bne_iff_ne.mpr c65
                            have c65b2 : (x16_3.length == t418.length) = false := by first | simpa using c65 | (simp at c65 ⊢; omega)
                            as_aux_lemma =>
                              obtain rfl := Option.some.inj H
                              obtain ⟨Ao91, co91, eo91⟩ := Kd.R_slice HO_16.out
                              subst eo91
                              go_wp2
                              go_ret
                              exact ⟨by first | rfl | (simp [errW_none, errW_some] <;> rfl) | (simp [*, errW_none, errW_some] <;> rfl), by repeat (first | (with_reducible first | exact HB.out | apply below_alloc | apply pw_below_drewN | apply below_drew1) | exact HB.out)⟩
            · replace c32 := Bool.eq_false_iff.mpr c32
              subst c32
              have H1 : (laws_FnPrimeParts.j3 kj9 l1) = some r := by rw [if_neg (show ¬ (false = true) by decide)] at H; exact H
              clear H
              have H := H1
              clear H1
              as_aux_lemma =>
                have H' := Aside0.mk H
                clear H
                go_wp2
                go_meet
                case rel => exact ⟨_, H', ⟨by have := HJ9.out; first | omega | exact Nat.le_refl _⟩, ⟨by repeat (first | (with_reducible first | exact HB.out | apply below_alloc | apply pw_below_drewN | apply below_drew1) | exact HB.out)⟩⟩
          case rest =>
            clear HC31
            try clear c1
            try clear c2
            try clear p2
            try clear c3
            try clear c4
            try clear p4
            try clear q4
            try clear hx4
            try clear c5
            try clear c6
            try clear p6
            try clear c7
            try clear c8
            try clear c9
            try clear c11
            try clear c12
            try clear c13
            try clear c17
            try clear c17b0
            try clear c17b1
            try clear c17b2
            try clear c19
            try clear c20
            try clear c20b0
            try clear c20b1
            try clear c20b2
            try clear c23
            try clear c23b0
            try clear c23b1
            try clear c23b2
            try clear c30
            try clear c32
            try clear c36
            try clear c37
            try clear c37b0
            try clear c37b1
            try clear c38
            try clear c38b0
            try clear c38b1
            try clear c38b2
            try clear c42
            try clear c42b0
            try clear c42b1
            try clear c42b2
            try clear c43
            try clear p43
            try clear q43
            try clear hx43
            try clear c45
            try clear c45b0
            try clear c46
            try clear c46b0
            try clear c47
            try clear c47b0
            try clear c50
            try clear c51
            try clear c52
            try clear p64
            try clear c65
            try clear c65b0
            try clear c65b1
            try clear c65b2
            try clear c66
            try clear c66b0
            try clear c66b1
            try clear c69
            try clear c70
            try clear c71
            try clear c71b0
            try clear c71b1
            try clear c74
            try clear c74b0
            try clear c74b1
            try clear hx438_0
            try clear p2
            try clear p438
            try clear p6
            try clear q438
            obtain ⟨kq, HA, HJ30, HB⟩ := hcut
            cases kq with
            | zero => exact absurd HA.out (by simp [laws_FnPrimeParts.j3])
            | succ kj30 =>
              have H := HA.out
              clear HA
              simp only [laws_FnPrimeParts.j3] at H
              replace H := Option.bind_eq_some_iff.mp H
              obtain ⟨t451, A920, H⟩ := H
              replace H : ((impl_AllPrime.f kj30 t451).bind fun bt452 => ((spec_AllPrime.f kj30 t451).bind fun bt456 => (if (bt452.2 != bt456.2) = true then (laws_FnPrimeParts.j4 kj30 l1 t451 bt452.1 bt452.2 true) else ((laws_jRows.f kj30 bt452.1 bt456.1).bind fun t460 => (laws_FnPrimeParts.j4 kj30 l1 t451 bt452.1 bt452.2 (!t460)))))) = some r := H
              have A92 := Aside0.mk A920
              clear A920
              replace H := Option.bind_eq_some_iff.mp H
              obtain ⟨⟨t452, t453⟩, A930, H⟩ := H
              replace H : ((spec_AllPrime.f kj30 t451).bind fun bt456 => (if (t453 != bt456.2) = true then (laws_FnPrimeParts.j4 kj30 l1 t451 t452 t453 true) else ((laws_jRows.f kj30 t452 bt456.1).bind fun t460 => (laws_FnPrimeParts.j4 kj30 l1 t451 t452 t453 (!t460))))) = some r := H
              have A93 := Aside0.mk A930
              clear A930
              replace H := Option.bind_eq_some_iff.mp H
              obtain ⟨⟨t456, t459⟩, A940, H⟩ := H
              replace H : (if (t453 != t459) = true then (laws_FnPrimeParts.j4 kj30 l1 t451 t452 t453 true) else ((laws_jRows.f kj30 t452 t456).bind fun t460 => (laws_FnPrimeParts.j4 kj30 l1 t451 t452 t453 (!t460)))) = some r := H
              have A94 := Aside0.mk A940
              clear A940
              have HC95 := Aside0.mk H
              clear H
              go_upto_region 34 with (first | ((with_reducible refine gate_callee (f := 15) rfl ?_); refine goesL_ (some 191) rfl rfl Try.func15 (by kernel_rfl) rfl #[.slice A1 l1.length c1] rfl (by (try simp only [List.map_toArray, List.map_cons, List.map_nil]); first | done | rfl | (simp only [List.length_drop, List.length_take]; rfl)) ?_; (with_reducible refine (spec_DrawAllPrime.calls _ _ l1 t451 _ ?side1 ?side2 A92.out).mono ?_); (case side1 => repeat (first | exact (Kd.C_below HR1.out HB.out) | (with_reducible refine Kd.C_alloc ?_ _) | (with_reducible refine Kd.C_drewN ?_ _) | (with_reducible refine Kd.C_drew ?_))); (case side2 => exact HC1.out); rintro e w96 ⟨rfl, hb⟩; refine ⟨_, rfl, ?_⟩; have n0_ := Aside0.mk (below_step (by repeat (first | (with_reducible first | exact HB.out | apply below_alloc | apply pw_below_drewN | apply below_drew1) | exact HB.out)) hb); clear HB; have HB := n0_; clear n0_; (try clear hb); (try clear hb2); (try clear hk); (try clear hi)) | ((with_reducible refine gate_callee (f := 16) rfl ?_); refine goesL_ (some 194) rfl rfl Try.func16 (by kernel_rfl) rfl #[.int .i64 t451] rfl (by (try simp only [List.map_toArray, List.map_cons, List.map_nil]); first | done | rfl | (simp only [List.length_drop, List.length_take]; rfl)) ?_; (with_reducible refine (impl_AllPrime.calls kj30 t451 t452 t453 _ A93.out).mono ?_); rintro e w97 ⟨v454, rfl, ho0, hb⟩; refine ⟨_, rfl, ?_⟩; have n0_ := Aside0.mk (Kd.N_lower (Kd.N_mono (ok' := fun k_ => True) (Kd.S_N (Kd.S_bound ho0)) (fun k_ hk_ => trivial)) (below_size (by repeat (first | (with_reducible first | exact HB.out | apply below_alloc | apply pw_below_drewN | apply below_drew1) | exact HB.out)))); have n1_ := Aside0.mk (below_step (by repeat (first | (with_reducible first | exact HB.out | apply below_alloc | apply pw_below_drewN | apply below_drew1) | exact HB.out)) hb); clear HB; have HO455 := n0_; have HB := n1_; clear n0_ n1_; (try clear hb); (try clear hb2); (try clear hk); (try clear hi); (try clear ho0)) | ((with_reducible refine gate_callee (f := 17) rfl ?_); refine goesL_ (some 199) rfl rfl Try.func17 (by kernel_rfl) rfl #[.int .i64 t451] rfl (by (try simp only [List.map_toArray, List.map_cons, List.map_nil]); first | done | rfl | (simp only [List.length_drop, List.length_take]; rfl)) ?_; (with_reducible refine (spec_AllPrime.calls kj30 t451 t456 t459 _ A94.out).mono ?_); rintro e w98 ⟨v457, rfl, ho0, hb⟩; refine ⟨_, rfl, ?_⟩; have n0_ := Aside0.mk (Kd.N_elder' (by (with_reducible repeat (first | apply Kd.N_alloc | apply Kd.N_drewN | apply Kd.N_drew)); exact HO455.out) (by first | exact Kd.N_base ho0 | exact Kd.S_base ho0) hb); have n1_ := Aside0.mk (Kd.N_lower (Kd.N_mono (ok' := fun k_ => some k_ ≠ (v454 : Value).ownBlock) ho0 (fun k_ hk_ => (Kd.fresh' (Kd.N_lt (by (with_reducible repeat (first | apply Kd.N_alloc | apply Kd.N_drewN | apply Kd.N_drew)); exact HO455.out)) k_ hk_))) (below_size (by repeat (first | (with_reducible first | exact HB.out | apply below_alloc | apply pw_below_drewN | apply below_drew1) | exact HB.out)))); have n2_ := Aside0.mk (below_step (by repeat (first | (with_reducible first | exact HB.out | apply below_alloc | apply pw_below_drewN | apply below_drew1) | exact HB.out)) hb); clear HO455; clear HB; have HO455 := n0_; have HO458 := n1_; have HB := n2_; clear n0_ n1_ n2_; (try clear hb); (try clear hb2); (try clear hk); (try clear hi); (try clear ho0)))
              (try simp only [Act.put, List.setIfInBounds_toArray, List.set_cons_zero, List.set_cons_succ])
              go_cut [210] (fun v210 wc => ∃ (kq : Nat) (x210_94 : Bool), v210 = .bool x210_94 ∧ Aside0 (laws_FnPrimeParts.j4 kq l1 t451 t452 t453 x210_94 = some r) ∧ Aside0 (kq ≤ kj30) ∧ Aside0 (Kd.N (Kd.slice 3 (Kd.int .i64)) 24 wc w.heap.size (fun _ => True) v454 t452) ∧ Aside0 (Below w.heap.size w wc))
              case first =>
                have H := HC95.out
                clear HC95
                by_cases c99 : (t453 != t459) = true
                · rw [if_pos c99] at H
                  have c99b0 : (t453 != t459) = true := c99
                  (try (have c99b1 : decide (t453 = t459) = false := by simpa using c99))
                  (try (have c99b2 : (t453 == t459) = false := by simpa using c99))
                  (try (have c99b3 : ¬ (t453 = t459) := by simpa using c99))
                  clear c99
                  (first | rw [c99b0] | (simp only [i64_w, i32_w]; rw [c99b0]) | skip)
                  as_aux_lemma =>
                    have H' := Aside0.mk H
                    clear H
                    go_wp2
                    go_meet
                    case rel => exact ⟨_, (true), (by first | rfl | (simp; done) | (simp [*]; done)), H', ⟨by have := HJ9.out; have := HJ30.out; first | omega | exact Nat.le_refl _⟩, ⟨by (with_reducible repeat (first | apply Kd.N_alloc | apply Kd.N_drewN | apply Kd.N_drew)); exact Kd.N_mono HO455.out (fun _ hk => trivial)⟩, ⟨by repeat (first | (with_reducible first | exact HB.out | apply below_alloc | apply pw_below_drewN | apply below_drew1) | exact HB.out)⟩⟩
                · rw [if_neg c99] at H
                  have c99b0 : (t453 != t459) = false := by simpa using c99
                  (try (have c99b1 : decide (t453 = t459) = true := by simpa using c99))
                  (try (have c99b2 : (t453 == t459) = true := by simpa using c99))
                  clear c99
                  (first | rw [c99b0] | (simp only [i64_w, i32_w]; rw [c99b0]) | skip)
                  replace H := Option.bind_eq_some_iff.mp H
                  obtain ⟨t460, A1000, H⟩ := H
                  replace H : (laws_FnPrimeParts.j4 kj30 l1 t451 t452 t453 (!t460)) = some r := H
                  have A100 := Aside0.mk A1000
                  clear A1000
                  as_aux_lemma =>
                    have H' := Aside0.mk H
                    clear H
                    obtain ⟨Ao101, co101, eo101⟩ := Kd.N_slice HO455.out
                    subst eo101
                    obtain ⟨Ao102, co102, eo102⟩ := Kd.N_slice HO458.out
                    subst eo102
                    go_wp2_with (first | (go_at_call 10; (with_reducible refine (laws_jRows.calls kj30 _ _ t452 _ _ t456 t460 _ ?side1 ?side2 ?side3 ?side4 A100.out).mono ?_); (case side1 => repeat (first | exact (Kd.N_reads' HO455.out).2.2 | (with_reducible refine Kd.C_alloc ?_ _) | (with_reducible refine Kd.C_drewN ?_ _) | (with_reducible refine Kd.C_drew ?_))); (case side2 => exact (Kd.N_reads' HO455.out).2.1); (case side3 => repeat (first | exact (Kd.N_reads' HO458.out).2.2 | (with_reducible refine Kd.C_alloc ?_ _) | (with_reducible refine Kd.C_drewN ?_ _) | (with_reducible refine Kd.C_drew ?_))); (case side4 => exact (Kd.N_reads' HO458.out).2.1); rintro e w' ⟨rfl, ⟨nd, rfl⟩⟩))
                    go_meet
                    case rel => exact ⟨_, (!t460), (by first | rfl | (simp; done) | (simp [*]; done)), H', ⟨by have := HJ9.out; have := HJ30.out; first | omega | exact Nat.le_refl _⟩, ⟨by (with_reducible repeat (first | apply Kd.N_alloc | apply Kd.N_drewN | apply Kd.N_drew)); exact Kd.N_mono HO455.out (fun _ hk => trivial)⟩, ⟨by repeat (first | (with_reducible first | exact HB.out | apply below_alloc | apply pw_below_drewN | apply below_drew1) | exact HB.out)⟩⟩
              case rest =>
                clear HC95
                try clear c1
                try clear c2
                try clear p2
                try clear c3
                try clear c4
                try clear p4
                try clear q4
                try clear hx4
                try clear c5
                try clear c6
                try clear p6
                try clear c7
                try clear c8
                try clear c9
                try clear c11
                try clear c12
                try clear c13
                try clear c15
                try clear c16
                try clear c17
                try clear c17b0
                try clear c17b1
                try clear c17b2
                try clear c19
                try clear c20
                try clear c20b0
                try clear c20b1
                try clear c20b2
                try clear c23
                try clear c23b0
                try clear c23b1
                try clear c23b2
                try clear c30
                try clear c32
                try clear c36
                try clear c37
                try clear c37b0
                try clear c37b1
                try clear c38
                try clear c38b0
                try clear c38b1
                try clear c38b2
                try clear c42
                try clear c42b0
                try clear c42b1
                try clear c42b2
                try clear c43
                try clear p43
                try clear q43
                try clear hx43
                try clear c45
                try clear c45b0
                try clear c46
                try clear c46b0
                try clear c47
                try clear c47b0
                try clear c50
                try clear c51
                try clear c52
                try clear p64
                try clear c65
                try clear c65b0
                try clear c65b1
                try clear c65b2
                try clear c66
                try clear c66b0
                try clear c66b1
                try clear c69
                try clear c70
                try clear c71
                try clear c71b0
                try clear c71b1
                try clear c74
                try clear c74b0
                try clear c74b1
                try clear c99
                try clear c99b0
                try clear c99b1
                try clear c99b2
                try clear hx438_0
                try clear p2
                try clear p4
                try clear p43
                try clear p438
                try clear p6
                try clear p64
                try clear q4
                try clear q43
                try clear q438
                obtain ⟨kq, x210_94, rfl, HA, HJ94, HO_28, HB⟩ := hcut
                cases kq with
                | zero => exact absurd HA.out (by simp [laws_FnPrimeParts.j4])
                | succ kj94 =>
                  have H := HA.out
                  clear HA
                  simp only [laws_FnPrimeParts.j4] at H
                  by_cases c103 : x210_94 = true
                  · subst c103
                    have H1 : (some false) = some r := by rw [if_pos rfl] at H; exact H
                    clear H
                    have H := H1
                    clear H1
                    as_aux_lemma =>
                      obtain rfl := Option.some.inj H
                      go_wp2
                      go_ret
                      exact ⟨by first | rfl | (simp [errW_none, errW_some] <;> rfl) | (simp [*, errW_none, errW_some] <;> rfl), by repeat (first | (with_reducible first | exact HB.out | apply below_alloc | apply pw_below_drewN | apply below_drew1) | exact HB.out)⟩
                  · replace c103 := Bool.eq_false_iff.mpr c103
                    subst c103
                    have H1 : (if t453 = true then ((impl_CountPrime.f kj94 t451).bind fun bt461 => (if bt461.2 = true then (laws_FnPrimeParts.j5 kj94 l1 (bt461.1 != (t452.length : Int))) else (laws_FnPrimeParts.j5 kj94 l1 true))) else ((spec_DrawCountPrime.f l1).bind fun t468 => ((impl_CountPrime.f kj94 t468).bind fun bt469 => ((spec_CountPrime.f kj94 t468).bind fun bt471 => (if (bt469.2 == bt471.2) = true then (some (bt469.1 == bt471.1)) else (some false)))))) = some r := by rw [if_neg (show ¬ (false = true) by decide)] at H; exact H
                    clear H
                    have H := H1
                    clear H1
                    by_cases c104 : t453 = true
                    · subst c104
                      have H1 : ((impl_CountPrime.f kj94 t451).bind fun bt461 => (if bt461.2 = true then (laws_FnPrimeParts.j5 kj94 l1 (bt461.1 != (t452.length : Int))) else (laws_FnPrimeParts.j5 kj94 l1 true))) = some r := by rw [if_pos rfl] at H; exact H
                      clear H
                      have H := H1
                      clear H1
                      replace H := Option.bind_eq_some_iff.mp H
                      obtain ⟨⟨t461, t462⟩, A1050, H⟩ := H
                      replace H : (if t462 = true then (laws_FnPrimeParts.j5 kj94 l1 (t461 != (t452.length : Int))) else (laws_FnPrimeParts.j5 kj94 l1 true)) = some r := H
                      have A105 := Aside0.mk A1050
                      clear A1050
                      have HC106 := Aside0.mk H
                      clear H
                      go_upto_region 38 with (first | ((with_reducible refine gate_callee (f := 18) rfl ?_); refine goesL_ (some 214) rfl rfl Try.func18 (by kernel_rfl) rfl #[.int .i64 t451] rfl (by (try simp only [List.map_toArray, List.map_cons, List.map_nil]); first | done | rfl | (simp only [List.length_drop, List.length_take]; rfl)) ?_; (with_reducible refine (impl_CountPrime.calls kj94 t451 t461 t462 _ A105.out).mono ?_); rintro e w' ⟨rfl, ⟨nd, rfl⟩⟩; refine ⟨_, rfl, ?_⟩))
                      (try simp only [Act.put, List.setIfInBounds_toArray, List.set_cons_zero, List.set_cons_succ])
                      go_cut [224] (fun v224 wc => ∃ (kq : Nat) (x224_105 : Bool), v224 = .bool x224_105 ∧ Aside0 (laws_FnPrimeParts.j5 kq l1 x224_105 = some r) ∧ Aside0 (kq ≤ kj94) ∧ Aside0 (Below w.heap.size w wc))
                      case first =>
                        have H := HC106.out
                        clear HC106
                        by_cases c107 : t462 = true
                        · subst c107
                          have H1 : (laws_FnPrimeParts.j5 kj94 l1 (t461 != (t452.length : Int))) = some r := by rw [if_pos rfl] at H; exact H
                          clear H
                          have H := H1
                          clear H1
                          as_aux_lemma =>
                            have H' := Aside0.mk H
                            clear H
                            obtain ⟨Ao108, co108, eo108⟩ := Kd.N_slice HO_28.out
                            subst eo108
                            go_wp2
                            go_meet
                            case rel => exact ⟨_, ((t461 != (t452.length : Int))), (by first | rfl | (simp; done) | (simp [*]; done)), H', ⟨by have := HJ9.out; have := HJ30.out; have := HJ94.out; first | omega | exact Nat.le_refl _⟩, ⟨by repeat (first | (with_reducible first | exact HB.out | apply below_alloc | apply pw_below_drewN | apply below_drew1) | exact HB.out)⟩⟩
                        · replace c107 := Bool.eq_false_iff.mpr c107
                          subst c107
                          have H1 : (laws_FnPrimeParts.j5 kj94 l1 true) = some r := by rw [if_neg (show ¬ (false = true) by decide)] at H; exact H
                          clear H
                          have H := H1
                          clear H1
                          as_aux_lemma =>
                            have H' := Aside0.mk H
                            clear H
                            go_wp2
                            go_meet
                            case rel => exact ⟨_, (true), (by first | rfl | (simp; done) | (simp [*]; done)), H', ⟨by have := HJ9.out; have := HJ30.out; have := HJ94.out; first | omega | exact Nat.le_refl _⟩, ⟨by repeat (first | (with_reducible first | exact HB.out | apply below_alloc | apply pw_below_drewN | apply below_drew1) | exact HB.out)⟩⟩
                      case rest =>
                        clear HC106
                        try clear c1
                        try clear c2
                        try clear p2
                        try clear c3
                        try clear c4
                        try clear p4
                        try clear q4
                        try clear hx4
                        try clear c5
                        try clear c6
                        try clear p6
                        try clear c7
                        try clear c8
                        try clear c9
                        try clear c10
                        try clear c11
                        try clear c12
                        try clear c13
                        try clear c15
                        try clear c16
                        try clear c17
                        try clear c17b0
                        try clear c17b1
                        try clear c17b2
                        try clear c18
                        try clear c19
                        try clear c20
                        try clear c20b0
                        try clear c20b1
                        try clear c20b2
                        try clear c23
                        try clear c23b0
                        try clear c23b1
                        try clear c23b2
                        try clear c30
                        try clear c32
                        try clear c36
                        try clear c37
                        try clear c37b0
                        try clear c37b1
                        try clear c38
                        try clear c38b0
                        try clear c38b1
                        try clear c38b2
                        try clear c42
                        try clear c42b0
                        try clear c42b1
                        try clear c42b2
                        try clear c43
                        try clear p43
                        try clear q43
                        try clear hx43
                        try clear c45
                        try clear c45b0
                        try clear c46
                        try clear c46b0
                        try clear c47
                        try clear c47b0
                        try clear c50
                        try clear c51
                        try clear c52
                        try clear p64
                        try clear c65
                        try clear c65b0
                        try clear c65b1
                        try clear c65b2
                        try clear c66
                        try clear c66b0
                        try clear c66b1
                        try clear c69
                        try clear c70
                        try clear c71
                        try clear c71b0
                        try clear c71b1
                        try clear c74
                        try clear c74b0
                        try clear c74b1
                        try clear c99
                        try clear c99b0
                        try clear c99b1
                        try clear c99b2
                        try clear c103
                        try clear c104
                        try clear c107
                        try clear hx438_0
                        try clear p2
                        try clear p4
                        try clear p43
                        try clear p438
                        try clear p6
                        try clear p64
                        try clear q4
                        try clear q43
                        try clear q438
                        obtain ⟨kq, x224_105, rfl, HA, HJ105, HB⟩ := hcut
                        cases kq with
                        | zero => exact absurd HA.out (by simp [laws_FnPrimeParts.j5])
                        | succ kj105 =>
                          have H := HA.out
                          clear HA
                          simp only [laws_FnPrimeParts.j5] at H
                          by_cases c109 : x224_105 = true
                          · subst c109
                            have H1 : (some false) = some r := by rw [if_pos rfl] at H; exact H
                            clear H
                            have H := H1
                            clear H1
                            as_aux_lemma =>
                              obtain rfl := Option.some.inj H
                              go_wp2
                              go_ret
                              exact ⟨by first | rfl | (simp [errW_none, errW_some] <;> rfl) | (simp [*, errW_none, errW_some] <;> rfl), by repeat (first | (with_reducible first | exact HB.out | apply below_alloc | apply pw_below_drewN | apply below_drew1) | exact HB.out)⟩
                          · replace c109 := Bool.eq_false_iff.mpr c109
                            subst c109
                            have H1 : ((spec_DrawCountPrime.f l1).bind fun t463 => ((impl_CountPrime.f kj105 t463).bind fun bt464 => ((spec_CountPrime.f kj105 t463).bind fun bt466 => (if (bt464.2 == bt466.2) = true then (some (bt464.1 == bt466.1)) else (some false))))) = some r := by rw [if_neg (show ¬ (false = true) by decide)] at H; exact H
                            clear H
                            have H := H1
                            clear H1
                            replace H := Option.bind_eq_some_iff.mp H
                            obtain ⟨t463, A1100, H⟩ := H
                            replace H : ((impl_CountPrime.f kj105 t463).bind fun bt464 => ((spec_CountPrime.f kj105 t463).bind fun bt466 => (if (bt464.2 == bt466.2) = true then (some (bt464.1 == bt466.1)) else (some false)))) = some r := H
                            have A110 := Aside0.mk A1100
                            clear A1100
                            replace H := Option.bind_eq_some_iff.mp H
                            obtain ⟨⟨t464, t465⟩, A1110, H⟩ := H
                            replace H : ((spec_CountPrime.f kj105 t463).bind fun bt466 => (if (t465 == bt466.2) = true then (some (t464 == bt466.1)) else (some false))) = some r := H
                            have A111 := Aside0.mk A1110
                            clear A1110
                            replace H := Option.bind_eq_some_iff.mp H
                            obtain ⟨⟨t466, t467⟩, A1120, H⟩ := H
                            replace H : (if (t465 == t467) = true then (some (t464 == t466)) else (some false)) = some r := H
                            have A112 := Aside0.mk A1120
                            clear A1120
                            by_cases c113 : (t465 == t467) = true
                            · rw [if_pos c113] at H
                              have c113b0 : (t465 == t467) = true := c113
                              (try (have c113b1 : decide (t465 = t467) = true := by simpa using c113))
                              (try (have c113b2 : (t465 == t467) = true := by simpa using c113))
                              clear c113
                              as_aux_lemma =>
                                obtain rfl := Option.some.inj H
                                go_wp2_with (first | ((with_reducible refine gate_callee (f := 19) rfl ?_); refine goesL_ (some 226) rfl rfl Try.func19 (by kernel_rfl) rfl #[.slice A1 l1.length c1] rfl (by (try simp only [List.map_toArray, List.map_cons, List.map_nil]); first | done | rfl | (simp only [List.length_drop, List.length_take]; rfl)) ?_; (with_reducible refine (spec_DrawCountPrime.calls _ _ l1 t463 _ ?side1 ?side2 A110.out).mono ?_); (case side1 => repeat (first | exact (Kd.C_below HR1.out HB.out) | (with_reducible refine Kd.C_alloc ?_ _) | (with_reducible refine Kd.C_drewN ?_ _) | (with_reducible refine Kd.C_drew ?_))); (case side2 => exact HC1.out); rintro e w114 ⟨rfl, hb⟩; refine ⟨_, rfl, ?_⟩; have n0_ := Aside0.mk (below_step (by repeat (first | (with_reducible first | exact HB.out | apply below_alloc | apply pw_below_drewN | apply below_drew1) | exact HB.out)) hb); clear HB; have HB := n0_; clear n0_; (try clear hb); (try clear hb2); (try clear hk); (try clear hi)) | ((with_reducible refine gate_callee (f := 18) rfl ?_); refine goesL_ (some 229) rfl rfl Try.func18 (by kernel_rfl) rfl #[.int .i64 t463] rfl (by (try simp only [List.map_toArray, List.map_cons, List.map_nil]); first | done | rfl | (simp only [List.length_drop, List.length_take]; rfl)) ?_; (with_reducible refine (impl_CountPrime.calls kj105 t463 t464 t465 _ A111.out).mono ?_); rintro e w' ⟨rfl, ⟨nd, rfl⟩⟩; refine ⟨_, rfl, ?_⟩) | ((with_reducible refine gate_callee (f := 20) rfl ?_); refine goesL_ (some 234) rfl rfl Try.func20 (by kernel_rfl) rfl #[.int .i64 t463] rfl (by (try simp only [List.map_toArray, List.map_cons, List.map_nil]); first | done | rfl | (simp only [List.length_drop, List.length_take]; rfl)) ?_; (with_reducible refine (spec_CountPrime.calls kj105 t463 t466 t467 _ A112.out).mono ?_); rintro e w' ⟨rfl, ⟨nd, rfl⟩⟩; refine ⟨_, rfl, ?_⟩))
                                go_ret
                                exact ⟨by first | rfl | (simp [errW_none, errW_some] <;> rfl) | (simp [*, errW_none, errW_some] <;> rfl), by repeat (first | (with_reducible first | exact HB.out | apply below_alloc | apply pw_below_drewN | apply below_drew1) | exact HB.out)⟩
                            · rw [if_neg c113] at H
                              have c113b0 : (t465 == t467) = false := by simpa using c113
                              (try (have c113b1 : decide (t465 = t467) = false := by simpa using c113))
                              (try (have c113b2 : (t465 == t467) = false := by simpa using c113))
                              (try (have c113b3 : ¬ (t465 = t467) := by simpa using c113))
                              clear c113
                              as_aux_lemma =>
                                obtain rfl := Option.some.inj H
                                go_wp2_with (first | ((with_reducible refine gate_callee (f := 19) rfl ?_); refine goesL_ (some 226) rfl rfl Try.func19 (by kernel_rfl) rfl #[.slice A1 l1.length c1] rfl (by (try simp only [List.map_toArray, List.map_cons, List.map_nil]); first | done | rfl | (simp only [List.length_drop, List.length_take]; rfl)) ?_; (with_reducible refine (spec_DrawCountPrime.calls _ _ l1 t463 _ ?side1 ?side2 A110.out).mono ?_); (case side1 => repeat (first | exact (Kd.C_below HR1.out HB.out) | (with_reducible refine Kd.C_alloc ?_ _) | (with_reducible refine Kd.C_drewN ?_ _) | (with_reducible refine Kd.C_drew ?_))); (case side2 => exact HC1.out); rintro e w115 ⟨rfl, hb⟩; refine ⟨_, rfl, ?_⟩; have n0_ := Aside0.mk (below_step (by repeat (first | (with_reducible first | exact HB.out | apply below_alloc | apply pw_below_drewN | apply below_drew1) | exact HB.out)) hb); clear HB; have HB := n0_; clear n0_; (try clear hb); (try clear hb2); (try clear hk); (try clear hi)) | ((with_reducible refine gate_callee (f := 18) rfl ?_); refine goesL_ (some 229) rfl rfl Try.func18 (by kernel_rfl) rfl #[.int .i64 t463] rfl (by (try simp only [List.map_toArray, List.map_cons, List.map_nil]); first | done | rfl | (simp only [List.length_drop, List.length_take]; rfl)) ?_; (with_reducible refine (impl_CountPrime.calls kj105 t463 t464 t465 _ A111.out).mono ?_); rintro e w' ⟨rfl, ⟨nd, rfl⟩⟩; refine ⟨_, rfl, ?_⟩) | ((with_reducible refine gate_callee (f := 20) rfl ?_); refine goesL_ (some 234) rfl rfl Try.func20 (by kernel_rfl) rfl #[.int .i64 t463] rfl (by (try simp only [List.map_toArray, List.map_cons, List.map_nil]); first | done | rfl | (simp only [List.length_drop, List.length_take]; rfl)) ?_; (with_reducible refine (spec_CountPrime.calls kj105 t463 t466 t467 _ A112.out).mono ?_); rintro e w' ⟨rfl, ⟨nd, rfl⟩⟩; refine ⟨_, rfl, ?_⟩))
                                go_ret
                                exact ⟨by first | rfl | (simp [errW_none, errW_some] <;> rfl) | (simp [*, errW_none, errW_some] <;> rfl), by repeat (first | (with_reducible first | exact HB.out | apply below_alloc | apply pw_below_drewN | apply below_drew1) | exact HB.out)⟩
                    · replace c104 := Bool.eq_false_iff.mpr c104
                      subst c104
                      have H1 : ((spec_DrawCountPrime.f l1).bind fun t468 => ((impl_CountPrime.f kj94 t468).bind fun bt469 => ((spec_CountPrime.f kj94 t468).bind fun bt471 => (if (bt469.2 == bt471.2) = true then (some (bt469.1 == bt471.1)) else (some false))))) = some r := by rw [if_neg (show ¬ (false = true) by decide)] at H; exact H
                      clear H
                      have H := H1
                      clear H1
                      replace H := Option.bind_eq_some_iff.mp H
                      obtain ⟨t468, A1160, H⟩ := H
                      replace H : ((impl_CountPrime.f kj94 t468).bind fun bt469 => ((spec_CountPrime.f kj94 t468).bind fun bt471 => (if (bt469.2 == bt471.2) = true then (some (bt469.1 == bt471.1)) else (some false)))) = some r := H
                      have A116 := Aside0.mk A1160
                      clear A1160
                      replace H := Option.bind_eq_some_iff.mp H
                      obtain ⟨⟨t469, t470⟩, A1170, H⟩ := H
                      replace H : ((spec_CountPrime.f kj94 t468).bind fun bt471 => (if (t470 == bt471.2) = true then (some (t469 == bt471.1)) else (some false))) = some r := H
                      have A117 := Aside0.mk A1170
                      clear A1170
                      replace H := Option.bind_eq_some_iff.mp H
                      obtain ⟨⟨t471, t472⟩, A1180, H⟩ := H
                      replace H : (if (t470 == t472) = true then (some (t469 == t471)) else (some false)) = some r := H
                      have A118 := Aside0.mk A1180
                      clear A1180
                      by_cases c119 : (t470 == t472) = true
                      · rw [if_pos c119] at H
                        have c119b0 : (t470 == t472) = true := c119
                        (try (have c119b1 : decide (t470 = t472) = true := by simpa using c119))
                        (try (have c119b2 : (t470 == t472) = true := by simpa using c119))
                        clear c119
                        as_aux_lemma =>
                          obtain rfl := Option.some.inj H
                          go_wp2_with (first | ((with_reducible refine gate_callee (f := 19) rfl ?_); refine goesL_ (some 226) rfl rfl Try.func19 (by kernel_rfl) rfl #[.slice A1 l1.length c1] rfl (by (try simp only [List.map_toArray, List.map_cons, List.map_nil]); first | done | rfl | (simp only [List.length_drop, List.length_take]; rfl)) ?_; (with_reducible refine (spec_DrawCountPrime.calls _ _ l1 t468 _ ?side1 ?side2 A116.out).mono ?_); (case side1 => repeat (first | exact (Kd.C_below HR1.out HB.out) | (with_reducible refine Kd.C_alloc ?_ _) | (with_reducible refine Kd.C_drewN ?_ _) | (with_reducible refine Kd.C_drew ?_))); (case side2 => exact HC1.out); rintro e w120 ⟨rfl, hb⟩; refine ⟨_, rfl, ?_⟩; have n0_ := Aside0.mk (Kd.N_below (by (with_reducible repeat (first | apply Kd.N_alloc | apply Kd.N_drewN | apply Kd.N_drew)); exact HO_28.out) hb); have n1_ := Aside0.mk (below_step (by repeat (first | (with_reducible first | exact HB.out | apply below_alloc | apply pw_below_drewN | apply below_drew1) | exact HB.out)) hb); clear HO_28; clear HB; have HO_28 := n0_; have HB := n1_; clear n0_ n1_; (try clear hb); (try clear hb2); (try clear hk); (try clear hi)) | ((with_reducible refine gate_callee (f := 18) rfl ?_); refine goesL_ (some 229) rfl rfl Try.func18 (by kernel_rfl) rfl #[.int .i64 t468] rfl (by (try simp only [List.map_toArray, List.map_cons, List.map_nil]); first | done | rfl | (simp only [List.length_drop, List.length_take]; rfl)) ?_; (with_reducible refine (impl_CountPrime.calls kj94 t468 t469 t470 _ A117.out).mono ?_); rintro e w' ⟨rfl, ⟨nd, rfl⟩⟩; refine ⟨_, rfl, ?_⟩) | ((with_reducible refine gate_callee (f := 20) rfl ?_); refine goesL_ (some 234) rfl rfl Try.func20 (by kernel_rfl) rfl #[.int .i64 t468] rfl (by (try simp only [List.map_toArray, List.map_cons, List.map_nil]); first | done | rfl | (simp only [List.length_drop, List.length_take]; rfl)) ?_; (with_reducible refine (spec_CountPrime.calls kj94 t468 t471 t472 _ A118.out).mono ?_); rintro e w' ⟨rfl, ⟨nd, rfl⟩⟩; refine ⟨_, rfl, ?_⟩))
                          go_ret
                          exact ⟨by first | rfl | (simp [errW_none, errW_some] <;> rfl) | (simp [*, errW_none, errW_some] <;> rfl), by repeat (first | (with_reducible first | exact HB.out | apply below_alloc | apply pw_below_drewN | apply below_drew1) | exact HB.out)⟩
                      · rw [if_neg c119] at H
                        have c119b0 : (t470 == t472) = false := by simpa using c119
                        (try (have c119b1 : decide (t470 = t472) = false := by simpa using c119))
                        (try (have c119b2 : (t470 == t472) = false := by simpa using c119))
                        (try (have c119b3 : ¬ (t470 = t472) := by simpa using c119))
                        clear c119
                        as_aux_lemma =>
                          obtain rfl := Option.some.inj H
                          go_wp2_with (first | ((with_reducible refine gate_callee (f := 19) rfl ?_); refine goesL_ (some 226) rfl rfl Try.func19 (by kernel_rfl) rfl #[.slice A1 l1.length c1] rfl (by (try simp only [List.map_toArray, List.map_cons, List.map_nil]); first | done | rfl | (simp only [List.length_drop, List.length_take]; rfl)) ?_; (with_reducible refine (spec_DrawCountPrime.calls _ _ l1 t468 _ ?side1 ?side2 A116.out).mono ?_); (case side1 => repeat (first | exact (Kd.C_below HR1.out HB.out) | (with_reducible refine Kd.C_alloc ?_ _) | (with_reducible refine Kd.C_drewN ?_ _) | (with_reducible refine Kd.C_drew ?_))); (case side2 => exact HC1.out); rintro e w121 ⟨rfl, hb⟩; refine ⟨_, rfl, ?_⟩; have n0_ := Aside0.mk (Kd.N_below (by (with_reducible repeat (first | apply Kd.N_alloc | apply Kd.N_drewN | apply Kd.N_drew)); exact HO_28.out) hb); have n1_ := Aside0.mk (below_step (by repeat (first | (with_reducible first | exact HB.out | apply below_alloc | apply pw_below_drewN | apply below_drew1) | exact HB.out)) hb); clear HO_28; clear HB; have HO_28 := n0_; have HB := n1_; clear n0_ n1_; (try clear hb); (try clear hb2); (try clear hk); (try clear hi)) | ((with_reducible refine gate_callee (f := 18) rfl ?_); refine goesL_ (some 229) rfl rfl Try.func18 (by kernel_rfl) rfl #[.int .i64 t468] rfl (by (try simp only [List.map_toArray, List.map_cons, List.map_nil]); first | done | rfl | (simp only [List.length_drop, List.length_take]; rfl)) ?_; (with_reducible refine (impl_CountPrime.calls kj94 t468 t469 t470 _ A117.out).mono ?_); rintro e w' ⟨rfl, ⟨nd, rfl⟩⟩; refine ⟨_, rfl, ?_⟩) | ((with_reducible refine gate_callee (f := 20) rfl ?_); refine goesL_ (some 234) rfl rfl Try.func20 (by kernel_rfl) rfl #[.int .i64 t468] rfl (by (try simp only [List.map_toArray, List.map_cons, List.map_nil]); first | done | rfl | (simp only [List.length_drop, List.length_take]; rfl)) ?_; (with_reducible refine (spec_CountPrime.calls kj94 t468 t471 t472 _ A118.out).mono ?_); rintro e w' ⟨rfl, ⟨nd, rfl⟩⟩; refine ⟨_, rfl, ?_⟩))
                          go_ret
                          exact ⟨by first | rfl | (simp [errW_none, errW_some] <;> rfl) | (simp [*, errW_none, errW_some] <;> rfl), by repeat (first | (with_reducible first | exact HB.out | apply below_alloc | apply pw_below_drewN | apply below_drew1) | exact HB.out)⟩

/-- THE ONE PURE STATEMENT of laws_FnPrimeParts: yours. -/
def laws_FnPrimeParts.Pure : Prop := ∀ (l0 : List Int) (l1 : List Int), l0.length ≤ maxLen → l0.length * 1 ≤ 140737488351232 → (∀ x ∈ l0, (Lit.int .u8 x).wf = true) → l1.length ≤ maxLen → l1.length * 1 ≤ 140737488351232 → (∀ x ∈ l1, (Lit.int .u8 x).wf = true) → ∃ k, laws_FnPrimeParts.f k l0 l1 = some true
theorem laws_FnPrimeParts.walk (P : laws_FnPrimeParts.Pure) (a0 : Option Addr) (len0 cap0 : Nat) (z0 : List Int) (a1 : Option Addr) (len1 cap1 : Nat) (z1 : List Int) (w : World) (w0 : (a0 = none ∧ len0 = 0 ∧ cap0 = 0 ∧ z0 = []) ∨ ∃ x, a0 = some x ∧ len0 ≤ cap0 ∧ cap0 ≤ maxLen ∧ z0.length = cap0 ∧ (∀ i, i < z0.length → w.cell? (x.add i) = some (.int .u8 (z0.getD i 0))) ∧ ∀ n ∈ z0, (Lit.int .u8 n).wf = true) (y0 : len0 * 1 ≤ 140737488351232) (w1 : (a1 = none ∧ len1 = 0 ∧ cap1 = 0 ∧ z1 = []) ∨ ∃ x, a1 = some x ∧ len1 ≤ cap1 ∧ cap1 ≤ maxLen ∧ z1.length = cap1 ∧ (∀ i, i < z1.length → w.cell? (x.add i) = some (.int .u8 (z1.getD i 0))) ∧ ∀ n ∈ z1, (Lit.int .u8 n).wf = true) (y1 : len1 * 1 ≤ 140737488351232) :
    Calls Try.prog 3 #[.slice a0 len0 cap0, .slice a1 len1 cap1] w fun e w' => e = .returned (.bool true) ∧ Below w.heap.size w w' := by
  obtain ⟨l0, rfl, hr0, hm0, hw0, hc0⟩ := ReadsInt.ofRowC w0
  obtain ⟨l1, rfl, hr1, hm1, hw1, hc1⟩ := ReadsInt.ofRowC w1
  obtain ⟨k, h⟩ := P l0 l1 hm0 y0 hw0 hm1 y1 hw1
  refine (laws_FnPrimeParts.calls k _ _ l0 _ _ l1 true w (Kd.C_of_reads (d := (0 : Int)) (h1 := fun _ => rfl) hr0) hc0 (Kd.C_of_reads (d := (0 : Int)) (h1 := fun _ => rfl) hr1) hc1 h).mono ?_
  rintro e w' ⟨rfl, hd⟩
  exact ⟨rfl, hd⟩

end Go.Proofs.Ytcfolhafjeefaaa.PAll
