-- written by a program of this session (wip/gen/xpatch.py over the translation); Lean checks it
import Derived.Test.YtajcjlflajfdkaaPAllx0
import Derived.Test.YtajcjlflajfdkaaPAllx1
import Derived.Test.YtajcjlflajfdkaaPAllx2
import Derived.Test.YtajcjlflajfdkaaPAllx3
import Derived.Test.YtajcjlflajfdkaaPAllx5
import Derived.Test.YtajcjlflajfdkaaPAllx6
namespace Go.Proofs.Ytajcjlflajfdkaa.PAll
open Go.RowKit Go.Proofs.Ytajcjlflajfdkaa.Hand Go.Proofs.YtajcjlflajfdkaaW.PrintWords Go.Proofs.YtajcjlflajfdkaaW.PrintLast Go.Proofs.YtajcjlflajfdkaaW.PrintMore
attribute [local go_sem] max2_int min2_int max_two min_two max_three min_three max_four min_four   -- for this text's walks alone
set_option linter.unusedVariables false
set_option linter.unusedSimpArgs false

/-! ### laws_FnSlopeWalks: function 3 -/
mutual
def laws_FnSlopeWalks.j0 : Nat → List Int → Int → Int → Int → Bool → Bool → Option (Bool)
  | 0, _, _, _, _, _, _ => none
  | k + 1, x1, x5, x6, x11, x12, x94 => if x94 = true then (some false) else (if x12 = true then ((impl_CountSlopeWalks.f k x6 x5).bind fun bt494 => (if bt494.2 = true then (if bt494.1 = x11 then (laws_FnSlopeWalks.j1 k x1) else (some false)) else (laws_FnSlopeWalks.j1 k x1))) else (laws_FnSlopeWalks.j1 k x1))
def laws_FnSlopeWalks.j1 : Nat → List Int → Option (Bool)
  | 0, _ => none
  | k + 1, x1 => (spec_DrawTurnSlopeWalk.f k x1).bind fun bt496 => ((impl_TurnSlopeWalk.f k bt496.1 bt496.2).bind fun bt500 => ((spec_TurnSlopeWalk.f k bt496.1 bt496.2).bind fun bt504 => ((impl_LevelsOfWalk.f k bt496.1 bt496.2).bind fun bt508 => ((spec_LevelsOfWalk.f k bt496.1 bt496.2).bind fun bt512 => (if (bt500.2 != bt504.2) = true then (laws_FnSlopeWalks.j2 k bt496.1 bt496.2 bt500.1 bt500.2 bt508.1 true) else ((laws_wSame.f k bt500.1 bt504.1).bind fun t516 => (if t516 = true then (if (bt508.2 != bt512.2) = true then (laws_FnSlopeWalks.j2 k bt496.1 bt496.2 bt500.1 bt500.2 bt508.1 true) else ((laws_wSame.f k bt508.1 bt512.1).bind fun t517 => (laws_FnSlopeWalks.j2 k bt496.1 bt496.2 bt500.1 bt500.2 bt508.1 (!t517)))) else (laws_FnSlopeWalks.j2 k bt496.1 bt496.2 bt500.1 bt500.2 bt508.1 true))))))))
def laws_FnSlopeWalks.j2 : Nat → List Int → Int → List Int → Bool → List Int → Bool → Option (Bool)
  | 0, _, _, _, _, _, _ => none
  | k + 1, x17, x18, x19, x20, x23, x156 => if x156 = true then (some false) else (if x20 = true then ((impl_TurnSlopeWalk.f k x19 (x17.length : Int)).bind fun bt518 => ((impl_SlopeArea.f k x17 x18).bind fun bt522 => ((impl_SlopeArea.f k x19 (x17.length : Int)).bind fun bt524 => (if bt518.2 = true then (if bt522.2 = true then (if bt524.2 = true then ((laws_wSame.f k bt518.1 x17).bind fun t526 => (if t526 = true then (if bt522.1 = bt524.1 then (laws_FnSlopeWalks.j3 k x23) else (some false)) else (some false))) else (some false)) else (some false)) else (some false))))) else (laws_FnSlopeWalks.j3 k x23))
def laws_FnSlopeWalks.j3 : Nat → List Int → Option (Bool)
  | 0, _ => none
  | k + 1, x23 => laws_FnSlopeWalks.l0 k x23 x23 (x23.length : Int) 0
def laws_FnSlopeWalks.l0 : Nat → List Int → List Int → Int → Int → Option (Bool)
  | 0, _, _, _, _ => none
  | k + 1, x23, x199, x200, x201 => if x201 < x200 then (if 0 ≤ x201 then (if x201 < (x199.length : Int) then (if (rd x199 x201) < 0 then (some false) else (if x201 ≤ (x23.length : Int) then ((laws_wHas.f k (x23.take (x201 : Int).toNat) (rd x199 x201)).bind fun t532 => (if t532 = true then (some false) else (laws_FnSlopeWalks.l0 k x23 x199 x200 (wrap64 (x201 + 1))))) else (none))) else (none)) else (none)) else (some true)
end
def laws_FnSlopeWalks.f (k : Nat) (l0 : List Int) (l1 : List Int) : Option (Bool) := (laws_big.f l0 l1).bind fun t478 => (if t478 = true then (some true) else ((spec_DrawAllSlopeWalks.f k l0).bind fun bt479 => ((impl_AllSlopeWalks.f k bt479.1 bt479.2).bind fun bt481 => ((spec_AllSlopeWalks.f k bt479.1 bt479.2).bind fun bt485 => ((impl_CountSlopeWalks.f k bt479.1 bt479.2).bind fun bt489 => ((spec_CountSlopeWalks.f k bt479.1 bt479.2).bind fun bt491 => (if (bt481.2 != bt485.2) = true then (laws_FnSlopeWalks.j0 k l1 bt479.1 bt479.2 bt489.1 bt489.2 true) else ((laws_wSameLists.f k bt481.1 bt485.1).bind fun t493 => (if t493 = true then (if (bt489.2 != bt491.2) = true then (laws_FnSlopeWalks.j0 k l1 bt479.1 bt479.2 bt489.1 bt489.2 true) else (if bt489.1 = bt491.1 then (if bt481.2 = true then (laws_FnSlopeWalks.j0 k l1 bt479.1 bt479.2 bt489.1 bt489.2 (bt489.1 != (bt481.1.length : Int))) else (laws_FnSlopeWalks.j0 k l1 bt479.1 bt479.2 bt489.1 bt489.2 false)) else (laws_FnSlopeWalks.j0 k l1 bt479.1 bt479.2 bt489.1 bt489.2 true))) else (laws_FnSlopeWalks.j0 k l1 bt479.1 bt479.2 bt489.1 bt489.2 true))))))))))
theorem laws_FnSlopeWalks.mono_l : ∀ k, (∀ y0 y1 y2 y3 y4 y5, LeO (laws_FnSlopeWalks.j0 k y0 y1 y2 y3 y4 y5) (laws_FnSlopeWalks.j0 (k + 1) y0 y1 y2 y3 y4 y5)) ∧ (∀ y0, LeO (laws_FnSlopeWalks.j1 k y0) (laws_FnSlopeWalks.j1 (k + 1) y0)) ∧ (∀ y0 y1 y2 y3 y4 y5, LeO (laws_FnSlopeWalks.j2 k y0 y1 y2 y3 y4 y5) (laws_FnSlopeWalks.j2 (k + 1) y0 y1 y2 y3 y4 y5)) ∧ (∀ y0, LeO (laws_FnSlopeWalks.j3 k y0) (laws_FnSlopeWalks.j3 (k + 1) y0)) ∧ (∀ y0 y1 y2 y3, LeO (laws_FnSlopeWalks.l0 k y0 y1 y2 y3) (laws_FnSlopeWalks.l0 (k + 1) y0 y1 y2 y3))
  | 0 => ⟨fun _ _ _ _ _ _ r h => by simp [laws_FnSlopeWalks.j0] at h, fun _ r h => by simp [laws_FnSlopeWalks.j1] at h, fun _ _ _ _ _ _ r h => by simp [laws_FnSlopeWalks.j2] at h, fun _ r h => by simp [laws_FnSlopeWalks.j3] at h, fun _ _ _ _ r h => by simp [laws_FnSlopeWalks.l0] at h⟩
  | k + 1 => by
    obtain ⟨ih0, ih1, ih2, ih3, ih4⟩ := laws_FnSlopeWalks.mono_l k
    refine ⟨?_, ?_, ?_, ?_, ?_⟩
    · intro y0 y1 y2 y3 y4 y5
      unfold laws_FnSlopeWalks.j0
      repeat' first
      | (with_reducible exact ih0 _ _ _ _ _ _)
      | (with_reducible exact ih1 _)
      | (with_reducible exact ih2 _ _ _ _ _ _)
      | (with_reducible exact ih3 _)
      | (with_reducible exact ih4 _ _ _ _)
      | (with_reducible exact impl_AllSlopeWalks.mono _ _ _)
      | (with_reducible exact impl_CountSlopeWalks.mono _ _ _)
      | (with_reducible exact impl_LevelsOfWalk.mono _ _ _)
      | (with_reducible exact impl_SlopeArea.mono _ _ _)
      | (with_reducible exact impl_TurnSlopeWalk.mono _ _ _)
      | (with_reducible exact laws_wHas.mono _ _ _)
      | (with_reducible exact laws_wSame.mono _ _ _)
      | (with_reducible exact laws_wSameLists.mono _ _ _)
      | (with_reducible exact spec_AllSlopeWalks.mono _ _ _)
      | (with_reducible exact spec_CountSlopeWalks.mono _ _ _)
      | (with_reducible exact spec_DrawAllSlopeWalks.mono _ _)
      | (with_reducible exact spec_DrawTurnSlopeWalk.mono _ _)
      | (with_reducible exact spec_LevelsOfWalk.mono _ _ _)
      | (with_reducible exact spec_TurnSlopeWalk.mono _ _ _)
      | (with_reducible exact LeO.refl _)
      | (with_reducible exact LeO.none _)
      | (with_reducible refine LeO.ite ?_ ?_)
      | (with_reducible refine LeO.bind ?_ (fun _ => ?_))
      | exact ih0 _ _ _ _ _ _
      | exact ih1 _
      | exact ih2 _ _ _ _ _ _
      | exact ih3 _
      | exact ih4 _ _ _ _
      | exact impl_AllSlopeWalks.mono _ _ _
      | exact impl_CountSlopeWalks.mono _ _ _
      | exact impl_LevelsOfWalk.mono _ _ _
      | exact impl_SlopeArea.mono _ _ _
      | exact impl_TurnSlopeWalk.mono _ _ _
      | exact laws_wHas.mono _ _ _
      | exact laws_wSame.mono _ _ _
      | exact laws_wSameLists.mono _ _ _
      | exact spec_AllSlopeWalks.mono _ _ _
      | exact spec_CountSlopeWalks.mono _ _ _
      | exact spec_DrawAllSlopeWalks.mono _ _
      | exact spec_DrawTurnSlopeWalk.mono _ _
      | exact spec_LevelsOfWalk.mono _ _ _
      | exact spec_TurnSlopeWalk.mono _ _ _
      | exact LeO.none _
      | refine LeO.ite ?_ ?_
      | refine LeO.bind ?_ (fun _ => ?_)
    · intro y0
      unfold laws_FnSlopeWalks.j1
      repeat' first
      | (with_reducible exact ih0 _ _ _ _ _ _)
      | (with_reducible exact ih1 _)
      | (with_reducible exact ih2 _ _ _ _ _ _)
      | (with_reducible exact ih3 _)
      | (with_reducible exact ih4 _ _ _ _)
      | (with_reducible exact impl_AllSlopeWalks.mono _ _ _)
      | (with_reducible exact impl_CountSlopeWalks.mono _ _ _)
      | (with_reducible exact impl_LevelsOfWalk.mono _ _ _)
      | (with_reducible exact impl_SlopeArea.mono _ _ _)
      | (with_reducible exact impl_TurnSlopeWalk.mono _ _ _)
      | (with_reducible exact laws_wHas.mono _ _ _)
      | (with_reducible exact laws_wSame.mono _ _ _)
      | (with_reducible exact laws_wSameLists.mono _ _ _)
      | (with_reducible exact spec_AllSlopeWalks.mono _ _ _)
      | (with_reducible exact spec_CountSlopeWalks.mono _ _ _)
      | (with_reducible exact spec_DrawAllSlopeWalks.mono _ _)
      | (with_reducible exact spec_DrawTurnSlopeWalk.mono _ _)
      | (with_reducible exact spec_LevelsOfWalk.mono _ _ _)
      | (with_reducible exact spec_TurnSlopeWalk.mono _ _ _)
      | (with_reducible exact LeO.refl _)
      | (with_reducible exact LeO.none _)
      | (with_reducible refine LeO.ite ?_ ?_)
      | (with_reducible refine LeO.bind ?_ (fun _ => ?_))
      | exact ih0 _ _ _ _ _ _
      | exact ih1 _
      | exact ih2 _ _ _ _ _ _
      | exact ih3 _
      | exact ih4 _ _ _ _
      | exact impl_AllSlopeWalks.mono _ _ _
      | exact impl_CountSlopeWalks.mono _ _ _
      | exact impl_LevelsOfWalk.mono _ _ _
      | exact impl_SlopeArea.mono _ _ _
      | exact impl_TurnSlopeWalk.mono _ _ _
      | exact laws_wHas.mono _ _ _
      | exact laws_wSame.mono _ _ _
      | exact laws_wSameLists.mono _ _ _
      | exact spec_AllSlopeWalks.mono _ _ _
      | exact spec_CountSlopeWalks.mono _ _ _
      | exact spec_DrawAllSlopeWalks.mono _ _
      | exact spec_DrawTurnSlopeWalk.mono _ _
      | exact spec_LevelsOfWalk.mono _ _ _
      | exact spec_TurnSlopeWalk.mono _ _ _
      | exact LeO.none _
      | refine LeO.ite ?_ ?_
      | refine LeO.bind ?_ (fun _ => ?_)
    · intro y0 y1 y2 y3 y4 y5
      unfold laws_FnSlopeWalks.j2
      repeat' first
      | (with_reducible exact ih0 _ _ _ _ _ _)
      | (with_reducible exact ih1 _)
      | (with_reducible exact ih2 _ _ _ _ _ _)
      | (with_reducible exact ih3 _)
      | (with_reducible exact ih4 _ _ _ _)
      | (with_reducible exact impl_AllSlopeWalks.mono _ _ _)
      | (with_reducible exact impl_CountSlopeWalks.mono _ _ _)
      | (with_reducible exact impl_LevelsOfWalk.mono _ _ _)
      | (with_reducible exact impl_SlopeArea.mono _ _ _)
      | (with_reducible exact impl_TurnSlopeWalk.mono _ _ _)
      | (with_reducible exact laws_wHas.mono _ _ _)
      | (with_reducible exact laws_wSame.mono _ _ _)
      | (with_reducible exact laws_wSameLists.mono _ _ _)
      | (with_reducible exact spec_AllSlopeWalks.mono _ _ _)
      | (with_reducible exact spec_CountSlopeWalks.mono _ _ _)
      | (with_reducible exact spec_DrawAllSlopeWalks.mono _ _)
      | (with_reducible exact spec_DrawTurnSlopeWalk.mono _ _)
      | (with_reducible exact spec_LevelsOfWalk.mono _ _ _)
      | (with_reducible exact spec_TurnSlopeWalk.mono _ _ _)
      | (with_reducible exact LeO.refl _)
      | (with_reducible exact LeO.none _)
      | (with_reducible refine LeO.ite ?_ ?_)
      | (with_reducible refine LeO.bind ?_ (fun _ => ?_))
      | exact ih0 _ _ _ _ _ _
      | exact ih1 _
      | exact ih2 _ _ _ _ _ _
      | exact ih3 _
      | exact ih4 _ _ _ _
      | exact impl_AllSlopeWalks.mono _ _ _
      | exact impl_CountSlopeWalks.mono _ _ _
      | exact impl_LevelsOfWalk.mono _ _ _
      | exact impl_SlopeArea.mono _ _ _
      | exact impl_TurnSlopeWalk.mono _ _ _
      | exact laws_wHas.mono _ _ _
      | exact laws_wSame.mono _ _ _
      | exact laws_wSameLists.mono _ _ _
      | exact spec_AllSlopeWalks.mono _ _ _
      | exact spec_CountSlopeWalks.mono _ _ _
      | exact spec_DrawAllSlopeWalks.mono _ _
      | exact spec_DrawTurnSlopeWalk.mono _ _
      | exact spec_LevelsOfWalk.mono _ _ _
      | exact spec_TurnSlopeWalk.mono _ _ _
      | exact LeO.none _
      | refine LeO.ite ?_ ?_
      | refine LeO.bind ?_ (fun _ => ?_)
    · intro y0
      unfold laws_FnSlopeWalks.j3
      repeat' first
      | (with_reducible exact ih0 _ _ _ _ _ _)
      | (with_reducible exact ih1 _)
      | (with_reducible exact ih2 _ _ _ _ _ _)
      | (with_reducible exact ih3 _)
      | (with_reducible exact ih4 _ _ _ _)
      | (with_reducible exact impl_AllSlopeWalks.mono _ _ _)
      | (with_reducible exact impl_CountSlopeWalks.mono _ _ _)
      | (with_reducible exact impl_LevelsOfWalk.mono _ _ _)
      | (with_reducible exact impl_SlopeArea.mono _ _ _)
      | (with_reducible exact impl_TurnSlopeWalk.mono _ _ _)
      | (with_reducible exact laws_wHas.mono _ _ _)
      | (with_reducible exact laws_wSame.mono _ _ _)
      | (with_reducible exact laws_wSameLists.mono _ _ _)
      | (with_reducible exact spec_AllSlopeWalks.mono _ _ _)
      | (with_reducible exact spec_CountSlopeWalks.mono _ _ _)
      | (with_reducible exact spec_DrawAllSlopeWalks.mono _ _)
      | (with_reducible exact spec_DrawTurnSlopeWalk.mono _ _)
      | (with_reducible exact spec_LevelsOfWalk.mono _ _ _)
      | (with_reducible exact spec_TurnSlopeWalk.mono _ _ _)
      | (with_reducible exact LeO.refl _)
      | (with_reducible exact LeO.none _)
      | (with_reducible refine LeO.ite ?_ ?_)
      | (with_reducible refine LeO.bind ?_ (fun _ => ?_))
      | exact ih0 _ _ _ _ _ _
      | exact ih1 _
      | exact ih2 _ _ _ _ _ _
      | exact ih3 _
      | exact ih4 _ _ _ _
      | exact impl_AllSlopeWalks.mono _ _ _
      | exact impl_CountSlopeWalks.mono _ _ _
      | exact impl_LevelsOfWalk.mono _ _ _
      | exact impl_SlopeArea.mono _ _ _
      | exact impl_TurnSlopeWalk.mono _ _ _
      | exact laws_wHas.mono _ _ _
      | exact laws_wSame.mono _ _ _
      | exact laws_wSameLists.mono _ _ _
      | exact spec_AllSlopeWalks.mono _ _ _
      | exact spec_CountSlopeWalks.mono _ _ _
      | exact spec_DrawAllSlopeWalks.mono _ _
      | exact spec_DrawTurnSlopeWalk.mono _ _
      | exact spec_LevelsOfWalk.mono _ _ _
      | exact spec_TurnSlopeWalk.mono _ _ _
      | exact LeO.none _
      | refine LeO.ite ?_ ?_
      | refine LeO.bind ?_ (fun _ => ?_)
    · intro y0 y1 y2 y3
      unfold laws_FnSlopeWalks.l0
      repeat' first
      | (with_reducible exact ih0 _ _ _ _ _ _)
      | (with_reducible exact ih1 _)
      | (with_reducible exact ih2 _ _ _ _ _ _)
      | (with_reducible exact ih3 _)
      | (with_reducible exact ih4 _ _ _ _)
      | (with_reducible exact impl_AllSlopeWalks.mono _ _ _)
      | (with_reducible exact impl_CountSlopeWalks.mono _ _ _)
      | (with_reducible exact impl_LevelsOfWalk.mono _ _ _)
      | (with_reducible exact impl_SlopeArea.mono _ _ _)
      | (with_reducible exact impl_TurnSlopeWalk.mono _ _ _)
      | (with_reducible exact laws_wHas.mono _ _ _)
      | (with_reducible exact laws_wSame.mono _ _ _)
      | (with_reducible exact laws_wSameLists.mono _ _ _)
      | (with_reducible exact spec_AllSlopeWalks.mono _ _ _)
      | (with_reducible exact spec_CountSlopeWalks.mono _ _ _)
      | (with_reducible exact spec_DrawAllSlopeWalks.mono _ _)
      | (with_reducible exact spec_DrawTurnSlopeWalk.mono _ _)
      | (with_reducible exact spec_LevelsOfWalk.mono _ _ _)
      | (with_reducible exact spec_TurnSlopeWalk.mono _ _ _)
      | (with_reducible exact LeO.refl _)
      | (with_reducible exact LeO.none _)
      | (with_reducible refine LeO.ite ?_ ?_)
      | (with_reducible refine LeO.bind ?_ (fun _ => ?_))
      | exact ih0 _ _ _ _ _ _
      | exact ih1 _
      | exact ih2 _ _ _ _ _ _
      | exact ih3 _
      | exact ih4 _ _ _ _
      | exact impl_AllSlopeWalks.mono _ _ _
      | exact impl_CountSlopeWalks.mono _ _ _
      | exact impl_LevelsOfWalk.mono _ _ _
      | exact impl_SlopeArea.mono _ _ _
      | exact impl_TurnSlopeWalk.mono _ _ _
      | exact laws_wHas.mono _ _ _
      | exact laws_wSame.mono _ _ _
      | exact laws_wSameLists.mono _ _ _
      | exact spec_AllSlopeWalks.mono _ _ _
      | exact spec_CountSlopeWalks.mono _ _ _
      | exact spec_DrawAllSlopeWalks.mono _ _
      | exact spec_DrawTurnSlopeWalk.mono _ _
      | exact spec_LevelsOfWalk.mono _ _ _
      | exact spec_TurnSlopeWalk.mono _ _ _
      | exact LeO.none _
      | refine LeO.ite ?_ ?_
      | refine LeO.bind ?_ (fun _ => ?_)
theorem laws_FnSlopeWalks.mono : ∀ a0 a1 k, LeO (laws_FnSlopeWalks.f k a0 a1) (laws_FnSlopeWalks.f (k + 1) a0 a1) := by
  intro a0 a1 k
  obtain ⟨ih0, ih1, ih2, ih3, ih4⟩ := laws_FnSlopeWalks.mono_l k
  unfold laws_FnSlopeWalks.f
  repeat' first
      | (with_reducible exact ih0 _ _ _ _ _ _)
      | (with_reducible exact ih1 _)
      | (with_reducible exact ih2 _ _ _ _ _ _)
      | (with_reducible exact ih3 _)
      | (with_reducible exact ih4 _ _ _ _)
      | (with_reducible exact impl_AllSlopeWalks.mono _ _ _)
      | (with_reducible exact impl_CountSlopeWalks.mono _ _ _)
      | (with_reducible exact impl_LevelsOfWalk.mono _ _ _)
      | (with_reducible exact impl_SlopeArea.mono _ _ _)
      | (with_reducible exact impl_TurnSlopeWalk.mono _ _ _)
      | (with_reducible exact laws_wHas.mono _ _ _)
      | (with_reducible exact laws_wSame.mono _ _ _)
      | (with_reducible exact laws_wSameLists.mono _ _ _)
      | (with_reducible exact spec_AllSlopeWalks.mono _ _ _)
      | (with_reducible exact spec_CountSlopeWalks.mono _ _ _)
      | (with_reducible exact spec_DrawAllSlopeWalks.mono _ _)
      | (with_reducible exact spec_DrawTurnSlopeWalk.mono _ _)
      | (with_reducible exact spec_LevelsOfWalk.mono _ _ _)
      | (with_reducible exact spec_TurnSlopeWalk.mono _ _ _)
      | (with_reducible exact LeO.refl _)
      | (with_reducible exact LeO.none _)
      | (with_reducible refine LeO.ite ?_ ?_)
      | (with_reducible refine LeO.bind ?_ (fun _ => ?_))
      | exact ih0 _ _ _ _ _ _
      | exact ih1 _
      | exact ih2 _ _ _ _ _ _
      | exact ih3 _
      | exact ih4 _ _ _ _
      | exact impl_AllSlopeWalks.mono _ _ _
      | exact impl_CountSlopeWalks.mono _ _ _
      | exact impl_LevelsOfWalk.mono _ _ _
      | exact impl_SlopeArea.mono _ _ _
      | exact impl_TurnSlopeWalk.mono _ _ _
      | exact laws_wHas.mono _ _ _
      | exact laws_wSame.mono _ _ _
      | exact laws_wSameLists.mono _ _ _
      | exact spec_AllSlopeWalks.mono _ _ _
      | exact spec_CountSlopeWalks.mono _ _ _
      | exact spec_DrawAllSlopeWalks.mono _ _
      | exact spec_DrawTurnSlopeWalk.mono _ _
      | exact spec_LevelsOfWalk.mono _ _ _
      | exact spec_TurnSlopeWalk.mono _ _ _
      | exact LeO.none _
      | refine LeO.ite ?_ ?_
      | refine LeO.bind ?_ (fun _ => ?_)
set_option maxHeartbeats 8000000 in
set_option maxRecDepth 100000 in
theorem laws_FnSlopeWalks.calls (k : Nat) (A0 : Option Addr) (c0 : Nat) (l0 : List Int) (A1 : Option Addr) (c1 : Nat) (l1 : List Int) (r : Bool) (w : World) (hr0 : Kd.C (Kd.int .u8) w A0 l0.length l0) (hc0 : l0.length ≤ c0) (hr1 : Kd.C (Kd.int .u8) w A1 l1.length l1) (hc1 : l1.length ≤ c1) (h : laws_FnSlopeWalks.f k l0 l1 = some r) :
    Calls Try.prog 3 #[.slice A0 l0.length c0, .slice A1 l1.length c1] w fun e w' => e = .returned (.bool r) ∧ Below w.heap.size w w' := by
  have HR0 := Aside0.mk hr0
  have HC0 := Aside0.mk hc0
  clear hr0 hc0
  have HR1 := Aside0.mk hr1
  have HC1 := Aside0.mk hc1
  clear hr1 hc1
  have HB := Aside0.mk (Below.refl w.heap.size w)
  have H : ((laws_big.f l0 l1).bind fun t478 => (if t478 = true then (some true) else ((spec_DrawAllSlopeWalks.f k l0).bind fun bt479 => ((impl_AllSlopeWalks.f k bt479.1 bt479.2).bind fun bt481 => ((spec_AllSlopeWalks.f k bt479.1 bt479.2).bind fun bt485 => ((impl_CountSlopeWalks.f k bt479.1 bt479.2).bind fun bt489 => ((spec_CountSlopeWalks.f k bt479.1 bt479.2).bind fun bt491 => (if (bt481.2 != bt485.2) = true then (laws_FnSlopeWalks.j0 k l1 bt479.1 bt479.2 bt489.1 bt489.2 true) else ((laws_wSameLists.f k bt481.1 bt485.1).bind fun t493 => (if t493 = true then (if (bt489.2 != bt491.2) = true then (laws_FnSlopeWalks.j0 k l1 bt479.1 bt479.2 bt489.1 bt489.2 true) else (if bt489.1 = bt491.1 then (if bt481.2 = true then (laws_FnSlopeWalks.j0 k l1 bt479.1 bt479.2 bt489.1 bt489.2 (bt489.1 != (bt481.1.length : Int))) else (laws_FnSlopeWalks.j0 k l1 bt479.1 bt479.2 bt489.1 bt489.2 false)) else (laws_FnSlopeWalks.j0 k l1 bt479.1 bt479.2 bt489.1 bt489.2 true))) else (laws_FnSlopeWalks.j0 k l1 bt479.1 bt479.2 bt489.1 bt489.2 true))))))))))) = some r := h
  clear h
  replace H := Option.bind_eq_some_iff.mp H
  obtain ⟨t478, A30, H⟩ := H
  replace H : (if t478 = true then (some true) else ((spec_DrawAllSlopeWalks.f k l0).bind fun bt479 => ((impl_AllSlopeWalks.f k bt479.1 bt479.2).bind fun bt481 => ((spec_AllSlopeWalks.f k bt479.1 bt479.2).bind fun bt485 => ((impl_CountSlopeWalks.f k bt479.1 bt479.2).bind fun bt489 => ((spec_CountSlopeWalks.f k bt479.1 bt479.2).bind fun bt491 => (if (bt481.2 != bt485.2) = true then (laws_FnSlopeWalks.j0 k l1 bt479.1 bt479.2 bt489.1 bt489.2 true) else ((laws_wSameLists.f k bt481.1 bt485.1).bind fun t493 => (if t493 = true then (if (bt489.2 != bt491.2) = true then (laws_FnSlopeWalks.j0 k l1 bt479.1 bt479.2 bt489.1 bt489.2 true) else (if bt489.1 = bt491.1 then (if bt481.2 = true then (laws_FnSlopeWalks.j0 k l1 bt479.1 bt479.2 bt489.1 bt489.2 (bt489.1 != (bt481.1.length : Int))) else (laws_FnSlopeWalks.j0 k l1 bt479.1 bt479.2 bt489.1 bt489.2 false)) else (laws_FnSlopeWalks.j0 k l1 bt479.1 bt479.2 bt489.1 bt489.2 true))) else (laws_FnSlopeWalks.j0 k l1 bt479.1 bt479.2 bt489.1 bt489.2 true)))))))))) = some r := H
  have A3 := Aside0.mk A30
  clear A30
  by_cases c4 : t478 = true
  · subst c4
    have H1 : (some true) = some r := by rw [if_pos rfl] at H; exact H
    clear H
    have H := H1
    clear H1
    as_aux_lemma =>
      obtain rfl := Option.some.inj H
      go_enter Try.func3, Try.ntmps3
      go_wp2_with (first | ((with_reducible refine gate_callee (f := 4) rfl ?_); refine goesL_ (some 37) rfl rfl Try.func4 (by kernel_rfl) rfl #[.slice A0 l0.length c0, .slice A1 l1.length c1] rfl (by (try simp only [List.map_toArray, List.map_cons, List.map_nil]); first | done | rfl | (simp only [List.length_drop, List.length_take]; rfl)) ?_; (with_reducible refine (laws_big.calls _ _ l0 _ _ l1 true _ ?side1 ?side2 ?side3 ?side4 A3.out).mono ?_); (case side1 => repeat (first | exact HR0.out | (with_reducible refine Kd.C_alloc ?_ _) | (with_reducible refine Kd.C_drewN ?_ _) | (with_reducible refine Kd.C_drew ?_))); (case side2 => exact HC0.out); (case side3 => repeat (first | exact HR1.out | (with_reducible refine Kd.C_alloc ?_ _) | (with_reducible refine Kd.C_drewN ?_ _) | (with_reducible refine Kd.C_drew ?_))); (case side4 => exact HC1.out); rintro e w' ⟨rfl, ⟨nd, rfl⟩⟩; refine ⟨_, rfl, ?_⟩))
      go_ret
      exact ⟨by first | rfl | (simp [errW_none, errW_some] <;> rfl) | (simp [*, errW_none, errW_some] <;> rfl), by repeat (first | (with_reducible first | exact HB.out | apply below_alloc | apply pw_below_drewN | apply below_drew1) | exact HB.out)⟩
  · replace c4 := Bool.eq_false_iff.mpr c4
    subst c4
    have H1 : ((spec_DrawAllSlopeWalks.f k l0).bind fun bt479 => ((impl_AllSlopeWalks.f k bt479.1 bt479.2).bind fun bt481 => ((spec_AllSlopeWalks.f k bt479.1 bt479.2).bind fun bt485 => ((impl_CountSlopeWalks.f k bt479.1 bt479.2).bind fun bt489 => ((spec_CountSlopeWalks.f k bt479.1 bt479.2).bind fun bt491 => (if (bt481.2 != bt485.2) = true then (laws_FnSlopeWalks.j0 k l1 bt479.1 bt479.2 bt489.1 bt489.2 true) else ((laws_wSameLists.f k bt481.1 bt485.1).bind fun t493 => (if t493 = true then (if (bt489.2 != bt491.2) = true then (laws_FnSlopeWalks.j0 k l1 bt479.1 bt479.2 bt489.1 bt489.2 true) else (if bt489.1 = bt491.1 then (if bt481.2 = true then (laws_FnSlopeWalks.j0 k l1 bt479.1 bt479.2 bt489.1 bt489.2 (bt489.1 != (bt481.1.length : Int))) else (laws_FnSlopeWalks.j0 k l1 bt479.1 bt479.2 bt489.1 bt489.2 false)) else (laws_FnSlopeWalks.j0 k l1 bt479.1 bt479.2 bt489.1 bt489.2 true))) else (laws_FnSlopeWalks.j0 k l1 bt479.1 bt479.2 bt489.1 bt489.2 true))))))))) = some r := by rw [if_neg (show ¬ (false = true) by decide)] at H; exact H
    clear H
    have H := H1
    clear H1
    replace H := Option.bind_eq_some_iff.mp H
    obtain ⟨⟨t479, t480⟩, A50, H⟩ := H
    replace H : ((impl_AllSlopeWalks.f k t479 t480).bind fun bt481 => ((spec_AllSlopeWalks.f k t479 t480).bind fun bt485 => ((impl_CountSlopeWalks.f k t479 t480).bind fun bt489 => ((spec_CountSlopeWalks.f k t479 t480).bind fun bt491 => (if (bt481.2 != bt485.2) = true then (laws_FnSlopeWalks.j0 k l1 t479 t480 bt489.1 bt489.2 true) else ((laws_wSameLists.f k bt481.1 bt485.1).bind fun t493 => (if t493 = true then (if (bt489.2 != bt491.2) = true then (laws_FnSlopeWalks.j0 k l1 t479 t480 bt489.1 bt489.2 true) else (if bt489.1 = bt491.1 then (if bt481.2 = true then (laws_FnSlopeWalks.j0 k l1 t479 t480 bt489.1 bt489.2 (bt489.1 != (bt481.1.length : Int))) else (laws_FnSlopeWalks.j0 k l1 t479 t480 bt489.1 bt489.2 false)) else (laws_FnSlopeWalks.j0 k l1 t479 t480 bt489.1 bt489.2 true))) else (laws_FnSlopeWalks.j0 k l1 t479 t480 bt489.1 bt489.2 true)))))))) = some r := H
    have A5 := Aside0.mk A50
    clear A50
    replace H := Option.bind_eq_some_iff.mp H
    obtain ⟨⟨t481, t482⟩, A60, H⟩ := H
    replace H : ((spec_AllSlopeWalks.f k t479 t480).bind fun bt485 => ((impl_CountSlopeWalks.f k t479 t480).bind fun bt489 => ((spec_CountSlopeWalks.f k t479 t480).bind fun bt491 => (if (t482 != bt485.2) = true then (laws_FnSlopeWalks.j0 k l1 t479 t480 bt489.1 bt489.2 true) else ((laws_wSameLists.f k t481 bt485.1).bind fun t493 => (if t493 = true then (if (bt489.2 != bt491.2) = true then (laws_FnSlopeWalks.j0 k l1 t479 t480 bt489.1 bt489.2 true) else (if bt489.1 = bt491.1 then (if t482 = true then (laws_FnSlopeWalks.j0 k l1 t479 t480 bt489.1 bt489.2 (bt489.1 != (t481.length : Int))) else (laws_FnSlopeWalks.j0 k l1 t479 t480 bt489.1 bt489.2 false)) else (laws_FnSlopeWalks.j0 k l1 t479 t480 bt489.1 bt489.2 true))) else (laws_FnSlopeWalks.j0 k l1 t479 t480 bt489.1 bt489.2 true))))))) = some r := H
    have A6 := Aside0.mk A60
    clear A60
    replace H := Option.bind_eq_some_iff.mp H
    obtain ⟨⟨t485, t488⟩, A70, H⟩ := H
    replace H : ((impl_CountSlopeWalks.f k t479 t480).bind fun bt489 => ((spec_CountSlopeWalks.f k t479 t480).bind fun bt491 => (if (t482 != t488) = true then (laws_FnSlopeWalks.j0 k l1 t479 t480 bt489.1 bt489.2 true) else ((laws_wSameLists.f k t481 t485).bind fun t493 => (if t493 = true then (if (bt489.2 != bt491.2) = true then (laws_FnSlopeWalks.j0 k l1 t479 t480 bt489.1 bt489.2 true) else (if bt489.1 = bt491.1 then (if t482 = true then (laws_FnSlopeWalks.j0 k l1 t479 t480 bt489.1 bt489.2 (bt489.1 != (t481.length : Int))) else (laws_FnSlopeWalks.j0 k l1 t479 t480 bt489.1 bt489.2 false)) else (laws_FnSlopeWalks.j0 k l1 t479 t480 bt489.1 bt489.2 true))) else (laws_FnSlopeWalks.j0 k l1 t479 t480 bt489.1 bt489.2 true)))))) = some r := H
    have A7 := Aside0.mk A70
    clear A70
    replace H := Option.bind_eq_some_iff.mp H
    obtain ⟨⟨t489, t490⟩, A80, H⟩ := H
    replace H : ((spec_CountSlopeWalks.f k t479 t480).bind fun bt491 => (if (t482 != t488) = true then (laws_FnSlopeWalks.j0 k l1 t479 t480 t489 t490 true) else ((laws_wSameLists.f k t481 t485).bind fun t493 => (if t493 = true then (if (t490 != bt491.2) = true then (laws_FnSlopeWalks.j0 k l1 t479 t480 t489 t490 true) else (if t489 = bt491.1 then (if t482 = true then (laws_FnSlopeWalks.j0 k l1 t479 t480 t489 t490 (t489 != (t481.length : Int))) else (laws_FnSlopeWalks.j0 k l1 t479 t480 t489 t490 false)) else (laws_FnSlopeWalks.j0 k l1 t479 t480 t489 t490 true))) else (laws_FnSlopeWalks.j0 k l1 t479 t480 t489 t490 true))))) = some r := H
    have A8 := Aside0.mk A80
    clear A80
    replace H := Option.bind_eq_some_iff.mp H
    obtain ⟨⟨t491, t492⟩, A90, H⟩ := H
    replace H : (if (t482 != t488) = true then (laws_FnSlopeWalks.j0 k l1 t479 t480 t489 t490 true) else ((laws_wSameLists.f k t481 t485).bind fun t493 => (if t493 = true then (if (t490 != t492) = true then (laws_FnSlopeWalks.j0 k l1 t479 t480 t489 t490 true) else (if t489 = t491 then (if t482 = true then (laws_FnSlopeWalks.j0 k l1 t479 t480 t489 t490 (t489 != (t481.length : Int))) else (laws_FnSlopeWalks.j0 k l1 t479 t480 t489 t490 false)) else (laws_FnSlopeWalks.j0 k l1 t479 t480 t489 t490 true))) else (laws_FnSlopeWalks.j0 k l1 t479 t480 t489 t490 true)))) = some r := H
    have A9 := Aside0.mk A90
    clear A90
    have HC10 := Aside0.mk H
    clear H
    go_enter Try.func3, Try.ntmps3
    go_upto_region 8 with (first | ((with_reducible refine gate_callee (f := 4) rfl ?_); refine goesL_ (some 37) rfl rfl Try.func4 (by kernel_rfl) rfl #[.slice A0 l0.length c0, .slice A1 l1.length c1] rfl (by (try simp only [List.map_toArray, List.map_cons, List.map_nil]); first | done | rfl | (simp only [List.length_drop, List.length_take]; rfl)) ?_; (with_reducible refine (laws_big.calls _ _ l0 _ _ l1 false _ ?side1 ?side2 ?side3 ?side4 A3.out).mono ?_); (case side1 => repeat (first | exact HR0.out | (with_reducible refine Kd.C_alloc ?_ _) | (with_reducible refine Kd.C_drewN ?_ _) | (with_reducible refine Kd.C_drew ?_))); (case side2 => exact HC0.out); (case side3 => repeat (first | exact HR1.out | (with_reducible refine Kd.C_alloc ?_ _) | (with_reducible refine Kd.C_drewN ?_ _) | (with_reducible refine Kd.C_drew ?_))); (case side4 => exact HC1.out); rintro e w' ⟨rfl, ⟨nd, rfl⟩⟩; refine ⟨_, rfl, ?_⟩) | ((with_reducible refine gate_callee (f := 5) rfl ?_); refine goesL_ (some 40) rfl rfl Try.func5 (by kernel_rfl) rfl #[.slice A0 l0.length c0] rfl (by (try simp only [List.map_toArray, List.map_cons, List.map_nil]); first | done | rfl | (simp only [List.length_drop, List.length_take]; rfl)) ?_; (with_reducible refine (spec_DrawAllSlopeWalks.calls k _ _ l0 t479 t480 _ ?side1 ?side2 A5.out).mono ?_); (case side1 => repeat (first | exact HR0.out | (with_reducible refine Kd.C_alloc ?_ _) | (with_reducible refine Kd.C_drewN ?_ _) | (with_reducible refine Kd.C_drew ?_))); (case side2 => exact HC0.out); rintro e w11 ⟨rfl, hb⟩; refine ⟨_, rfl, ?_⟩; have n0_ := Aside0.mk (below_step (by repeat (first | (with_reducible first | exact HB.out | apply below_alloc | apply pw_below_drewN | apply below_drew1) | exact HB.out)) hb); clear HB; have HB := n0_; clear n0_; (try clear hb); (try clear hb2); (try clear hk); (try clear hi)) | ((with_reducible refine gate_callee (f := 6) rfl ?_); refine goesL_ (some 46) rfl rfl Try.func6 (by kernel_rfl) rfl #[.int .i64 t479, .int .i64 t480] rfl (by (try simp only [List.map_toArray, List.map_cons, List.map_nil]); first | done | rfl | (simp only [List.length_drop, List.length_take]; rfl)) ?_; (with_reducible refine (impl_AllSlopeWalks.calls k t479 t480 t481 t482 _ A6.out).mono ?_); rintro e w12 ⟨v483, rfl, ho0, hb⟩; refine ⟨_, rfl, ?_⟩; have n0_ := Aside0.mk (Kd.N_lower (Kd.N_mono (ok' := fun k_ => True) (Kd.S_N (Kd.S_bound ho0)) (fun k_ hk_ => trivial)) (below_size (by repeat (first | (with_reducible first | exact HB.out | apply below_alloc | apply pw_below_drewN | apply below_drew1) | exact HB.out)))); have n1_ := Aside0.mk (below_step (by repeat (first | (with_reducible first | exact HB.out | apply below_alloc | apply pw_below_drewN | apply below_drew1) | exact HB.out)) hb); clear HB; have HO484 := n0_; have HB := n1_; clear n0_ n1_; (try clear hb); (try clear hb2); (try clear hk); (try clear hi); (try clear ho0)) | ((with_reducible refine gate_callee (f := 7) rfl ?_); refine goesL_ (some 52) rfl rfl Try.func7 (by kernel_rfl) rfl #[.int .i64 t479, .int .i64 t480] rfl (by (try simp only [List.map_toArray, List.map_cons, List.map_nil]); first | done | rfl | (simp only [List.length_drop, List.length_take]; rfl)) ?_; (with_reducible refine (spec_AllSlopeWalks.calls k t479 t480 t485 t488 _ A7.out).mono ?_); rintro e w13 ⟨v486, rfl, ho0, hb⟩; refine ⟨_, rfl, ?_⟩; have n0_ := Aside0.mk (Kd.N_elder' (by (with_reducible repeat (first | apply Kd.N_alloc | apply Kd.N_drewN | apply Kd.N_drew)); exact HO484.out) (by first | exact Kd.N_base ho0 | exact Kd.S_base ho0) hb); have n1_ := Aside0.mk (Kd.N_lower (Kd.N_mono (ok' := fun k_ => some k_ ≠ (v483 : Value).ownBlock) ho0 (fun k_ hk_ => (Kd.fresh' (Kd.N_lt (by (with_reducible repeat (first | apply Kd.N_alloc | apply Kd.N_drewN | apply Kd.N_drew)); exact HO484.out)) k_ hk_))) (below_size (by repeat (first | (with_reducible first | exact HB.out | apply below_alloc | apply pw_below_drewN | apply below_drew1) | exact HB.out)))); have n2_ := Aside0.mk (below_step (by repeat (first | (with_reducible first | exact HB.out | apply below_alloc | apply pw_below_drewN | apply below_drew1) | exact HB.out)) hb); clear HO484; clear HB; have HO484 := n0_; have HO487 := n1_; have HB := n2_; clear n0_ n1_ n2_; (try clear hb); (try clear hb2); (try clear hk); (try clear hi); (try clear ho0)) | ((with_reducible refine gate_callee (f := 8) rfl ?_); refine goesL_ (some 58) rfl rfl Try.func8 (by kernel_rfl) rfl #[.int .i64 t479, .int .i64 t480] rfl (by (try simp only [List.map_toArray, List.map_cons, List.map_nil]); first | done | rfl | (simp only [List.length_drop, List.length_take]; rfl)) ?_; (with_reducible refine (impl_CountSlopeWalks.calls k t479 t480 t489 t490 _ A8.out).mono ?_); rintro e w' ⟨rfl, ⟨nd, rfl⟩⟩; refine ⟨_, rfl, ?_⟩) | ((with_reducible refine gate_callee (f := 9) rfl ?_); refine goesL_ (some 64) rfl rfl Try.func9 (by kernel_rfl) rfl #[.int .i64 t479, .int .i64 t480] rfl (by (try simp only [List.map_toArray, List.map_cons, List.map_nil]); first | done | rfl | (simp only [List.length_drop, List.length_take]; rfl)) ?_; (with_reducible refine (spec_CountSlopeWalks.calls k t479 t480 t491 t492 _ A9.out).mono ?_); rintro e w' ⟨rfl, ⟨nd, rfl⟩⟩; refine ⟨_, rfl, ?_⟩))
    (try simp only [Act.put, List.setIfInBounds_toArray, List.set_cons_zero, List.set_cons_succ])
    go_cut [94] (fun v94 wc => ∃ (kq : Nat) (x94_9 : Bool), v94 = .bool x94_9 ∧ Aside0 (laws_FnSlopeWalks.j0 kq l1 t479 t480 t489 t490 x94_9 = some r) ∧ Aside0 (kq ≤ k) ∧ Aside0 (Below w.heap.size w wc))
    case first =>
      have H := HC10.out
      clear HC10
      by_cases c14 : (t482 != t488) = true
      · rw [if_pos c14] at H
        have c14b0 : (t482 != t488) = true := c14
        (try (have c14b1 : decide (t482 = t488) = false := by simpa using c14))
        (try (have c14b2 : (t482 == t488) = false := by simpa using c14))
        (try (have c14b3 : ¬ (t482 = t488) := by simpa using c14))
        clear c14
        (first | rw [c14b0] | (simp only [i64_w, i32_w]; rw [c14b0]) | skip)
        as_aux_lemma =>
          have H' := Aside0.mk H
          clear H
          go_wp2
          go_meet
          case rel => exact ⟨_, (true), (by first | rfl | (simp; done) | (simp [*]; done)), H', ⟨by first | omega | exact Nat.le_refl _⟩, ⟨by repeat (first | (with_reducible first | exact HB.out | apply below_alloc | apply pw_below_drewN | apply below_drew1) | exact HB.out)⟩⟩
      · rw [if_neg c14] at H
        have c14b0 : (t482 != t488) = false := by simpa using c14
        (try (have c14b1 : decide (t482 = t488) = true := by simpa using c14))
        (try (have c14b2 : (t482 == t488) = true := by simpa using c14))
        clear c14
        (first | rw [c14b0] | (simp only [i64_w, i32_w]; rw [c14b0]) | skip)
        replace H := Option.bind_eq_some_iff.mp H
        obtain ⟨t493, A150, H⟩ := H
        replace H : (if t493 = true then (if (t490 != t492) = true then (laws_FnSlopeWalks.j0 k l1 t479 t480 t489 t490 true) else (if t489 = t491 then (if t482 = true then (laws_FnSlopeWalks.j0 k l1 t479 t480 t489 t490 (t489 != (t481.length : Int))) else (laws_FnSlopeWalks.j0 k l1 t479 t480 t489 t490 false)) else (laws_FnSlopeWalks.j0 k l1 t479 t480 t489 t490 true))) else (laws_FnSlopeWalks.j0 k l1 t479 t480 t489 t490 true)) = some r := H
        have A15 := Aside0.mk A150
        clear A150
        by_cases c16 : t493 = true
        · subst c16
          have H1 : (if (t490 != t492) = true then (laws_FnSlopeWalks.j0 k l1 t479 t480 t489 t490 true) else (if t489 = t491 then (if t482 = true then (laws_FnSlopeWalks.j0 k l1 t479 t480 t489 t490 (t489 != (t481.length : Int))) else (laws_FnSlopeWalks.j0 k l1 t479 t480 t489 t490 false)) else (laws_FnSlopeWalks.j0 k l1 t479 t480 t489 t490 true))) = some r := by rw [if_pos rfl] at H; exact H
          clear H
          have H := H1
          clear H1
          by_cases c17 : (t490 != t492) = true
          · rw [if_pos c17] at H
            have c17b0 : (t490 != t492) = true := c17
            (try (have c17b1 : decide (t490 = t492) = false := by simpa using c17))
            (try (have c17b2 : (t490 == t492) = false := by simpa using c17))
            (try (have c17b3 : ¬ (t490 = t492) := by simpa using c17))
            clear c17
            as_aux_lemma =>
              have H' := Aside0.mk H
              clear H
              obtain ⟨Ao18, co18, eo18⟩ := Kd.N_slice HO484.out
              subst eo18
              obtain ⟨Ao19, co19, eo19⟩ := Kd.N_slice HO487.out
              subst eo19
              go_wp2_with (first | (go_at_call 10; (with_reducible refine (laws_wSameLists.calls k _ _ t481 _ _ t485 true _ ?side1 ?side2 ?side3 ?side4 A15.out).mono ?_); (case side1 => repeat (first | exact (Kd.N_reads' HO484.out).2.2 | (with_reducible refine Kd.C_alloc ?_ _) | (with_reducible refine Kd.C_drewN ?_ _) | (with_reducible refine Kd.C_drew ?_))); (case side2 => exact (Kd.N_reads' HO484.out).2.1); (case side3 => repeat (first | exact (Kd.N_reads' HO487.out).2.2 | (with_reducible refine Kd.C_alloc ?_ _) | (with_reducible refine Kd.C_drewN ?_ _) | (with_reducible refine Kd.C_drew ?_))); (case side4 => exact (Kd.N_reads' HO487.out).2.1); rintro e w' ⟨rfl, ⟨nd, rfl⟩⟩))
              go_meet
              case rel => exact ⟨_, (true), (by first | rfl | (simp; done) | (simp [*]; done)), H', ⟨by first | omega | exact Nat.le_refl _⟩, ⟨by repeat (first | (with_reducible first | exact HB.out | apply below_alloc | apply pw_below_drewN | apply below_drew1) | exact HB.out)⟩⟩
          · rw [if_neg c17] at H
            have c17b0 : (t490 != t492) = false := by simpa using c17
            (try (have c17b1 : decide (t490 = t492) = true := by simpa using c17))
            (try (have c17b2 : (t490 == t492) = true := by simpa using c17))
            clear c17
            by_cases c20 : t489 = t491
            · rw [if_pos c20] at H
              have c20b0 : (t489 == t491) = true := beq_iff_eq.mpr c20
              have c20b1 : (t489 != t491) = false := bne_eq_false_iff_eq.mpr c20
              clear c20
              by_cases c21 : t482 = true
              · subst c21
                have H1 : (laws_FnSlopeWalks.j0 k l1 t479 t480 t489 t490 (t489 != (t481.length : Int))) = some r := by rw [if_pos rfl] at H; exact H
                clear H
                have H := H1
                clear H1
                as_aux_lemma =>
                  have H' := Aside0.mk H
                  clear H
                  obtain ⟨Ao22, co22, eo22⟩ := Kd.N_slice HO484.out
                  subst eo22
                  obtain ⟨Ao23, co23, eo23⟩ := Kd.N_slice HO487.out
                  subst eo23
                  go_wp2_with (first | (go_at_call 10; (with_reducible refine (laws_wSameLists.calls k _ _ t481 _ _ t485 true _ ?side1 ?side2 ?side3 ?side4 A15.out).mono ?_); (case side1 => repeat (first | exact (Kd.N_reads' HO484.out).2.2 | (with_reducible refine Kd.C_alloc ?_ _) | (with_reducible refine Kd.C_drewN ?_ _) | (with_reducible refine Kd.C_drew ?_))); (case side2 => exact (Kd.N_reads' HO484.out).2.1); (case side3 => repeat (first | exact (Kd.N_reads' HO487.out).2.2 | (with_reducible refine Kd.C_alloc ?_ _) | (with_reducible refine Kd.C_drewN ?_ _) | (with_reducible refine Kd.C_drew ?_))); (case side4 => exact (Kd.N_reads' HO487.out).2.1); rintro e w' ⟨rfl, ⟨nd, rfl⟩⟩))
                  go_meet
                  case rel => exact ⟨_, ((t489 != (t481.length : Int))), (by first | rfl | (simp; done) | (simp [*]; done)), H', ⟨by first | omega | exact Nat.le_refl _⟩, ⟨by repeat (first | (with_reducible first | exact HB.out | apply below_alloc | apply pw_below_drewN | apply below_drew1) | exact HB.out)⟩⟩
              · replace c21 := Bool.eq_false_iff.mpr c21
                subst c21
                have H1 : (laws_FnSlopeWalks.j0 k l1 t479 t480 t489 t490 false) = some r := by rw [if_neg (show ¬ (false = true) by decide)] at H; exact H
                clear H
                have H := H1
                clear H1
                as_aux_lemma =>
                  have H' := Aside0.mk H
                  clear H
                  obtain ⟨Ao24, co24, eo24⟩ := Kd.N_slice HO484.out
                  subst eo24
                  obtain ⟨Ao25, co25, eo25⟩ := Kd.N_slice HO487.out
                  subst eo25
                  go_wp2_with (first | (go_at_call 10; (with_reducible refine (laws_wSameLists.calls k _ _ t481 _ _ t485 true _ ?side1 ?side2 ?side3 ?side4 A15.out).mono ?_); (case side1 => repeat (first | exact (Kd.N_reads' HO484.out).2.2 | (with_reducible refine Kd.C_alloc ?_ _) | (with_reducible refine Kd.C_drewN ?_ _) | (with_reducible refine Kd.C_drew ?_))); (case side2 => exact (Kd.N_reads' HO484.out).2.1); (case side3 => repeat (first | exact (Kd.N_reads' HO487.out).2.2 | (with_reducible refine Kd.C_alloc ?_ _) | (with_reducible refine Kd.C_drewN ?_ _) | (with_reducible refine Kd.C_drew ?_))); (case side4 => exact (Kd.N_reads' HO487.out).2.1); rintro e w' ⟨rfl, ⟨nd, rfl⟩⟩))
                  go_meet
                  case rel => exact ⟨_, (false), (by first | rfl | (simp; done) | (simp [*]; done)), H', ⟨by first | omega | exact Nat.le_refl _⟩, ⟨by repeat (first | (with_reducible first | exact HB.out | apply below_alloc | apply pw_below_drewN | apply below_drew1) | exact HB.out)⟩⟩
            · rw [if_neg c20] at H
              have c20b0 : (t489 == t491) = false := beq_eq_false_iff_ne.mpr c20
              have c20b1 : (t489 != t491) = true := bne_iff_ne.mpr c20
              as_aux_lemma =>
                have H' := Aside0.mk H
                clear H
                obtain ⟨Ao26, co26, eo26⟩ := Kd.N_slice HO484.out
                subst eo26
                obtain ⟨Ao27, co27, eo27⟩ := Kd.N_slice HO487.out
                subst eo27
                go_wp2_with (first | (go_at_call 10; (with_reducible refine (laws_wSameLists.calls k _ _ t481 _ _ t485 true _ ?side1 ?side2 ?side3 ?side4 A15.out).mono ?_); (case side1 => repeat (first | exact (Kd.N_reads' HO484.out).2.2 | (with_reducible refine Kd.C_alloc ?_ _) | (with_reducible refine Kd.C_drewN ?_ _) | (with_reducible refine Kd.C_drew ?_))); (case side2 => exact (Kd.N_reads' HO484.out).2.1); (case side3 => repeat (first | exact (Kd.N_reads' HO487.out).2.2 | (with_reducible refine Kd.C_alloc ?_ _) | (with_reducible refine Kd.C_drewN ?_ _) | (with_reducible refine Kd.C_drew ?_))); (case side4 => exact (Kd.N_reads' HO487.out).2.1); rintro e w' ⟨rfl, ⟨nd, rfl⟩⟩))
                go_meet
                case rel => exact ⟨_, (true), (by first | rfl | (simp; done) | (simp [*]; done)), H', ⟨by first | omega | exact Nat.le_refl _⟩, ⟨by repeat (first | (with_reducible first | exact HB.out | apply below_alloc | apply pw_below_drewN | apply below_drew1) | exact HB.out)⟩⟩
        · replace c16 := Bool.eq_false_iff.mpr c16
          subst c16
          have H1 : (laws_FnSlopeWalks.j0 k l1 t479 t480 t489 t490 true) = some r := by rw [if_neg (show ¬ (false = true) by decide)] at H; exact H
          clear H
          have H := H1
          clear H1
          as_aux_lemma =>
            have H' := Aside0.mk H
            clear H
            obtain ⟨Ao28, co28, eo28⟩ := Kd.N_slice HO484.out
            subst eo28
            obtain ⟨Ao29, co29, eo29⟩ := Kd.N_slice HO487.out
            subst eo29
            go_wp2_with (first | (go_at_call 10; (with_reducible refine (laws_wSameLists.calls k _ _ t481 _ _ t485 false _ ?side1 ?side2 ?side3 ?side4 A15.out).mono ?_); (case side1 => repeat (first | exact (Kd.N_reads' HO484.out).2.2 | (with_reducible refine Kd.C_alloc ?_ _) | (with_reducible refine Kd.C_drewN ?_ _) | (with_reducible refine Kd.C_drew ?_))); (case side2 => exact (Kd.N_reads' HO484.out).2.1); (case side3 => repeat (first | exact (Kd.N_reads' HO487.out).2.2 | (with_reducible refine Kd.C_alloc ?_ _) | (with_reducible refine Kd.C_drewN ?_ _) | (with_reducible refine Kd.C_drew ?_))); (case side4 => exact (Kd.N_reads' HO487.out).2.1); rintro e w' ⟨rfl, ⟨nd, rfl⟩⟩))
            go_meet
            case rel => exact ⟨_, (true), (by first | rfl | (simp; done) | (simp [*]; done)), H', ⟨by first | omega | exact Nat.le_refl _⟩, ⟨by repeat (first | (with_reducible first | exact HB.out | apply below_alloc | apply pw_below_drewN | apply below_drew1) | exact HB.out)⟩⟩
    case rest =>
      clear HC10
      try clear c1
      try clear c2
      try clear p2
      try clear c3
      try clear c4
      try clear c5
      try clear c6
      try clear c7
      try clear c8
      try clear c9
      try clear c14
      try clear c14b0
      try clear c14b1
      try clear c14b2
      try clear c16
      try clear c17
      try clear c17b0
      try clear c17b1
      try clear c17b2
      try clear c20
      try clear c20b0
      try clear c20b1
      try clear c21
      obtain ⟨kq, x94_9, rfl, HA, HJ9, HB⟩ := hcut
      cases kq with
      | zero => exact absurd HA.out (by simp [laws_FnSlopeWalks.j0])
      | succ kj9 =>
        have H := HA.out
        clear HA
        simp only [laws_FnSlopeWalks.j0] at H
        by_cases c30 : x94_9 = true
        · subst c30
          have H1 : (some false) = some r := by rw [if_pos rfl] at H; exact H
          clear H
          have H := H1
          clear H1
          as_aux_lemma =>
            obtain rfl := Option.some.inj H
            go_wp2
            go_ret
            exact ⟨by first | rfl | (simp [errW_none, errW_some] <;> rfl) | (simp [*, errW_none, errW_some] <;> rfl), by repeat (first | (with_reducible first | exact HB.out | apply below_alloc | apply pw_below_drewN | apply below_drew1) | exact HB.out)⟩
        · replace c30 := Bool.eq_false_iff.mpr c30
          subst c30
          have H1 : (if t490 = true then ((impl_CountSlopeWalks.f kj9 t480 t479).bind fun bt494 => (if bt494.2 = true then (if bt494.1 = t489 then (laws_FnSlopeWalks.j1 kj9 l1) else (some false)) else (laws_FnSlopeWalks.j1 kj9 l1))) else (laws_FnSlopeWalks.j1 kj9 l1)) = some r := by rw [if_neg (show ¬ (false = true) by decide)] at H; exact H
          clear H
          have H := H1
          clear H1
          have HC31 := Aside0.mk H
          clear H
          go_upto_if 95 with (fail)
          go_cut [] (fun wc => ∃ (kq : Nat), Aside0 (laws_FnSlopeWalks.j1 kq l1 = some r) ∧ Aside0 (kq ≤ kj9) ∧ Aside0 (Below w.heap.size w wc))
          case first =>
            have H := HC31.out
            clear HC31
            by_cases c32 : t490 = true
            · subst c32
              have H1 : ((impl_CountSlopeWalks.f kj9 t480 t479).bind fun bt494 => (if bt494.2 = true then (if bt494.1 = t489 then (laws_FnSlopeWalks.j1 kj9 l1) else (some false)) else (laws_FnSlopeWalks.j1 kj9 l1))) = some r := by rw [if_pos rfl] at H; exact H
              clear H
              have H := H1
              clear H1
              replace H := Option.bind_eq_some_iff.mp H
              obtain ⟨⟨t494, t495⟩, A330, H⟩ := H
              replace H : (if t495 = true then (if t494 = t489 then (laws_FnSlopeWalks.j1 kj9 l1) else (some false)) else (laws_FnSlopeWalks.j1 kj9 l1)) = some r := H
              have A33 := Aside0.mk A330
              clear A330
              by_cases c34 : t495 = true
              · subst c34
                have H1 : (if t494 = t489 then (laws_FnSlopeWalks.j1 kj9 l1) else (some false)) = some r := by rw [if_pos rfl] at H; exact H
                clear H
                have H := H1
                clear H1
                by_cases c35 : t494 = t489
                · rw [if_pos c35] at H
                  have c35b0 : (t494 == t489) = true := beq_iff_eq.mpr c35
                  have c35b1 : (t494 != t489) = false := bne_eq_false_iff_eq.mpr c35
                  clear c35
                  (first | rw [c35b0] | (simp only [i64_w, i32_w]; rw [c35b0]) | skip)
                  as_aux_lemma =>
                    have H' := Aside0.mk H
                    clear H
                    go_wp2_with (first | ((with_reducible refine gate_callee (f := 8) rfl ?_); refine goesL_ (some 99) rfl rfl Try.func8 (by kernel_rfl) rfl #[.int .i64 t480, .int .i64 t479] rfl (by (try simp only [List.map_toArray, List.map_cons, List.map_nil]); first | done | rfl | (simp only [List.length_drop, List.length_take]; rfl)) ?_; (with_reducible refine (impl_CountSlopeWalks.calls kj9 t480 t479 t494 true _ A33.out).mono ?_); rintro e w' ⟨rfl, ⟨nd, rfl⟩⟩; refine ⟨_, rfl, ?_⟩))
                    go_meet
                    case rel => exact ⟨_, H', ⟨by have := HJ9.out; first | omega | exact Nat.le_refl _⟩, ⟨by repeat (first | (with_reducible first | exact HB.out | apply below_alloc | apply pw_below_drewN | apply below_drew1) | exact HB.out)⟩⟩
                · rw [if_neg c35] at H
                  have c35b0 : (t494 == t489) = false := beq_eq_false_iff_ne.mpr c35
                  have c35b1 : (t494 != t489) = true := bne_iff_ne.mpr c35
                  (first | rw [c35b0] | (simp only [i64_w, i32_w]; rw [c35b0]) | skip)
                  as_aux_lemma =>
                    obtain rfl := Option.some.inj H
                    go_wp2_with (first | ((with_reducible refine gate_callee (f := 8) rfl ?_); refine goesL_ (some 99) rfl rfl Try.func8 (by kernel_rfl) rfl #[.int .i64 t480, .int .i64 t479] rfl (by (try simp only [List.map_toArray, List.map_cons, List.map_nil]); first | done | rfl | (simp only [List.length_drop, List.length_take]; rfl)) ?_; (with_reducible refine (impl_CountSlopeWalks.calls kj9 t480 t479 t494 true _ A33.out).mono ?_); rintro e w' ⟨rfl, ⟨nd, rfl⟩⟩; refine ⟨_, rfl, ?_⟩))
                    go_ret
                    exact ⟨by first | rfl | (simp [errW_none, errW_some] <;> rfl) | (simp [*, errW_none, errW_some] <;> rfl), by repeat (first | (with_reducible first | exact HB.out | apply below_alloc | apply pw_below_drewN | apply below_drew1) | exact HB.out)⟩
              · replace c34 := Bool.eq_false_iff.mpr c34
                subst c34
                have H1 : (laws_FnSlopeWalks.j1 kj9 l1) = some r := by rw [if_neg (show ¬ (false = true) by decide)] at H; exact H
                clear H
                have H := H1
                clear H1
                as_aux_lemma =>
                  have H' := Aside0.mk H
                  clear H
                  go_wp2_with (first | ((with_reducible refine gate_callee (f := 8) rfl ?_); refine goesL_ (some 99) rfl rfl Try.func8 (by kernel_rfl) rfl #[.int .i64 t480, .int .i64 t479] rfl (by (try simp only [List.map_toArray, List.map_cons, List.map_nil]); first | done | rfl | (simp only [List.length_drop, List.length_take]; rfl)) ?_; (with_reducible refine (impl_CountSlopeWalks.calls kj9 t480 t479 t494 false _ A33.out).mono ?_); rintro e w' ⟨rfl, ⟨nd, rfl⟩⟩; refine ⟨_, rfl, ?_⟩))
                  go_meet
                  case rel => exact ⟨_, H', ⟨by have := HJ9.out; first | omega | exact Nat.le_refl _⟩, ⟨by repeat (first | (with_reducible first | exact HB.out | apply below_alloc | apply pw_below_drewN | apply below_drew1) | exact HB.out)⟩⟩
            · replace c32 := Bool.eq_false_iff.mpr c32
              subst c32
              have H1 : (laws_FnSlopeWalks.j1 kj9 l1) = some r := by rw [if_neg (show ¬ (false = true) by decide)] at H; exact H
              clear H
              have H := H1
              clear H1
              as_aux_lemma =>
                have H' := Aside0.mk H
                clear H
                go_wp2
                go_meet
                case rel => exact ⟨_, H', ⟨by have := HJ9.out; first | omega | exact Nat.le_refl _⟩, ⟨by repeat (first | (with_reducible first | exact HB.out | apply below_alloc | apply pw_below_drewN | apply below_drew1) | exact HB.out)⟩⟩
          case rest =>
            clear HC31
            try clear c1
            try clear c2
            try clear p2
            try clear c3
            try clear c4
            try clear c5
            try clear c6
            try clear c7
            try clear c8
            try clear c9
            try clear c14
            try clear c14b0
            try clear c14b1
            try clear c14b2
            try clear c16
            try clear c17
            try clear c17b0
            try clear c17b1
            try clear c17b2
            try clear c20
            try clear c20b0
            try clear c20b1
            try clear c21
            try clear c30
            try clear c32
            try clear c34
            try clear c35
            try clear c35b0
            try clear c35b1
            try clear p2
            obtain ⟨kq, HA, HJ30, HB⟩ := hcut
            cases kq with
            | zero => exact absurd HA.out (by simp [laws_FnSlopeWalks.j1])
            | succ kj30 =>
              have H := HA.out
              clear HA
              simp only [laws_FnSlopeWalks.j1] at H
              replace H := Option.bind_eq_some_iff.mp H
              obtain ⟨⟨t496, t497⟩, A360, H⟩ := H
              replace H : ((impl_TurnSlopeWalk.f kj30 t496 t497).bind fun bt500 => ((spec_TurnSlopeWalk.f kj30 t496 t497).bind fun bt504 => ((impl_LevelsOfWalk.f kj30 t496 t497).bind fun bt508 => ((spec_LevelsOfWalk.f kj30 t496 t497).bind fun bt512 => (if (bt500.2 != bt504.2) = true then (laws_FnSlopeWalks.j2 kj30 t496 t497 bt500.1 bt500.2 bt508.1 true) else ((laws_wSame.f kj30 bt500.1 bt504.1).bind fun t516 => (if t516 = true then (if (bt508.2 != bt512.2) = true then (laws_FnSlopeWalks.j2 kj30 t496 t497 bt500.1 bt500.2 bt508.1 true) else ((laws_wSame.f kj30 bt508.1 bt512.1).bind fun t517 => (laws_FnSlopeWalks.j2 kj30 t496 t497 bt500.1 bt500.2 bt508.1 (!t517)))) else (laws_FnSlopeWalks.j2 kj30 t496 t497 bt500.1 bt500.2 bt508.1 true)))))))) = some r := H
              have A36 := Aside0.mk A360
              clear A360
              replace H := Option.bind_eq_some_iff.mp H
              obtain ⟨⟨t500, t501⟩, A370, H⟩ := H
              replace H : ((spec_TurnSlopeWalk.f kj30 t496 t497).bind fun bt504 => ((impl_LevelsOfWalk.f kj30 t496 t497).bind fun bt508 => ((spec_LevelsOfWalk.f kj30 t496 t497).bind fun bt512 => (if (t501 != bt504.2) = true then (laws_FnSlopeWalks.j2 kj30 t496 t497 t500 t501 bt508.1 true) else ((laws_wSame.f kj30 t500 bt504.1).bind fun t516 => (if t516 = true then (if (bt508.2 != bt512.2) = true then (laws_FnSlopeWalks.j2 kj30 t496 t497 t500 t501 bt508.1 true) else ((laws_wSame.f kj30 bt508.1 bt512.1).bind fun t517 => (laws_FnSlopeWalks.j2 kj30 t496 t497 t500 t501 bt508.1 (!t517)))) else (laws_FnSlopeWalks.j2 kj30 t496 t497 t500 t501 bt508.1 true))))))) = some r := H
              have A37 := Aside0.mk A370
              clear A370
              replace H := Option.bind_eq_some_iff.mp H
              obtain ⟨⟨t504, t505⟩, A380, H⟩ := H
              replace H : ((impl_LevelsOfWalk.f kj30 t496 t497).bind fun bt508 => ((spec_LevelsOfWalk.f kj30 t496 t497).bind fun bt512 => (if (t501 != t505) = true then (laws_FnSlopeWalks.j2 kj30 t496 t497 t500 t501 bt508.1 true) else ((laws_wSame.f kj30 t500 t504).bind fun t516 => (if t516 = true then (if (bt508.2 != bt512.2) = true then (laws_FnSlopeWalks.j2 kj30 t496 t497 t500 t501 bt508.1 true) else ((laws_wSame.f kj30 bt508.1 bt512.1).bind fun t517 => (laws_FnSlopeWalks.j2 kj30 t496 t497 t500 t501 bt508.1 (!t517)))) else (laws_FnSlopeWalks.j2 kj30 t496 t497 t500 t501 bt508.1 true)))))) = some r := H
              have A38 := Aside0.mk A380
              clear A380
              replace H := Option.bind_eq_some_iff.mp H
              obtain ⟨⟨t508, t509⟩, A390, H⟩ := H
              replace H : ((spec_LevelsOfWalk.f kj30 t496 t497).bind fun bt512 => (if (t501 != t505) = true then (laws_FnSlopeWalks.j2 kj30 t496 t497 t500 t501 t508 true) else ((laws_wSame.f kj30 t500 t504).bind fun t516 => (if t516 = true then (if (t509 != bt512.2) = true then (laws_FnSlopeWalks.j2 kj30 t496 t497 t500 t501 t508 true) else ((laws_wSame.f kj30 t508 bt512.1).bind fun t517 => (laws_FnSlopeWalks.j2 kj30 t496 t497 t500 t501 t508 (!t517)))) else (laws_FnSlopeWalks.j2 kj30 t496 t497 t500 t501 t508 true))))) = some r := H
              have A39 := Aside0.mk A390
              clear A390
              replace H := Option.bind_eq_some_iff.mp H
              obtain ⟨⟨t512, t513⟩, A400, H⟩ := H
              replace H : (if (t501 != t505) = true then (laws_FnSlopeWalks.j2 kj30 t496 t497 t500 t501 t508 true) else ((laws_wSame.f kj30 t500 t504).bind fun t516 => (if t516 = true then (if (t509 != t513) = true then (laws_FnSlopeWalks.j2 kj30 t496 t497 t500 t501 t508 true) else ((laws_wSame.f kj30 t508 t512).bind fun t517 => (laws_FnSlopeWalks.j2 kj30 t496 t497 t500 t501 t508 (!t517)))) else (laws_FnSlopeWalks.j2 kj30 t496 t497 t500 t501 t508 true)))) = some r := H
              have A40 := Aside0.mk A400
              clear A400
              have HC41 := Aside0.mk H
              clear H
              go_upto_region 19 with (first | ((with_reducible refine gate_callee (f := 11) rfl ?_); refine goesL_ (some 110) rfl rfl Try.func11 (by kernel_rfl) rfl #[.slice A1 l1.length c1] rfl (by (try simp only [List.map_toArray, List.map_cons, List.map_nil]); first | done | rfl | (simp only [List.length_drop, List.length_take]; rfl)) ?_; (with_reducible refine (spec_DrawTurnSlopeWalk.calls kj30 _ _ l1 t496 t497 _ ?side1 ?side2 A36.out).mono ?_); (case side1 => repeat (first | exact (Kd.C_below HR1.out HB.out) | (with_reducible refine Kd.C_alloc ?_ _) | (with_reducible refine Kd.C_drewN ?_ _) | (with_reducible refine Kd.C_drew ?_))); (case side2 => exact HC1.out); rintro e w42 ⟨v498, rfl, ho0, hb⟩; refine ⟨_, rfl, ?_⟩; have n0_ := Aside0.mk (Kd.R_lower ho0 (below_size (by repeat (first | (with_reducible first | exact HB.out | apply below_alloc | apply pw_below_drewN | apply below_drew1) | exact HB.out)))); have n1_ := Aside0.mk (below_step (by repeat (first | (with_reducible first | exact HB.out | apply below_alloc | apply pw_below_drewN | apply below_drew1) | exact HB.out)) hb); clear HB; have HO499 := n0_; have HB := n1_; clear n0_ n1_; (try clear hb); (try clear hb2); (try clear hk); (try clear hi); (try clear ho0); obtain ⟨Ao43, co43, eo43⟩ := Kd.R_slice HO499.out; subst eo43) | ((with_reducible refine gate_callee (f := 12) rfl ?_); refine goesL_ (some 116) rfl rfl Try.func12 (by kernel_rfl) rfl #[.slice Ao43 t496.length co43, .int .i64 t497] rfl (by (try simp only [List.map_toArray, List.map_cons, List.map_nil]); first | done | rfl | (simp only [List.length_drop, List.length_take]; rfl)) ?_; (with_reducible refine (impl_TurnSlopeWalk.calls kj30 _ _ t496 t497 t500 t501 _ ?side1 ?side2 A37.out).mono ?_); (case side1 => repeat (first | exact (Kd.R_reads' HO499.out).2.2 | (with_reducible refine Kd.C_alloc ?_ _) | (with_reducible refine Kd.C_drewN ?_ _) | (with_reducible refine Kd.C_drew ?_))); (case side2 => exact (Kd.R_reads' HO499.out).2.1); rintro e w44 ⟨v502, rfl, ho0, hb⟩; refine ⟨_, rfl, ?_⟩; have n0_ := Aside0.mk (Kd.R_elder' (by (with_reducible repeat (first | apply Kd.R_alloc | apply Kd.R_drewN | apply Kd.R_drew)); exact HO499.out) (Kd.R_base ho0) hb); have n1_ := Aside0.mk (Kd.R_lower (Kd.R_new' ho0 (Kd.R_lt (by (with_reducible repeat (first | apply Kd.R_alloc | apply Kd.R_drewN | apply Kd.R_drew)); exact HO499.out))) (below_size (by repeat (first | (with_reducible first | exact HB.out | apply below_alloc | apply pw_below_drewN | apply below_drew1) | exact HB.out)))); have n2_ := Aside0.mk (below_step (by repeat (first | (with_reducible first | exact HB.out | apply below_alloc | apply pw_below_drewN | apply below_drew1) | exact HB.out)) hb); clear HO499; clear HB; have HO499 := n0_; have HO503 := n1_; have HB := n2_; clear n0_ n1_ n2_; (try clear hb); (try clear hb2); (try clear hk); (try clear hi); (try clear ho0)) | ((with_reducible refine gate_callee (f := 13) rfl ?_); refine goesL_ (some 122) rfl rfl Try.func13 (by kernel_rfl) rfl #[.slice Ao43 t496.length co43, .int .i64 t497] rfl (by (try simp only [List.map_toArray, List.map_cons, List.map_nil]); first | done | rfl | (simp only [List.length_drop, List.length_take]; rfl)) ?_; (with_reducible refine (spec_TurnSlopeWalk.calls kj30 _ _ t496 t497 t504 t505 _ ?side1 ?side2 A38.out).mono ?_); (case side1 => repeat (first | exact (Kd.R_reads' HO499.out).2.2 | (with_reducible refine Kd.C_alloc ?_ _) | (with_reducible refine Kd.C_drewN ?_ _) | (with_reducible refine Kd.C_drew ?_))); (case side2 => exact (Kd.R_reads' HO499.out).2.1); rintro e w45 ⟨v506, rfl, ho0, hb⟩; refine ⟨_, rfl, ?_⟩; have n0_ := Aside0.mk (Kd.R_elder' (by (with_reducible repeat (first | apply Kd.R_alloc | apply Kd.R_drewN | apply Kd.R_drew)); exact HO499.out) (Kd.R_base ho0) hb); have n1_ := Aside0.mk (Kd.R_elder' (by (with_reducible repeat (first | apply Kd.R_alloc | apply Kd.R_drewN | apply Kd.R_drew)); exact HO503.out) (Kd.R_base ho0) hb); have n2_ := Aside0.mk (Kd.R_lower (Kd.R_new' (Kd.R_new' ho0 (Kd.R_lt (by (with_reducible repeat (first | apply Kd.R_alloc | apply Kd.R_drewN | apply Kd.R_drew)); exact HO499.out))) (Kd.R_lt (by (with_reducible repeat (first | apply Kd.R_alloc | apply Kd.R_drewN | apply Kd.R_drew)); exact HO503.out))) (below_size (by repeat (first | (with_reducible first | exact HB.out | apply below_alloc | apply pw_below_drewN | apply below_drew1) | exact HB.out)))); have n3_ := Aside0.mk (below_step (by repeat (first | (with_reducible first | exact HB.out | apply below_alloc | apply pw_below_drewN | apply below_drew1) | exact HB.out)) hb); clear HO499; clear HO503; clear HB; have HO499 := n0_; have HO503 := n1_; have HO507 := n2_; have HB := n3_; clear n0_ n1_ n2_ n3_; (try clear hb); (try clear hb2); (try clear hk); (try clear hi); (try clear ho0)) | ((with_reducible refine gate_callee (f := 14) rfl ?_); refine goesL_ (some 128) rfl rfl Try.func14 (by kernel_rfl) rfl #[.slice Ao43 t496.length co43, .int .i64 t497] rfl (by (try simp only [List.map_toArray, List.map_cons, List.map_nil]); first | done | rfl | (simp only [List.length_drop, List.length_take]; rfl)) ?_; (with_reducible refine (impl_LevelsOfWalk.calls kj30 _ _ t496 t497 t508 t509 _ ?side1 ?side2 A39.out).mono ?_); (case side1 => repeat (first | exact (Kd.R_reads' HO499.out).2.2 | (with_reducible refine Kd.C_alloc ?_ _) | (with_reducible refine Kd.C_drewN ?_ _) | (with_reducible refine Kd.C_drew ?_))); (case side2 => exact (Kd.R_reads' HO499.out).2.1); rintro e w46 ⟨v510, rfl, ho0, hb⟩; refine ⟨_, rfl, ?_⟩; have n0_ := Aside0.mk (Kd.R_elder' (by (with_reducible repeat (first | apply Kd.R_alloc | apply Kd.R_drewN | apply Kd.R_drew)); exact HO499.out) (Kd.R_base ho0) hb); have n1_ := Aside0.mk (Kd.R_elder' (by (with_reducible repeat (first | apply Kd.R_alloc | apply Kd.R_drewN | apply Kd.R_drew)); exact HO503.out) (Kd.R_base ho0) hb); have n2_ := Aside0.mk (Kd.R_elder' (by (with_reducible repeat (first | apply Kd.R_alloc | apply Kd.R_drewN | apply Kd.R_drew)); exact HO507.out) (Kd.R_base ho0) hb); have n3_ := Aside0.mk (Kd.R_lower (Kd.R_new' (Kd.R_new' (Kd.R_new' ho0 (Kd.R_lt (by (with_reducible repeat (first | apply Kd.R_alloc | apply Kd.R_drewN | apply Kd.R_drew)); exact HO499.out))) (Kd.R_lt (by (with_reducible repeat (first | apply Kd.R_alloc | apply Kd.R_drewN | apply Kd.R_drew)); exact HO503.out))) (Kd.R_lt (by (with_reducible repeat (first | apply Kd.R_alloc | apply Kd.R_drewN | apply Kd.R_drew)); exact HO507.out))) (below_size (by repeat (first | (with_reducible first | exact HB.out | apply below_alloc | apply pw_below_drewN | apply below_drew1) | exact HB.out)))); have n4_ := Aside0.mk (below_step (by repeat (first | (with_reducible first | exact HB.out | apply below_alloc | apply pw_below_drewN | apply below_drew1) | exact HB.out)) hb); clear HO499; clear HO503; clear HO507; clear HB; have HO499 := n0_; have HO503 := n1_; have HO507 := n2_; have HO511 := n3_; have HB := n4_; clear n0_ n1_ n2_ n3_ n4_; (try clear hb); (try clear hb2); (try clear hk); (try clear hi); (try clear ho0)) | ((with_reducible refine gate_callee (f := 15) rfl ?_); refine goesL_ (some 134) rfl rfl Try.func15 (by kernel_rfl) rfl #[.slice Ao43 t496.length co43, .int .i64 t497] rfl (by (try simp only [List.map_toArray, List.map_cons, List.map_nil]); first | done | rfl | (simp only [List.length_drop, List.length_take]; rfl)) ?_; (with_reducible refine (spec_LevelsOfWalk.calls kj30 _ _ t496 t497 t512 t513 _ ?side1 ?side2 A40.out).mono ?_); (case side1 => repeat (first | exact (Kd.R_reads' HO499.out).2.2 | (with_reducible refine Kd.C_alloc ?_ _) | (with_reducible refine Kd.C_drewN ?_ _) | (with_reducible refine Kd.C_drew ?_))); (case side2 => exact (Kd.R_reads' HO499.out).2.1); rintro e w47 ⟨v514, rfl, ho0, hb⟩; refine ⟨_, rfl, ?_⟩; have n0_ := Aside0.mk (Kd.R_elder' (by (with_reducible repeat (first | apply Kd.R_alloc | apply Kd.R_drewN | apply Kd.R_drew)); exact HO499.out) (Kd.R_base ho0) hb); have n1_ := Aside0.mk (Kd.R_elder' (by (with_reducible repeat (first | apply Kd.R_alloc | apply Kd.R_drewN | apply Kd.R_drew)); exact HO503.out) (Kd.R_base ho0) hb); have n2_ := Aside0.mk (Kd.R_elder' (by (with_reducible repeat (first | apply Kd.R_alloc | apply Kd.R_drewN | apply Kd.R_drew)); exact HO507.out) (Kd.R_base ho0) hb); have n3_ := Aside0.mk (Kd.R_elder' (by (with_reducible repeat (first | apply Kd.R_alloc | apply Kd.R_drewN | apply Kd.R_drew)); exact HO511.out) (Kd.R_base ho0) hb); have n4_ := Aside0.mk (Kd.R_lower (Kd.R_new' (Kd.R_new' (Kd.R_new' (Kd.R_new' ho0 (Kd.R_lt (by (with_reducible repeat (first | apply Kd.R_alloc | apply Kd.R_drewN | apply Kd.R_drew)); exact HO499.out))) (Kd.R_lt (by (with_reducible repeat (first | apply Kd.R_alloc | apply Kd.R_drewN | apply Kd.R_drew)); exact HO503.out))) (Kd.R_lt (by (with_reducible repeat (first | apply Kd.R_alloc | apply Kd.R_drewN | apply Kd.R_drew)); exact HO507.out))) (Kd.R_lt (by (with_reducible repeat (first | apply Kd.R_alloc | apply Kd.R_drewN | apply Kd.R_drew)); exact HO511.out))) (below_size (by repeat (first | (with_reducible first | exact HB.out | apply below_alloc | apply pw_below_drewN | apply below_drew1) | exact HB.out)))); have n5_ := Aside0.mk (below_step (by repeat (first | (with_reducible first | exact HB.out | apply below_alloc | apply pw_below_drewN | apply below_drew1) | exact HB.out)) hb); clear HO499; clear HO503; clear HO507; clear HO511; clear HB; have HO499 := n0_; have HO503 := n1_; have HO507 := n2_; have HO511 := n3_; have HO515 := n4_; have HB := n5_; clear n0_ n1_ n2_ n3_ n4_ n5_; (try clear hb); (try clear hb2); (try clear hk); (try clear hi); (try clear ho0)))
              (try simp only [Act.put, List.setIfInBounds_toArray, List.set_cons_zero, List.set_cons_succ])
              go_cut [156] (fun v156 wc => ∃ (kq : Nat) (x156_40 : Bool), v156 = .bool x156_40 ∧ Aside0 (laws_FnSlopeWalks.j2 kq t496 t497 t500 t501 t508 x156_40 = some r) ∧ Aside0 (kq ≤ kj30) ∧ Aside0 (Kd.R (Kd.int .i64) 3 wc w.heap.size (fun k_ => some k_ ≠ (v502 : Value).ownBlock ∧ some k_ ≠ (v510 : Value).ownBlock) (.slice Ao43 t496.length co43) t496) ∧ Aside0 (Kd.R (Kd.int .i64) 3 wc w.heap.size (fun k_ => some k_ ≠ ((.slice Ao43 t496.length co43) : Value).ownBlock ∧ some k_ ≠ (v510 : Value).ownBlock) v502 t500) ∧ Aside0 (Kd.R (Kd.int .i64) 3 wc w.heap.size (fun k_ => some k_ ≠ ((.slice Ao43 t496.length co43) : Value).ownBlock ∧ some k_ ≠ (v502 : Value).ownBlock) v510 t508) ∧ Aside0 (Below w.heap.size w wc))
              case first =>
                have H := HC41.out
                clear HC41
                by_cases c48 : (t501 != t505) = true
                · rw [if_pos c48] at H
                  have c48b0 : (t501 != t505) = true := c48
                  (try (have c48b1 : decide (t501 = t505) = false := by simpa using c48))
                  (try (have c48b2 : (t501 == t505) = false := by simpa using c48))
                  (try (have c48b3 : ¬ (t501 = t505) := by simpa using c48))
                  clear c48
                  (first | rw [c48b0] | (simp only [i64_w, i32_w]; rw [c48b0]) | skip)
                  as_aux_lemma =>
                    have H' := Aside0.mk H
                    clear H
                    go_wp2
                    go_meet
                    case rel => exact ⟨_, (true), (by first | rfl | (simp; done) | (simp [*]; done)), H', ⟨by have := HJ9.out; have := HJ30.out; first | omega | exact Nat.le_refl _⟩, ⟨by (with_reducible repeat (first | apply Kd.R_alloc | apply Kd.R_drewN | apply Kd.R_drew)); exact Kd.R_mono HO499.out (fun _ hk => ⟨hk.1.1.1.2, hk.1.2⟩)⟩, ⟨by (with_reducible repeat (first | apply Kd.R_alloc | apply Kd.R_drewN | apply Kd.R_drew)); exact Kd.R_mono HO503.out (fun _ hk => ⟨hk.1.1.1.2, hk.1.2⟩)⟩, ⟨by (with_reducible repeat (first | apply Kd.R_alloc | apply Kd.R_drewN | apply Kd.R_drew)); exact Kd.R_mono HO511.out (fun _ hk => ⟨hk.1.1.1.2, hk.1.1.2⟩)⟩, ⟨by repeat (first | (with_reducible first | exact HB.out | apply below_alloc | apply pw_below_drewN | apply below_drew1) | exact HB.out)⟩⟩
                · rw [if_neg c48] at H
                  have c48b0 : (t501 != t505) = false := by simpa using c48
                  (try (have c48b1 : decide (t501 = t505) = true := by simpa using c48))
                  (try (have c48b2 : (t501 == t505) = true := by simpa using c48))
                  clear c48
                  (first | rw [c48b0] | (simp only [i64_w, i32_w]; rw [c48b0]) | skip)
                  replace H := Option.bind_eq_some_iff.mp H
                  obtain ⟨t516, A490, H⟩ := H
                  replace H : (if t516 = true then (if (t509 != t513) = true then (laws_FnSlopeWalks.j2 kj30 t496 t497 t500 t501 t508 true) else ((laws_wSame.f kj30 t508 t512).bind fun t517 => (laws_FnSlopeWalks.j2 kj30 t496 t497 t500 t501 t508 (!t517)))) else (laws_FnSlopeWalks.j2 kj30 t496 t497 t500 t501 t508 true)) = some r := H
                  have A49 := Aside0.mk A490
                  clear A490
                  by_cases c50 : t516 = true
                  · subst c50
                    have H1 : (if (t509 != t513) = true then (laws_FnSlopeWalks.j2 kj30 t496 t497 t500 t501 t508 true) else ((laws_wSame.f kj30 t508 t512).bind fun t517 => (laws_FnSlopeWalks.j2 kj30 t496 t497 t500 t501 t508 (!t517)))) = some r := by rw [if_pos rfl] at H; exact H
                    clear H
                    have H := H1
                    clear H1
                    by_cases c51 : (t509 != t513) = true
                    · rw [if_pos c51] at H
                      have c51b0 : (t509 != t513) = true := c51
                      (try (have c51b1 : decide (t509 = t513) = false := by simpa using c51))
                      (try (have c51b2 : (t509 == t513) = false := by simpa using c51))
                      (try (have c51b3 : ¬ (t509 = t513) := by simpa using c51))
                      clear c51
                      as_aux_lemma =>
                        have H' := Aside0.mk H
                        clear H
                        obtain ⟨Ao52, co52, eo52⟩ := Kd.R_slice HO503.out
                        subst eo52
                        obtain ⟨Ao53, co53, eo53⟩ := Kd.R_slice HO507.out
                        subst eo53
                        go_wp2_with (first | (go_at_call 16; (with_reducible refine (laws_wSame.calls kj30 _ _ t500 _ _ t504 true _ ?side1 ?side2 ?side3 ?side4 A49.out).mono ?_); (case side1 => repeat (first | exact (Kd.R_reads' HO503.out).2.2 | (with_reducible refine Kd.C_alloc ?_ _) | (with_reducible refine Kd.C_drewN ?_ _) | (with_reducible refine Kd.C_drew ?_))); (case side2 => exact (Kd.R_reads' HO503.out).2.1); (case side3 => repeat (first | exact (Kd.R_reads' HO507.out).2.2 | (with_reducible refine Kd.C_alloc ?_ _) | (with_reducible refine Kd.C_drewN ?_ _) | (with_reducible refine Kd.C_drew ?_))); (case side4 => exact (Kd.R_reads' HO507.out).2.1); rintro e w' ⟨rfl, ⟨nd, rfl⟩⟩))
                        go_meet
                        case rel => exact ⟨_, (true), (by first | rfl | (simp; done) | (simp [*]; done)), H', ⟨by have := HJ9.out; have := HJ30.out; first | omega | exact Nat.le_refl _⟩, ⟨by (with_reducible repeat (first | apply Kd.R_alloc | apply Kd.R_drewN | apply Kd.R_drew)); exact Kd.R_mono HO499.out (fun _ hk => ⟨hk.1.1.1.2, hk.1.2⟩)⟩, ⟨by (with_reducible repeat (first | apply Kd.R_alloc | apply Kd.R_drewN | apply Kd.R_drew)); exact Kd.R_mono HO503.out (fun _ hk => ⟨hk.1.1.1.2, hk.1.2⟩)⟩, ⟨by (with_reducible repeat (first | apply Kd.R_alloc | apply Kd.R_drewN | apply Kd.R_drew)); exact Kd.R_mono HO511.out (fun _ hk => ⟨hk.1.1.1.2, hk.1.1.2⟩)⟩, ⟨by repeat (first | (with_reducible first | exact HB.out | apply below_alloc | apply pw_below_drewN | apply below_drew1) | exact HB.out)⟩⟩
                    · rw [if_neg c51] at H
                      have c51b0 : (t509 != t513) = false := by simpa using c51
                      (try (have c51b1 : decide (t509 = t513) = true := by simpa using c51))
                      (try (have c51b2 : (t509 == t513) = true := by simpa using c51))
                      clear c51
                      replace H := Option.bind_eq_some_iff.mp H
                      obtain ⟨t517, A540, H⟩ := H
                      replace H : (laws_FnSlopeWalks.j2 kj30 t496 t497 t500 t501 t508 (!t517)) = some r := H
                      have A54 := Aside0.mk A540
                      clear A540
                      as_aux_lemma =>
                        have H' := Aside0.mk H
                        clear H
                        obtain ⟨Ao55, co55, eo55⟩ := Kd.R_slice HO503.out
                        subst eo55
                        obtain ⟨Ao56, co56, eo56⟩ := Kd.R_slice HO507.out
                        subst eo56
                        go_wp2_with (first | (go_at_call 16; (with_reducible refine (laws_wSame.calls kj30 _ _ t500 _ _ t504 true _ ?side1 ?side2 ?side3 ?side4 A49.out).mono ?_); (case side1 => repeat (first | exact (Kd.R_reads' HO503.out).2.2 | (with_reducible refine Kd.C_alloc ?_ _) | (with_reducible refine Kd.C_drewN ?_ _) | (with_reducible refine Kd.C_drew ?_))); (case side2 => exact (Kd.R_reads' HO503.out).2.1); (case side3 => repeat (first | exact (Kd.R_reads' HO507.out).2.2 | (with_reducible refine Kd.C_alloc ?_ _) | (with_reducible refine Kd.C_drewN ?_ _) | (with_reducible refine Kd.C_drew ?_))); (case side4 => exact (Kd.R_reads' HO507.out).2.1); rintro e w' ⟨rfl, ⟨nd, rfl⟩⟩; obtain ⟨Ao57, co57, eo57⟩ := Kd.R_slice HO511.out; subst eo57; obtain ⟨Ao58, co58, eo58⟩ := Kd.R_slice HO515.out; subst eo58) | (go_at_call 16; (with_reducible refine (laws_wSame.calls kj30 _ _ t508 _ _ t512 t517 _ ?side1 ?side2 ?side3 ?side4 A54.out).mono ?_); (case side1 => repeat (first | exact (Kd.R_reads' HO511.out).2.2 | (with_reducible refine Kd.C_alloc ?_ _) | (with_reducible refine Kd.C_drewN ?_ _) | (with_reducible refine Kd.C_drew ?_))); (case side2 => exact (Kd.R_reads' HO511.out).2.1); (case side3 => repeat (first | exact (Kd.R_reads' HO515.out).2.2 | (with_reducible refine Kd.C_alloc ?_ _) | (with_reducible refine Kd.C_drewN ?_ _) | (with_reducible refine Kd.C_drew ?_))); (case side4 => exact (Kd.R_reads' HO515.out).2.1); rintro e w' ⟨rfl, ⟨nd, rfl⟩⟩))
                        go_meet
                        case rel => exact ⟨_, (!t517), (by first | rfl | (simp; done) | (simp [*]; done)), H', ⟨by have := HJ9.out; have := HJ30.out; first | omega | exact Nat.le_refl _⟩, ⟨by (with_reducible repeat (first | apply Kd.R_alloc | apply Kd.R_drewN | apply Kd.R_drew)); exact Kd.R_mono HO499.out (fun _ hk => ⟨hk.1.1.1.2, hk.1.2⟩)⟩, ⟨by (with_reducible repeat (first | apply Kd.R_alloc | apply Kd.R_drewN | apply Kd.R_drew)); exact Kd.R_mono HO503.out (fun _ hk => ⟨hk.1.1.1.2, hk.1.2⟩)⟩, ⟨by (with_reducible repeat (first | apply Kd.R_alloc | apply Kd.R_drewN | apply Kd.R_drew)); exact Kd.R_mono HO511.out (fun _ hk => ⟨hk.1.1.1.2, hk.1.1.2⟩)⟩, ⟨by repeat (first | (with_reducible first | exact HB.out | apply below_alloc | apply pw_below_drewN | apply below_drew1) | exact HB.out)⟩⟩
                  · replace c50 := Bool.eq_false_iff.mpr c50
                    subst c50
                    have H1 : (laws_FnSlopeWalks.j2 kj30 t496 t497 t500 t501 t508 true) = some r := by rw [if_neg (show ¬ (false = true) by decide)] at H; exact H
                    clear H
                    have H := H1
                    clear H1
                    as_aux_lemma =>
                      have H' := Aside0.mk H
                      clear H
                      obtain ⟨Ao59, co59, eo59⟩ := Kd.R_slice HO503.out
                      subst eo59
                      obtain ⟨Ao60, co60, eo60⟩ := Kd.R_slice HO507.out
                      subst eo60
                      go_wp2_with (first | (go_at_call 16; (with_reducible refine (laws_wSame.calls kj30 _ _ t500 _ _ t504 false _ ?side1 ?side2 ?side3 ?side4 A49.out).mono ?_); (case side1 => repeat (first | exact (Kd.R_reads' HO503.out).2.2 | (with_reducible refine Kd.C_alloc ?_ _) | (with_reducible refine Kd.C_drewN ?_ _) | (with_reducible refine Kd.C_drew ?_))); (case side2 => exact (Kd.R_reads' HO503.out).2.1); (case side3 => repeat (first | exact (Kd.R_reads' HO507.out).2.2 | (with_reducible refine Kd.C_alloc ?_ _) | (with_reducible refine Kd.C_drewN ?_ _) | (with_reducible refine Kd.C_drew ?_))); (case side4 => exact (Kd.R_reads' HO507.out).2.1); rintro e w' ⟨rfl, ⟨nd, rfl⟩⟩))
                      go_meet
                      case rel => exact ⟨_, (true), (by first | rfl | (simp; done) | (simp [*]; done)), H', ⟨by have := HJ9.out; have := HJ30.out; first | omega | exact Nat.le_refl _⟩, ⟨by (with_reducible repeat (first | apply Kd.R_alloc | apply Kd.R_drewN | apply Kd.R_drew)); exact Kd.R_mono HO499.out (fun _ hk => ⟨hk.1.1.1.2, hk.1.2⟩)⟩, ⟨by (with_reducible repeat (first | apply Kd.R_alloc | apply Kd.R_drewN | apply Kd.R_drew)); exact Kd.R_mono HO503.out (fun _ hk => ⟨hk.1.1.1.2, hk.1.2⟩)⟩, ⟨by (with_reducible repeat (first | apply Kd.R_alloc | apply Kd.R_drewN | apply Kd.R_drew)); exact Kd.R_mono HO511.out (fun _ hk => ⟨hk.1.1.1.2, hk.1.1.2⟩)⟩, ⟨by repeat (first | (with_reducible first | exact HB.out | apply below_alloc | apply pw_below_drewN | apply below_drew1) | exact HB.out)⟩⟩
              case rest =>
                clear HC41
                try clear c1
                try clear c2
                try clear p2
                try clear c3
                try clear c4
                try clear c5
                try clear c6
                try clear c7
                try clear c8
                try clear c9
                try clear c11
                try clear c12
                try clear c13
                try clear c14
                try clear c14b0
                try clear c14b1
                try clear c14b2
                try clear c15
                try clear c16
                try clear c17
                try clear c17b0
                try clear c17b1
                try clear c17b2
                try clear c20
                try clear c20b0
                try clear c20b1
                try clear c21
                try clear c30
                try clear c32
                try clear c34
                try clear c35
                try clear c35b0
                try clear c35b1
                try clear c48
                try clear c48b0
                try clear c48b1
                try clear c48b2
                try clear c50
                try clear c51
                try clear c51b0
                try clear c51b1
                try clear c51b2
                try clear p2
                obtain ⟨kq, x156_40, rfl, HA, HJ40, HO_17, HO_19, HO_23, HB⟩ := hcut
                cases kq with
                | zero => exact absurd HA.out (by simp [laws_FnSlopeWalks.j2])
                | succ kj40 =>
                  have H := HA.out
                  clear HA
                  simp only [laws_FnSlopeWalks.j2] at H
                  by_cases c61 : x156_40 = true
                  · subst c61
                    have H1 : (some false) = some r := by rw [if_pos rfl] at H; exact H
                    clear H
                    have H := H1
                    clear H1
                    as_aux_lemma =>
                      obtain rfl := Option.some.inj H
                      go_wp2
                      go_ret
                      exact ⟨by first | rfl | (simp [errW_none, errW_some] <;> rfl) | (simp [*, errW_none, errW_some] <;> rfl), by repeat (first | (with_reducible first | exact HB.out | apply below_alloc | apply pw_below_drewN | apply below_drew1) | exact HB.out)⟩
                  · replace c61 := Bool.eq_false_iff.mpr c61
                    subst c61
                    have H1 : (if t501 = true then ((impl_TurnSlopeWalk.f kj40 t500 (t496.length : Int)).bind fun bt518 => ((impl_SlopeArea.f kj40 t496 t497).bind fun bt522 => ((impl_SlopeArea.f kj40 t500 (t496.length : Int)).bind fun bt524 => (if bt518.2 = true then (if bt522.2 = true then (if bt524.2 = true then ((laws_wSame.f kj40 bt518.1 t496).bind fun t526 => (if t526 = true then (if bt522.1 = bt524.1 then (laws_FnSlopeWalks.j3 kj40 t508) else (some false)) else (some false))) else (some false)) else (some false)) else (some false))))) else (laws_FnSlopeWalks.j3 kj40 t508)) = some r := by rw [if_neg (show ¬ (false = true) by decide)] at H; exact H
                    clear H
                    have H := H1
                    clear H1
                    have HC62 := Aside0.mk H
                    clear H
                    go_upto_if 157 with (fail)
                    go_cut [] (fun wc => ∃ (kq : Nat), Aside0 (laws_FnSlopeWalks.j3 kq t508 = some r) ∧ Aside0 (kq ≤ kj40) ∧ Aside0 (Kd.R (Kd.int .i64) 3 wc w.heap.size (fun _ => True) v510 t508) ∧ Aside0 (Below w.heap.size w wc))
                    case first =>
                      have H := HC62.out
                      clear HC62
                      by_cases c63 : t501 = true
                      · subst c63
                        have H1 : ((impl_TurnSlopeWalk.f kj40 t500 (t496.length : Int)).bind fun bt518 => ((impl_SlopeArea.f kj40 t496 t497).bind fun bt522 => ((impl_SlopeArea.f kj40 t500 (t496.length : Int)).bind fun bt524 => (if bt518.2 = true then (if bt522.2 = true then (if bt524.2 = true then ((laws_wSame.f kj40 bt518.1 t496).bind fun t526 => (if t526 = true then (if bt522.1 = bt524.1 then (laws_FnSlopeWalks.j3 kj40 t508) else (some false)) else (some false))) else (some false)) else (some false)) else (some false))))) = some r := by rw [if_pos rfl] at H; exact H
                        clear H
                        have H := H1
                        clear H1
                        replace H := Option.bind_eq_some_iff.mp H
                        obtain ⟨⟨t518, t519⟩, A640, H⟩ := H
                        replace H : ((impl_SlopeArea.f kj40 t496 t497).bind fun bt522 => ((impl_SlopeArea.f kj40 t500 (t496.length : Int)).bind fun bt524 => (if t519 = true then (if bt522.2 = true then (if bt524.2 = true then ((laws_wSame.f kj40 t518 t496).bind fun t526 => (if t526 = true then (if bt522.1 = bt524.1 then (laws_FnSlopeWalks.j3 kj40 t508) else (some false)) else (some false))) else (some false)) else (some false)) else (some false)))) = some r := H
                        have A64 := Aside0.mk A640
                        clear A640
                        replace H := Option.bind_eq_some_iff.mp H
                        obtain ⟨⟨t522, t523⟩, A650, H⟩ := H
                        replace H : ((impl_SlopeArea.f kj40 t500 (t496.length : Int)).bind fun bt524 => (if t519 = true then (if t523 = true then (if bt524.2 = true then ((laws_wSame.f kj40 t518 t496).bind fun t526 => (if t526 = true then (if t522 = bt524.1 then (laws_FnSlopeWalks.j3 kj40 t508) else (some false)) else (some false))) else (some false)) else (some false)) else (some false))) = some r := H
                        have A65 := Aside0.mk A650
                        clear A650
                        replace H := Option.bind_eq_some_iff.mp H
                        obtain ⟨⟨t524, t525⟩, A660, H⟩ := H
                        replace H : (if t519 = true then (if t523 = true then (if t525 = true then ((laws_wSame.f kj40 t518 t496).bind fun t526 => (if t526 = true then (if t522 = t524 then (laws_FnSlopeWalks.j3 kj40 t508) else (some false)) else (some false))) else (some false)) else (some false)) else (some false)) = some r := H
                        have A66 := Aside0.mk A660
                        clear A660
                        by_cases c67 : t519 = true
                        · subst c67
                          have H1 : (if t523 = true then (if t525 = true then ((laws_wSame.f kj40 t518 t496).bind fun t526 => (if t526 = true then (if t522 = t524 then (laws_FnSlopeWalks.j3 kj40 t508) else (some false)) else (some false))) else (some false)) else (some false)) = some r := by rw [if_pos rfl] at H; exact H
                          clear H
                          have H := H1
                          clear H1
                          by_cases c68 : t523 = true
                          · subst c68
                            have H1 : (if t525 = true then ((laws_wSame.f kj40 t518 t496).bind fun t526 => (if t526 = true then (if t522 = t524 then (laws_FnSlopeWalks.j3 kj40 t508) else (some false)) else (some false))) else (some false)) = some r := by rw [if_pos rfl] at H; exact H
                            clear H
                            have H := H1
                            clear H1
                            by_cases c69 : t525 = true
                            · subst c69
                              have H1 : ((laws_wSame.f kj40 t518 t496).bind fun t526 => (if t526 = true then (if t522 = t524 then (laws_FnSlopeWalks.j3 kj40 t508) else (some false)) else (some false))) = some r := by rw [if_pos rfl] at H; exact H
                              clear H
                              have H := H1
                              clear H1
                              replace H := Option.bind_eq_some_iff.mp H
                              obtain ⟨t526, A700, H⟩ := H
                              replace H : (if t526 = true then (if t522 = t524 then (laws_FnSlopeWalks.j3 kj40 t508) else (some false)) else (some false)) = some r := H
                              have A70 := Aside0.mk A700
                              clear A700
                              by_cases c71 : t526 = true
                              · subst c71
                                have H1 : (if t522 = t524 then (laws_FnSlopeWalks.j3 kj40 t508) else (some false)) = some r := by rw [if_pos rfl] at H; exact H
                                clear H
                                have H := H1
                                clear H1
                                by_cases c72 : t522 = t524
                                · rw [if_pos c72] at H
                                  have c72b0 : (t522 == t524) = true := beq_iff_eq.mpr c72
                                  have c72b1 : (t522 != t524) = false := bne_eq_false_iff_eq.mpr c72
                                  clear c72
                                  (first | rw [c72b0] | (simp only [i64_w, i32_w]; rw [c72b0]) | skip)
                                  as_aux_lemma =>
                                    have H' := Aside0.mk H
                                    clear H
                                    obtain ⟨Ao73, co73, eo73⟩ := Kd.R_slice HO_19.out
                                    subst eo73
                                    go_wp2_with (first | ((with_reducible refine gate_callee (f := 12) rfl ?_); refine goesL_ (some 162) rfl rfl Try.func12 (by kernel_rfl) rfl #[.slice Ao73 t500.length co73, .int .i64 (t496.length : Int)] rfl (by (try simp only [List.map_toArray, List.map_cons, List.map_nil]); first | done | rfl | (simp only [List.length_drop, List.length_take]; rfl)) ?_; (with_reducible refine (impl_TurnSlopeWalk.calls kj40 _ _ t500 (t496.length : Int) t518 true _ ?side1 ?side2 A64.out).mono ?_); (case side1 => repeat (first | exact (Kd.R_reads' HO_19.out).2.2 | (with_reducible refine Kd.C_alloc ?_ _) | (with_reducible refine Kd.C_drewN ?_ _) | (with_reducible refine Kd.C_drew ?_))); (case side2 => exact (Kd.R_reads' HO_19.out).2.1); rintro e w74 ⟨v520, rfl, ho0, hb⟩; refine ⟨_, rfl, ?_⟩; have n0_ := Aside0.mk (Kd.R_elder' (by (with_reducible repeat (first | apply Kd.R_alloc | apply Kd.R_drewN | apply Kd.R_drew)); exact HO_17.out) (Kd.R_base ho0) hb); have n1_ := Aside0.mk (Kd.R_elder' (by (with_reducible repeat (first | apply Kd.R_alloc | apply Kd.R_drewN | apply Kd.R_drew)); exact HO_19.out) (Kd.R_base ho0) hb); have n2_ := Aside0.mk (Kd.R_elder' (by (with_reducible repeat (first | apply Kd.R_alloc | apply Kd.R_drewN | apply Kd.R_drew)); exact HO_23.out) (Kd.R_base ho0) hb); have n3_ := Aside0.mk (Kd.R_lower (Kd.R_new' (Kd.R_new' (Kd.R_new' ho0 (Kd.R_lt (by (with_reducible repeat (first | apply Kd.R_alloc | apply Kd.R_drewN | apply Kd.R_drew)); exact HO_17.out))) (Kd.R_lt (by (with_reducible repeat (first | apply Kd.R_alloc | apply Kd.R_drewN | apply Kd.R_drew)); exact HO_19.out))) (Kd.R_lt (by (with_reducible repeat (first | apply Kd.R_alloc | apply Kd.R_drewN | apply Kd.R_drew)); exact HO_23.out))) (below_size (by repeat (first | (with_reducible first | exact HB.out | apply below_alloc | apply pw_below_drewN | apply below_drew1) | exact HB.out)))); have n4_ := Aside0.mk (below_step (by repeat (first | (with_reducible first | exact HB.out | apply below_alloc | apply pw_below_drewN | apply below_drew1) | exact HB.out)) hb); clear HO_17; clear HO_19; clear HO_23; clear HB; have HO_17 := n0_; have HO_19 := n1_; have HO_23 := n2_; have HO521 := n3_; have HB := n4_; clear n0_ n1_ n2_ n3_ n4_; (try clear hb); (try clear hb2); (try clear hk); (try clear hi); (try clear ho0)) | ((with_reducible refine gate_callee (f := 17) rfl ?_); refine goesL_ (some 168) rfl rfl Try.func17 (by kernel_rfl) rfl #[.slice Ao43 t496.length co43, .int .i64 t497] rfl (by (try simp only [List.map_toArray, List.map_cons, List.map_nil]); first | done | rfl | (simp only [List.length_drop, List.length_take]; rfl)) ?_; (with_reducible refine (impl_SlopeArea.calls kj40 _ _ t496 t497 t522 true _ ?side1 ?side2 A65.out).mono ?_); (case side1 => repeat (first | exact (Kd.R_reads' HO_17.out).2.2 | (with_reducible refine Kd.C_alloc ?_ _) | (with_reducible refine Kd.C_drewN ?_ _) | (with_reducible refine Kd.C_drew ?_))); (case side2 => exact (Kd.R_reads' HO_17.out).2.1); rintro e w75 ⟨rfl, hb⟩; refine ⟨_, rfl, ?_⟩; have n0_ := Aside0.mk (Kd.R_below (by (with_reducible repeat (first | apply Kd.R_alloc | apply Kd.R_drewN | apply Kd.R_drew)); exact HO_17.out) hb); have n1_ := Aside0.mk (Kd.R_below (by (with_reducible repeat (first | apply Kd.R_alloc | apply Kd.R_drewN | apply Kd.R_drew)); exact HO_19.out) hb); have n2_ := Aside0.mk (Kd.R_below (by (with_reducible repeat (first | apply Kd.R_alloc | apply Kd.R_drewN | apply Kd.R_drew)); exact HO_23.out) hb); have n3_ := Aside0.mk (Kd.R_below (by (with_reducible repeat (first | apply Kd.R_alloc | apply Kd.R_drewN | apply Kd.R_drew)); exact HO521.out) hb); have n4_ := Aside0.mk (below_step (by repeat (first | (with_reducible first | exact HB.out | apply below_alloc | apply pw_below_drewN | apply below_drew1) | exact HB.out)) hb); clear HO_17; clear HO_19; clear HO_23; clear HO521; clear HB; have HO_17 := n0_; have HO_19 := n1_; have HO_23 := n2_; have HO521 := n3_; have HB := n4_; clear n0_ n1_ n2_ n3_ n4_; (try clear hb); (try clear hb2); (try clear hk); (try clear hi)) | ((with_reducible refine gate_callee (f := 17) rfl ?_); refine goesL_ (some 175) rfl rfl Try.func17 (by kernel_rfl) rfl #[.slice Ao73 t500.length co73, .int .i64 (t496.length : Int)] rfl (by (try simp only [List.map_toArray, List.map_cons, List.map_nil]); first | done | rfl | (simp only [List.length_drop, List.length_take]; rfl)) ?_; (with_reducible refine (impl_SlopeArea.calls kj40 _ _ t500 (t496.length : Int) t524 true _ ?side1 ?side2 A66.out).mono ?_); (case side1 => repeat (first | exact (Kd.R_reads' HO_19.out).2.2 | (with_reducible refine Kd.C_alloc ?_ _) | (with_reducible refine Kd.C_drewN ?_ _) | (with_reducible refine Kd.C_drew ?_))); (case side2 => exact (Kd.R_reads' HO_19.out).2.1); rintro e w76 ⟨rfl, hb⟩; refine ⟨_, rfl, ?_⟩; have n0_ := Aside0.mk (Kd.R_below (by (with_reducible repeat (first | apply Kd.R_alloc | apply Kd.R_drewN | apply Kd.R_drew)); exact HO_17.out) hb); have n1_ := Aside0.mk (Kd.R_below (by (with_reducible repeat (first | apply Kd.R_alloc | apply Kd.R_drewN | apply Kd.R_drew)); exact HO_19.out) hb); have n2_ := Aside0.mk (Kd.R_below (by (with_reducible repeat (first | apply Kd.R_alloc | apply Kd.R_drewN | apply Kd.R_drew)); exact HO_23.out) hb); have n3_ := Aside0.mk (Kd.R_below (by (with_reducible repeat (first | apply Kd.R_alloc | apply Kd.R_drewN | apply Kd.R_drew)); exact HO521.out) hb); have n4_ := Aside0.mk (below_step (by repeat (first | (with_reducible first | exact HB.out | apply below_alloc | apply pw_below_drewN | apply below_drew1) | exact HB.out)) hb); clear HO_17; clear HO_19; clear HO_23; clear HO521; clear HB; have HO_17 := n0_; have HO_19 := n1_; have HO_23 := n2_; have HO521 := n3_; have HB := n4_; clear n0_ n1_ n2_ n3_ n4_; (try clear hb); (try clear hb2); (try clear hk); (try clear hi); obtain ⟨Ao77, co77, eo77⟩ := Kd.R_slice HO521.out; subst eo77) | (go_at_call 16; (with_reducible refine (laws_wSame.calls kj40 _ _ t518 _ _ t496 true _ ?side1 ?side2 ?side3 ?side4 A70.out).mono ?_); (case side1 => repeat (first | exact (Kd.R_reads' HO521.out).2.2 | (with_reducible refine Kd.C_alloc ?_ _) | (with_reducible refine Kd.C_drewN ?_ _) | (with_reducible refine Kd.C_drew ?_))); (case side2 => exact (Kd.R_reads' HO521.out).2.1); (case side3 => repeat (first | exact (Kd.R_reads' HO_17.out).2.2 | (with_reducible refine Kd.C_alloc ?_ _) | (with_reducible refine Kd.C_drewN ?_ _) | (with_reducible refine Kd.C_drew ?_))); (case side4 => exact (Kd.R_reads' HO_17.out).2.1); rintro e w' ⟨rfl, ⟨nd, rfl⟩⟩))
                                    go_meet
                                    case rel => exact ⟨_, H', ⟨by have := HJ9.out; have := HJ30.out; have := HJ40.out; first | omega | exact Nat.le_refl _⟩, ⟨by (with_reducible repeat (first | apply Kd.R_alloc | apply Kd.R_drewN | apply Kd.R_drew)); exact Kd.R_mono HO_23.out (fun _ hk => trivial)⟩, ⟨by repeat (first | (with_reducible first | exact HB.out | apply below_alloc | apply pw_below_drewN | apply below_drew1) | exact HB.out)⟩⟩
                                · rw [if_neg c72] at H
                                  have c72b0 : (t522 == t524) = false := beq_eq_false_iff_ne.mpr c72
                                  have c72b1 : (t522 != t524) = true := bne_iff_ne.mpr c72
                                  (first | rw [c72b0] | (simp only [i64_w, i32_w]; rw [c72b0]) | skip)
                                  as_aux_lemma =>
                                    obtain rfl := Option.some.inj H
                                    obtain ⟨Ao78, co78, eo78⟩ := Kd.R_slice HO_19.out
                                    subst eo78
                                    go_wp2_with (first | ((with_reducible refine gate_callee (f := 12) rfl ?_); refine goesL_ (some 162) rfl rfl Try.func12 (by kernel_rfl) rfl #[.slice Ao78 t500.length co78, .int .i64 (t496.length : Int)] rfl (by (try simp only [List.map_toArray, List.map_cons, List.map_nil]); first | done | rfl | (simp only [List.length_drop, List.length_take]; rfl)) ?_; (with_reducible refine (impl_TurnSlopeWalk.calls kj40 _ _ t500 (t496.length : Int) t518 true _ ?side1 ?side2 A64.out).mono ?_); (case side1 => repeat (first | exact (Kd.R_reads' HO_19.out).2.2 | (with_reducible refine Kd.C_alloc ?_ _) | (with_reducible refine Kd.C_drewN ?_ _) | (with_reducible refine Kd.C_drew ?_))); (case side2 => exact (Kd.R_reads' HO_19.out).2.1); rintro e w79 ⟨v520, rfl, ho0, hb⟩; refine ⟨_, rfl, ?_⟩; have n0_ := Aside0.mk (Kd.R_elder' (by (with_reducible repeat (first | apply Kd.R_alloc | apply Kd.R_drewN | apply Kd.R_drew)); exact HO_17.out) (Kd.R_base ho0) hb); have n1_ := Aside0.mk (Kd.R_elder' (by (with_reducible repeat (first | apply Kd.R_alloc | apply Kd.R_drewN | apply Kd.R_drew)); exact HO_19.out) (Kd.R_base ho0) hb); have n2_ := Aside0.mk (Kd.R_elder' (by (with_reducible repeat (first | apply Kd.R_alloc | apply Kd.R_drewN | apply Kd.R_drew)); exact HO_23.out) (Kd.R_base ho0) hb); have n3_ := Aside0.mk (Kd.R_lower (Kd.R_new' (Kd.R_new' (Kd.R_new' ho0 (Kd.R_lt (by (with_reducible repeat (first | apply Kd.R_alloc | apply Kd.R_drewN | apply Kd.R_drew)); exact HO_17.out))) (Kd.R_lt (by (with_reducible repeat (first | apply Kd.R_alloc | apply Kd.R_drewN | apply Kd.R_drew)); exact HO_19.out))) (Kd.R_lt (by (with_reducible repeat (first | apply Kd.R_alloc | apply Kd.R_drewN | apply Kd.R_drew)); exact HO_23.out))) (below_size (by repeat (first | (with_reducible first | exact HB.out | apply below_alloc | apply pw_below_drewN | apply below_drew1) | exact HB.out)))); have n4_ := Aside0.mk (below_step (by repeat (first | (with_reducible first | exact HB.out | apply below_alloc | apply pw_below_drewN | apply below_drew1) | exact HB.out)) hb); clear HO_17; clear HO_19; clear HO_23; clear HB; have HO_17 := n0_; have HO_19 := n1_; have HO_23 := n2_; have HO521 := n3_; have HB := n4_; clear n0_ n1_ n2_ n3_ n4_; (try clear hb); (try clear hb2); (try clear hk); (try clear hi); (try clear ho0)) | ((with_reducible refine gate_callee (f := 17) rfl ?_); refine goesL_ (some 168) rfl rfl Try.func17 (by kernel_rfl) rfl #[.slice Ao43 t496.length co43, .int .i64 t497] rfl (by (try simp only [List.map_toArray, List.map_cons, List.map_nil]); first | done | rfl | (simp only [List.length_drop, List.length_take]; rfl)) ?_; (with_reducible refine (impl_SlopeArea.calls kj40 _ _ t496 t497 t522 true _ ?side1 ?side2 A65.out).mono ?_); (case side1 => repeat (first | exact (Kd.R_reads' HO_17.out).2.2 | (with_reducible refine Kd.C_alloc ?_ _) | (with_reducible refine Kd.C_drewN ?_ _) | (with_reducible refine Kd.C_drew ?_))); (case side2 => exact (Kd.R_reads' HO_17.out).2.1); rintro e w80 ⟨rfl, hb⟩; refine ⟨_, rfl, ?_⟩; have n0_ := Aside0.mk (Kd.R_below (by (with_reducible repeat (first | apply Kd.R_alloc | apply Kd.R_drewN | apply Kd.R_drew)); exact HO_17.out) hb); have n1_ := Aside0.mk (Kd.R_below (by (with_reducible repeat (first | apply Kd.R_alloc | apply Kd.R_drewN | apply Kd.R_drew)); exact HO_19.out) hb); have n2_ := Aside0.mk (Kd.R_below (by (with_reducible repeat (first | apply Kd.R_alloc | apply Kd.R_drewN | apply Kd.R_drew)); exact HO_23.out) hb); have n3_ := Aside0.mk (Kd.R_below (by (with_reducible repeat (first | apply Kd.R_alloc | apply Kd.R_drewN | apply Kd.R_drew)); exact HO521.out) hb); have n4_ := Aside0.mk (below_step (by repeat (first | (with_reducible first | exact HB.out | apply below_alloc | apply pw_below_drewN | apply below_drew1) | exact HB.out)) hb); clear HO_17; clear HO_19; clear HO_23; clear HO521; clear HB; have HO_17 := n0_; have HO_19 := n1_; have HO_23 := n2_; have HO521 := n3_; have HB := n4_; clear n0_ n1_ n2_ n3_ n4_; (try clear hb); (try clear hb2); (try clear hk); (try clear hi)) | ((with_reducible refine gate_callee (f := 17) rfl ?_); refine goesL_ (some 175) rfl rfl Try.func17 (by kernel_rfl) rfl #[.slice Ao78 t500.length co78, .int .i64 (t496.length : Int)] rfl (by (try simp only [List.map_toArray, List.map_cons, List.map_nil]); first | done | rfl | (simp only [List.length_drop, List.length_take]; rfl)) ?_; (with_reducible refine (impl_SlopeArea.calls kj40 _ _ t500 (t496.length : Int) t524 true _ ?side1 ?side2 A66.out).mono ?_); (case side1 => repeat (first | exact (Kd.R_reads' HO_19.out).2.2 | (with_reducible refine Kd.C_alloc ?_ _) | (with_reducible refine Kd.C_drewN ?_ _) | (with_reducible refine Kd.C_drew ?_))); (case side2 => exact (Kd.R_reads' HO_19.out).2.1); rintro e w81 ⟨rfl, hb⟩; refine ⟨_, rfl, ?_⟩; have n0_ := Aside0.mk (Kd.R_below (by (with_reducible repeat (first | apply Kd.R_alloc | apply Kd.R_drewN | apply Kd.R_drew)); exact HO_17.out) hb); have n1_ := Aside0.mk (Kd.R_below (by (with_reducible repeat (first | apply Kd.R_alloc | apply Kd.R_drewN | apply Kd.R_drew)); exact HO_19.out) hb); have n2_ := Aside0.mk (Kd.R_below (by (with_reducible repeat (first | apply Kd.R_alloc | apply Kd.R_drewN | apply Kd.R_drew)); exact HO_23.out) hb); have n3_ := Aside0.mk (Kd.R_below (by (with_reducible repeat (first | apply Kd.R_alloc | apply Kd.R_drewN | apply Kd.R_drew)); exact HO521.out) hb); have n4_ := Aside0.mk (below_step (by repeat (first | (with_reducible first | exact HB.out | apply below_alloc | apply pw_below_drewN | apply below_drew1) | exact HB.out)) hb); clear HO_17; clear HO_19; clear HO_23; clear HO521; clear HB; have HO_17 := n0_; have HO_19 := n1_; have HO_23 := n2_; have HO521 := n3_; have HB := n4_; clear n0_ n1_ n2_ n3_ n4_; (try clear hb); (try clear hb2); (try clear hk); (try clear hi); obtain ⟨Ao82, co82, eo82⟩ := Kd.R_slice HO521.out; subst eo82) | (go_at_call 16; (with_reducible refine (laws_wSame.calls kj40 _ _ t518 _ _ t496 true _ ?side1 ?side2 ?side3 ?side4 A70.out).mono ?_); (case side1 => repeat (first | exact (Kd.R_reads' HO521.out).2.2 | (with_reducible refine Kd.C_alloc ?_ _) | (with_reducible refine Kd.C_drewN ?_ _) | (with_reducible refine Kd.C_drew ?_))); (case side2 => exact (Kd.R_reads' HO521.out).2.1); (case side3 => repeat (first | exact (Kd.R_reads' HO_17.out).2.2 | (with_reducible refine Kd.C_alloc ?_ _) | (with_reducible refine Kd.C_drewN ?_ _) | (with_reducible refine Kd.C_drew ?_))); (case side4 => exact (Kd.R_reads' HO_17.out).2.1); rintro e w' ⟨rfl, ⟨nd, rfl⟩⟩))
                                    go_ret
                                    exact ⟨by first | rfl | (simp [errW_none, errW_some] <;> rfl) | (simp [*, errW_none, errW_some] <;> rfl), by repeat (first | (with_reducible first | exact HB.out | apply below_alloc | apply pw_below_drewN | apply below_drew1) | exact HB.out)⟩
                              · replace c71 := Bool.eq_false_iff.mpr c71
                                subst c71
                                have H1 : (some false) = some r := by rw [if_neg (show ¬ (false = true) by decide)] at H; exact H
                                clear H
                                have H := H1
                                clear H1
                                as_aux_lemma =>
                                  obtain rfl := Option.some.inj H
                                  obtain ⟨Ao83, co83, eo83⟩ := Kd.R_slice HO_19.out
                                  subst eo83
                                  go_wp2_with (first | ((with_reducible refine gate_callee (f := 12) rfl ?_); refine goesL_ (some 162) rfl rfl Try.func12 (by kernel_rfl) rfl #[.slice Ao83 t500.length co83, .int .i64 (t496.length : Int)] rfl (by (try simp only [List.map_toArray, List.map_cons, List.map_nil]); first | done | rfl | (simp only [List.length_drop, List.length_take]; rfl)) ?_; (with_reducible refine (impl_TurnSlopeWalk.calls kj40 _ _ t500 (t496.length : Int) t518 true _ ?side1 ?side2 A64.out).mono ?_); (case side1 => repeat (first | exact (Kd.R_reads' HO_19.out).2.2 | (with_reducible refine Kd.C_alloc ?_ _) | (with_reducible refine Kd.C_drewN ?_ _) | (with_reducible refine Kd.C_drew ?_))); (case side2 => exact (Kd.R_reads' HO_19.out).2.1); rintro e w84 ⟨v520, rfl, ho0, hb⟩; refine ⟨_, rfl, ?_⟩; have n0_ := Aside0.mk (Kd.R_elder' (by (with_reducible repeat (first | apply Kd.R_alloc | apply Kd.R_drewN | apply Kd.R_drew)); exact HO_17.out) (Kd.R_base ho0) hb); have n1_ := Aside0.mk (Kd.R_elder' (by (with_reducible repeat (first | apply Kd.R_alloc | apply Kd.R_drewN | apply Kd.R_drew)); exact HO_19.out) (Kd.R_base ho0) hb); have n2_ := Aside0.mk (Kd.R_elder' (by (with_reducible repeat (first | apply Kd.R_alloc | apply Kd.R_drewN | apply Kd.R_drew)); exact HO_23.out) (Kd.R_base ho0) hb); have n3_ := Aside0.mk (Kd.R_lower (Kd.R_new' (Kd.R_new' (Kd.R_new' ho0 (Kd.R_lt (by (with_reducible repeat (first | apply Kd.R_alloc | apply Kd.R_drewN | apply Kd.R_drew)); exact HO_17.out))) (Kd.R_lt (by (with_reducible repeat (first | apply Kd.R_alloc | apply Kd.R_drewN | apply Kd.R_drew)); exact HO_19.out))) (Kd.R_lt (by (with_reducible repeat (first | apply Kd.R_alloc | apply Kd.R_drewN | apply Kd.R_drew)); exact HO_23.out))) (below_size (by repeat (first | (with_reducible first | exact HB.out | apply below_alloc | apply pw_below_drewN | apply below_drew1) | exact HB.out)))); have n4_ := Aside0.mk (below_step (by repeat (first | (with_reducible first | exact HB.out | apply below_alloc | apply pw_below_drewN | apply below_drew1) | exact HB.out)) hb); clear HO_17; clear HO_19; clear HO_23; clear HB; have HO_17 := n0_; have HO_19 := n1_; have HO_23 := n2_; have HO521 := n3_; have HB := n4_; clear n0_ n1_ n2_ n3_ n4_; (try clear hb); (try clear hb2); (try clear hk); (try clear hi); (try clear ho0)) | ((with_reducible refine gate_callee (f := 17) rfl ?_); refine goesL_ (some 168) rfl rfl Try.func17 (by kernel_rfl) rfl #[.slice Ao43 t496.length co43, .int .i64 t497] rfl (by (try simp only [List.map_toArray, List.map_cons, List.map_nil]); first | done | rfl | (simp only [List.length_drop, List.length_take]; rfl)) ?_; (with_reducible refine (impl_SlopeArea.calls kj40 _ _ t496 t497 t522 true _ ?side1 ?side2 A65.out).mono ?_); (case side1 => repeat (first | exact (Kd.R_reads' HO_17.out).2.2 | (with_reducible refine Kd.C_alloc ?_ _) | (with_reducible refine Kd.C_drewN ?_ _) | (with_reducible refine Kd.C_drew ?_))); (case side2 => exact (Kd.R_reads' HO_17.out).2.1); rintro e w85 ⟨rfl, hb⟩; refine ⟨_, rfl, ?_⟩; have n0_ := Aside0.mk (Kd.R_below (by (with_reducible repeat (first | apply Kd.R_alloc | apply Kd.R_drewN | apply Kd.R_drew)); exact HO_17.out) hb); have n1_ := Aside0.mk (Kd.R_below (by (with_reducible repeat (first | apply Kd.R_alloc | apply Kd.R_drewN | apply Kd.R_drew)); exact HO_19.out) hb); have n2_ := Aside0.mk (Kd.R_below (by (with_reducible repeat (first | apply Kd.R_alloc | apply Kd.R_drewN | apply Kd.R_drew)); exact HO_23.out) hb); have n3_ := Aside0.mk (Kd.R_below (by (with_reducible repeat (first | apply Kd.R_alloc | apply Kd.R_drewN | apply Kd.R_drew)); exact HO521.out) hb); have n4_ := Aside0.mk (below_step (by repeat (first | (with_reducible first | exact HB.out | apply below_alloc | apply pw_below_drewN | apply below_drew1) | exact HB.out)) hb); clear HO_17; clear HO_19; clear HO_23; clear HO521; clear HB; have HO_17 := n0_; have HO_19 := n1_; have HO_23 := n2_; have HO521 := n3_; have HB := n4_; clear n0_ n1_ n2_ n3_ n4_; (try clear hb); (try clear hb2); (try clear hk); (try clear hi)) | ((with_reducible refine gate_callee (f := 17) rfl ?_); refine goesL_ (some 175) rfl rfl Try.func17 (by kernel_rfl) rfl #[.slice Ao83 t500.length co83, .int .i64 (t496.length : Int)] rfl (by (try simp only [List.map_toArray, List.map_cons, List.map_nil]); first | done | rfl | (simp only [List.length_drop, List.length_take]; rfl)) ?_; (with_reducible refine (impl_SlopeArea.calls kj40 _ _ t500 (t496.length : Int) t524 true _ ?side1 ?side2 A66.out).mono ?_); (case side1 => repeat (first | exact (Kd.R_reads' HO_19.out).2.2 | (with_reducible refine Kd.C_alloc ?_ _) | (with_reducible refine Kd.C_drewN ?_ _) | (with_reducible refine Kd.C_drew ?_))); (case side2 => exact (Kd.R_reads' HO_19.out).2.1); rintro e w86 ⟨rfl, hb⟩; refine ⟨_, rfl, ?_⟩; have n0_ := Aside0.mk (Kd.R_below (by (with_reducible repeat (first | apply Kd.R_alloc | apply Kd.R_drewN | apply Kd.R_drew)); exact HO_17.out) hb); have n1_ := Aside0.mk (Kd.R_below (by (with_reducible repeat (first | apply Kd.R_alloc | apply Kd.R_drewN | apply Kd.R_drew)); exact HO_19.out) hb); have n2_ := Aside0.mk (Kd.R_below (by (with_reducible repeat (first | apply Kd.R_alloc | apply Kd.R_drewN | apply Kd.R_drew)); exact HO_23.out) hb); have n3_ := Aside0.mk (Kd.R_below (by (with_reducible repeat (first | apply Kd.R_alloc | apply Kd.R_drewN | apply Kd.R_drew)); exact HO521.out) hb); have n4_ := Aside0.mk (below_step (by repeat (first | (with_reducible first | exact HB.out | apply below_alloc | apply pw_below_drewN | apply below_drew1) | exact HB.out)) hb); clear HO_17; clear HO_19; clear HO_23; clear HO521; clear HB; have HO_17 := n0_; have HO_19 := n1_; have HO_23 := n2_; have HO521 := n3_; have HB := n4_; clear n0_ n1_ n2_ n3_ n4_; (try clear hb); (try clear hb2); (try clear hk); (try clear hi); obtain ⟨Ao87, co87, eo87⟩ := Kd.R_slice HO521.out; subst eo87) | (go_at_call 16; (with_reducible refine (laws_wSame.calls kj40 _ _ t518 _ _ t496 false _ ?side1 ?side2 ?side3 ?side4 A70.out).mono ?_); (case side1 => repeat (first | exact (Kd.R_reads' HO521.out).2.2 | (with_reducible refine Kd.C_alloc ?_ _) | (with_reducible refine Kd.C_drewN ?_ _) | (with_reducible refine Kd.C_drew ?_))); (case side2 => exact (Kd.R_reads' HO521.out).2.1); (case side3 => repeat (first | exact (Kd.R_reads' HO_17.out).2.2 | (with_reducible refine Kd.C_alloc ?_ _) | (with_reducible refine Kd.C_drewN ?_ _) | (with_reducible refine Kd.C_drew ?_))); (case side4 => exact (Kd.R_reads' HO_17.out).2.1); rintro e w' ⟨rfl, ⟨nd, rfl⟩⟩))
                                  go_ret
                                  exact ⟨by first | rfl | (simp [errW_none, errW_some] <;> rfl) | (simp [*, errW_none, errW_some] <;> rfl), by repeat (first | (with_reducible first | exact HB.out | apply below_alloc | apply pw_below_drewN | apply below_drew1) | exact HB.out)⟩
                            · replace c69 := Bool.eq_false_iff.mpr c69
                              subst c69
                              have H1 : (some false) = some r := by rw [if_neg (show ¬ (false = true) by decide)] at H; exact H
                              clear H
                              have H := H1
                              clear H1
                              as_aux_lemma =>
                                obtain rfl := Option.some.inj H
                                obtain ⟨Ao88, co88, eo88⟩ := Kd.R_slice HO_19.out
                                subst eo88
                                go_wp2_with (first | ((with_reducible refine gate_callee (f := 12) rfl ?_); refine goesL_ (some 162) rfl rfl Try.func12 (by kernel_rfl) rfl #[.slice Ao88 t500.length co88, .int .i64 (t496.length : Int)] rfl (by (try simp only [List.map_toArray, List.map_cons, List.map_nil]); first | done | rfl | (simp only [List.length_drop, List.length_take]; rfl)) ?_; (with_reducible refine (impl_TurnSlopeWalk.calls kj40 _ _ t500 (t496.length : Int) t518 true _ ?side1 ?side2 A64.out).mono ?_); (case side1 => repeat (first | exact (Kd.R_reads' HO_19.out).2.2 | (with_reducible refine Kd.C_alloc ?_ _) | (with_reducible refine Kd.C_drewN ?_ _) | (with_reducible refine Kd.C_drew ?_))); (case side2 => exact (Kd.R_reads' HO_19.out).2.1); rintro e w89 ⟨v520, rfl, ho0, hb⟩; refine ⟨_, rfl, ?_⟩; have n0_ := Aside0.mk (Kd.R_elder' (by (with_reducible repeat (first | apply Kd.R_alloc | apply Kd.R_drewN | apply Kd.R_drew)); exact HO_17.out) (Kd.R_base ho0) hb); have n1_ := Aside0.mk (Kd.R_elder' (by (with_reducible repeat (first | apply Kd.R_alloc | apply Kd.R_drewN | apply Kd.R_drew)); exact HO_19.out) (Kd.R_base ho0) hb); have n2_ := Aside0.mk (Kd.R_elder' (by (with_reducible repeat (first | apply Kd.R_alloc | apply Kd.R_drewN | apply Kd.R_drew)); exact HO_23.out) (Kd.R_base ho0) hb); have n3_ := Aside0.mk (Kd.R_lower (Kd.R_new' (Kd.R_new' (Kd.R_new' ho0 (Kd.R_lt (by (with_reducible repeat (first | apply Kd.R_alloc | apply Kd.R_drewN | apply Kd.R_drew)); exact HO_17.out))) (Kd.R_lt (by (with_reducible repeat (first | apply Kd.R_alloc | apply Kd.R_drewN | apply Kd.R_drew)); exact HO_19.out))) (Kd.R_lt (by (with_reducible repeat (first | apply Kd.R_alloc | apply Kd.R_drewN | apply Kd.R_drew)); exact HO_23.out))) (below_size (by repeat (first | (with_reducible first | exact HB.out | apply below_alloc | apply pw_below_drewN | apply below_drew1) | exact HB.out)))); have n4_ := Aside0.mk (below_step (by repeat (first | (with_reducible first | exact HB.out | apply below_alloc | apply pw_below_drewN | apply below_drew1) | exact HB.out)) hb); clear HO_17; clear HO_19; clear HO_23; clear HB; have HO_17 := n0_; have HO_19 := n1_; have HO_23 := n2_; have HO521 := n3_; have HB := n4_; clear n0_ n1_ n2_ n3_ n4_; (try clear hb); (try clear hb2); (try clear hk); (try clear hi); (try clear ho0)) | ((with_reducible refine gate_callee (f := 17) rfl ?_); refine goesL_ (some 168) rfl rfl Try.func17 (by kernel_rfl) rfl #[.slice Ao43 t496.length co43, .int .i64 t497] rfl (by (try simp only [List.map_toArray, List.map_cons, List.map_nil]); first | done | rfl | (simp only [List.length_drop, List.length_take]; rfl)) ?_; (with_reducible refine (impl_SlopeArea.calls kj40 _ _ t496 t497 t522 true _ ?side1 ?side2 A65.out).mono ?_); (case side1 => repeat (first | exact (Kd.R_reads' HO_17.out).2.2 | (with_reducible refine Kd.C_alloc ?_ _) | (with_reducible refine Kd.C_drewN ?_ _) | (with_reducible refine Kd.C_drew ?_))); (case side2 => exact (Kd.R_reads' HO_17.out).2.1); rintro e w90 ⟨rfl, hb⟩; refine ⟨_, rfl, ?_⟩; have n0_ := Aside0.mk (Kd.R_below (by (with_reducible repeat (first | apply Kd.R_alloc | apply Kd.R_drewN | apply Kd.R_drew)); exact HO_17.out) hb); have n1_ := Aside0.mk (Kd.R_below (by (with_reducible repeat (first | apply Kd.R_alloc | apply Kd.R_drewN | apply Kd.R_drew)); exact HO_19.out) hb); have n2_ := Aside0.mk (Kd.R_below (by (with_reducible repeat (first | apply Kd.R_alloc | apply Kd.R_drewN | apply Kd.R_drew)); exact HO_23.out) hb); have n3_ := Aside0.mk (Kd.R_below (by (with_reducible repeat (first | apply Kd.R_alloc | apply Kd.R_drewN | apply Kd.R_drew)); exact HO521.out) hb); have n4_ := Aside0.mk (below_step (by repeat (first | (with_reducible first | exact HB.out | apply below_alloc | apply pw_below_drewN | apply below_drew1) | exact HB.out)) hb); clear HO_17; clear HO_19; clear HO_23; clear HO521; clear HB; have HO_17 := n0_; have HO_19 := n1_; have HO_23 := n2_; have HO521 := n3_; have HB := n4_; clear n0_ n1_ n2_ n3_ n4_; (try clear hb); (try clear hb2); (try clear hk); (try clear hi)) | ((with_reducible refine gate_callee (f := 17) rfl ?_); refine goesL_ (some 175) rfl rfl Try.func17 (by kernel_rfl) rfl #[.slice Ao88 t500.length co88, .int .i64 (t496.length : Int)] rfl (by (try simp only [List.map_toArray, List.map_cons, List.map_nil]); first | done | rfl | (simp only [List.length_drop, List.length_take]; rfl)) ?_; (with_reducible refine (impl_SlopeArea.calls kj40 _ _ t500 (t496.length : Int) t524 false _ ?side1 ?side2 A66.out).mono ?_); (case side1 => repeat (first | exact (Kd.R_reads' HO_19.out).2.2 | (with_reducible refine Kd.C_alloc ?_ _) | (with_reducible refine Kd.C_drewN ?_ _) | (with_reducible refine Kd.C_drew ?_))); (case side2 => exact (Kd.R_reads' HO_19.out).2.1); rintro e w91 ⟨rfl, hb⟩; refine ⟨_, rfl, ?_⟩; have n0_ := Aside0.mk (Kd.R_below (by (with_reducible repeat (first | apply Kd.R_alloc | apply Kd.R_drewN | apply Kd.R_drew)); exact HO_17.out) hb); have n1_ := Aside0.mk (Kd.R_below (by (with_reducible repeat (first | apply Kd.R_alloc | apply Kd.R_drewN | apply Kd.R_drew)); exact HO_19.out) hb); have n2_ := Aside0.mk (Kd.R_below (by (with_reducible repeat (first | apply Kd.R_alloc | apply Kd.R_drewN | apply Kd.R_drew)); exact HO_23.out) hb); have n3_ := Aside0.mk (Kd.R_below (by (with_reducible repeat (first | apply Kd.R_alloc | apply Kd.R_drewN | apply Kd.R_drew)); exact HO521.out) hb); have n4_ := Aside0.mk (below_step (by repeat (first | (with_reducible first | exact HB.out | apply below_alloc | apply pw_below_drewN | apply below_drew1) | exact HB.out)) hb); clear HO_17; clear HO_19; clear HO_23; clear HO521; clear HB; have HO_17 := n0_; have HO_19 := n1_; have HO_23 := n2_; have HO521 := n3_; have HB := n4_; clear n0_ n1_ n2_ n3_ n4_; (try clear hb); (try clear hb2); (try clear hk); (try clear hi)))
                                go_ret
                                exact ⟨by first | rfl | (simp [errW_none, errW_some] <;> rfl) | (simp [*, errW_none, errW_some] <;> rfl), by repeat (first | (with_reducible first | exact HB.out | apply below_alloc | apply pw_below_drewN | apply below_drew1) | exact HB.out)⟩
                          · replace c68 := Bool.eq_false_iff.mpr c68
                            subst c68
                            have H1 : (some false) = some r := by rw [if_neg (show ¬ (false = true) by decide)] at H; exact H
                            clear H
                            have H := H1
                            clear H1
                            as_aux_lemma =>
                              obtain rfl := Option.some.inj H
                              obtain ⟨Ao92, co92, eo92⟩ := Kd.R_slice HO_19.out
                              subst eo92
                              go_wp2_with (first | ((with_reducible refine gate_callee (f := 12) rfl ?_); refine goesL_ (some 162) rfl rfl Try.func12 (by kernel_rfl) rfl #[.slice Ao92 t500.length co92, .int .i64 (t496.length : Int)] rfl (by (try simp only [List.map_toArray, List.map_cons, List.map_nil]); first | done | rfl | (simp only [List.length_drop, List.length_take]; rfl)) ?_; (with_reducible refine (impl_TurnSlopeWalk.calls kj40 _ _ t500 (t496.length : Int) t518 true _ ?side1 ?side2 A64.out).mono ?_); (case side1 => repeat (first | exact (Kd.R_reads' HO_19.out).2.2 | (with_reducible refine Kd.C_alloc ?_ _) | (with_reducible refine Kd.C_drewN ?_ _) | (with_reducible refine Kd.C_drew ?_))); (case side2 => exact (Kd.R_reads' HO_19.out).2.1); rintro e w93 ⟨v520, rfl, ho0, hb⟩; refine ⟨_, rfl, ?_⟩; have n0_ := Aside0.mk (Kd.R_elder' (by (with_reducible repeat (first | apply Kd.R_alloc | apply Kd.R_drewN | apply Kd.R_drew)); exact HO_17.out) (Kd.R_base ho0) hb); have n1_ := Aside0.mk (Kd.R_elder' (by (with_reducible repeat (first | apply Kd.R_alloc | apply Kd.R_drewN | apply Kd.R_drew)); exact HO_19.out) (Kd.R_base ho0) hb); have n2_ := Aside0.mk (Kd.R_elder' (by (with_reducible repeat (first | apply Kd.R_alloc | apply Kd.R_drewN | apply Kd.R_drew)); exact HO_23.out) (Kd.R_base ho0) hb); have n3_ := Aside0.mk (Kd.R_lower (Kd.R_new' (Kd.R_new' (Kd.R_new' ho0 (Kd.R_lt (by (with_reducible repeat (first | apply Kd.R_alloc | apply Kd.R_drewN | apply Kd.R_drew)); exact HO_17.out))) (Kd.R_lt (by (with_reducible repeat (first | apply Kd.R_alloc | apply Kd.R_drewN | apply Kd.R_drew)); exact HO_19.out))) (Kd.R_lt (by (with_reducible repeat (first | apply Kd.R_alloc | apply Kd.R_drewN | apply Kd.R_drew)); exact HO_23.out))) (below_size (by repeat (first | (with_reducible first | exact HB.out | apply below_alloc | apply pw_below_drewN | apply below_drew1) | exact HB.out)))); have n4_ := Aside0.mk (below_step (by repeat (first | (with_reducible first | exact HB.out | apply below_alloc | apply pw_below_drewN | apply below_drew1) | exact HB.out)) hb); clear HO_17; clear HO_19; clear HO_23; clear HB; have HO_17 := n0_; have HO_19 := n1_; have HO_23 := n2_; have HO521 := n3_; have HB := n4_; clear n0_ n1_ n2_ n3_ n4_; (try clear hb); (try clear hb2); (try clear hk); (try clear hi); (try clear ho0)) | ((with_reducible refine gate_callee (f := 17) rfl ?_); refine goesL_ (some 168) rfl rfl Try.func17 (by kernel_rfl) rfl #[.slice Ao43 t496.length co43, .int .i64 t497] rfl (by (try simp only [List.map_toArray, List.map_cons, List.map_nil]); first | done | rfl | (simp only [List.length_drop, List.length_take]; rfl)) ?_; (with_reducible refine (impl_SlopeArea.calls kj40 _ _ t496 t497 t522 false _ ?side1 ?side2 A65.out).mono ?_); (case side1 => repeat (first | exact (Kd.R_reads' HO_17.out).2.2 | (with_reducible refine Kd.C_alloc ?_ _) | (with_reducible refine Kd.C_drewN ?_ _) | (with_reducible refine Kd.C_drew ?_))); (case side2 => exact (Kd.R_reads' HO_17.out).2.1); rintro e w94 ⟨rfl, hb⟩; refine ⟨_, rfl, ?_⟩; have n0_ := Aside0.mk (Kd.R_below (by (with_reducible repeat (first | apply Kd.R_alloc | apply Kd.R_drewN | apply Kd.R_drew)); exact HO_17.out) hb); have n1_ := Aside0.mk (Kd.R_below (by (with_reducible repeat (first | apply Kd.R_alloc | apply Kd.R_drewN | apply Kd.R_drew)); exact HO_19.out) hb); have n2_ := Aside0.mk (Kd.R_below (by (with_reducible repeat (first | apply Kd.R_alloc | apply Kd.R_drewN | apply Kd.R_drew)); exact HO_23.out) hb); have n3_ := Aside0.mk (Kd.R_below (by (with_reducible repeat (first | apply Kd.R_alloc | apply Kd.R_drewN | apply Kd.R_drew)); exact HO521.out) hb); have n4_ := Aside0.mk (below_step (by repeat (first | (with_reducible first | exact HB.out | apply below_alloc | apply pw_below_drewN | apply below_drew1) | exact HB.out)) hb); clear HO_17; clear HO_19; clear HO_23; clear HO521; clear HB; have HO_17 := n0_; have HO_19 := n1_; have HO_23 := n2_; have HO521 := n3_; have HB := n4_; clear n0_ n1_ n2_ n3_ n4_; (try clear hb); (try clear hb2); (try clear hk); (try clear hi)) | ((with_reducible refine gate_callee (f := 17) rfl ?_); refine goesL_ (some 175) rfl rfl Try.func17 (by kernel_rfl) rfl #[.slice Ao92 t500.length co92, .int .i64 (t496.length : Int)] rfl (by (try simp only [List.map_toArray, List.map_cons, List.map_nil]); first | done | rfl | (simp only [List.length_drop, List.length_take]; rfl)) ?_; (with_reducible refine (impl_SlopeArea.calls kj40 _ _ t500 (t496.length : Int) t524 t525 _ ?side1 ?side2 A66.out).mono ?_); (case side1 => repeat (first | exact (Kd.R_reads' HO_19.out).2.2 | (with_reducible refine Kd.C_alloc ?_ _) | (with_reducible refine Kd.C_drewN ?_ _) | (with_reducible refine Kd.C_drew ?_))); (case side2 => exact (Kd.R_reads' HO_19.out).2.1); rintro e w95 ⟨rfl, hb⟩; refine ⟨_, rfl, ?_⟩; have n0_ := Aside0.mk (Kd.R_below (by (with_reducible repeat (first | apply Kd.R_alloc | apply Kd.R_drewN | apply Kd.R_drew)); exact HO_17.out) hb); have n1_ := Aside0.mk (Kd.R_below (by (with_reducible repeat (first | apply Kd.R_alloc | apply Kd.R_drewN | apply Kd.R_drew)); exact HO_19.out) hb); have n2_ := Aside0.mk (Kd.R_below (by (with_reducible repeat (first | apply Kd.R_alloc | apply Kd.R_drewN | apply Kd.R_drew)); exact HO_23.out) hb); have n3_ := Aside0.mk (Kd.R_below (by (with_reducible repeat (first | apply Kd.R_alloc | apply Kd.R_drewN | apply Kd.R_drew)); exact HO521.out) hb); have n4_ := Aside0.mk (below_step (by repeat (first | (with_reducible first | exact HB.out | apply below_alloc | apply pw_below_drewN | apply below_drew1) | exact HB.out)) hb); clear HO_17; clear HO_19; clear HO_23; clear HO521; clear HB; have HO_17 := n0_; have HO_19 := n1_; have HO_23 := n2_; have HO521 := n3_; have HB := n4_; clear n0_ n1_ n2_ n3_ n4_; (try clear hb); (try clear hb2); (try clear hk); (try clear hi)))
                              go_ret
                              exact ⟨by first | rfl | (simp [errW_none, errW_some] <;> rfl) | (simp [*, errW_none, errW_some] <;> rfl), by repeat (first | (with_reducible first | exact HB.out | apply below_alloc | apply pw_below_drewN | apply below_drew1) | exact HB.out)⟩
                        · replace c67 := Bool.eq_false_iff.mpr c67
                          subst c67
                          have H1 : (some false) = some r := by rw [if_neg (show ¬ (false = true) by decide)] at H; exact H
                          clear H
                          have H := H1
                          clear H1
                          as_aux_lemma =>
                            obtain rfl := Option.some.inj H
                            obtain ⟨Ao96, co96, eo96⟩ := Kd.R_slice HO_19.out
                            subst eo96
                            go_wp2_with (first | ((with_reducible refine gate_callee (f := 12) rfl ?_); refine goesL_ (some 162) rfl rfl Try.func12 (by kernel_rfl) rfl #[.slice Ao96 t500.length co96, .int .i64 (t496.length : Int)] rfl (by (try simp only [List.map_toArray, List.map_cons, List.map_nil]); first | done | rfl | (simp only [List.length_drop, List.length_take]; rfl)) ?_; (with_reducible refine (impl_TurnSlopeWalk.calls kj40 _ _ t500 (t496.length : Int) t518 false _ ?side1 ?side2 A64.out).mono ?_); (case side1 => repeat (first | exact (Kd.R_reads' HO_19.out).2.2 | (with_reducible refine Kd.C_alloc ?_ _) | (with_reducible refine Kd.C_drewN ?_ _) | (with_reducible refine Kd.C_drew ?_))); (case side2 => exact (Kd.R_reads' HO_19.out).2.1); rintro e w97 ⟨v520, rfl, ho0, hb⟩; refine ⟨_, rfl, ?_⟩; have n0_ := Aside0.mk (Kd.R_elder' (by (with_reducible repeat (first | apply Kd.R_alloc | apply Kd.R_drewN | apply Kd.R_drew)); exact HO_17.out) (Kd.R_base ho0) hb); have n1_ := Aside0.mk (Kd.R_elder' (by (with_reducible repeat (first | apply Kd.R_alloc | apply Kd.R_drewN | apply Kd.R_drew)); exact HO_19.out) (Kd.R_base ho0) hb); have n2_ := Aside0.mk (Kd.R_elder' (by (with_reducible repeat (first | apply Kd.R_alloc | apply Kd.R_drewN | apply Kd.R_drew)); exact HO_23.out) (Kd.R_base ho0) hb); have n3_ := Aside0.mk (Kd.R_lower (Kd.R_new' (Kd.R_new' (Kd.R_new' ho0 (Kd.R_lt (by (with_reducible repeat (first | apply Kd.R_alloc | apply Kd.R_drewN | apply Kd.R_drew)); exact HO_17.out))) (Kd.R_lt (by (with_reducible repeat (first | apply Kd.R_alloc | apply Kd.R_drewN | apply Kd.R_drew)); exact HO_19.out))) (Kd.R_lt (by (with_reducible repeat (first | apply Kd.R_alloc | apply Kd.R_drewN | apply Kd.R_drew)); exact HO_23.out))) (below_size (by repeat (first | (with_reducible first | exact HB.out | apply below_alloc | apply pw_below_drewN | apply below_drew1) | exact HB.out)))); have n4_ := Aside0.mk (below_step (by repeat (first | (with_reducible first | exact HB.out | apply below_alloc | apply pw_below_drewN | apply below_drew1) | exact HB.out)) hb); clear HO_17; clear HO_19; clear HO_23; clear HB; have HO_17 := n0_; have HO_19 := n1_; have HO_23 := n2_; have HO521 := n3_; have HB := n4_; clear n0_ n1_ n2_ n3_ n4_; (try clear hb); (try clear hb2); (try clear hk); (try clear hi); (try clear ho0)) | ((with_reducible refine gate_callee (f := 17) rfl ?_); refine goesL_ (some 168) rfl rfl Try.func17 (by kernel_rfl) rfl #[.slice Ao43 t496.length co43, .int .i64 t497] rfl (by (try simp only [List.map_toArray, List.map_cons, List.map_nil]); first | done | rfl | (simp only [List.length_drop, List.length_take]; rfl)) ?_; (with_reducible refine (impl_SlopeArea.calls kj40 _ _ t496 t497 t522 t523 _ ?side1 ?side2 A65.out).mono ?_); (case side1 => repeat (first | exact (Kd.R_reads' HO_17.out).2.2 | (with_reducible refine Kd.C_alloc ?_ _) | (with_reducible refine Kd.C_drewN ?_ _) | (with_reducible refine Kd.C_drew ?_))); (case side2 => exact (Kd.R_reads' HO_17.out).2.1); rintro e w98 ⟨rfl, hb⟩; refine ⟨_, rfl, ?_⟩; have n0_ := Aside0.mk (Kd.R_below (by (with_reducible repeat (first | apply Kd.R_alloc | apply Kd.R_drewN | apply Kd.R_drew)); exact HO_17.out) hb); have n1_ := Aside0.mk (Kd.R_below (by (with_reducible repeat (first | apply Kd.R_alloc | apply Kd.R_drewN | apply Kd.R_drew)); exact HO_19.out) hb); have n2_ := Aside0.mk (Kd.R_below (by (with_reducible repeat (first | apply Kd.R_alloc | apply Kd.R_drewN | apply Kd.R_drew)); exact HO_23.out) hb); have n3_ := Aside0.mk (Kd.R_below (by (with_reducible repeat (first | apply Kd.R_alloc | apply Kd.R_drewN | apply Kd.R_drew)); exact HO521.out) hb); have n4_ := Aside0.mk (below_step (by repeat (first | (with_reducible first | exact HB.out | apply below_alloc | apply pw_below_drewN | apply below_drew1) | exact HB.out)) hb); clear HO_17; clear HO_19; clear HO_23; clear HO521; clear HB; have HO_17 := n0_; have HO_19 := n1_; have HO_23 := n2_; have HO521 := n3_; have HB := n4_; clear n0_ n1_ n2_ n3_ n4_; (try clear hb); (try clear hb2); (try clear hk); (try clear hi)) | ((with_reducible refine gate_callee (f := 17) rfl ?_); refine goesL_ (some 175) rfl rfl Try.func17 (by kernel_rfl) rfl #[.slice Ao96 t500.length co96, .int .i64 (t496.length : Int)] rfl (by (try simp only [List.map_toArray, List.map_cons, List.map_nil]); first | done | rfl | (simp only [List.length_drop, List.length_take]; rfl)) ?_; (with_reducible refine (impl_SlopeArea.calls kj40 _ _ t500 (t496.length : Int) t524 t525 _ ?side1 ?side2 A66.out).mono ?_); (case side1 => repeat (first | exact (Kd.R_reads' HO_19.out).2.2 | (with_reducible refine Kd.C_alloc ?_ _) | (with_reducible refine Kd.C_drewN ?_ _) | (with_reducible refine Kd.C_drew ?_))); (case side2 => exact (Kd.R_reads' HO_19.out).2.1); rintro e w99 ⟨rfl, hb⟩; refine ⟨_, rfl, ?_⟩; have n0_ := Aside0.mk (Kd.R_below (by (with_reducible repeat (first | apply Kd.R_alloc | apply Kd.R_drewN | apply Kd.R_drew)); exact HO_17.out) hb); have n1_ := Aside0.mk (Kd.R_below (by (with_reducible repeat (first | apply Kd.R_alloc | apply Kd.R_drewN | apply Kd.R_drew)); exact HO_19.out) hb); have n2_ := Aside0.mk (Kd.R_below (by (with_reducible repeat (first | apply Kd.R_alloc | apply Kd.R_drewN | apply Kd.R_drew)); exact HO_23.out) hb); have n3_ := Aside0.mk (Kd.R_below (by (with_reducible repeat (first | apply Kd.R_alloc | apply Kd.R_drewN | apply Kd.R_drew)); exact HO521.out) hb); have n4_ := Aside0.mk (below_step (by repeat (first | (with_reducible first | exact HB.out | apply below_alloc | apply pw_below_drewN | apply below_drew1) | exact HB.out)) hb); clear HO_17; clear HO_19; clear HO_23; clear HO521; clear HB; have HO_17 := n0_; have HO_19 := n1_; have HO_23 := n2_; have HO521 := n3_; have HB := n4_; clear n0_ n1_ n2_ n3_ n4_; (try clear hb); (try clear hb2); (try clear hk); (try clear hi)))
                            go_ret
                            exact ⟨by first | rfl | (simp [errW_none, errW_some] <;> rfl) | (simp [*, errW_none, errW_some] <;> rfl), by repeat (first | (with_reducible first | exact HB.out | apply below_alloc | apply pw_below_drewN | apply below_drew1) | exact HB.out)⟩
                      · replace c63 := Bool.eq_false_iff.mpr c63
                        subst c63
                        have H1 : (laws_FnSlopeWalks.j3 kj40 t508) = some r := by rw [if_neg (show ¬ (false = true) by decide)] at H; exact H
                        clear H
                        have H := H1
                        clear H1
                        as_aux_lemma =>
                          have H' := Aside0.mk H
                          clear H
                          go_wp2
                          go_meet
                          case rel => exact ⟨_, H', ⟨by have := HJ9.out; have := HJ30.out; have := HJ40.out; first | omega | exact Nat.le_refl _⟩, ⟨by (with_reducible repeat (first | apply Kd.R_alloc | apply Kd.R_drewN | apply Kd.R_drew)); exact Kd.R_mono HO_23.out (fun _ hk => trivial)⟩, ⟨by repeat (first | (with_reducible first | exact HB.out | apply below_alloc | apply pw_below_drewN | apply below_drew1) | exact HB.out)⟩⟩
                    case rest =>
                      clear HC62
                      try clear c1
                      try clear c2
                      try clear p2
                      try clear c3
                      try clear c4
                      try clear c5
                      try clear c6
                      try clear c7
                      try clear c8
                      try clear c9
                      try clear c11
                      try clear c12
                      try clear c13
                      try clear c14
                      try clear c14b0
                      try clear c14b1
                      try clear c14b2
                      try clear c15
                      try clear c16
                      try clear c17
                      try clear c17b0
                      try clear c17b1
                      try clear c17b2
                      try clear c20
                      try clear c20b0
                      try clear c20b1
                      try clear c21
                      try clear c30
                      try clear c32
                      try clear c34
                      try clear c35
                      try clear c35b0
                      try clear c35b1
                      try clear c48
                      try clear c48b0
                      try clear c48b1
                      try clear c48b2
                      try clear c50
                      try clear c51
                      try clear c51b0
                      try clear c51b1
                      try clear c51b2
                      try clear c61
                      try clear c63
                      try clear c67
                      try clear c68
                      try clear c69
                      try clear c71
                      try clear c72
                      try clear c72b0
                      try clear c72b1
                      try clear p2
                      obtain ⟨kq, HA, HJ61, HO_23, HB⟩ := hcut
                      cases kq with
                      | zero => exact absurd HA.out (by simp [laws_FnSlopeWalks.j3])
                      | succ kj61 =>
                        have H := HA.out
                        clear HA
                        simp only [laws_FnSlopeWalks.j3] at H
                        have H' := Aside0.mk H
                        clear H
                        obtain ⟨Ao100, co100, eo100⟩ := Kd.R_slice HO_23.out
                        subst eo100
                        go_wp2
                        go_loopg [201] kj61 (fun kq v201 w' => ∃ (x201_5 : Int), v201 = .int .i64 x201_5 ∧ Aside0 (laws_FnSlopeWalks.l0 kq t508 t508 (t508.length : Int) x201_5 = some r) ∧ Aside0 (kq ≤ kj61) ∧ Aside0 (Kd.R (Kd.int .i64) 3 w' w.heap.size (fun _ => True) (.slice Ao100 t508.length co100) t508) ∧ Aside0 (Kd.R (Kd.int .i64) 3 w' w.heap.size (fun _ => True) (.slice Ao100 t508.length co100) t508) ∧ Aside0 (Below w.heap.size w w'))
                        case atStart => exact ⟨(0), (by first | rfl | (simp; done) | (simp [*]; done)), H', ⟨Nat.le_refl _⟩, ⟨by (with_reducible repeat (first | apply Kd.R_alloc | apply Kd.R_drewN | apply Kd.R_drew)); exact HO_23.out⟩, ⟨by (with_reducible repeat (first | apply Kd.R_alloc | apply Kd.R_drewN | apply Kd.R_drew)); exact HO_23.out⟩, ⟨by repeat (first | (with_reducible first | exact HB.out | apply below_alloc | apply pw_below_drewN | apply below_drew1) | exact HB.out)⟩⟩
                        case round =>
                          clear H'
                          try clear c1
                          try clear c2
                          try clear p2
                          try clear c3
                          try clear c4
                          try clear c5
                          try clear c6
                          try clear c7
                          try clear c8
                          try clear c9
                          try clear c11
                          try clear c12
                          try clear c13
                          try clear c14
                          try clear c14b0
                          try clear c14b1
                          try clear c14b2
                          try clear c15
                          try clear c16
                          try clear c17
                          try clear c17b0
                          try clear c17b1
                          try clear c17b2
                          try clear c20
                          try clear c20b0
                          try clear c20b1
                          try clear c21
                          try clear c30
                          try clear c32
                          try clear c34
                          try clear c35
                          try clear c35b0
                          try clear c35b1
                          try clear c48
                          try clear c48b0
                          try clear c48b1
                          try clear c48b2
                          try clear c50
                          try clear c51
                          try clear c51b0
                          try clear c51b1
                          try clear c51b2
                          try clear c61
                          try clear c63
                          try clear c67
                          try clear c68
                          try clear c69
                          try clear c71
                          try clear c72
                          try clear c72b0
                          try clear c72b1
                          try clear p2
                          obtain ⟨x201_5, rfl, HA, HK5, HO_23, HO_199, HB⟩ := hrel
                          cases gk with
                          | zero => exact absurd HA.out (by simp [laws_FnSlopeWalks.l0])
                          | succ k5 =>
                            have H := HA.out
                            clear HA
                            simp only [laws_FnSlopeWalks.l0] at H
                            by_cases c101 : x201_5 < (t508.length : Int)
                            · rw [if_pos c101] at H
                              have c101b0 : decide (x201_5 < (t508.length : Int)) = true := decide_eq_true c101
                              clear c101
                              by_cases c102 : 0 ≤ x201_5
                              · rw [if_pos c102] at H
                                have c102b0 : decide (0 ≤ x201_5) = true := decide_eq_true c102
                                clear c102
                                by_cases c103 : x201_5 < (t508.length : Int)
                                · rw [if_pos c103] at H
                                  have c103b0 : decide (x201_5 < (t508.length : Int)) = true := decide_eq_true c103
                                  clear c103
                                  by_cases c104 : (rd t508 x201_5) < 0
                                  · rw [if_pos c104] at H
                                    have c104b0 : decide ((rd t508 x201_5) < 0) = true := decide_eq_true c104
                                    clear c104
                                    as_aux_lemma =>
                                      obtain rfl := Option.some.inj H
                                      have p527 : 0 ≤ (x201_5 : Int) := of_decide_eq_true (by first | (with_reducible assumption) | assumption)
                                      have q527 : x201_5 < (t508.length : Int) := of_decide_eq_true (by first | (with_reducible assumption) | assumption)
                                      obtain ⟨ad527, e527, hx527_0⟩ := Kd.at_int (Kd.R_reads' HO_199.out).2.2 x201_5 p527 q527
                                      cases e527
                                      replace p527 := eq_true p527
                                      replace q527 := eq_true q527
                                      go_wp2
                                      go_ret
                                      exact ⟨by first | rfl | (simp [errW_none, errW_some] <;> rfl) | (simp [*, errW_none, errW_some] <;> rfl), by repeat (first | (with_reducible first | exact HB.out | apply below_alloc | apply pw_below_drewN | apply below_drew1) | exact HB.out)⟩
                                  · rw [if_neg c104] at H
                                    have c104b0 : decide ((rd t508 x201_5) < 0) = false := decide_eq_false c104
                                    clear c104
                                    have c105b0 := eq_true (of_decide_eq_true (by first | (with_reducible assumption) | assumption) : 0 ≤ x201_5)
                                    by_cases c106 : x201_5 ≤ (t508.length : Int)
                                    · rw [if_pos c106] at H
                                      have c106b0 := eq_true c106
                                      have c106b1 : decide (x201_5 ≤ (t508.length : Int)) = true := decide_eq_true c106
                                      clear c106
                                      obtain ⟨y528, hy528⟩ : ∃ y_ : List Int, y_ = (t508.take (x201_5 : Int).toNat) := ⟨_, rfl⟩
                                      replace H : ((laws_wHas.f k5 y528 (rd t508 x201_5)).bind fun t532 => (if t532 = true then (some false) else (laws_FnSlopeWalks.l0 k5 t508 t508 (t508.length : Int) (wrap64 (x201_5 + 1))))) = some r := by first | (rw [hy528]; with_reducible exact H) | (have H2_ := (Option.bind_some _ _).symm.trans H; rw [hy528]; with_reducible exact H2_) | (have H2_ := (Option.bind_some _ _).symm.trans H; with_reducible exact H2_) | with_reducible exact H | (rw [hy528]; exact H) | exact H
                                      have Ny528 := Aside0.mk hy528
                                      clear hy528
                                      replace H := Option.bind_eq_some_iff.mp H
                                      obtain ⟨t532, A1070, H⟩ := H
                                      replace H : (if t532 = true then (some false) else (laws_FnSlopeWalks.l0 k5 t508 t508 (t508.length : Int) (wrap64 (x201_5 + 1)))) = some r := H
                                      have A107 := Aside0.mk A1070
                                      clear A1070
                                      by_cases c108 : t532 = true
                                      · subst c108
                                        have H1 : (some false) = some r := by rw [if_pos rfl] at H; exact H
                                        clear H
                                        have H := H1
                                        clear H1
                                        as_aux_lemma =>
                                          obtain rfl := Option.some.inj H
                                          have p527 : 0 ≤ (x201_5 : Int) := of_decide_eq_true (by first | (with_reducible assumption) | assumption)
                                          have q527 : x201_5 < (t508.length : Int) := of_decide_eq_true (by first | (with_reducible assumption) | assumption)
                                          obtain ⟨ad527, e527, hx527_0⟩ := Kd.at_int (Kd.R_reads' HO_199.out).2.2 x201_5 p527 q527
                                          cases e527
                                          replace p527 := eq_true p527
                                          replace q527 := eq_true q527
                                          have q109 : (x201_5 : Int) ≤ ((t508.length : Int) : Int) := of_decide_eq_true (by first | (with_reducible assumption) | assumption)
                                          obtain ⟨i0109, hi0109, _, hsz109, _⟩ := info_parts info3
                                          have hroom109 : t508.length ≤ co100 := (Kd.R_reads' HO_23.out).2.1
                                          have hC109 : Kd.C (Kd.int .i64) _ (some ad527) t508.length t508 := (Kd.R_reads' HO_23.out).2.2
                                          have hcut109 := cut_to (P := Try.prog) 32 3 .i64 Try.underlying32 hi0109 (some ad527) t508.length co100 x201_5 (of_decide_eq_true (by first | (with_reducible assumption) | assumption)) q109 hroom109
                                          have hr109 := Kd.C_take (m := (x201_5 : Int).toNat) hC109 (by omega)
                                          have hy109 : y528.length = (x201_5 : Int).toNat := (by rw [Ny528.out, List.length_take]; omega)
                                          rw [← Ny528.out] at hr109
                                          rw [← hy109] at hcut109
                                          have HR531 := Aside0.mk hr109
                                          have HC531 := Aside0.mk (show y528.length ≤ co100 from by omega)
                                          clear hr109 hC109 hroom109 hi0109 hsz109
                                          have KY109 := Aside0.mk hy109
                                          clear hy109
                                          have KL109 := Aside0.mk (show (x201_5 : Int).toNat ≤ t508.length from by omega)
                                          replace q109 := eq_true q109
                                          go_wp2_with (first | (go_at_call 18; (with_reducible refine (laws_wHas.calls k5 _ _ y528 (rd t508 x201_5) true _ ?side1 ?side2 A107.out).mono ?_); (case side1 => repeat (first | exact (by repeat (first | (with_reducible exact HR531.out) | (with_reducible refine Kd.C_alloc ?_ _) | (with_reducible refine Kd.C_drewN ?_ _) | (with_reducible refine Kd.C_drew ?_) | exact HR531.out)) | (with_reducible refine Kd.C_alloc ?_ _) | (with_reducible refine Kd.C_drewN ?_ _) | (with_reducible refine Kd.C_drew ?_))); (case side2 => exact HC531.out); rintro e w' ⟨rfl, ⟨nd, rfl⟩⟩))
                                          go_ret
                                          exact ⟨by first | rfl | (simp [errW_none, errW_some] <;> rfl) | (simp [*, errW_none, errW_some] <;> rfl), by repeat (first | (with_reducible first | exact HB.out | apply below_alloc | apply pw_below_drewN | apply below_drew1) | exact HB.out)⟩
                                      · replace c108 := Bool.eq_false_iff.mpr c108
                                        subst c108
                                        have H1 : (laws_FnSlopeWalks.l0 k5 t508 t508 (t508.length : Int) (wrap64 (x201_5 + 1))) = some r := by rw [if_neg (show ¬ (false = true) by decide)] at H; exact H
                                        clear H
                                        have H := H1
                                        clear H1
                                        as_aux_lemma =>
                                          have H' := Aside0.mk H
                                          clear H
                                          have p527 : 0 ≤ (x201_5 : Int) := of_decide_eq_true (by first | (with_reducible assumption) | assumption)
                                          have q527 : x201_5 < (t508.length : Int) := of_decide_eq_true (by first | (with_reducible assumption) | assumption)
                                          obtain ⟨ad527, e527, hx527_0⟩ := Kd.at_int (Kd.R_reads' HO_199.out).2.2 x201_5 p527 q527
                                          cases e527
                                          replace p527 := eq_true p527
                                          replace q527 := eq_true q527
                                          have q110 : (x201_5 : Int) ≤ ((t508.length : Int) : Int) := of_decide_eq_true (by first | (with_reducible assumption) | assumption)
                                          obtain ⟨i0110, hi0110, _, hsz110, _⟩ := info_parts info3
                                          have hroom110 : t508.length ≤ co100 := (Kd.R_reads' HO_23.out).2.1
                                          have hC110 : Kd.C (Kd.int .i64) _ (some ad527) t508.length t508 := (Kd.R_reads' HO_23.out).2.2
                                          have hcut110 := cut_to (P := Try.prog) 32 3 .i64 Try.underlying32 hi0110 (some ad527) t508.length co100 x201_5 (of_decide_eq_true (by first | (with_reducible assumption) | assumption)) q110 hroom110
                                          have hr110 := Kd.C_take (m := (x201_5 : Int).toNat) hC110 (by omega)
                                          have hy110 : y528.length = (x201_5 : Int).toNat := (by rw [Ny528.out, List.length_take]; omega)
                                          rw [← Ny528.out] at hr110
                                          rw [← hy110] at hcut110
                                          have HR531 := Aside0.mk hr110
                                          have HC531 := Aside0.mk (show y528.length ≤ co100 from by omega)
                                          clear hr110 hC110 hroom110 hi0110 hsz110
                                          have KY110 := Aside0.mk hy110
                                          clear hy110
                                          have KL110 := Aside0.mk (show (x201_5 : Int).toNat ≤ t508.length from by omega)
                                          replace q110 := eq_true q110
                                          go_wp2_with (first | (go_at_call 18; (with_reducible refine (laws_wHas.calls k5 _ _ y528 (rd t508 x201_5) false _ ?side1 ?side2 A107.out).mono ?_); (case side1 => repeat (first | exact (by repeat (first | (with_reducible exact HR531.out) | (with_reducible refine Kd.C_alloc ?_ _) | (with_reducible refine Kd.C_drewN ?_ _) | (with_reducible refine Kd.C_drew ?_) | exact HR531.out)) | (with_reducible refine Kd.C_alloc ?_ _) | (with_reducible refine Kd.C_drewN ?_ _) | (with_reducible refine Kd.C_drew ?_))); (case side2 => exact HC531.out); rintro e w' ⟨rfl, ⟨nd, rfl⟩⟩))
                                          go_roundg k5
                                          case measure => have := HJ9.out; have := HJ30.out; have := HJ40.out; have := HJ61.out; have := HK5.out; omega
                                          case rel => exact ⟨(wrap64 (x201_5 + 1)), (by first | rfl | (simp; done) | (simp [*]; done)), H', ⟨by have := HJ9.out; have := HJ30.out; have := HJ40.out; have := HJ61.out; have := HK5.out; omega⟩, ⟨by (with_reducible repeat (first | apply Kd.R_alloc | apply Kd.R_drewN | apply Kd.R_drew)); exact HO_23.out⟩, ⟨by (with_reducible repeat (first | apply Kd.R_alloc | apply Kd.R_drewN | apply Kd.R_drew)); exact HO_199.out⟩, ⟨by repeat (first | (with_reducible first | exact HB.out | apply below_alloc | apply pw_below_drewN | apply below_drew1) | exact HB.out)⟩⟩
                                    · rw [if_neg c106] at H
                                      exact absurd H (by simp)
                                · rw [if_neg c103] at H
                                  exact absurd H (by simp)
                              · rw [if_neg c102] at H
                                exact absurd H (by simp)
                            · rw [if_neg c101] at H
                              have c101b0 : decide (x201_5 < (t508.length : Int)) = false := decide_eq_false c101
                              clear c101
                              as_aux_lemma =>
                                obtain rfl := Option.some.inj H
                                go_wp2
                                go_ret
                                exact ⟨by first | rfl | (simp [errW_none, errW_some] <;> rfl) | (simp [*, errW_none, errW_some] <;> rfl), by repeat (first | (with_reducible first | exact HB.out | apply below_alloc | apply pw_below_drewN | apply below_drew1) | exact HB.out)⟩

/-- THE ONE PURE STATEMENT of laws_FnSlopeWalks: yours. -/
def laws_FnSlopeWalks.Pure : Prop := ∀ (l0 : List Int) (l1 : List Int), l0.length ≤ maxLen → l0.length * 1 ≤ 140737488351232 → (∀ x ∈ l0, (Lit.int .u8 x).wf = true) → l1.length ≤ maxLen → l1.length * 1 ≤ 140737488351232 → (∀ x ∈ l1, (Lit.int .u8 x).wf = true) → ∃ k, laws_FnSlopeWalks.f k l0 l1 = some true
theorem laws_FnSlopeWalks.walk (P : laws_FnSlopeWalks.Pure) (a0 : Option Addr) (len0 cap0 : Nat) (z0 : List Int) (a1 : Option Addr) (len1 cap1 : Nat) (z1 : List Int) (w : World) (w0 : (a0 = none ∧ len0 = 0 ∧ cap0 = 0 ∧ z0 = []) ∨ ∃ x, a0 = some x ∧ len0 ≤ cap0 ∧ cap0 ≤ maxLen ∧ z0.length = cap0 ∧ (∀ i, i < z0.length → w.cell? (x.add i) = some (.int .u8 (z0.getD i 0))) ∧ ∀ n ∈ z0, (Lit.int .u8 n).wf = true) (y0 : len0 * 1 ≤ 140737488351232) (w1 : (a1 = none ∧ len1 = 0 ∧ cap1 = 0 ∧ z1 = []) ∨ ∃ x, a1 = some x ∧ len1 ≤ cap1 ∧ cap1 ≤ maxLen ∧ z1.length = cap1 ∧ (∀ i, i < z1.length → w.cell? (x.add i) = some (.int .u8 (z1.getD i 0))) ∧ ∀ n ∈ z1, (Lit.int .u8 n).wf = true) (y1 : len1 * 1 ≤ 140737488351232) :
    Calls Try.prog 3 #[.slice a0 len0 cap0, .slice a1 len1 cap1] w fun e w' => e = .returned (.bool true) ∧ Below w.heap.size w w' := by
  obtain ⟨l0, rfl, hr0, hm0, hw0, hc0⟩ := ReadsInt.ofRowC w0
  obtain ⟨l1, rfl, hr1, hm1, hw1, hc1⟩ := ReadsInt.ofRowC w1
  obtain ⟨k, h⟩ := P l0 l1 hm0 y0 hw0 hm1 y1 hw1
  refine (laws_FnSlopeWalks.calls k _ _ l0 _ _ l1 true w (Kd.C_of_reads (d := (0 : Int)) (h1 := fun _ => rfl) hr0) hc0 (Kd.C_of_reads (d := (0 : Int)) (h1 := fun _ => rfl) hr1) hc1 h).mono ?_
  rintro e w' ⟨rfl, hd⟩
  exact ⟨rfl, hd⟩

end Go.Proofs.Ytajcjlflajfdkaa.PAll
