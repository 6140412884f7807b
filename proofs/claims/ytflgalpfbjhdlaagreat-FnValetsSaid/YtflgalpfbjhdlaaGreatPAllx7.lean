-- written by a program of this session (wip/gen/xpatch.py over the translation); Lean checks it
import Derived.Test.YtflgalpfbjhdlaaGreatPAllx0
import Derived.Test.YtflgalpfbjhdlaaGreatPAllx1
import Derived.Test.YtflgalpfbjhdlaaGreatPAllx2
import Derived.Test.YtflgalpfbjhdlaaGreatPAllx3
import Derived.Test.YtflgalpfbjhdlaaGreatPAllx4
import Derived.Test.YtflgalpfbjhdlaaGreatPAllx5
import Derived.Test.YtflgalpfbjhdlaaGreatPAllx6
namespace Go.Proofs.YtflgalpfbjhdlaaGreat.PAll
open Go.RowKit Go.Proofs.YtflgalpfbjhdlaaGreat.Hand Go.Proofs.YtflgalpfbjhdlaaGreatW.PrintWords Go.Proofs.YtflgalpfbjhdlaaGreatW.PrintLast Go.Proofs.YtflgalpfbjhdlaaGreatW.PrintMore
attribute [local go_sem] max2_int min2_int max_two min_two max_three min_three max_four min_four   -- for this text's walks alone
set_option maxHeartbeats 8000000
set_option maxRecDepth 100000
set_option linter.unusedVariables false
set_option linter.unusedSimpArgs false

/-! ### laws_FnValets: function 3 -/
mutual
def laws_FnValets.j0 : Nat → List Int → List Int → Int → Int → Bool → Int → Bool → Int → List Int → List Int → Bool → Option (Bool)
 | 0, _, _, _, _, _, _, _, _, _, _, _ => none
 | k + 1, x1, x5, x6, x7, x8, x11, x12, x15, x19, x23, x192 => if x192 = true then (none) else ((spec_DrawReorderCars.f k x1).bind fun bt655 => ((impl_ReorderCars.f k bt655.1 bt655.2).bind fun bt661 => ((spec_ReorderCars.f k bt655.1 bt655.2).bind fun bt665 => (if (bt661.2 != bt665.2) = true then (none) else ((laws_jSame.f k bt661.1 bt665.1).bind fun t669 => (if t669 = true then (if x8 = true then ((impl_TotalDistance.f k x5 x6).bind fun bt670 => (if bt670.2 = true then ((laws_jSum.f k x23).bind fun t672 => (if t672 = bt670.1 then (if x12 = true then (laws_FnValets.j1 k x1 x5 x6 x7 x11 x12 x15 x19 x23 (decide (x7 > x11))) else (laws_FnValets.j1 k x1 x5 x6 x7 x11 x12 x15 x19 x23 false)) else (none))) else (none))) else (some true)) else (none)))))))
def laws_FnValets.j1 : Nat → List Int → List Int → Int → Int → Int → Bool → Int → List Int → List Int → Bool → Option (Bool)
 | 0, _, _, _, _, _, _, _, _, _, _ => none
 | k + 1, x1, x5, x6, x7, x11, x12, x15, x19, x23, x242 => if x242 = true then (none) else (if (x5.length : Int) > 1 then ((laws_numberOf.f k x1).bind fun t673 => (if (wrap64 ((x5.length : Int) - 1)) = 0 then (none) else ((laws_jSwapped.f x5 (Int.tmod t673 (wrap64 ((x5.length : Int) - 1)))).bind fun t674 => (laws_FnValets.j2 k x5 x6 x7 x11 x12 x15 x19 x23 t674)))) else (laws_FnValets.j2 k x5 x6 x7 x11 x12 x15 x19 x23 x5))
def laws_FnValets.j2 : Nat → List Int → Int → Int → Int → Bool → Int → List Int → List Int → List Int → Option (Bool)
 | 0, _, _, _, _, _, _, _, _, _ => none
 | k + 1, x5, x6, x7, x11, x12, x15, x19, x23, x35 => (some (([x5, x35] : List (List Int)) : List (List Int))).bind fun y677 => (laws_FnValets.l0 k x5 x6 x7 x11 x12 x15 x19 x23 y677 (y677.length : Int) 0)
def laws_FnValets.l0 : Nat → List Int → Int → Int → Int → Bool → Int → List Int → List Int → List (List Int) → Int → Int → Option (Bool)
 | 0, _, _, _, _, _, _, _, _, _, _, _ => none
 | k + 1, x5, x6, x7, x11, x12, x15, x19, x23, x257, x258, x259 => if x259 < x258 then (if 0 ≤ x259 then (if x259 < (x257.length : Int) then ((impl_DistancesOf.f k (rd_L3 x257 x259) x6).bind fun bt681 => ((impl_LuckyCars.f k (rd_L3 x257 x259) x6).bind fun bt685 => ((impl_WaitsOf.f k (rd_L3 x257 x259) x6).bind fun bt689 => (if bt681.2 = true then (if bt685.2 = true then (if bt689.2 = true then (if (bt685.1.length : Int) > x15 then (none) else ((laws_jSame.f k bt689.1 x23).bind fun t693 => (if t693 = true then (laws_FnValets.l1 k x5 x6 x7 x11 x12 x15 x19 x23 0 x257 x258 x259 bt681.1 (bt681.1.length : Int) 0) else (none)))) else (none)) else (none)) else (none))))) else (none)) else (none)) else ((impl_ReorderCars.f k x5 x19).bind fun bt695 => (laws_FnValets.l2 k bt695.1 bt695.2 1))
def laws_FnValets.l1 : Nat → List Int → Int → Int → Int → Bool → Int → List Int → List Int → Int → List (List Int) → Int → Int → List Int → Int → Int → Option (Bool)
 | 0, _, _, _, _, _, _, _, _, _, _, _, _, _, _, _ => none
 | k + 1, x5, x6, x7, x11, x12, x15, x19, x23, x44, x257, x258, x259, x303, x304, x305 => if x305 < x304 then (if 0 ≤ x305 then (if x305 < (x303.length : Int) then (if (rd x303 x305) > x44 then (laws_FnValets.l1 k x5 x6 x7 x11 x12 x15 x19 x23 (rd x303 x305) x257 x258 x259 x303 x304 (wrap64 (x305 + 1))) else (laws_FnValets.l1 k x5 x6 x7 x11 x12 x15 x19 x23 x44 x257 x258 x259 x303 x304 (wrap64 (x305 + 1)))) else (none)) else (none)) else (if x44 < x7 then (none) else (if x12 = true then (if x44 > x11 then (none) else (laws_FnValets.l0 k x5 x6 x7 x11 x12 x15 x19 x23 x257 x258 (wrap64 (x259 + 1)))) else (laws_FnValets.l0 k x5 x6 x7 x11 x12 x15 x19 x23 x257 x258 (wrap64 (x259 + 1)))))
def laws_FnValets.l2 : Nat → List Int → Bool → Int → Option (Bool)
 | 0, _, _, _ => none
 | k + 1, x47, x48, x49 => if x49 < (x47.length : Int) then (if 0 ≤ x49 then (if 0 ≤ (wrap64 (x49 - 1)) then (if (wrap64 (x49 - 1)) < (x47.length : Int) then (if (rd x47 x49) < (rd x47 (wrap64 (x49 - 1))) then (none) else (laws_FnValets.l2 k x47 x48 (wrap64 (x49 + 1)))) else (none)) else (none)) else (none)) else (some x48)
end
def laws_FnValets.f (k : Nat) (l0 : List Int) (l1 : List Int) : Option (Bool) := (laws_big.f l0 l1).bind fun t620 => (if t620 = true then (some true) else ((spec_DrawLeastGreatest.f k l0).bind fun bt621 => ((impl_LeastGreatest.f k bt621.1 bt621.2).bind fun bt625 => ((spec_LeastGreatest.f k bt621.1 bt621.2).bind fun bt627 => ((impl_GreatestGreatest.f k bt621.1 bt621.2).bind fun bt629 => ((spec_GreatestGreatest.f k bt621.1 bt621.2).bind fun bt631 => ((impl_MostLucky.f k bt621.1 bt621.2).bind fun bt633 => ((spec_MostLucky.f k bt621.1 bt621.2).bind fun bt635 => ((impl_FairOrder.f k bt621.1 bt621.2).bind fun bt637 => ((spec_FairOrder.f k bt621.1 bt621.2).bind fun bt641 => ((impl_WaitsOf.f k bt621.1 bt621.2).bind fun bt645 => ((spec_WaitsOf.f k bt621.1 bt621.2).bind fun bt649 => (if (bt625.2 != bt627.2) = true then (none) else (if bt625.1 = bt627.1 then (if (bt629.2 != bt631.2) = true then (none) else (if bt629.1 = bt631.1 then (if (bt633.2 != bt635.2) = true then (none) else (if bt633.1 = bt635.1 then (if (bt637.2 != bt641.2) = true then (none) else ((laws_jSame.f k bt637.1 bt641.1).bind fun t653 => (if t653 = true then (if (bt645.2 != bt649.2) = true then (none) else ((laws_jSame.f k bt645.1 bt649.1).bind fun t654 => (if t654 = true then (if (bt633.2 != bt625.2) = true then (none) else (if (bt637.2 != bt625.2) = true then (none) else (if (bt645.2 != bt625.2) = true then (none) else (if bt625.2 = true then (laws_FnValets.j0 k l1 bt621.1 bt621.2 bt625.1 bt625.2 bt629.1 bt629.2 bt633.1 bt637.1 bt645.1 (bt629.2 != (decide ((bt621.1.length : Int) ≤ 6)))) else (laws_FnValets.j0 k l1 bt621.1 bt621.2 bt625.1 bt625.2 bt629.1 bt629.2 bt633.1 bt637.1 bt645.1 (bt629.2 != false)))))) else (none)))) else (none)))) else (none))) else (none))) else (none)))))))))))))))
theorem laws_FnValets.mono_l : ∀ k, (∀ y0 y1 y2 y3 y4 y5 y6 y7 y8 y9 y10, LeO (laws_FnValets.j0 k y0 y1 y2 y3 y4 y5 y6 y7 y8 y9 y10) (laws_FnValets.j0 (k + 1) y0 y1 y2 y3 y4 y5 y6 y7 y8 y9 y10)) ∧ (∀ y0 y1 y2 y3 y4 y5 y6 y7 y8 y9, LeO (laws_FnValets.j1 k y0 y1 y2 y3 y4 y5 y6 y7 y8 y9) (laws_FnValets.j1 (k + 1) y0 y1 y2 y3 y4 y5 y6 y7 y8 y9)) ∧ (∀ y0 y1 y2 y3 y4 y5 y6 y7 y8, LeO (laws_FnValets.j2 k y0 y1 y2 y3 y4 y5 y6 y7 y8) (laws_FnValets.j2 (k + 1) y0 y1 y2 y3 y4 y5 y6 y7 y8)) ∧ (∀ y0 y1 y2 y3 y4 y5 y6 y7 y8 y9 y10, LeO (laws_FnValets.l0 k y0 y1 y2 y3 y4 y5 y6 y7 y8 y9 y10) (laws_FnValets.l0 (k + 1) y0 y1 y2 y3 y4 y5 y6 y7 y8 y9 y10)) ∧ (∀ y0 y1 y2 y3 y4 y5 y6 y7 y8 y9 y10 y11 y12 y13 y14, LeO (laws_FnValets.l1 k y0 y1 y2 y3 y4 y5 y6 y7 y8 y9 y10 y11 y12 y13 y14) (laws_FnValets.l1 (k + 1) y0 y1 y2 y3 y4 y5 y6 y7 y8 y9 y10 y11 y12 y13 y14)) ∧ (∀ y0 y1 y2, LeO (laws_FnValets.l2 k y0 y1 y2) (laws_FnValets.l2 (k + 1) y0 y1 y2))
 | 0 => ⟨fun _ _ _ _ _ _ _ _ _ _ _ r h => by simp [laws_FnValets.j0] at h, fun _ _ _ _ _ _ _ _ _ _ r h => by simp [laws_FnValets.j1] at h, fun _ _ _ _ _ _ _ _ _ r h => by simp [laws_FnValets.j2] at h, fun _ _ _ _ _ _ _ _ _ _ _ r h => by simp [laws_FnValets.l0] at h, fun _ _ _ _ _ _ _ _ _ _ _ _ _ _ _ r h => by simp [laws_FnValets.l1] at h, fun _ _ _ r h => by simp [laws_FnValets.l2] at h⟩
 | k + 1 => by
  obtain ⟨ih0, ih1, ih2, ih3, ih4, ih5⟩ := laws_FnValets.mono_l k
  refine ⟨?_, ?_, ?_, ?_, ?_, ?_⟩
  ·
   intro y0 y1 y2 y3 y4 y5 y6 y7 y8 y9 y10
   unfold laws_FnValets.j0
   repeat' (with_reducible first | exact ih0 _ _ _ _ _ _ _ _ _ _ _ | exact ih1 _ _ _ _ _ _ _ _ _ _ | exact ih2 _ _ _ _ _ _ _ _ _ | exact ih3 _ _ _ _ _ _ _ _ _ _ _ | exact ih4 _ _ _ _ _ _ _ _ _ _ _ _ _ _ _ | exact ih5 _ _ _ | exact impl_DistancesOf.mono _ _ _ | exact impl_FairOrder.mono _ _ _ | exact impl_GreatestGreatest.mono _ _ _ | exact impl_LeastGreatest.mono _ _ _ | exact impl_LuckyCars.mono _ _ _ | exact impl_MostLucky.mono _ _ _ | exact impl_ReorderCars.mono _ _ _ | exact impl_TotalDistance.mono _ _ _ | exact impl_WaitsOf.mono _ _ _ | exact laws_jSame.mono _ _ _ | exact laws_jSum.mono _ _ | exact laws_numberOf.mono _ _ | exact spec_DrawLeastGreatest.mono _ _ | exact spec_DrawReorderCars.mono _ _ | exact spec_FairOrder.mono _ _ _ | exact spec_GreatestGreatest.mono _ _ _ | exact spec_LeastGreatest.mono _ _ _ | exact spec_MostLucky.mono _ _ _ | exact spec_ReorderCars.mono _ _ _ | exact spec_WaitsOf.mono _ _ _ | exact LeO.refl _ | exact LeO.none _ | refine LeO.ite ?_ ?_ | refine LeO.bind ?_ (fun _ => ?_))
  ·
   intro y0 y1 y2 y3 y4 y5 y6 y7 y8 y9
   unfold laws_FnValets.j1
   repeat' (with_reducible first | exact ih0 _ _ _ _ _ _ _ _ _ _ _ | exact ih1 _ _ _ _ _ _ _ _ _ _ | exact ih2 _ _ _ _ _ _ _ _ _ | exact ih3 _ _ _ _ _ _ _ _ _ _ _ | exact ih4 _ _ _ _ _ _ _ _ _ _ _ _ _ _ _ | exact ih5 _ _ _ | exact impl_DistancesOf.mono _ _ _ | exact impl_FairOrder.mono _ _ _ | exact impl_GreatestGreatest.mono _ _ _ | exact impl_LeastGreatest.mono _ _ _ | exact impl_LuckyCars.mono _ _ _ | exact impl_MostLucky.mono _ _ _ | exact impl_ReorderCars.mono _ _ _ | exact impl_TotalDistance.mono _ _ _ | exact impl_WaitsOf.mono _ _ _ | exact laws_jSame.mono _ _ _ | exact laws_jSum.mono _ _ | exact laws_numberOf.mono _ _ | exact spec_DrawLeastGreatest.mono _ _ | exact spec_DrawReorderCars.mono _ _ | exact spec_FairOrder.mono _ _ _ | exact spec_GreatestGreatest.mono _ _ _ | exact spec_LeastGreatest.mono _ _ _ | exact spec_MostLucky.mono _ _ _ | exact spec_ReorderCars.mono _ _ _ | exact spec_WaitsOf.mono _ _ _ | exact LeO.refl _ | exact LeO.none _ | refine LeO.ite ?_ ?_ | refine LeO.bind ?_ (fun _ => ?_))
  ·
   intro y0 y1 y2 y3 y4 y5 y6 y7 y8
   unfold laws_FnValets.j2
   repeat' (with_reducible first | exact ih0 _ _ _ _ _ _ _ _ _ _ _ | exact ih1 _ _ _ _ _ _ _ _ _ _ | exact ih2 _ _ _ _ _ _ _ _ _ | exact ih3 _ _ _ _ _ _ _ _ _ _ _ | exact ih4 _ _ _ _ _ _ _ _ _ _ _ _ _ _ _ | exact ih5 _ _ _ | exact impl_DistancesOf.mono _ _ _ | exact impl_FairOrder.mono _ _ _ | exact impl_GreatestGreatest.mono _ _ _ | exact impl_LeastGreatest.mono _ _ _ | exact impl_LuckyCars.mono _ _ _ | exact impl_MostLucky.mono _ _ _ | exact impl_ReorderCars.mono _ _ _ | exact impl_TotalDistance.mono _ _ _ | exact impl_WaitsOf.mono _ _ _ | exact laws_jSame.mono _ _ _ | exact laws_jSum.mono _ _ | exact laws_numberOf.mono _ _ | exact spec_DrawLeastGreatest.mono _ _ | exact spec_DrawReorderCars.mono _ _ | exact spec_FairOrder.mono _ _ _ | exact spec_GreatestGreatest.mono _ _ _ | exact spec_LeastGreatest.mono _ _ _ | exact spec_MostLucky.mono _ _ _ | exact spec_ReorderCars.mono _ _ _ | exact spec_WaitsOf.mono _ _ _ | exact LeO.refl _ | exact LeO.none _ | refine LeO.ite ?_ ?_ | refine LeO.bind ?_ (fun _ => ?_))
  ·
   intro y0 y1 y2 y3 y4 y5 y6 y7 y8 y9 y10
   unfold laws_FnValets.l0
   repeat' (with_reducible first | exact ih0 _ _ _ _ _ _ _ _ _ _ _ | exact ih1 _ _ _ _ _ _ _ _ _ _ | exact ih2 _ _ _ _ _ _ _ _ _ | exact ih3 _ _ _ _ _ _ _ _ _ _ _ | exact ih4 _ _ _ _ _ _ _ _ _ _ _ _ _ _ _ | exact ih5 _ _ _ | exact impl_DistancesOf.mono _ _ _ | exact impl_FairOrder.mono _ _ _ | exact impl_GreatestGreatest.mono _ _ _ | exact impl_LeastGreatest.mono _ _ _ | exact impl_LuckyCars.mono _ _ _ | exact impl_MostLucky.mono _ _ _ | exact impl_ReorderCars.mono _ _ _ | exact impl_TotalDistance.mono _ _ _ | exact impl_WaitsOf.mono _ _ _ | exact laws_jSame.mono _ _ _ | exact laws_jSum.mono _ _ | exact laws_numberOf.mono _ _ | exact spec_DrawLeastGreatest.mono _ _ | exact spec_DrawReorderCars.mono _ _ | exact spec_FairOrder.mono _ _ _ | exact spec_GreatestGreatest.mono _ _ _ | exact spec_LeastGreatest.mono _ _ _ | exact spec_MostLucky.mono _ _ _ | exact spec_ReorderCars.mono _ _ _ | exact spec_WaitsOf.mono _ _ _ | exact LeO.refl _ | exact LeO.none _ | refine LeO.ite ?_ ?_ | refine LeO.bind ?_ (fun _ => ?_))
  ·
   intro y0 y1 y2 y3 y4 y5 y6 y7 y8 y9 y10 y11 y12 y13 y14
   unfold laws_FnValets.l1
   repeat' (with_reducible first | exact ih0 _ _ _ _ _ _ _ _ _ _ _ | exact ih1 _ _ _ _ _ _ _ _ _ _ | exact ih2 _ _ _ _ _ _ _ _ _ | exact ih3 _ _ _ _ _ _ _ _ _ _ _ | exact ih4 _ _ _ _ _ _ _ _ _ _ _ _ _ _ _ | exact ih5 _ _ _ | exact impl_DistancesOf.mono _ _ _ | exact impl_FairOrder.mono _ _ _ | exact impl_GreatestGreatest.mono _ _ _ | exact impl_LeastGreatest.mono _ _ _ | exact impl_LuckyCars.mono _ _ _ | exact impl_MostLucky.mono _ _ _ | exact impl_ReorderCars.mono _ _ _ | exact impl_TotalDistance.mono _ _ _ | exact impl_WaitsOf.mono _ _ _ | exact laws_jSame.mono _ _ _ | exact laws_jSum.mono _ _ | exact laws_numberOf.mono _ _ | exact spec_DrawLeastGreatest.mono _ _ | exact spec_DrawReorderCars.mono _ _ | exact spec_FairOrder.mono _ _ _ | exact spec_GreatestGreatest.mono _ _ _ | exact spec_LeastGreatest.mono _ _ _ | exact spec_MostLucky.mono _ _ _ | exact spec_ReorderCars.mono _ _ _ | exact spec_WaitsOf.mono _ _ _ | exact LeO.refl _ | exact LeO.none _ | refine LeO.ite ?_ ?_ | refine LeO.bind ?_ (fun _ => ?_))
  ·
   intro y0 y1 y2
   unfold laws_FnValets.l2
   repeat' (with_reducible first | exact ih0 _ _ _ _ _ _ _ _ _ _ _ | exact ih1 _ _ _ _ _ _ _ _ _ _ | exact ih2 _ _ _ _ _ _ _ _ _ | exact ih3 _ _ _ _ _ _ _ _ _ _ _ | exact ih4 _ _ _ _ _ _ _ _ _ _ _ _ _ _ _ | exact ih5 _ _ _ | exact impl_DistancesOf.mono _ _ _ | exact impl_FairOrder.mono _ _ _ | exact impl_GreatestGreatest.mono _ _ _ | exact impl_LeastGreatest.mono _ _ _ | exact impl_LuckyCars.mono _ _ _ | exact impl_MostLucky.mono _ _ _ | exact impl_ReorderCars.mono _ _ _ | exact impl_TotalDistance.mono _ _ _ | exact impl_WaitsOf.mono _ _ _ | exact laws_jSame.mono _ _ _ | exact laws_jSum.mono _ _ | exact laws_numberOf.mono _ _ | exact spec_DrawLeastGreatest.mono _ _ | exact spec_DrawReorderCars.mono _ _ | exact spec_FairOrder.mono _ _ _ | exact spec_GreatestGreatest.mono _ _ _ | exact spec_LeastGreatest.mono _ _ _ | exact spec_MostLucky.mono _ _ _ | exact spec_ReorderCars.mono _ _ _ | exact spec_WaitsOf.mono _ _ _ | exact LeO.refl _ | exact LeO.none _ | refine LeO.ite ?_ ?_ | refine LeO.bind ?_ (fun _ => ?_))
theorem laws_FnValets.mono : ∀ a0 a1 k, LeO (laws_FnValets.f k a0 a1) (laws_FnValets.f (k + 1) a0 a1) := by
 intro a0 a1 k
 obtain ⟨ih0, ih1, ih2, ih3, ih4, ih5⟩ := laws_FnValets.mono_l k
 unfold laws_FnValets.f
 repeat' (with_reducible first | exact ih0 _ _ _ _ _ _ _ _ _ _ _ | exact ih1 _ _ _ _ _ _ _ _ _ _ | exact ih2 _ _ _ _ _ _ _ _ _ | exact ih3 _ _ _ _ _ _ _ _ _ _ _ | exact ih4 _ _ _ _ _ _ _ _ _ _ _ _ _ _ _ | exact ih5 _ _ _ | exact impl_DistancesOf.mono _ _ _ | exact impl_FairOrder.mono _ _ _ | exact impl_GreatestGreatest.mono _ _ _ | exact impl_LeastGreatest.mono _ _ _ | exact impl_LuckyCars.mono _ _ _ | exact impl_MostLucky.mono _ _ _ | exact impl_ReorderCars.mono _ _ _ | exact impl_TotalDistance.mono _ _ _ | exact impl_WaitsOf.mono _ _ _ | exact laws_jSame.mono _ _ _ | exact laws_jSum.mono _ _ | exact laws_numberOf.mono _ _ | exact spec_DrawLeastGreatest.mono _ _ | exact spec_DrawReorderCars.mono _ _ | exact spec_FairOrder.mono _ _ _ | exact spec_GreatestGreatest.mono _ _ _ | exact spec_LeastGreatest.mono _ _ _ | exact spec_MostLucky.mono _ _ _ | exact spec_ReorderCars.mono _ _ _ | exact spec_WaitsOf.mono _ _ _ | exact LeO.refl _ | exact LeO.none _ | refine LeO.ite ?_ ?_ | refine LeO.bind ?_ (fun _ => ?_))
theorem laws_FnValets.calls (k : Nat) (A0 : Option Addr) (c0 : Nat) (l0 : List Int) (A1 : Option Addr) (c1 : Nat) (l1 : List Int) (r : Bool) (w : World) (hr0 : Kd.C (Kd.int .u8) w A0 l0.length l0) (hc0 : l0.length ≤ c0) (hr1 : Kd.C (Kd.int .u8) w A1 l1.length l1) (hc1 : l1.length ≤ c1) (h : laws_FnValets.f k l0 l1 = some r) :
  Calls Tryz.prog 3 #[.slice A0 l0.length c0, .slice A1 l1.length c1] w fun e w' => e = .returned (.bool r) ∧ Below w.heap.size w w' := by
 have HR0 := Aside0.mk hr0
 have HC0 := Aside0.mk hc0
 clear hr0 hc0
 have HR1 := Aside0.mk hr1
 have HC1 := Aside0.mk hc1
 clear hr1 hc1
 have HB := Aside0.mk (Below.refl w.heap.size w)
 unfold laws_FnValets.f at h
 have H := h; clear h
 obtain ⟨t620, A3, H⟩ := ob_ H
 by_cases c4 : t620 = true
 ·
  subst c4
  rw [if_pos rfl] at H
  as_aux_lemma =>
   obtain rfl := Option.some.inj H
   go_enter Tryz.func3, Tryz.ntmps3
   have zz_ := trivial
   repeat (clear zz_; go_wp2_with (first | (go_at_call 4; (with_reducible refine (laws_big.calls _ _ l0 _ _ l1 true _ ?s1 ?s2 ?s3 ?s4 A3.out).mono ?_); (case s1 => exact q201_ HR0.out); (case s2 => exact HC0.out); (case s3 => exact q201_ HR1.out); (case s4 => exact HC1.out); rintro e w' ⟨rfl, ⟨nd, rfl⟩⟩; (try exact q447_))); try (go_quiet ((go_at_call 4; (with_reducible refine (laws_big.calls _ _ l0 _ _ l1 true _ ?s1 ?s2 ?s3 ?s4 A3.out).mono ?_); (case s1 => exact q201_ HR0.out); (case s2 => exact HC0.out); (case s3 => exact q201_ HR1.out); (case s4 => exact HC1.out); rintro e w' ⟨rfl, ⟨nd, rfl⟩⟩; (try exact q447_))); have zz_ := trivial))
   go_ret
   exact ⟨qce7_, q0c4_⟩
 ·
  replace c4 := Bool.eq_false_iff.mpr c4
  subst c4
  rw [if_neg nf_] at H
  obtain ⟨⟨t621, t622⟩, A5, H⟩ := ob_ H
  dsimp only at H
  obtain ⟨⟨t625, t626⟩, A6, H⟩ := ob_ H
  dsimp only at H
  obtain ⟨⟨t627, t628⟩, A7, H⟩ := ob_ H
  dsimp only at H
  obtain ⟨⟨t629, t630⟩, A8, H⟩ := ob_ H
  dsimp only at H
  obtain ⟨⟨t631, t632⟩, A9, H⟩ := ob_ H
  dsimp only at H
  obtain ⟨⟨t633, t634⟩, A10, H⟩ := ob_ H
  dsimp only at H
  obtain ⟨⟨t635, t636⟩, A11, H⟩ := ob_ H
  dsimp only at H
  obtain ⟨⟨t637, t638⟩, A12, H⟩ := ob_ H
  dsimp only at H
  obtain ⟨⟨t641, t642⟩, A13, H⟩ := ob_ H
  dsimp only at H
  obtain ⟨⟨t645, t646⟩, A14, H⟩ := ob_ H
  dsimp only at H
  obtain ⟨⟨t649, t650⟩, A15, H⟩ := ob_ H
  dsimp only at H
  have HC16 := Aside0.mk H
  clear H
  go_enter Tryz.func3, Tryz.ntmps3
  have zz_ := trivial
  repeat (clear zz_; go_upto_region 14 with (first | (go_at_call 4; (with_reducible refine (laws_big.calls _ _ l0 _ _ l1 false _ ?s1 ?s2 ?s3 ?s4 A3.out).mono ?_); (case s1 => exact q201_ HR0.out); (case s2 => exact HC0.out); (case s3 => exact q201_ HR1.out); (case s4 => exact HC1.out); rintro e w' ⟨rfl, ⟨nd, rfl⟩⟩; (try exact q447_)) | (go_at_call 5; (with_reducible refine (spec_DrawLeastGreatest.calls k _ _ l0 t621 t622 _ ?s1 ?s2 A5.out).mono ?_); (case s1 => exact q201_ HR0.out); (case s2 => exact HC0.out); rintro e w17 ⟨v623, rfl, ho0, hb⟩; have HO624 := Aside0.mk (Kd.R_lower ho0 (below_size q0c4_)); replace HB := Aside0.mk (below_step q0c4_ hb); clear hb ho0; obtain ⟨Ao18, co18, eo18⟩ := Kd.R_slice HO624.out; subst eo18) | (go_at_call 6; (with_reducible refine (impl_LeastGreatest.calls k _ _ t621 t622 t625 t626 _ ?s1 ?s2 A6.out).mono ?_); (case s1 => exact q5a8_ HO624.out); (case s2 => exact (Kd.R_reads' HO624.out).2.1); rintro e w19 ⟨rfl, hb⟩; replace HO624 := Aside0.mk (Kd.R_below (q9d5_ HO624.out) hb); replace HB := Aside0.mk (below_step q0c4_ hb); clear hb) | (go_at_call 7; (with_reducible refine (spec_LeastGreatest.calls k _ _ t621 t622 t627 t628 _ ?s1 ?s2 A7.out).mono ?_); (case s1 => exact q5a8_ HO624.out); (case s2 => exact (Kd.R_reads' HO624.out).2.1); rintro e w20 ⟨rfl, hb⟩; replace HO624 := Aside0.mk (Kd.R_below (q9d5_ HO624.out) hb); replace HB := Aside0.mk (below_step q0c4_ hb); clear hb) | (go_at_call 8; (with_reducible refine (impl_GreatestGreatest.calls k _ _ t621 t622 t629 t630 _ ?s1 ?s2 A8.out).mono ?_); (case s1 => exact q5a8_ HO624.out); (case s2 => exact (Kd.R_reads' HO624.out).2.1); rintro e w21 ⟨rfl, hb⟩; replace HO624 := Aside0.mk (Kd.R_below (q9d5_ HO624.out) hb); replace HB := Aside0.mk (below_step q0c4_ hb); clear hb) | (go_at_call 9; (with_reducible refine (spec_GreatestGreatest.calls k _ _ t621 t622 t631 t632 _ ?s1 ?s2 A9.out).mono ?_); (case s1 => exact q5a8_ HO624.out); (case s2 => exact (Kd.R_reads' HO624.out).2.1); rintro e w22 ⟨rfl, hb⟩; replace HO624 := Aside0.mk (Kd.R_below (q9d5_ HO624.out) hb); replace HB := Aside0.mk (below_step q0c4_ hb); clear hb) | (go_at_call 10; (with_reducible refine (impl_MostLucky.calls k _ _ t621 t622 t633 t634 _ ?s1 ?s2 A10.out).mono ?_); (case s1 => exact q5a8_ HO624.out); (case s2 => exact (Kd.R_reads' HO624.out).2.1); rintro e w23 ⟨rfl, hb⟩; replace HO624 := Aside0.mk (Kd.R_below (q9d5_ HO624.out) hb); replace HB := Aside0.mk (below_step q0c4_ hb); clear hb) | (go_at_call 11; (with_reducible refine (spec_MostLucky.calls k _ _ t621 t622 t635 t636 _ ?s1 ?s2 A11.out).mono ?_); (case s1 => exact q5a8_ HO624.out); (case s2 => exact (Kd.R_reads' HO624.out).2.1); rintro e w24 ⟨rfl, hb⟩; replace HO624 := Aside0.mk (Kd.R_below (q9d5_ HO624.out) hb); replace HB := Aside0.mk (below_step q0c4_ hb); clear hb) | (go_at_call 12; (with_reducible refine (impl_FairOrder.calls k _ _ t621 t622 t637 t638 _ ?s1 ?s2 A12.out).mono ?_); (case s1 => exact q5a8_ HO624.out); (case s2 => exact (Kd.R_reads' HO624.out).2.1); rintro e w25 ⟨v639, rfl, ho0, hb⟩; have n0_ := Aside0.mk (Kd.R_elder' (q9d5_ HO624.out) (Kd.R_base ho0) hb); have n1_ := Aside0.mk (Kd.R_lower (Kd.R_new' ho0 (Kd.R_lt (q9d5_ HO624.out))) (below_size q0c4_)); have n2_ := Aside0.mk (below_step q0c4_ hb); replace HO624 := n0_; have HO640 := n1_; replace HB := n2_; clear n0_ n1_ n2_; clear hb ho0) | (go_at_call 13; (with_reducible refine (spec_FairOrder.calls k _ _ t621 t622 t641 t642 _ ?s1 ?s2 A13.out).mono ?_); (case s1 => exact q5a8_ HO624.out); (case s2 => exact (Kd.R_reads' HO624.out).2.1); rintro e w26 ⟨v643, rfl, ho0, hb⟩; have n0_ := Aside0.mk (Kd.R_elder' (q9d5_ HO624.out) (Kd.R_base ho0) hb); have n1_ := Aside0.mk (Kd.R_elder' (q9d5_ HO640.out) (Kd.R_base ho0) hb); have n2_ := Aside0.mk (Kd.R_lower (Kd.R_new' (Kd.R_new' ho0 (Kd.R_lt (q9d5_ HO624.out))) (Kd.R_lt (q9d5_ HO640.out))) (below_size q0c4_)); have n3_ := Aside0.mk (below_step q0c4_ hb); replace HO624 := n0_; replace HO640 := n1_; have HO644 := n2_; replace HB := n3_; clear n0_ n1_ n2_ n3_; clear hb ho0) | (go_at_call 14; (with_reducible refine (impl_WaitsOf.calls k _ _ t621 t622 t645 t646 _ ?s1 ?s2 A14.out).mono ?_); (case s1 => exact q5a8_ HO624.out); (case s2 => exact (Kd.R_reads' HO624.out).2.1); rintro e w27 ⟨v647, rfl, ho0, hb⟩; have n0_ := Aside0.mk (Kd.R_elder' (q9d5_ HO624.out) (Kd.R_base ho0) hb); have n1_ := Aside0.mk (Kd.R_elder' (q9d5_ HO640.out) (Kd.R_base ho0) hb); have n2_ := Aside0.mk (Kd.R_elder' (q9d5_ HO644.out) (Kd.R_base ho0) hb); have n3_ := Aside0.mk (Kd.R_lower (Kd.R_new' (Kd.R_new' (Kd.R_new' ho0 (Kd.R_lt (q9d5_ HO624.out))) (Kd.R_lt (q9d5_ HO640.out))) (Kd.R_lt (q9d5_ HO644.out))) (below_size q0c4_)); have n4_ := Aside0.mk (below_step q0c4_ hb); replace HO624 := n0_; replace HO640 := n1_; replace HO644 := n2_; have HO648 := n3_; replace HB := n4_; clear n0_ n1_ n2_ n3_ n4_; clear hb ho0) | (go_at_call 15; (with_reducible refine (spec_WaitsOf.calls k _ _ t621 t622 t649 t650 _ ?s1 ?s2 A15.out).mono ?_); (case s1 => exact q5a8_ HO624.out); (case s2 => exact (Kd.R_reads' HO624.out).2.1); rintro e w28 ⟨v651, rfl, ho0, hb⟩; have n0_ := Aside0.mk (Kd.R_elder' (q9d5_ HO624.out) (Kd.R_base ho0) hb); have n1_ := Aside0.mk (Kd.R_elder' (q9d5_ HO640.out) (Kd.R_base ho0) hb); have n2_ := Aside0.mk (Kd.R_elder' (q9d5_ HO644.out) (Kd.R_base ho0) hb); have n3_ := Aside0.mk (Kd.R_elder' (q9d5_ HO648.out) (Kd.R_base ho0) hb); have n4_ := Aside0.mk (Kd.R_lower (Kd.R_new' (Kd.R_new' (Kd.R_new' (Kd.R_new' ho0 (Kd.R_lt (q9d5_ HO624.out))) (Kd.R_lt (q9d5_ HO640.out))) (Kd.R_lt (q9d5_ HO644.out))) (Kd.R_lt (q9d5_ HO648.out))) (below_size q0c4_)); have n5_ := Aside0.mk (below_step q0c4_ hb); replace HO624 := n0_; replace HO640 := n1_; replace HO644 := n2_; replace HO648 := n3_; have HO652 := n4_; replace HB := n5_; clear n0_ n1_ n2_ n3_ n4_ n5_; clear hb ho0)); try (go_quiet ((go_at_call 4; (with_reducible refine (laws_big.calls _ _ l0 _ _ l1 false _ ?s1 ?s2 ?s3 ?s4 A3.out).mono ?_); (case s1 => exact q201_ HR0.out); (case s2 => exact HC0.out); (case s3 => exact q201_ HR1.out); (case s4 => exact HC1.out); rintro e w' ⟨rfl, ⟨nd, rfl⟩⟩; (try exact q447_))); have zz_ := trivial))
  (try simp only [Act.put, List.setIfInBounds_toArray, List.set_cons_zero, List.set_cons_succ])
  go_cut [192] (fun v192 wc => ∃ (kq : Nat) (x192_15 : Bool), v192 = .bool x192_15 ∧ Aside0 (laws_FnValets.j0 kq l1 t621 t622 t625 t626 t629 t630 t633 t637 t645 x192_15 = some r) ∧ Aside0 (kq ≤ k) ∧ Aside0 (Kd.R (Kd.int .i64) 3 wc w.heap.size (fun k_ => some k_ ≠ (v639 : Value).ownBlock ∧ some k_ ≠ (v647 : Value).ownBlock) (.slice Ao18 t621.length co18) t621) ∧ Aside0 (Kd.R (Kd.int .i64) 3 wc w.heap.size (fun k_ => some k_ ≠ ((.slice Ao18 t621.length co18) : Value).ownBlock ∧ some k_ ≠ (v647 : Value).ownBlock) v639 t637) ∧ Aside0 (Kd.R (Kd.int .i64) 3 wc w.heap.size (fun k_ => some k_ ≠ ((.slice Ao18 t621.length co18) : Value).ownBlock ∧ some k_ ≠ (v639 : Value).ownBlock) v647 t645) ∧ Aside0 (Below w.heap.size w wc))
  case first =>
   have H := HC16.out
   clear HC16
   by_cases c29 : (t626 != t628) = true
   ·
    rw [if_pos c29] at H
    exact absurd H (by simp)
   ·
    rw [if_neg c29] at H
    have c29b0 : (t626 != t628) = false := by simpa using c29
    (try (have c29b1 : decide (t626 = t628) = true := by simpa using c29))
    (try (have c29b2 : (t626 == t628) = true := by simpa using c29))
    clear c29
    (first | rw [c29b0] | (simp only [i64_w, i32_w]; rw [c29b0]) | skip)
    by_cases c30 : t625 = t627
    ·
     rw [if_pos c30] at H
     have c30b0 := beq_iff_eq.mpr c30
     have c30b1 := bne_eq_false_iff_eq.mpr c30
     clear c30
     by_cases c31 : (t630 != t632) = true
     ·
      rw [if_pos c31] at H
      exact absurd H (by simp)
     ·
      rw [if_neg c31] at H
      have c31b0 : (t630 != t632) = false := by simpa using c31
      (try (have c31b1 : decide (t630 = t632) = true := by simpa using c31))
      (try (have c31b2 : (t630 == t632) = true := by simpa using c31))
      clear c31
      by_cases c32 : t629 = t631
      ·
       rw [if_pos c32] at H
       have c32b0 := beq_iff_eq.mpr c32
       have c32b1 := bne_eq_false_iff_eq.mpr c32
       clear c32
       by_cases c33 : (t634 != t636) = true
       ·
        rw [if_pos c33] at H
        exact absurd H (by simp)
       ·
        rw [if_neg c33] at H
        have c33b0 : (t634 != t636) = false := by simpa using c33
        (try (have c33b1 : decide (t634 = t636) = true := by simpa using c33))
        (try (have c33b2 : (t634 == t636) = true := by simpa using c33))
        clear c33
        by_cases c34 : t633 = t635
        ·
         rw [if_pos c34] at H
         have c34b0 := beq_iff_eq.mpr c34
         have c34b1 := bne_eq_false_iff_eq.mpr c34
         clear c34
         by_cases c35 : (t638 != t642) = true
         ·
          rw [if_pos c35] at H
          exact absurd H (by simp)
         ·
          rw [if_neg c35] at H
          have c35b0 : (t638 != t642) = false := by simpa using c35
          (try (have c35b1 : decide (t638 = t642) = true := by simpa using c35))
          (try (have c35b2 : (t638 == t642) = true := by simpa using c35))
          clear c35
          obtain ⟨t653, A36, H⟩ := ob_ H
          by_cases c37 : t653 = true
          ·
           subst c37
           rw [if_pos rfl] at H
           by_cases c38 : (t646 != t650) = true
           ·
            rw [if_pos c38] at H
            exact absurd H (by simp)
           ·
            rw [if_neg c38] at H
            have c38b0 : (t646 != t650) = false := by simpa using c38
            (try (have c38b1 : decide (t646 = t650) = true := by simpa using c38))
            (try (have c38b2 : (t646 == t650) = true := by simpa using c38))
            clear c38
            obtain ⟨t654, A39, H⟩ := ob_ H
            by_cases c40 : t654 = true
            ·
             subst c40
             rw [if_pos rfl] at H
             by_cases c41 : (t634 != t626) = true
             ·
              rw [if_pos c41] at H
              exact absurd H (by simp)
             ·
              rw [if_neg c41] at H
              have c41b0 : (t634 != t626) = false := by simpa using c41
              (try (have c41b1 : decide (t634 = t626) = true := by simpa using c41))
              (try (have c41b2 : (t634 == t626) = true := by simpa using c41))
              clear c41
              by_cases c42 : (t638 != t626) = true
              ·
               rw [if_pos c42] at H
               exact absurd H (by simp)
              ·
               rw [if_neg c42] at H
               have c42b0 : (t638 != t626) = false := by simpa using c42
               (try (have c42b1 : decide (t638 = t626) = true := by simpa using c42))
               (try (have c42b2 : (t638 == t626) = true := by simpa using c42))
               clear c42
               by_cases c43 : (t646 != t626) = true
               ·
                rw [if_pos c43] at H
                exact absurd H (by simp)
               ·
                rw [if_neg c43] at H
                have c43b0 : (t646 != t626) = false := by simpa using c43
                (try (have c43b1 : decide (t646 = t626) = true := by simpa using c43))
                (try (have c43b2 : (t646 == t626) = true := by simpa using c43))
                clear c43
                by_cases c44 : t626 = true
                ·
                 subst c44
                 rw [if_pos rfl] at H
                 as_aux_lemma =>
                  have H' := Aside0.mk H
                  clear H
                  obtain ⟨Ao45, co45, eo45⟩ := Kd.R_slice HO640.out
                  subst eo45
                  obtain ⟨Ao46, co46, eo46⟩ := Kd.R_slice HO644.out
                  subst eo46
                  have zz_ := trivial
                  repeat (clear zz_; go_wp2_with (first | (go_at_call 16; (with_reducible refine (laws_jSame.calls k _ _ t637 _ _ t641 true _ ?s1 ?s2 ?s3 ?s4 A36.out).mono ?_); (case s1 => exact q5a8_ HO640.out); (case s2 => exact (Kd.R_reads' HO640.out).2.1); (case s3 => exact q5a8_ HO644.out); (case s4 => exact (Kd.R_reads' HO644.out).2.1); rintro e w' ⟨rfl, ⟨nd, rfl⟩⟩; (try exact q447_); obtain ⟨Ao47, co47, eo47⟩ := Kd.R_slice HO648.out; subst eo47; obtain ⟨Ao48, co48, eo48⟩ := Kd.R_slice HO652.out; subst eo48) | (go_at_call 16; (with_reducible refine (laws_jSame.calls k _ _ t645 _ _ t649 true _ ?s1 ?s2 ?s3 ?s4 A39.out).mono ?_); (case s1 => exact q5a8_ HO648.out); (case s2 => exact (Kd.R_reads' HO648.out).2.1); (case s3 => exact q5a8_ HO652.out); (case s4 => exact (Kd.R_reads' HO652.out).2.1); rintro e w' ⟨rfl, ⟨nd, rfl⟩⟩; (try exact q447_))); try (go_quiet (first | (go_at_call 16; (with_reducible refine (laws_jSame.calls k _ _ t637 _ _ t641 true _ ?s1 ?s2 ?s3 ?s4 A36.out).mono ?_); (case s1 => exact q5a8_ HO640.out); (case s2 => exact (Kd.R_reads' HO640.out).2.1); (case s3 => exact q5a8_ HO644.out); (case s4 => exact (Kd.R_reads' HO644.out).2.1); rintro e w' ⟨rfl, ⟨nd, rfl⟩⟩; (try exact q447_); obtain ⟨Ao47, co47, eo47⟩ := Kd.R_slice HO648.out; subst eo47; obtain ⟨Ao48, co48, eo48⟩ := Kd.R_slice HO652.out; subst eo48) | (go_at_call 16; (with_reducible refine (laws_jSame.calls k _ _ t645 _ _ t649 true _ ?s1 ?s2 ?s3 ?s4 A39.out).mono ?_); (case s1 => exact q5a8_ HO648.out); (case s2 => exact (Kd.R_reads' HO648.out).2.1); (case s3 => exact q5a8_ HO652.out); (case s4 => exact (Kd.R_reads' HO652.out).2.1); rintro e w' ⟨rfl, ⟨nd, rfl⟩⟩; (try exact q447_))); have zz_ := trivial))
                  go_meet
                  case rel => exact ⟨_, ((t630 != (decide ((t621.length : Int) ≤ 6)))), qc8f_, H', ⟨q821_⟩, ⟨qa00_ HO624.out⟩, ⟨qa00_ HO640.out⟩, ⟨qbfa_ HO648.out⟩, ⟨q0c4_⟩⟩
                ·
                 replace c44 := Bool.eq_false_iff.mpr c44
                 subst c44
                 rw [if_neg nf_] at H
                 as_aux_lemma =>
                  have H' := Aside0.mk H
                  clear H
                  obtain ⟨Ao49, co49, eo49⟩ := Kd.R_slice HO640.out
                  subst eo49
                  obtain ⟨Ao50, co50, eo50⟩ := Kd.R_slice HO644.out
                  subst eo50
                  have zz_ := trivial
                  repeat (clear zz_; go_wp2_with (first | (go_at_call 16; (with_reducible refine (laws_jSame.calls k _ _ t637 _ _ t641 true _ ?s1 ?s2 ?s3 ?s4 A36.out).mono ?_); (case s1 => exact q5a8_ HO640.out); (case s2 => exact (Kd.R_reads' HO640.out).2.1); (case s3 => exact q5a8_ HO644.out); (case s4 => exact (Kd.R_reads' HO644.out).2.1); rintro e w' ⟨rfl, ⟨nd, rfl⟩⟩; (try exact q447_); obtain ⟨Ao51, co51, eo51⟩ := Kd.R_slice HO648.out; subst eo51; obtain ⟨Ao52, co52, eo52⟩ := Kd.R_slice HO652.out; subst eo52) | (go_at_call 16; (with_reducible refine (laws_jSame.calls k _ _ t645 _ _ t649 true _ ?s1 ?s2 ?s3 ?s4 A39.out).mono ?_); (case s1 => exact q5a8_ HO648.out); (case s2 => exact (Kd.R_reads' HO648.out).2.1); (case s3 => exact q5a8_ HO652.out); (case s4 => exact (Kd.R_reads' HO652.out).2.1); rintro e w' ⟨rfl, ⟨nd, rfl⟩⟩; (try exact q447_))); try (go_quiet (first | (go_at_call 16; (with_reducible refine (laws_jSame.calls k _ _ t637 _ _ t641 true _ ?s1 ?s2 ?s3 ?s4 A36.out).mono ?_); (case s1 => exact q5a8_ HO640.out); (case s2 => exact (Kd.R_reads' HO640.out).2.1); (case s3 => exact q5a8_ HO644.out); (case s4 => exact (Kd.R_reads' HO644.out).2.1); rintro e w' ⟨rfl, ⟨nd, rfl⟩⟩; (try exact q447_); obtain ⟨Ao51, co51, eo51⟩ := Kd.R_slice HO648.out; subst eo51; obtain ⟨Ao52, co52, eo52⟩ := Kd.R_slice HO652.out; subst eo52) | (go_at_call 16; (with_reducible refine (laws_jSame.calls k _ _ t645 _ _ t649 true _ ?s1 ?s2 ?s3 ?s4 A39.out).mono ?_); (case s1 => exact q5a8_ HO648.out); (case s2 => exact (Kd.R_reads' HO648.out).2.1); (case s3 => exact q5a8_ HO652.out); (case s4 => exact (Kd.R_reads' HO652.out).2.1); rintro e w' ⟨rfl, ⟨nd, rfl⟩⟩; (try exact q447_))); have zz_ := trivial))
                  go_meet
                  case rel => exact ⟨_, ((t630 != false)), qc8f_, H', ⟨q821_⟩, ⟨qa00_ HO624.out⟩, ⟨qa00_ HO640.out⟩, ⟨qbfa_ HO648.out⟩, ⟨q0c4_⟩⟩
            ·
             replace c40 := Bool.eq_false_iff.mpr c40
             subst c40
             rw [if_neg nf_] at H
             exact absurd H (by simp)
          ·
           replace c37 := Bool.eq_false_iff.mpr c37
           subst c37
           rw [if_neg nf_] at H
           exact absurd H (by simp)
        ·
         rw [if_neg c34] at H
         exact absurd H (by simp)
      ·
       rw [if_neg c32] at H
       exact absurd H (by simp)
    ·
     rw [if_neg c30] at H
     exact absurd H (by simp)
  case rest =>
   as_aux_lemma =>
    clear HC16; try clear c1; try clear c2; try clear p2; try clear c3; try clear c4; try clear c29; try clear c29b0; try clear c29b1; try clear c29b2; try clear c30; try clear c30b0; try clear c30b1; try clear c31; try clear c31b0; try clear c31b1; try clear c31b2; try clear c32; try clear c32b0; try clear c32b1; try clear c33; try clear c33b0; try clear c33b1; try clear c33b2; try clear c34; try clear c34b0; try clear c34b1; try clear c35; try clear c35b0; try clear c35b1; try clear c35b2; try clear c37; try clear c38; try clear c38b0; try clear c38b1; try clear c38b2; try clear c40; try clear c41; try clear c41b0; try clear c41b1; try clear c41b2; try clear c42; try clear c42b0; try clear c42b1; try clear c42b2; try clear c43; try clear c43b0; try clear c43b1; try clear c43b2; try clear c44
    obtain ⟨kq, x192_15, rfl, HA, HJ15, HO_5, HO_19, HO_23, HB⟩ := hcut
    cases kq with
    | zero => exact absurd HA.out (by simp [laws_FnValets.j0])
    | succ kj15 =>
     have H := HA.out
     clear HA
     simp only [laws_FnValets.j0] at H
     by_cases c53 : x192_15 = true
     ·
      subst c53
      rw [if_pos rfl] at H
      exact absurd H (by simp)
     ·
      replace c53 := Bool.eq_false_iff.mpr c53
      subst c53
      rw [if_neg nf_] at H
      obtain ⟨⟨t655, t656⟩, A54, H⟩ := ob_ H
      dsimp only at H
      obtain ⟨⟨t661, t662⟩, A55, H⟩ := ob_ H
      dsimp only at H
      obtain ⟨⟨t665, t666⟩, A56, H⟩ := ob_ H
      dsimp only at H
      by_cases c57 : (t662 != t666) = true
      ·
       rw [if_pos c57] at H
       exact absurd H (by simp)
      ·
       rw [if_neg c57] at H
       have c57b0 : (t662 != t666) = false := by simpa using c57
       (try (have c57b1 : decide (t662 = t666) = true := by simpa using c57))
       (try (have c57b2 : (t662 == t666) = true := by simpa using c57))
       clear c57
       obtain ⟨t669, A58, H⟩ := ob_ H
       by_cases c59 : t669 = true
       ·
        subst c59
        rw [if_pos rfl] at H
        by_cases c60 : t626 = true
        ·
         subst c60
         rw [if_pos rfl] at H
         obtain ⟨⟨t670, t671⟩, A61, H⟩ := ob_ H
         dsimp only at H
         have HC62 := Aside0.mk H
         clear H; have zz_ := trivial
         repeat (clear zz_; go_upto_region 24 with (first | (go_at_call 17; (with_reducible refine (spec_DrawReorderCars.calls kj15 _ _ l1 t655 t656 _ ?s1 ?s2 A54.out).mono ?_); (case s1 => exact q02f_ HR1.out); (case s2 => exact HC1.out); rintro e w63 ⟨v657, v659, rfl, ho0, ho1, hb⟩; have n0_ := Aside0.mk (Kd.R_mono (Kd.R_told (Kd.R_told (Kd.R_old (q9d5_ HO_5.out) hb) (Kd.R_base ho0)) (Kd.R_base ho1)) (fun _ h_ => h_.1)); have n1_ := Aside0.mk (Kd.R_mono (Kd.R_told (Kd.R_told (Kd.R_old (q9d5_ HO_19.out) hb) (Kd.R_base ho0)) (Kd.R_base ho1)) (fun _ h_ => h_.1)); have n2_ := Aside0.mk (Kd.R_mono (Kd.R_told (Kd.R_told (Kd.R_old (q9d5_ HO_23.out) hb) (Kd.R_base ho0)) (Kd.R_base ho1)) (fun _ h_ => h_.1)); have n3_ := Aside0.mk (Kd.R_lower (Kd.R_new' (Kd.R_new' (Kd.R_new' ho0 (Kd.R_lt (q9d5_ HO_5.out))) (Kd.R_lt (q9d5_ HO_19.out))) (Kd.R_lt (q9d5_ HO_23.out))) (below_size q0c4_)); have n4_ := Aside0.mk (Kd.R_lower (Kd.R_new' (Kd.R_new' (Kd.R_new' ho1 (Kd.R_lt (q9d5_ HO_5.out))) (Kd.R_lt (q9d5_ HO_19.out))) (Kd.R_lt (q9d5_ HO_23.out))) (below_size q0c4_)); have n5_ := Aside0.mk (below_step q0c4_ hb); replace HO_5 := n0_; replace HO_19 := n1_; replace HO_23 := n2_; have HO658 := n3_; have HO660 := n4_; replace HB := n5_; clear n0_ n1_ n2_ n3_ n4_ n5_; clear hb ho0 ho1; obtain ⟨Ao64, co64, eo64⟩ := Kd.R_slice HO658.out; subst eo64; obtain ⟨Ao65, co65, eo65⟩ := Kd.R_slice HO660.out; subst eo65) | (go_at_call 18; (with_reducible refine (impl_ReorderCars.calls kj15 _ _ t655 _ _ t656 t661 t662 _ ?s1 ?s2 ?s3 ?s4 A55.out).mono ?_); (case s1 => exact q5a8_ HO658.out); (case s2 => exact (Kd.R_reads' HO658.out).2.1); (case s3 => exact q5a8_ HO660.out); (case s4 => exact (Kd.R_reads' HO660.out).2.1); rintro e w66 ⟨v663, rfl, ho0, hb⟩; have n0_ := Aside0.mk (Kd.R_elder' (q9d5_ HO_5.out) (Kd.R_base ho0) hb); have n1_ := Aside0.mk (Kd.R_elder' (q9d5_ HO_19.out) (Kd.R_base ho0) hb); have n2_ := Aside0.mk (Kd.R_elder' (q9d5_ HO_23.out) (Kd.R_base ho0) hb); have n3_ := Aside0.mk (Kd.R_elder' (q9d5_ HO658.out) (Kd.R_base ho0) hb); have n4_ := Aside0.mk (Kd.R_elder' (q9d5_ HO660.out) (Kd.R_base ho0) hb); have n5_ := Aside0.mk (Kd.R_lower (Kd.R_new' (Kd.R_new' (Kd.R_new' (Kd.R_new' (Kd.R_new' ho0 (Kd.R_lt (q9d5_ HO_5.out))) (Kd.R_lt (q9d5_ HO_19.out))) (Kd.R_lt (q9d5_ HO_23.out))) (Kd.R_lt (q9d5_ HO658.out))) (Kd.R_lt (q9d5_ HO660.out))) (below_size q0c4_)); have n6_ := Aside0.mk (below_step q0c4_ hb); replace HO_5 := n0_; replace HO_19 := n1_; replace HO_23 := n2_; replace HO658 := n3_; replace HO660 := n4_; have HO664 := n5_; replace HB := n6_; clear n0_ n1_ n2_ n3_ n4_ n5_ n6_; clear hb ho0) | (go_at_call 19; (with_reducible refine (spec_ReorderCars.calls kj15 _ _ t655 _ _ t656 t665 t666 _ ?s1 ?s2 ?s3 ?s4 A56.out).mono ?_); (case s1 => exact q5a8_ HO658.out); (case s2 => exact (Kd.R_reads' HO658.out).2.1); (case s3 => exact q5a8_ HO660.out); (case s4 => exact (Kd.R_reads' HO660.out).2.1); rintro e w67 ⟨v667, rfl, ho0, hb⟩; have n0_ := Aside0.mk (Kd.R_elder' (q9d5_ HO_5.out) (Kd.R_base ho0) hb); have n1_ := Aside0.mk (Kd.R_elder' (q9d5_ HO_19.out) (Kd.R_base ho0) hb); have n2_ := Aside0.mk (Kd.R_elder' (q9d5_ HO_23.out) (Kd.R_base ho0) hb); have n3_ := Aside0.mk (Kd.R_elder' (q9d5_ HO658.out) (Kd.R_base ho0) hb); have n4_ := Aside0.mk (Kd.R_elder' (q9d5_ HO660.out) (Kd.R_base ho0) hb); have n5_ := Aside0.mk (Kd.R_elder' (q9d5_ HO664.out) (Kd.R_base ho0) hb); have n6_ := Aside0.mk (Kd.R_lower (Kd.R_new' (Kd.R_new' (Kd.R_new' (Kd.R_new' (Kd.R_new' (Kd.R_new' ho0 (Kd.R_lt (q9d5_ HO_5.out))) (Kd.R_lt (q9d5_ HO_19.out))) (Kd.R_lt (q9d5_ HO_23.out))) (Kd.R_lt (q9d5_ HO658.out))) (Kd.R_lt (q9d5_ HO660.out))) (Kd.R_lt (q9d5_ HO664.out))) (below_size q0c4_)); have n7_ := Aside0.mk (below_step q0c4_ hb); replace HO_5 := n0_; replace HO_19 := n1_; replace HO_23 := n2_; replace HO658 := n3_; replace HO660 := n4_; replace HO664 := n5_; have HO668 := n6_; replace HB := n7_; clear n0_ n1_ n2_ n3_ n4_ n5_ n6_ n7_; clear hb ho0; obtain ⟨Ao68, co68, eo68⟩ := Kd.R_slice HO664.out; subst eo68; obtain ⟨Ao69, co69, eo69⟩ := Kd.R_slice HO668.out; subst eo69) | (go_at_call 16; (with_reducible refine (laws_jSame.calls kj15 _ _ t661 _ _ t665 true _ ?s1 ?s2 ?s3 ?s4 A58.out).mono ?_); (case s1 => exact q5a8_ HO664.out); (case s2 => exact (Kd.R_reads' HO664.out).2.1); (case s3 => exact q5a8_ HO668.out); (case s4 => exact (Kd.R_reads' HO668.out).2.1); rintro e w' ⟨rfl, ⟨nd, rfl⟩⟩; (try exact q447_)) | (go_at_call 20; (with_reducible refine (impl_TotalDistance.calls kj15 _ _ t621 t622 t670 t671 _ ?s1 ?s2 A61.out).mono ?_); (case s1 => exact q5a8_ HO_5.out); (case s2 => exact (Kd.R_reads' HO_5.out).2.1); rintro e w70 ⟨rfl, hb⟩; replace HO_5 := Aside0.mk (Kd.R_below (q9d5_ HO_5.out) hb); replace HO_19 := Aside0.mk (Kd.R_below (q9d5_ HO_19.out) hb); replace HO_23 := Aside0.mk (Kd.R_below (q9d5_ HO_23.out) hb); replace HO658 := Aside0.mk (Kd.R_below (q9d5_ HO658.out) hb); replace HO660 := Aside0.mk (Kd.R_below (q9d5_ HO660.out) hb); replace HO664 := Aside0.mk (Kd.R_below (q9d5_ HO664.out) hb); replace HO668 := Aside0.mk (Kd.R_below (q9d5_ HO668.out) hb); replace HB := Aside0.mk (below_step q0c4_ hb); clear hb)); try (go_quiet ((go_at_call 16; (with_reducible refine (laws_jSame.calls kj15 _ _ t661 _ _ t665 true _ ?s1 ?s2 ?s3 ?s4 A58.out).mono ?_); (case s1 => exact q5a8_ HO664.out); (case s2 => exact (Kd.R_reads' HO664.out).2.1); (case s3 => exact q5a8_ HO668.out); (case s4 => exact (Kd.R_reads' HO668.out).2.1); rintro e w' ⟨rfl, ⟨nd, rfl⟩⟩; (try exact q447_))); have zz_ := trivial))
         (try simp only [Act.put, List.setIfInBounds_toArray, List.set_cons_zero, List.set_cons_succ])
         go_cut [242] (fun v242 wc => ∃ (kq : Nat) (x242_61 : Bool), v242 = .bool x242_61 ∧ Aside0 (laws_FnValets.j1 kq l1 t621 t622 t625 t629 t630 t633 t637 t645 x242_61 = some r) ∧ Aside0 (kq ≤ kj15) ∧ Aside0 (Kd.R (Kd.int .i64) 3 wc w.heap.size (fun k_ => some k_ ≠ (v639 : Value).ownBlock ∧ some k_ ≠ (v647 : Value).ownBlock) (.slice Ao18 t621.length co18) t621) ∧ Aside0 (Kd.R (Kd.int .i64) 3 wc w.heap.size (fun k_ => some k_ ≠ ((.slice Ao18 t621.length co18) : Value).ownBlock ∧ some k_ ≠ (v647 : Value).ownBlock) v639 t637) ∧ Aside0 (Kd.R (Kd.int .i64) 3 wc w.heap.size (fun k_ => some k_ ≠ ((.slice Ao18 t621.length co18) : Value).ownBlock ∧ some k_ ≠ (v639 : Value).ownBlock) v647 t645) ∧ Aside0 (Below w.heap.size w wc))
         case first =>
          have H := HC62.out
          clear HC62
          by_cases c71 : t671 = true
          ·
           subst c71
           rw [if_pos rfl] at H
           obtain ⟨t672, A72, H⟩ := ob_ H
           by_cases c73 : t672 = t670
           ·
            rw [if_pos c73] at H
            have c73b0 := beq_iff_eq.mpr c73
            have c73b1 := bne_eq_false_iff_eq.mpr c73
            clear c73
            (first | rw [c73b0] | (simp only [i64_w, i32_w]; rw [c73b0]) | skip)
            by_cases c74 : t630 = true
            ·
             subst c74
             rw [if_pos rfl] at H
             as_aux_lemma =>
              have H' := Aside0.mk H
              clear H
              obtain ⟨Ao75, co75, eo75⟩ := Kd.R_slice HO_23.out
              subst eo75
              have zz_ := trivial
              repeat (clear zz_; go_wp2_with (first | (go_at_call 21; (with_reducible refine (laws_jSum.calls kj15 _ _ t645 t672 _ ?s1 ?s2 A72.out).mono ?_); (case s1 => exact q5a8_ HO_23.out); (case s2 => exact (Kd.R_reads' HO_23.out).2.1); rintro e w' ⟨rfl, ⟨nd, rfl⟩⟩; (try exact q447_))); try (go_quiet ((go_at_call 21; (with_reducible refine (laws_jSum.calls kj15 _ _ t645 t672 _ ?s1 ?s2 A72.out).mono ?_); (case s1 => exact q5a8_ HO_23.out); (case s2 => exact (Kd.R_reads' HO_23.out).2.1); rintro e w' ⟨rfl, ⟨nd, rfl⟩⟩; (try exact q447_))); have zz_ := trivial))
              go_meet
              case rel => exact ⟨_, (decide (t625 > t629)), qc8f_, H', ⟨by have := HJ15.out; first | omega | exact Nat.le_refl _⟩, ⟨qdde_ HO_5.out⟩, ⟨qdde_ HO_19.out⟩, ⟨qdde_ HO_23.out⟩, ⟨q0c4_⟩⟩
            ·
             replace c74 := Bool.eq_false_iff.mpr c74
             subst c74
             rw [if_neg nf_] at H
             as_aux_lemma =>
              have H' := Aside0.mk H
              clear H
              obtain ⟨Ao76, co76, eo76⟩ := Kd.R_slice HO_23.out
              subst eo76
              have zz_ := trivial
              repeat (clear zz_; go_wp2_with (first | (go_at_call 21; (with_reducible refine (laws_jSum.calls kj15 _ _ t645 t672 _ ?s1 ?s2 A72.out).mono ?_); (case s1 => exact q5a8_ HO_23.out); (case s2 => exact (Kd.R_reads' HO_23.out).2.1); rintro e w' ⟨rfl, ⟨nd, rfl⟩⟩; (try exact q447_))); try (go_quiet ((go_at_call 21; (with_reducible refine (laws_jSum.calls kj15 _ _ t645 t672 _ ?s1 ?s2 A72.out).mono ?_); (case s1 => exact q5a8_ HO_23.out); (case s2 => exact (Kd.R_reads' HO_23.out).2.1); rintro e w' ⟨rfl, ⟨nd, rfl⟩⟩; (try exact q447_))); have zz_ := trivial))
              go_meet
              case rel => exact ⟨_, (false), qc8f_, H', ⟨by have := HJ15.out; first | omega | exact Nat.le_refl _⟩, ⟨qdde_ HO_5.out⟩, ⟨qdde_ HO_19.out⟩, ⟨qdde_ HO_23.out⟩, ⟨q0c4_⟩⟩
           ·
            rw [if_neg c73] at H
            exact absurd H (by simp)
          ·
           replace c71 := Bool.eq_false_iff.mpr c71
           subst c71
           rw [if_neg nf_] at H
           exact absurd H (by simp)
         case rest =>
          as_aux_lemma =>
           clear HC62; try clear c1; try clear c2; try clear p2; try clear c3; try clear c4; try clear c5; try clear c6; try clear c7; try clear c29; try clear c29b0; try clear c29b1; try clear c29b2; try clear c30; try clear c30b0; try clear c30b1; try clear c31; try clear c31b0; try clear c31b1; try clear c31b2; try clear c32; try clear c32b0; try clear c32b1; try clear c33; try clear c33b0; try clear c33b1; try clear c33b2; try clear c34; try clear c34b0; try clear c34b1; try clear c35; try clear c35b0; try clear c35b1; try clear c35b2; try clear c37; try clear c38; try clear c38b0; try clear c38b1; try clear c38b2; try clear c40; try clear c41; try clear c41b0; try clear c41b1; try clear c41b2; try clear c42; try clear c42b0; try clear c42b1; try clear c42b2; try clear c43; try clear c43b0; try clear c43b1; try clear c43b2; try clear c44; try clear c53; try clear c57; try clear c57b0; try clear c57b1; try clear c57b2; try clear c59; try clear c60; try clear c71; try clear c73; try clear c73b0; try clear c73b1; try clear c74; try clear p2
           obtain ⟨kq, x242_61, rfl, HA, HJ61, HO_5, HO_19, HO_23, HB⟩ := hcut
           cases kq with
           | zero => exact absurd HA.out (by simp [laws_FnValets.j1])
           | succ kj61 =>
            have H := HA.out
            clear HA
            simp only [laws_FnValets.j1] at H
            by_cases c77 : x242_61 = true
            ·
             subst c77
             rw [if_pos rfl] at H
             exact absurd H (by simp)
            ·
             replace c77 := Bool.eq_false_iff.mpr c77
             subst c77
             rw [if_neg nf_] at H
             have HC78 := Aside0.mk H
             clear H
             go_upto_if 246 with (fail)
             repeat (go_quiet (fail); try go_upto_if 246 with (fail))
             go_cut [35] (fun v35 wc => ∃ (kq : Nat) (x35_77 : List Int), Aside0 (laws_FnValets.j2 kq t621 t622 t625 t629 t630 t633 t637 t645 x35_77 = some r) ∧ Aside0 (kq ≤ kj61) ∧ Aside0 (Kd.R (Kd.int .i64) 3 wc w.heap.size (fun k_ => some k_ ≠ (v639 : Value).ownBlock ∧ some k_ ≠ (v647 : Value).ownBlock) (.slice Ao18 t621.length co18) t621) ∧ Aside0 (Kd.R (Kd.int .i64) 3 wc w.heap.size (fun k_ => some k_ ≠ ((.slice Ao18 t621.length co18) : Value).ownBlock ∧ some k_ ≠ (v647 : Value).ownBlock ∧ some k_ ≠ (v35 : Value).ownBlock) v639 t637) ∧ Aside0 (Kd.R (Kd.int .i64) 3 wc w.heap.size (fun k_ => some k_ ≠ ((.slice Ao18 t621.length co18) : Value).ownBlock ∧ some k_ ≠ (v639 : Value).ownBlock ∧ some k_ ≠ (v35 : Value).ownBlock) v647 t645) ∧ Aside0 (Kd.R (Kd.int .i64) 3 wc w.heap.size (fun k_ => some k_ ≠ (v639 : Value).ownBlock ∧ some k_ ≠ (v647 : Value).ownBlock) v35 x35_77) ∧ Aside0 (Below w.heap.size w wc))
             case first =>
              have H := HC78.out
              clear HC78
              by_cases c79 : (t621.length : Int) > 1
              ·
               rw [if_pos c79] at H
               have c79b0 := decide_eq_true c79
               have c79b1 : decide (1 < t621.length) = true := decide_eq_true (by omega)
               clear c79
               (first | rw [c79b0] | (simp only [i64_w, i32_w]; rw [c79b0]) | skip)
               obtain ⟨t673, A80, H⟩ := ob_ H
               by_cases c81 : (wrap64 ((t621.length : Int) - 1)) = 0
               ·
                rw [if_pos c81] at H
                exact absurd H (by simp)
               ·
                rw [if_neg c81] at H
                have c81b0 := beq_eq_false_iff_ne.mpr c81
                have c81b1 := bne_iff_ne.mpr c81
                obtain ⟨t674, A82, H⟩ := ob_ H
                as_aux_lemma =>
                 have H' := Aside0.mk H
                 clear H; have zz_ := trivial
                 repeat (clear zz_; go_wp2_with (first | (go_at_call 23; (with_reducible refine (laws_numberOf.calls kj61 _ _ l1 t673 _ ?s1 ?s2 A80.out).mono ?_); (case s1 => exact q02f_ HR1.out); (case s2 => exact HC1.out); rintro e w' ⟨rfl, ⟨nd, rfl⟩⟩; (try exact q447_)) | (go_at_call 22; (with_reducible refine (laws_jSwapped.calls _ _ t621 (Int.tmod t673 (wrap64 ((t621.length : Int) - 1))) t674 _ ?s1 ?s2 A82.out).mono ?_); (case s1 => exact q5a8_ HO_5.out); (case s2 => exact (Kd.R_reads' HO_5.out).2.1); rintro e w83 ⟨v675, rfl, ho0, hb⟩; have n0_ := Aside0.mk (Kd.R_elder' (q9d5_ HO_5.out) (Kd.R_base ho0) hb); have n1_ := Aside0.mk (Kd.R_elder' (q9d5_ HO_19.out) (Kd.R_base ho0) hb); have n2_ := Aside0.mk (Kd.R_elder' (q9d5_ HO_23.out) (Kd.R_base ho0) hb); have n3_ := Aside0.mk (Kd.R_lower (Kd.R_new' (Kd.R_new' (Kd.R_new' ho0 (Kd.R_lt (q9d5_ HO_5.out))) (Kd.R_lt (q9d5_ HO_19.out))) (Kd.R_lt (q9d5_ HO_23.out))) (below_size q0c4_)); have n4_ := Aside0.mk (below_step q0c4_ hb); replace HO_5 := n0_; replace HO_19 := n1_; replace HO_23 := n2_; have HO676 := n3_; replace HB := n4_; clear n0_ n1_ n2_ n3_ n4_; clear hb ho0)); try (go_quiet ((go_at_call 23; (with_reducible refine (laws_numberOf.calls kj61 _ _ l1 t673 _ ?s1 ?s2 A80.out).mono ?_); (case s1 => exact q02f_ HR1.out); (case s2 => exact HC1.out); rintro e w' ⟨rfl, ⟨nd, rfl⟩⟩; (try exact q447_))); have zz_ := trivial))
                 go_meet
                 case rel => exact ⟨_, (t674), H', ⟨by have := HJ15.out; have := HJ61.out; first | omega | exact Nat.le_refl _⟩, ⟨by (with_reducible repeat (first | apply Kd.R_alloc | apply Kd.R_drewN | apply Kd.R_drew)); exact Kd.R_mono HO_5.out (fun _ hk => ⟨hk.1.1, hk.1.2⟩)⟩, ⟨qf29_ HO_19.out⟩, ⟨qf29_ HO_23.out⟩, ⟨by (with_reducible repeat (first | apply Kd.R_alloc | apply Kd.R_drewN | apply Kd.R_drew)); exact Kd.R_mono HO676.out (fun _ hk => ⟨hk.1.2, hk.2⟩)⟩, ⟨q0c4_⟩⟩
              ·
               rw [if_neg c79] at H
               have c79b0 := decide_eq_false c79
               have c79b1 : decide (1 < t621.length) = false := decide_eq_false (by omega)
               clear c79
               (first | rw [c79b0] | (simp only [i64_w, i32_w]; rw [c79b0]) | skip)
               as_aux_lemma =>
                have H' := Aside0.mk H
                clear H
                go_wp2
                repeat (go_quiet (fail); try go_wp2)
                go_meet
                case rel => exact ⟨_, (t621), H', ⟨by have := HJ15.out; have := HJ61.out; first | omega | exact Nat.le_refl _⟩, ⟨q9d5_ HO_5.out⟩, ⟨q829_ HO_19.out⟩, ⟨q829_ HO_23.out⟩, ⟨q9d5_ HO_5.out⟩, ⟨q0c4_⟩⟩
             case rest =>
              as_aux_lemma =>
               clear HC78; try clear c1; try clear c2; try clear p2; try clear c3; try clear c4; try clear c5; try clear c6; try clear p6; try clear c7; try clear c8; try clear c29; try clear c29b0; try clear c29b1; try clear c29b2; try clear c30; try clear c30b0; try clear c30b1; try clear c31; try clear c31b0; try clear c31b1; try clear c31b2; try clear c32; try clear c32b0; try clear c32b1; try clear c33; try clear c33b0; try clear c33b1; try clear c33b2; try clear c34; try clear c34b0; try clear c34b1; try clear c35; try clear c35b0; try clear c35b1; try clear c35b2; try clear c37; try clear c38; try clear c38b0; try clear c38b1; try clear c38b2; try clear c40; try clear c41; try clear c41b0; try clear c41b1; try clear c41b2; try clear c42; try clear c42b0; try clear c42b1; try clear c42b2; try clear c43; try clear c43b0; try clear c43b1; try clear c43b2; try clear c44; try clear c53; try clear c57; try clear c57b0; try clear c57b1; try clear c57b2; try clear c59; try clear c60; try clear p64; try clear c71; try clear c73; try clear c73b0; try clear c73b1; try clear c74; try clear c77; try clear c79; try clear c79b0; try clear c79b1; try clear c81; try clear c81b0; try clear c81b1; try clear p2
               obtain ⟨kq, x35_77, HA, HJ77, HO_5, HO_19, HO_23, HO_35, HB⟩ := hcut
               cases kq with
               | zero => exact absurd HA.out (by simp [laws_FnValets.j2])
               | succ kj77 =>
                have H := HA.out
                clear HA
                simp only [laws_FnValets.j2] at H
                obtain ⟨y677, hy677⟩ : ∃ y_ : List (List Int), y_ = (([t621, x35_77] : List (List Int))) := ⟨_, rfl⟩
                replace H : (laws_FnValets.l0 kj77 t621 t622 t625 t629 t630 t633 t637 t645 y677 (y677.length : Int) 0) = some r := by first | (rw [hy677]; with_reducible exact H) | (have H2_ := (Option.bind_some _ _).symm.trans H; rw [hy677]; with_reducible exact H2_) | (have H2_ := (Option.bind_some _ _).symm.trans H; with_reducible exact H2_) | with_reducible exact H | (rw [hy677]; exact H) | exact H
                have Ny677 := Aside0.mk hy677
                clear hy677
                have H' := Aside0.mk H
                clear H
                obtain ⟨Ao84, co84, eo84⟩ := Kd.R_slice HO_35.out
                subst eo84
                have zz_ := trivial
                repeat (clear zz_; go_wp2_with (first | ((with_reducible refine gate_dst (N := 257) rfl ?_); (try (refine gate_guard (by rfl) ?_; dsimp only)); refine Kd.N_lit (Kd.slice 3 (Kd.int .i64)) _ 24 ?hg (N' := 257) ?hd (xs := ([t621, x35_77] : List (List Int))) (inner := [.slice Ao18 t621.length co18, .slice Ao84 x35_77.length co84]) (ok := (fun k_ => some k_ ≠ (v639 : Value).ownBlock ∧ some k_ ≠ (v647 : Value).ownBlock)) (okp := (fun k_ => some k_ ≠ (v639 : Value).ownBlock ∧ some k_ ≠ (v647 : Value).ownBlock)) ?hr ?hp (fun _ hk => hk) ((show ∀ k_, wc.heap.size ≤ k_ → (fun k_ => some k_ ≠ (v639 : Value).ownBlock ∧ some k_ ≠ (v647 : Value).ownBlock) k_ from fun k_ hk => ⟨Kd.fresh' (Kd.R_lt (q9d5_ HO_19.out)) k_ hk, Kd.fresh' (Kd.R_lt (q9d5_ HO_23.out)) k_ hk⟩) _ (Nat.le_refl _)) (Below.refl _ _) (Nat.le_refl _) (by simp) ?_; (case hd => rfl); (case hg => rfl); (case hr => exact qba7_); (case hp => exact (Reps.one (show Kd.FK (Kd.slice 3 (Kd.int .i64)) _ _ t621 [.slice Ao18 t621.length co18] from (Kd.FK_slice_mk (Kd.R_reads' (Kd.R_mono (ok' := (fun k_ => some k_ ≠ (v639 : Value).ownBlock ∧ some k_ ≠ (v647 : Value).ownBlock)) (HO_5.out) (fun k_ hk => ⟨hk.1, hk.2⟩))).2.1 (Kd.R_F (Kd.R_mono (ok' := (fun k_ => some k_ ≠ (v639 : Value).ownBlock ∧ some k_ ≠ (v647 : Value).ownBlock)) (HO_5.out) (fun k_ hk => ⟨hk.1, hk.2⟩))))) (Reps.one (show Kd.FK (Kd.slice 3 (Kd.int .i64)) _ _ x35_77 [.slice Ao84 x35_77.length co84] from (Kd.FK_slice_mk (Kd.R_reads' (Kd.R_mono (ok' := (fun k_ => some k_ ≠ (v639 : Value).ownBlock ∧ some k_ ≠ (v647 : Value).ownBlock)) (HO_35.out) (fun k_ hk => ⟨hk.1, hk.2⟩))).2.1 (Kd.R_F (Kd.R_mono (ok' := (fun k_ => some k_ ≠ (v639 : Value).ownBlock ∧ some k_ ≠ (v647 : Value).ownBlock)) (HO_35.out) (fun k_ hk => ⟨hk.1, hk.2⟩))))) (Reps.none _ _)))); intro v678 w85 ho86 hb hg_ hnew_; clear hg_ hnew_; (first | rw [← Ny677.out] at ho86 | (simp only [Int.reduceToNat] at ho86; rw [← Ny677.out] at ho86)); replace HO_5 := Aside0.mk (Kd.R_below (q9d5_ HO_5.out) hb); replace HO_19 := Aside0.mk (Kd.R_below (q9d5_ HO_19.out) hb); replace HO_23 := Aside0.mk (Kd.R_below (q9d5_ HO_23.out) hb); replace HO_35 := Aside0.mk (Kd.R_below (q9d5_ HO_35.out) hb); have HO679 := Aside0.mk (Kd.N_lower ho86 (below_size q0c4_)); replace HB := Aside0.mk (below_step q0c4_ hb); clear hb ho86; obtain ⟨Ao87, co87, eo87⟩ := Kd.N_slice HO679.out; subst eo87)); try (go_quiet (fail); have zz_ := trivial))
                go_loopg [259] kj77 (fun kq v259 w' => ∃ (x259_4 : Int), v259 = .int .i64 x259_4 ∧ Aside0 (laws_FnValets.l0 kq t621 t622 t625 t629 t630 t633 t637 t645 y677 (y677.length : Int) x259_4 = some r) ∧ Aside0 (kq ≤ kj77) ∧ Aside0 (Kd.R (Kd.int .i64) 3 w' w.heap.size (fun k_ => some k_ ≠ (v639 : Value).ownBlock ∧ some k_ ≠ (v647 : Value).ownBlock) (.slice Ao18 t621.length co18) t621) ∧ Aside0 (Kd.R (Kd.int .i64) 3 w' w.heap.size (fun k_ => some k_ ≠ ((.slice Ao18 t621.length co18) : Value).ownBlock ∧ some k_ ≠ (v647 : Value).ownBlock) v639 t637) ∧ Aside0 (Kd.R (Kd.int .i64) 3 w' w.heap.size (fun k_ => some k_ ≠ ((.slice Ao18 t621.length co18) : Value).ownBlock ∧ some k_ ≠ (v639 : Value).ownBlock) v647 t645) ∧ Aside0 (Kd.N (Kd.slice 3 (Kd.int .i64)) 24 w' w.heap.size (fun k_ => some k_ ≠ (v639 : Value).ownBlock ∧ some k_ ≠ (v647 : Value).ownBlock) (.slice Ao87 y677.length co87) y677) ∧ Aside0 (Below w.heap.size w w'))
                case atStart => exact ⟨(0), qc8f_, H', ⟨Nat.le_refl _⟩, ⟨q9d5_ HO_5.out⟩, ⟨q939_ HO_19.out⟩, ⟨q939_ HO_23.out⟩, ⟨qfba_ HO679.out⟩, ⟨q0c4_⟩⟩
                case round =>
                 as_aux_lemma =>
                  clear H'; try clear c1; try clear c2; try clear p2; try clear c3; try clear c4; try clear c5; try clear c6; try clear p6; try clear c7; try clear c8; try clear c29; try clear c29b0; try clear c29b1; try clear c29b2; try clear c30; try clear c30b0; try clear c30b1; try clear c31; try clear c31b0; try clear c31b1; try clear c31b2; try clear c32; try clear c32b0; try clear c32b1; try clear c33; try clear c33b0; try clear c33b1; try clear c33b2; try clear c34; try clear c34b0; try clear c34b1; try clear c35; try clear c35b0; try clear c35b1; try clear c35b2; try clear c37; try clear c38; try clear c38b0; try clear c38b1; try clear c38b2; try clear c40; try clear c41; try clear c41b0; try clear c41b1; try clear c41b2; try clear c42; try clear c42b0; try clear c42b1; try clear c42b2; try clear c43; try clear c43b0; try clear c43b1; try clear c43b2; try clear c44; try clear c53; try clear c57; try clear c57b0; try clear c57b1; try clear c57b2; try clear c59; try clear c60; try clear p64; try clear c71; try clear c73; try clear c73b0; try clear c73b1; try clear c74; try clear c77; try clear c79; try clear c79b0; try clear c79b1; try clear c81; try clear c81b0; try clear c81b1; try clear p2; try clear p6; try clear p64
                  obtain ⟨x259_4, rfl, HA, HK4, HO_5, HO_19, HO_23, HO_257, HB⟩ := hrel
                  cases gk with
                  | zero => exact absurd HA.out (by simp [laws_FnValets.l0])
                  | succ k4 =>
                   have H := HA.out
                   clear HA
                   simp only [laws_FnValets.l0] at H
                   by_cases c88 : x259_4 < (y677.length : Int)
                   ·
                    rw [if_pos c88] at H
                    have c88b0 := decide_eq_true c88
                    clear c88
                    by_cases c89 : 0 ≤ x259_4
                    ·
                     rw [if_pos c89] at H
                     have c89b0 := decide_eq_true c89
                     clear c89
                     by_cases c90 : x259_4 < (y677.length : Int)
                     ·
                      rw [if_pos c90] at H
                      have c90b0 := decide_eq_true c90
                      clear c90
                      obtain ⟨⟨t681, t682⟩, A91, H⟩ := ob_ H
                      dsimp only at H
                      obtain ⟨⟨t685, t686⟩, A92, H⟩ := ob_ H
                      dsimp only at H
                      obtain ⟨⟨t689, t690⟩, A93, H⟩ := ob_ H
                      dsimp only at H
                      by_cases c94 : t682 = true
                      ·
                       subst c94
                       rw [if_pos rfl] at H
                       by_cases c95 : t686 = true
                       ·
                        subst c95
                        rw [if_pos rfl] at H
                        by_cases c96 : t690 = true
                        ·
                         subst c96
                         rw [if_pos rfl] at H
                         by_cases c97 : (t685.length : Int) > t633
                         ·
                          rw [if_pos c97] at H
                          exact absurd H (by simp)
                         ·
                          rw [if_neg c97] at H
                          have c97b0 := decide_eq_false c97
                          clear c97
                          obtain ⟨t693, A98, H⟩ := ob_ H
                          by_cases c99 : t693 = true
                          ·
                           subst c99
                           rw [if_pos rfl] at H
                           have H' := Aside0.mk H
                           clear H
                           have p680 : 0 ≤ (x259_4 : Int) := of_decide_eq_true qe84_
                           have q680 : x259_4 < (y677.length : Int) := of_decide_eq_true qe84_
                           obtain ⟨ad680, A680_0, c680_0, e680, hx680_0, hl680_0, hi680_0⟩ := at_L3 (Kd.N_reads' HO_257.out).2.2 x259_4 p680 q680
                           cases e680
                           obtain ⟨ce680, hce680, hMe680, hcc680⟩ := Kd.N_get HO_257.out [] x259_4 p680 (by first | exact q680 | exact of_decide_eq_true qe84_ | (have e_ := (Kd.N_reads' HO_257.out).1; omega))
                           obtain ⟨ua680_0, uc680_0, rfl, ul680_0, ge680_0⟩ := Kd.FK_slice_open hMe680
                           have hv680_0 := hcc680 0 _ rfl
                           rw [Nat.add_zero, show ((Kd.slice 3 (Kd.int .i64))).sz = 1 from rfl, Nat.mul_one] at hv680_0
                           replace hv680_0 := Option.some.inj (hv680_0.symm.trans hx680_0)
                           injection hv680_0 with hva_ hvn_ hvc_
                           rw [hva_] at ge680_0
                           rw [hvc_] at ul680_0
                           have HL680_0 := Aside0.mk (show Kd.V (Kd.int .i64) 3 _ w.heap.size _ _ (rd_L3 y677 x259_4) from Kd.V_mk ul680_0 ge680_0)
                           clear hva_ hvn_ hvc_ ge680_0 ul680_0 hcc680 hce680
                           have HR680_0 := Aside0.mk hi680_0
                           have HC680_0 := Aside0.mk hl680_0
                           clear hi680_0 hl680_0
                           replace p680 := eq_true p680
                           replace q680 := eq_true q680
                           have zz_ := trivial
                           repeat (clear zz_; go_wp2_with (first | (go_at_call 24; (with_reducible refine (impl_DistancesOf.calls k4 _ _ (rd_L3 y677 x259_4) t622 t681 true _ ?s1 ?s2 A91.out).mono ?_); (case s1 => exact qe8c_ HR680_0.out); (case s2 => exact HC680_0.out); rintro e w100 ⟨v683, rfl, ho0, hb⟩; have n0_ := Aside0.mk (Kd.R_elder' (q9d5_ HO_5.out) (Kd.R_base ho0) hb); have n1_ := Aside0.mk (Kd.R_elder' (q9d5_ HO_19.out) (Kd.R_base ho0) hb); have n2_ := Aside0.mk (Kd.R_elder' (q9d5_ HO_23.out) (Kd.R_base ho0) hb); have n3_ := Aside0.mk (Kd.N_elder' (qfba_ HO_257.out) (Kd.R_base ho0) hb); have n4_ := Aside0.mk (Kd.V_elder' (q16c_ HL680_0.out) (Kd.R_base ho0) hb); have n5_ := Aside0.mk (Kd.R_lower (Kd.R_new' (Kd.R_new' (Kd.R_new' ho0 (Kd.R_lt (q9d5_ HO_5.out))) (Kd.R_lt (q9d5_ HO_19.out))) (Kd.R_lt (q9d5_ HO_23.out))) (below_size q0c4_)); have n6_ := Aside0.mk (Kd.C_below (q75a_ HR680_0.out) hb); have n7_ := Aside0.mk (below_step q0c4_ hb); replace HO_5 := n0_; replace HO_19 := n1_; replace HO_23 := n2_; replace HO_257 := n3_; replace HL680_0 := n4_; have HO684 := n5_; replace HR680_0 := n6_; replace HB := n7_; clear n0_ n1_ n2_ n3_ n4_ n5_ n6_ n7_; clear hb ho0) | (go_at_call 25; (with_reducible refine (impl_LuckyCars.calls k4 _ _ (rd_L3 y677 x259_4) t622 t685 true _ ?s1 ?s2 A92.out).mono ?_); (case s1 => exact qe8c_ HR680_0.out); (case s2 => exact HC680_0.out); rintro e w101 ⟨v687, rfl, ho0, hb⟩; have n0_ := Aside0.mk (Kd.R_elder' (q9d5_ HO_5.out) (Kd.R_base ho0) hb); have n1_ := Aside0.mk (Kd.R_elder' (q9d5_ HO_19.out) (Kd.R_base ho0) hb); have n2_ := Aside0.mk (Kd.R_elder' (q9d5_ HO_23.out) (Kd.R_base ho0) hb); have n3_ := Aside0.mk (Kd.N_elder' (qfba_ HO_257.out) (Kd.R_base ho0) hb); have n4_ := Aside0.mk (Kd.V_elder' (q16c_ HL680_0.out) (Kd.R_base ho0) hb); have n5_ := Aside0.mk (Kd.R_elder' (q9d5_ HO684.out) (Kd.R_base ho0) hb); have n6_ := Aside0.mk (Kd.R_lower (Kd.R_new' (Kd.R_new' (Kd.R_new' (Kd.R_new' ho0 (Kd.R_lt (q9d5_ HO_5.out))) (Kd.R_lt (q9d5_ HO_19.out))) (Kd.R_lt (q9d5_ HO_23.out))) (Kd.R_lt (q9d5_ HO684.out))) (below_size q0c4_)); have n7_ := Aside0.mk (Kd.C_below (q75a_ HR680_0.out) hb); have n8_ := Aside0.mk (below_step q0c4_ hb); replace HO_5 := n0_; replace HO_19 := n1_; replace HO_23 := n2_; replace HO_257 := n3_; replace HL680_0 := n4_; replace HO684 := n5_; have HO688 := n6_; replace HR680_0 := n7_; replace HB := n8_; clear n0_ n1_ n2_ n3_ n4_ n5_ n6_ n7_ n8_; clear hb ho0) | (go_at_call 14; (with_reducible refine (impl_WaitsOf.calls k4 _ _ (rd_L3 y677 x259_4) t622 t689 true _ ?s1 ?s2 A93.out).mono ?_); (case s1 => exact qe8c_ HR680_0.out); (case s2 => exact HC680_0.out); rintro e w102 ⟨v691, rfl, ho0, hb⟩; have n0_ := Aside0.mk (Kd.R_elder' (q9d5_ HO_5.out) (Kd.R_base ho0) hb); have n1_ := Aside0.mk (Kd.R_elder' (q9d5_ HO_19.out) (Kd.R_base ho0) hb); have n2_ := Aside0.mk (Kd.R_elder' (q9d5_ HO_23.out) (Kd.R_base ho0) hb); have n3_ := Aside0.mk (Kd.N_elder' (qfba_ HO_257.out) (Kd.R_base ho0) hb); have n4_ := Aside0.mk (Kd.V_elder' (q16c_ HL680_0.out) (Kd.R_base ho0) hb); have n5_ := Aside0.mk (Kd.R_elder' (q9d5_ HO684.out) (Kd.R_base ho0) hb); have n6_ := Aside0.mk (Kd.R_elder' (q9d5_ HO688.out) (Kd.R_base ho0) hb); have n7_ := Aside0.mk (Kd.R_lower (Kd.R_new' (Kd.R_new' (Kd.R_new' (Kd.R_new' (Kd.R_new' ho0 (Kd.R_lt (q9d5_ HO_5.out))) (Kd.R_lt (q9d5_ HO_19.out))) (Kd.R_lt (q9d5_ HO_23.out))) (Kd.R_lt (q9d5_ HO684.out))) (Kd.R_lt (q9d5_ HO688.out))) (below_size q0c4_)); have n8_ := Aside0.mk (Kd.C_below (q75a_ HR680_0.out) hb); have n9_ := Aside0.mk (below_step q0c4_ hb); replace HO_5 := n0_; replace HO_19 := n1_; replace HO_23 := n2_; replace HO_257 := n3_; replace HL680_0 := n4_; replace HO684 := n5_; replace HO688 := n6_; have HO692 := n7_; replace HR680_0 := n8_; replace HB := n9_; clear n0_ n1_ n2_ n3_ n4_ n5_ n6_ n7_ n8_ n9_; clear hb ho0; obtain ⟨Ao103, co103, eo103⟩ := Kd.R_slice HO688.out; subst eo103; obtain ⟨Ao104, co104, eo104⟩ := Kd.R_slice HO692.out; subst eo104; obtain ⟨Ao105, co105, eo105⟩ := Kd.R_slice HO_23.out; subst eo105) | (go_at_call 16; (with_reducible refine (laws_jSame.calls k4 _ _ t689 _ _ t645 true _ ?s1 ?s2 ?s3 ?s4 A98.out).mono ?_); (case s1 => exact q5a8_ HO692.out); (case s2 => exact (Kd.R_reads' HO692.out).2.1); (case s3 => exact q5a8_ HO_23.out); (case s4 => exact (Kd.R_reads' HO_23.out).2.1); rintro e w' ⟨rfl, ⟨nd, rfl⟩⟩; (try exact q447_); obtain ⟨Ao106, co106, eo106⟩ := Kd.R_slice HO684.out; subst eo106)); try (go_quiet ((go_at_call 16; (with_reducible refine (laws_jSame.calls k4 _ _ t689 _ _ t645 true _ ?s1 ?s2 ?s3 ?s4 A98.out).mono ?_); (case s1 => exact q5a8_ HO692.out); (case s2 => exact (Kd.R_reads' HO692.out).2.1); (case s3 => exact q5a8_ HO_23.out); (case s4 => exact (Kd.R_reads' HO_23.out).2.1); rintro e w' ⟨rfl, ⟨nd, rfl⟩⟩; (try exact q447_); obtain ⟨Ao106, co106, eo106⟩ := Kd.R_slice HO684.out; subst eo106)); have zz_ := trivial))
                           go_loopg [44, 305] k4 (fun kq v44 v305 w' => ∃ (x44_5 : Int) (x305_5 : Int), v44 = .int .i64 x44_5 ∧ v305 = .int .i64 x305_5 ∧ Aside0 (laws_FnValets.l1 kq t621 t622 t625 t629 t630 t633 t637 t645 x44_5 y677 (y677.length : Int) x259_4 t681 (t681.length : Int) x305_5 = some r) ∧ Aside0 (kq ≤ k4) ∧ Aside0 (Kd.R (Kd.int .i64) 3 w' w.heap.size (fun k_ => some k_ ≠ (v639 : Value).ownBlock ∧ some k_ ≠ ((.slice Ao105 t645.length co105) : Value).ownBlock ∧ some k_ ≠ ((.slice Ao106 t681.length co106) : Value).ownBlock) (.slice Ao18 t621.length co18) t621) ∧ Aside0 (Kd.R (Kd.int .i64) 3 w' w.heap.size (fun k_ => some k_ ≠ ((.slice Ao18 t621.length co18) : Value).ownBlock ∧ some k_ ≠ ((.slice Ao105 t645.length co105) : Value).ownBlock ∧ some k_ ≠ ((.slice Ao106 t681.length co106) : Value).ownBlock) v639 t637) ∧ Aside0 (Kd.R (Kd.int .i64) 3 w' w.heap.size (fun k_ => some k_ ≠ ((.slice Ao18 t621.length co18) : Value).ownBlock ∧ some k_ ≠ (v639 : Value).ownBlock ∧ some k_ ≠ ((.slice Ao106 t681.length co106) : Value).ownBlock) (.slice Ao105 t645.length co105) t645) ∧ Aside0 (Kd.N (Kd.slice 3 (Kd.int .i64)) 24 w' w.heap.size (fun k_ => some k_ ≠ (v639 : Value).ownBlock ∧ some k_ ≠ ((.slice Ao105 t645.length co105) : Value).ownBlock ∧ some k_ ≠ ((.slice Ao106 t681.length co106) : Value).ownBlock) (.slice (some ad680) y677.length co87) y677) ∧ Aside0 (Kd.R (Kd.int .i64) 3 w' w.heap.size (fun k_ => some k_ ≠ ((.slice Ao18 t621.length co18) : Value).ownBlock ∧ some k_ ≠ (v639 : Value).ownBlock ∧ some k_ ≠ ((.slice Ao105 t645.length co105) : Value).ownBlock) (.slice Ao106 t681.length co106) t681) ∧ Aside0 (Kd.C (Kd.int .i64) w' A680_0 (rd_L3 y677 x259_4).length (rd_L3 y677 x259_4)) ∧ Aside0 (Below w.heap.size w w'))
                           case atStart => exact ⟨(0), (0), qc8f_, qc8f_, H', ⟨Nat.le_refl _⟩, ⟨qbf1_ HO_5.out⟩, ⟨qbf1_ HO_19.out⟩, ⟨qbf1_ HO_23.out⟩, ⟨by (with_reducible repeat (first | apply Kd.N_alloc | apply Kd.N_drewN | apply Kd.N_drew)); exact Kd.N_mono HO_257.out (fun _ hk => ⟨hk.1.1.1.1, ⟨hk.1.1.1.2, hk.1.1.2⟩⟩)⟩, ⟨by (with_reducible repeat (first | apply Kd.R_alloc | apply Kd.R_drewN | apply Kd.R_drew)); exact Kd.R_mono HO684.out (fun _ hk => ⟨hk.1.1.1.1.2, ⟨hk.1.1.1.2, hk.1.1.2⟩⟩)⟩, ⟨q75a_ HR680_0.out⟩, ⟨q0c4_⟩⟩
                           case round =>
                            as_aux_lemma =>
                             clear H'; try clear c1; try clear c2; try clear p2; try clear c3; try clear c4; try clear c5; try clear c6; try clear p6; try clear q6; try clear hx6; try clear c7; try clear c8; try clear c9; try clear c29; try clear c29b0; try clear c29b1; try clear c29b2; try clear c30; try clear c30b0; try clear c30b1; try clear c31; try clear c31b0; try clear c31b1; try clear c31b2; try clear c32; try clear c32b0; try clear c32b1; try clear c33; try clear c33b0; try clear c33b1; try clear c33b2; try clear c34; try clear c34b0; try clear c34b1; try clear c35; try clear c35b0; try clear c35b1; try clear c35b2; try clear c37; try clear c38; try clear c38b0; try clear c38b1; try clear c38b2; try clear c40; try clear c41; try clear c41b0; try clear c41b1; try clear c41b2; try clear c42; try clear c42b0; try clear c42b1; try clear c42b2; try clear c43; try clear c43b0; try clear c43b1; try clear c43b2; try clear c44; try clear c53; try clear c57; try clear c57b0; try clear c57b1; try clear c57b2; try clear c59; try clear c60; try clear p64; try clear c68; try clear p68; try clear q68; try clear hx68; try clear c71; try clear c73; try clear c73b0; try clear c73b1; try clear c74; try clear c77; try clear c79; try clear c79b0; try clear c79b1; try clear c81; try clear c81b0; try clear c81b1; try clear c88; try clear c88b0; try clear c89; try clear c89b0; try clear c90; try clear c90b0; try clear c94; try clear c95; try clear c96; try clear c97; try clear c97b0; try clear c99; try clear hx680_0; try clear p2; try clear p6; try clear p64; try clear p680; try clear q680
                             obtain ⟨x44_5, x305_5, rfl, rfl, HA, HK5, HO_5, HO_19, HO_23, HO_257, HO_303, HR680_0, HB⟩ := hrel
                             cases gk with
                             | zero => exact absurd HA.out (by simp [laws_FnValets.l1])
                             | succ k5 =>
                              have H := HA.out
                              clear HA
                              simp only [laws_FnValets.l1] at H
                              by_cases c107 : x305_5 < (t681.length : Int)
                              ·
                               rw [if_pos c107] at H
                               have c107b0 := decide_eq_true c107
                               clear c107
                               by_cases c108 : 0 ≤ x305_5
                               ·
                                rw [if_pos c108] at H
                                have c108b0 := decide_eq_true c108
                                clear c108
                                by_cases c109 : x305_5 < (t681.length : Int)
                                ·
                                 rw [if_pos c109] at H
                                 have c109b0 := decide_eq_true c109
                                 clear c109
                                 by_cases c110 : (rd t681 x305_5) > x44_5
                                 ·
                                  rw [if_pos c110] at H
                                  have c110b0 := decide_eq_true c110
                                  clear c110
                                  as_aux_lemma =>
                                   have H' := Aside0.mk H
                                   clear H
                                   have p694 : 0 ≤ (x305_5 : Int) := of_decide_eq_true qe84_
                                   have q694 : x305_5 < (t681.length : Int) := of_decide_eq_true qe84_
                                   obtain ⟨ad694, e694, hx694_0⟩ := Kd.at_int (Kd.R_reads' HO_303.out).2.2 x305_5 p694 q694
                                   cases e694
                                   replace p694 := eq_true p694
                                   replace q694 := eq_true q694
                                   go_wp2
                                   repeat (go_quiet (fail); try go_wp2)
                                   go_roundg k5
                                   case measure => have := HJ15.out; have := HJ61.out; have := HJ77.out; have := HK4.out; have := HK5.out; omega
                                   case rel => exact ⟨(rd t681 x305_5), (wrap64 (x305_5 + 1)), qc8f_, qc8f_, H', ⟨by have := HJ15.out; have := HJ61.out; have := HJ77.out; have := HK4.out; have := HK5.out; omega⟩, ⟨q9d5_ HO_5.out⟩, ⟨q9d5_ HO_19.out⟩, ⟨q9d5_ HO_23.out⟩, ⟨qfba_ HO_257.out⟩, ⟨q9d5_ HO_303.out⟩, ⟨q75a_ HR680_0.out⟩, ⟨q0c4_⟩⟩
                                 ·
                                  rw [if_neg c110] at H
                                  have c110b0 := decide_eq_false c110
                                  clear c110
                                  as_aux_lemma =>
                                   have H' := Aside0.mk H
                                   clear H
                                   have p694 : 0 ≤ (x305_5 : Int) := of_decide_eq_true qe84_
                                   have q694 : x305_5 < (t681.length : Int) := of_decide_eq_true qe84_
                                   obtain ⟨ad694, e694, hx694_0⟩ := Kd.at_int (Kd.R_reads' HO_303.out).2.2 x305_5 p694 q694
                                   cases e694
                                   replace p694 := eq_true p694
                                   replace q694 := eq_true q694
                                   go_wp2
                                   repeat (go_quiet (fail); try go_wp2)
                                   go_roundg k5
                                   case measure => have := HJ15.out; have := HJ61.out; have := HJ77.out; have := HK4.out; have := HK5.out; omega
                                   case rel => exact ⟨(x44_5), (wrap64 (x305_5 + 1)), qc8f_, qc8f_, H', ⟨by have := HJ15.out; have := HJ61.out; have := HJ77.out; have := HK4.out; have := HK5.out; omega⟩, ⟨q9d5_ HO_5.out⟩, ⟨q9d5_ HO_19.out⟩, ⟨q9d5_ HO_23.out⟩, ⟨qfba_ HO_257.out⟩, ⟨q9d5_ HO_303.out⟩, ⟨q75a_ HR680_0.out⟩, ⟨q0c4_⟩⟩
                                ·
                                 rw [if_neg c109] at H
                                 exact absurd H (by simp)
                               ·
                                rw [if_neg c108] at H
                                exact absurd H (by simp)
                              ·
                               rw [if_neg c107] at H
                               have c107b0 := decide_eq_false c107
                               clear c107
                               by_cases c111 : x44_5 < t625
                               ·
                                rw [if_pos c111] at H
                                exact absurd H (by simp)
                               ·
                                rw [if_neg c111] at H
                                have c111b0 := decide_eq_false c111
                                clear c111
                                by_cases c112 : t630 = true
                                ·
                                 subst c112
                                 rw [if_pos rfl] at H
                                 by_cases c113 : x44_5 > t629
                                 ·
                                  rw [if_pos c113] at H
                                  exact absurd H (by simp)
                                 ·
                                  rw [if_neg c113] at H
                                  have c113b0 := decide_eq_false c113
                                  clear c113
                                  as_aux_lemma =>
                                   have H' := Aside0.mk H
                                   clear H
                                   go_wp2
                                   repeat (go_quiet (fail); try go_wp2)
                                   go_roundg k5
                                   case measure => have := HJ15.out; have := HJ61.out; have := HJ77.out; have := HK4.out; have := HK5.out; omega
                                   case rel => exact ⟨(wrap64 (x259_4 + 1)), qc8f_, H', ⟨by have := HJ15.out; have := HJ61.out; have := HJ77.out; have := HK4.out; have := HK5.out; omega⟩, ⟨q939_ HO_5.out⟩, ⟨q939_ HO_19.out⟩, ⟨q939_ HO_23.out⟩, ⟨qf31_ HO_257.out⟩, ⟨q0c4_⟩⟩
                                ·
                                 replace c112 := Bool.eq_false_iff.mpr c112
                                 subst c112
                                 rw [if_neg nf_] at H
                                 as_aux_lemma =>
                                  have H' := Aside0.mk H
                                  clear H
                                  go_wp2
                                  repeat (go_quiet (fail); try go_wp2)
                                  go_roundg k5
                                  case measure => have := HJ15.out; have := HJ61.out; have := HJ77.out; have := HK4.out; have := HK5.out; omega
                                  case rel => exact ⟨(wrap64 (x259_4 + 1)), qc8f_, H', ⟨by have := HJ15.out; have := HJ61.out; have := HJ77.out; have := HK4.out; have := HK5.out; omega⟩, ⟨q939_ HO_5.out⟩, ⟨q939_ HO_19.out⟩, ⟨q939_ HO_23.out⟩, ⟨qf31_ HO_257.out⟩, ⟨q0c4_⟩⟩
                          ·
                           replace c99 := Bool.eq_false_iff.mpr c99
                           subst c99
                           rw [if_neg nf_] at H
                           exact absurd H (by simp)
                        ·
                         replace c96 := Bool.eq_false_iff.mpr c96
                         subst c96
                         rw [if_neg nf_] at H
                         exact absurd H (by simp)
                       ·
                        replace c95 := Bool.eq_false_iff.mpr c95
                        subst c95
                        rw [if_neg nf_] at H
                        exact absurd H (by simp)
                      ·
                       replace c94 := Bool.eq_false_iff.mpr c94
                       subst c94
                       rw [if_neg nf_] at H
                       exact absurd H (by simp)
                     ·
                      rw [if_neg c90] at H
                      exact absurd H (by simp)
                    ·
                     rw [if_neg c89] at H
                     exact absurd H (by simp)
                   ·
                    rw [if_neg c88] at H
                    have c88b0 := decide_eq_false c88
                    clear c88
                    obtain ⟨⟨t695, t696⟩, A114, H⟩ := ob_ H
                    dsimp only at H
                    have H' := Aside0.mk H
                    clear H
                    obtain ⟨Ao115, co115, eo115⟩ := Kd.R_slice HO_19.out
                    subst eo115
                    have zz_ := trivial
                    repeat (clear zz_; go_wp2_with (first | (go_at_call 18; (with_reducible refine (impl_ReorderCars.calls k4 _ _ t621 _ _ t637 t695 t696 _ ?s1 ?s2 ?s3 ?s4 A114.out).mono ?_); (case s1 => exact q5a8_ HO_5.out); (case s2 => exact (Kd.R_reads' HO_5.out).2.1); (case s3 => exact q5a8_ HO_19.out); (case s4 => exact (Kd.R_reads' HO_19.out).2.1); rintro e w116 ⟨v697, rfl, ho0, hb⟩; have n0_ := Aside0.mk (Kd.R_elder' (q9d5_ HO_5.out) (Kd.R_base ho0) hb); have n1_ := Aside0.mk (Kd.R_elder' (q9d5_ HO_19.out) (Kd.R_base ho0) hb); have n2_ := Aside0.mk (Kd.R_elder' (q9d5_ HO_23.out) (Kd.R_base ho0) hb); have n3_ := Aside0.mk (Kd.N_elder' (qfba_ HO_257.out) (Kd.R_base ho0) hb); have n4_ := Aside0.mk (Kd.R_lower (Kd.R_new' (Kd.R_new' (Kd.R_new' ho0 (Kd.R_lt (q9d5_ HO_5.out))) (Kd.R_lt (q9d5_ HO_19.out))) (Kd.R_lt (q9d5_ HO_23.out))) (below_size q0c4_)); have n5_ := Aside0.mk (below_step q0c4_ hb); replace HO_5 := n0_; replace HO_19 := n1_; replace HO_23 := n2_; replace HO_257 := n3_; have HO698 := n4_; replace HB := n5_; clear n0_ n1_ n2_ n3_ n4_ n5_; clear hb ho0)); try (go_quiet (fail); have zz_ := trivial))
                    go_loopg [49] k4 (fun kq v49 w' => ∃ (x49_5 : Int), v49 = .int .i64 x49_5 ∧ Aside0 (laws_FnValets.l2 kq t695 t696 x49_5 = some r) ∧ Aside0 (kq ≤ k4) ∧ Aside0 (Kd.R (Kd.int .i64) 3 w' w.heap.size (fun _ => True) v697 t695) ∧ Aside0 (Below w.heap.size w w'))
                    case atStart => exact ⟨(1), qc8f_, H', ⟨Nat.le_refl _⟩, ⟨q7d9_ HO698.out⟩, ⟨q0c4_⟩⟩
                    case round =>
                     as_aux_lemma =>
                      clear H'; try clear c1; try clear c2; try clear p2; try clear c3; try clear c4; try clear c5; try clear c6; try clear p6; try clear q6; try clear hx6; try clear c7; try clear c8; try clear c9; try clear c10; try clear c11; try clear c29; try clear c29b0; try clear c29b1; try clear c29b2; try clear c30; try clear c30b0; try clear c30b1; try clear c31; try clear c31b0; try clear c31b1; try clear c31b2; try clear c32; try clear c32b0; try clear c32b1; try clear c33; try clear c33b0; try clear c33b1; try clear c33b2; try clear c34; try clear c34b0; try clear c34b1; try clear c35; try clear c35b0; try clear c35b1; try clear c35b2; try clear c37; try clear c38; try clear c38b0; try clear c38b1; try clear c38b2; try clear c40; try clear c41; try clear c41b0; try clear c41b1; try clear c41b2; try clear c42; try clear c42b0; try clear c42b1; try clear c42b2; try clear c43; try clear c43b0; try clear c43b1; try clear c43b2; try clear c44; try clear c53; try clear c57; try clear c57b0; try clear c57b1; try clear c57b2; try clear c59; try clear c60; try clear p64; try clear c68; try clear p68; try clear q68; try clear hx68; try clear p69; try clear q69; try clear hx69; try clear c71; try clear c73; try clear c73b0; try clear c73b1; try clear c74; try clear c77; try clear c79; try clear c79b0; try clear c79b1; try clear c81; try clear c81b0; try clear c81b1; try clear c88; try clear c88b0; try clear c89; try clear c89b0; try clear c90; try clear c90b0; try clear c94; try clear c95; try clear c96; try clear c97; try clear c97b0; try clear c99; try clear c107; try clear c107b0; try clear c108; try clear c108b0; try clear c109; try clear c109b0; try clear c110; try clear c110b0; try clear c111; try clear c111b0; try clear c112; try clear c113; try clear c113b0; try clear hx680_0; try clear hx694_0; try clear p2; try clear p6; try clear p64; try clear p68; try clear p680; try clear p694; try clear q6; try clear q68; try clear q680; try clear q694
                      obtain ⟨x49_5, rfl, HA, HK5, HO_47, HB⟩ := hrel
                      cases gk with
                      | zero => exact absurd HA.out (by simp [laws_FnValets.l2])
                      | succ k5 =>
                       have H := HA.out
                       clear HA
                       simp only [laws_FnValets.l2] at H
                       by_cases c117 : x49_5 < (t695.length : Int)
                       ·
                        rw [if_pos c117] at H
                        have c117b0 := decide_eq_true c117
                        clear c117
                        by_cases c118 : 0 ≤ x49_5
                        ·
                         rw [if_pos c118] at H
                         have c118b0 := decide_eq_true c118
                         clear c118
                         obtain ⟨ji119, hji119⟩ : ∃ j_ : Int, (wrap64 (x49_5 - 1)) = j_ := ⟨_, rfl⟩
                         replace H : (if 0 ≤ (ji119) then (if (ji119) < (t695.length : Int) then (if (rd t695 x49_5) < (rd t695 (ji119)) then (none) else (laws_FnValets.l2 k5 t695 t696 (wrap64 (x49_5 + 1)))) else (none)) else (none)) = some r := by first | (rw [hji119] at H; exact H) | (simp only [hji119] at H ⊢; exact H)
                         have hji119w : (IntKind.i64.wrap (x49_5 - 1)) = ji119 := (i64_w _).trans hji119
                         by_cases c120 : 0 ≤ (ji119)
                         ·
                          rw [if_pos c120] at H
                          have c120b0 := decide_eq_true c120
                          clear c120
                          by_cases c121 : (ji119) < (t695.length : Int)
                          ·
                           rw [if_pos c121] at H
                           have c121b0 := decide_eq_true c121
                           clear c121
                           by_cases c122 : (rd t695 x49_5) < (rd t695 (ji119))
                           ·
                            rw [if_pos c122] at H
                            exact absurd H (by simp)
                           ·
                            rw [if_neg c122] at H
                            have c122b0 := decide_eq_false c122
                            clear c122
                            as_aux_lemma =>
                             have H' := Aside0.mk H
                             clear H
                             obtain ⟨Ao123, co123, eo123⟩ := Kd.R_slice HO_47.out
                             subst eo123
                             have p699 : 0 ≤ (x49_5 : Int) := of_decide_eq_true qe84_
                             have q699 : x49_5 < (t695.length : Int) := of_decide_eq_true qe84_
                             obtain ⟨ad699, e699, hx699_0⟩ := Kd.at_int (Kd.R_reads' HO_47.out).2.2 x49_5 p699 q699
                             cases e699
                             replace p699 := eq_true p699
                             replace q699 := eq_true q699
                             have p700 : 0 ≤ ((ji119) : Int) := of_decide_eq_true qe84_
                             have q700 : (ji119) < (t695.length : Int) := of_decide_eq_true qe84_
                             obtain ⟨ad700, e700, hx700_0⟩ := Kd.at_int (Kd.R_reads' HO_47.out).2.2 (ji119) p700 q700
                             obtain rfl : ad699 = ad700 := (by injection e700)
                             replace p700 := eq_true p700
                             replace q700 := eq_true q700
                             go_wp2
                             repeat (go_quiet (fail); try go_wp2)
                             go_roundg k5
                             case measure => have := HJ15.out; have := HJ61.out; have := HJ77.out; have := HK4.out; have := HK5.out; omega
                             case rel => exact ⟨(wrap64 (x49_5 + 1)), qc8f_, H', ⟨by have := HJ15.out; have := HJ61.out; have := HJ77.out; have := HK4.out; have := HK5.out; omega⟩, ⟨q9d5_ HO_47.out⟩, ⟨q0c4_⟩⟩
                          ·
                           rw [if_neg c121] at H
                           exact absurd H (by simp)
                         ·
                          rw [if_neg c120] at H
                          exact absurd H (by simp)
                        ·
                         rw [if_neg c118] at H
                         exact absurd H (by simp)
                       ·
                        rw [if_neg c117] at H
                        have c117b0 := decide_eq_false c117
                        clear c117
                        as_aux_lemma =>
                         obtain rfl := Option.some.inj H
                         obtain ⟨Ao124, co124, eo124⟩ := Kd.R_slice HO_47.out
                         subst eo124
                         go_wp2
                         repeat (go_quiet (fail); try go_wp2)
                         go_ret
                         exact ⟨qce7_, q0c4_⟩
        ·
         replace c60 := Bool.eq_false_iff.mpr c60
         subst c60
         rw [if_neg nf_] at H
         as_aux_lemma =>
          obtain rfl := Option.some.inj H
          have zz_ := trivial
          repeat (clear zz_; go_wp2_with (first | (go_at_call 17; (with_reducible refine (spec_DrawReorderCars.calls kj15 _ _ l1 t655 t656 _ ?s1 ?s2 A54.out).mono ?_); (case s1 => exact q02f_ HR1.out); (case s2 => exact HC1.out); rintro e w125 ⟨v657, v659, rfl, ho0, ho1, hb⟩; have n0_ := Aside0.mk (Kd.R_mono (Kd.R_told (Kd.R_told (Kd.R_old (q9d5_ HO_5.out) hb) (Kd.R_base ho0)) (Kd.R_base ho1)) (fun _ h_ => h_.1)); have n1_ := Aside0.mk (Kd.R_mono (Kd.R_told (Kd.R_told (Kd.R_old (q9d5_ HO_19.out) hb) (Kd.R_base ho0)) (Kd.R_base ho1)) (fun _ h_ => h_.1)); have n2_ := Aside0.mk (Kd.R_mono (Kd.R_told (Kd.R_told (Kd.R_old (q9d5_ HO_23.out) hb) (Kd.R_base ho0)) (Kd.R_base ho1)) (fun _ h_ => h_.1)); have n3_ := Aside0.mk (Kd.R_lower (Kd.R_new' (Kd.R_new' (Kd.R_new' ho0 (Kd.R_lt (q9d5_ HO_5.out))) (Kd.R_lt (q9d5_ HO_19.out))) (Kd.R_lt (q9d5_ HO_23.out))) (below_size q0c4_)); have n4_ := Aside0.mk (Kd.R_lower (Kd.R_new' (Kd.R_new' (Kd.R_new' ho1 (Kd.R_lt (q9d5_ HO_5.out))) (Kd.R_lt (q9d5_ HO_19.out))) (Kd.R_lt (q9d5_ HO_23.out))) (below_size q0c4_)); have n5_ := Aside0.mk (below_step q0c4_ hb); replace HO_5 := n0_; replace HO_19 := n1_; replace HO_23 := n2_; have HO658 := n3_; have HO660 := n4_; replace HB := n5_; clear n0_ n1_ n2_ n3_ n4_ n5_; clear hb ho0 ho1; obtain ⟨Ao126, co126, eo126⟩ := Kd.R_slice HO658.out; subst eo126; obtain ⟨Ao127, co127, eo127⟩ := Kd.R_slice HO660.out; subst eo127) | (go_at_call 18; (with_reducible refine (impl_ReorderCars.calls kj15 _ _ t655 _ _ t656 t661 t662 _ ?s1 ?s2 ?s3 ?s4 A55.out).mono ?_); (case s1 => exact q5a8_ HO658.out); (case s2 => exact (Kd.R_reads' HO658.out).2.1); (case s3 => exact q5a8_ HO660.out); (case s4 => exact (Kd.R_reads' HO660.out).2.1); rintro e w128 ⟨v663, rfl, ho0, hb⟩; have n0_ := Aside0.mk (Kd.R_elder' (q9d5_ HO_5.out) (Kd.R_base ho0) hb); have n1_ := Aside0.mk (Kd.R_elder' (q9d5_ HO_19.out) (Kd.R_base ho0) hb); have n2_ := Aside0.mk (Kd.R_elder' (q9d5_ HO_23.out) (Kd.R_base ho0) hb); have n3_ := Aside0.mk (Kd.R_elder' (q9d5_ HO658.out) (Kd.R_base ho0) hb); have n4_ := Aside0.mk (Kd.R_elder' (q9d5_ HO660.out) (Kd.R_base ho0) hb); have n5_ := Aside0.mk (Kd.R_lower (Kd.R_new' (Kd.R_new' (Kd.R_new' (Kd.R_new' (Kd.R_new' ho0 (Kd.R_lt (q9d5_ HO_5.out))) (Kd.R_lt (q9d5_ HO_19.out))) (Kd.R_lt (q9d5_ HO_23.out))) (Kd.R_lt (q9d5_ HO658.out))) (Kd.R_lt (q9d5_ HO660.out))) (below_size q0c4_)); have n6_ := Aside0.mk (below_step q0c4_ hb); replace HO_5 := n0_; replace HO_19 := n1_; replace HO_23 := n2_; replace HO658 := n3_; replace HO660 := n4_; have HO664 := n5_; replace HB := n6_; clear n0_ n1_ n2_ n3_ n4_ n5_ n6_; clear hb ho0) | (go_at_call 19; (with_reducible refine (spec_ReorderCars.calls kj15 _ _ t655 _ _ t656 t665 t666 _ ?s1 ?s2 ?s3 ?s4 A56.out).mono ?_); (case s1 => exact q5a8_ HO658.out); (case s2 => exact (Kd.R_reads' HO658.out).2.1); (case s3 => exact q5a8_ HO660.out); (case s4 => exact (Kd.R_reads' HO660.out).2.1); rintro e w129 ⟨v667, rfl, ho0, hb⟩; have n0_ := Aside0.mk (Kd.R_elder' (q9d5_ HO_5.out) (Kd.R_base ho0) hb); have n1_ := Aside0.mk (Kd.R_elder' (q9d5_ HO_19.out) (Kd.R_base ho0) hb); have n2_ := Aside0.mk (Kd.R_elder' (q9d5_ HO_23.out) (Kd.R_base ho0) hb); have n3_ := Aside0.mk (Kd.R_elder' (q9d5_ HO658.out) (Kd.R_base ho0) hb); have n4_ := Aside0.mk (Kd.R_elder' (q9d5_ HO660.out) (Kd.R_base ho0) hb); have n5_ := Aside0.mk (Kd.R_elder' (q9d5_ HO664.out) (Kd.R_base ho0) hb); have n6_ := Aside0.mk (Kd.R_lower (Kd.R_new' (Kd.R_new' (Kd.R_new' (Kd.R_new' (Kd.R_new' (Kd.R_new' ho0 (Kd.R_lt (q9d5_ HO_5.out))) (Kd.R_lt (q9d5_ HO_19.out))) (Kd.R_lt (q9d5_ HO_23.out))) (Kd.R_lt (q9d5_ HO658.out))) (Kd.R_lt (q9d5_ HO660.out))) (Kd.R_lt (q9d5_ HO664.out))) (below_size q0c4_)); have n7_ := Aside0.mk (below_step q0c4_ hb); replace HO_5 := n0_; replace HO_19 := n1_; replace HO_23 := n2_; replace HO658 := n3_; replace HO660 := n4_; replace HO664 := n5_; have HO668 := n6_; replace HB := n7_; clear n0_ n1_ n2_ n3_ n4_ n5_ n6_ n7_; clear hb ho0; obtain ⟨Ao130, co130, eo130⟩ := Kd.R_slice HO664.out; subst eo130; obtain ⟨Ao131, co131, eo131⟩ := Kd.R_slice HO668.out; subst eo131) | (go_at_call 16; (with_reducible refine (laws_jSame.calls kj15 _ _ t661 _ _ t665 true _ ?s1 ?s2 ?s3 ?s4 A58.out).mono ?_); (case s1 => exact q5a8_ HO664.out); (case s2 => exact (Kd.R_reads' HO664.out).2.1); (case s3 => exact q5a8_ HO668.out); (case s4 => exact (Kd.R_reads' HO668.out).2.1); rintro e w' ⟨rfl, ⟨nd, rfl⟩⟩; (try exact q447_))); try (go_quiet ((go_at_call 16; (with_reducible refine (laws_jSame.calls kj15 _ _ t661 _ _ t665 true _ ?s1 ?s2 ?s3 ?s4 A58.out).mono ?_); (case s1 => exact q5a8_ HO664.out); (case s2 => exact (Kd.R_reads' HO664.out).2.1); (case s3 => exact q5a8_ HO668.out); (case s4 => exact (Kd.R_reads' HO668.out).2.1); rintro e w' ⟨rfl, ⟨nd, rfl⟩⟩; (try exact q447_))); have zz_ := trivial))
          go_ret
          exact ⟨qce7_, q0c4_⟩
       ·
        replace c59 := Bool.eq_false_iff.mpr c59
        subst c59
        rw [if_neg nf_] at H
        exact absurd H (by simp)

/-- THE ONE PURE STATEMENT of laws_FnValets: yours. -/
def laws_FnValets.Pure : Prop := ∀ (l0 : List Int) (l1 : List Int), l0.length ≤ maxLen → l0.length * 1 ≤ 140737488351232 → (∀ x ∈ l0, (Lit.int .u8 x).wf = true) → l1.length ≤ maxLen → l1.length * 1 ≤ 140737488351232 → (∀ x ∈ l1, (Lit.int .u8 x).wf = true) → ∃ k, laws_FnValets.f k l0 l1 = some true
theorem laws_FnValets.walk (P : laws_FnValets.Pure) (a0 : Option Addr) (len0 cap0 : Nat) (z0 : List Int) (a1 : Option Addr) (len1 cap1 : Nat) (z1 : List Int) (w : World) (w0 : (a0 = none ∧ len0 = 0 ∧ cap0 = 0 ∧ z0 = []) ∨ ∃ x, a0 = some x ∧ len0 ≤ cap0 ∧ cap0 ≤ maxLen ∧ z0.length = cap0 ∧ (∀ i, i < z0.length → w.cell? (x.add i) = some (.int .u8 (z0.getD i 0))) ∧ ∀ n ∈ z0, (Lit.int .u8 n).wf = true) (y0 : len0 * 1 ≤ 140737488351232) (w1 : (a1 = none ∧ len1 = 0 ∧ cap1 = 0 ∧ z1 = []) ∨ ∃ x, a1 = some x ∧ len1 ≤ cap1 ∧ cap1 ≤ maxLen ∧ z1.length = cap1 ∧ (∀ i, i < z1.length → w.cell? (x.add i) = some (.int .u8 (z1.getD i 0))) ∧ ∀ n ∈ z1, (Lit.int .u8 n).wf = true) (y1 : len1 * 1 ≤ 140737488351232) :
  Calls Tryz.prog 3 #[.slice a0 len0 cap0, .slice a1 len1 cap1] w fun e w' => e = .returned (.bool true) ∧ Below w.heap.size w w' := by
 obtain ⟨l0, rfl, hr0, hm0, hw0, hc0⟩ := ReadsInt.ofRowC w0
 obtain ⟨l1, rfl, hr1, hm1, hw1, hc1⟩ := ReadsInt.ofRowC w1
 obtain ⟨k, h⟩ := P l0 l1 hm0 y0 hw0 hm1 y1 hw1
 refine (laws_FnValets.calls k _ _ l0 _ _ l1 true w (Kd.C_of_reads (d := (0 : Int)) (h1 := fun _ => rfl) hr0) hc0 (Kd.C_of_reads (d := (0 : Int)) (h1 := fun _ => rfl) hr1) hc1 h).mono ?_
 rintro e w' ⟨rfl, hd⟩
 exact ⟨rfl, hd⟩

end Go.Proofs.YtflgalpfbjhdlaaGreat.PAll
