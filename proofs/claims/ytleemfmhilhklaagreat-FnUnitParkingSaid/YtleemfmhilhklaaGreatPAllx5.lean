-- written by a program of this session (wip/gen/xpatch.py over the translation); Lean checks it
import Derived.Test.YtleemfmhilhklaaGreatPAllx0
import Derived.Test.YtleemfmhilhklaaGreatPAllx1
import Derived.Test.YtleemfmhilhklaaGreatPAllx3
import Derived.Test.YtleemfmhilhklaaGreatPAllx4
namespace Go.Proofs.YtleemfmhilhklaaGreat.PAll
open Go.RowKit Go.Proofs.YtleemfmhilhklaaGreat.Hand Go.Proofs.YtleemfmhilhklaaGreatW.PrintWords Go.Proofs.YtleemfmhilhklaaGreatW.PrintLast Go.Proofs.YtleemfmhilhklaaGreatW.PrintMore
attribute [local go_sem] max2_int min2_int max_two min_two max_three min_three max_four min_four   -- for this text's walks alone
set_option maxHeartbeats 8000000
set_option maxRecDepth 100000
set_option linter.unusedVariables false
set_option linter.unusedSimpArgs false

/-! ### spec_l1Same: function 38 -/
def spec_l1Same.l0 : Nat → List Int → List Int → Int → Int → Option (Bool)
 | 0, _, _, _, _ => none
 | k + 1, x0, x1, x12, x13 => if x13 < x12 then (if 0 ≤ x13 then (if x13 < (x0.length : Int) then (if x13 < (x1.length : Int) then (if (rd x0 x13) = (rd x1 x13) then (spec_l1Same.l0 k x0 x1 x12 (wrap64 (x13 + 1))) else (some false)) else (none)) else (none)) else (none)) else (some true)
def spec_l1Same.f (k : Nat) (l0 : List Int) (l1 : List Int) : Option (Bool) := if (l0.length : Int) = (l1.length : Int) then (spec_l1Same.l0 k l0 l1 (l0.length : Int) 0) else (some false)
theorem spec_l1Same.mono_l : ∀ k, (∀ y0 y1 y2 y3, LeO (spec_l1Same.l0 k y0 y1 y2 y3) (spec_l1Same.l0 (k + 1) y0 y1 y2 y3))
 | 0 => fun _ _ _ _ r h => by simp [spec_l1Same.l0] at h
 | k + 1 => by
  have ih0 := spec_l1Same.mono_l k
  ·
   intro y0 y1 y2 y3
   unfold spec_l1Same.l0
   repeat' (with_reducible first | exact ih0 _ _ _ _ | exact LeO.refl _ | exact LeO.none _ | refine LeO.ite ?_ ?_ | refine LeO.bind ?_ (fun _ => ?_))
theorem spec_l1Same.mono : ∀ a0 a1 k, LeO (spec_l1Same.f k a0 a1) (spec_l1Same.f (k + 1) a0 a1) := by
 intro a0 a1 k
 have ih0 := spec_l1Same.mono_l k
 unfold spec_l1Same.f
 repeat' (with_reducible first | exact ih0 _ _ _ _ | exact LeO.refl _ | exact LeO.none _ | refine LeO.ite ?_ ?_ | refine LeO.bind ?_ (fun _ => ?_))
theorem spec_l1Same.calls (k : Nat) (A0 : Option Addr) (c0 : Nat) (l0 : List Int) (A1 : Option Addr) (c1 : Nat) (l1 : List Int) (r : Bool) (w : World) (hr0 : Kd.C (Kd.int .i64) w A0 l0.length l0) (hc0 : l0.length ≤ c0) (hr1 : Kd.C (Kd.int .i64) w A1 l1.length l1) (hc1 : l1.length ≤ c1) (h : spec_l1Same.f k l0 l1 = some r) :
  Calls Tryz.prog 38 #[.slice A0 l0.length c0, .slice A1 l1.length c1] w fun e w' => e = .returned (.bool r) ∧ Drawn0 w w' := by
 have HR0 := Aside0.mk hr0
 have HC0 := Aside0.mk hc0
 clear hr0 hc0
 have HR1 := Aside0.mk hr1
 have HC1 := Aside0.mk hc1
 clear hr1 hc1
 unfold spec_l1Same.f at h
 have H := h; clear h
 by_cases c3 : (l0.length : Int) = (l1.length : Int)
 ·
  rw [if_pos c3] at H
  have c3b0 := beq_iff_eq.mpr c3
  have c3b1 := bne_eq_false_iff_eq.mpr c3
  have c3b2 : (l0.length == l1.length) = true := q002_
  clear c3
  have H' := Aside0.mk H
  clear H
  go_enter Tryz.func38, Tryz.ntmps38
  go_wp2
  repeat (go_quiet (fail); try go_wp2)
  go_loopg [13] k (fun kq v13 w' => ∃ (x13_1 : Int), v13 = .int .i64 x13_1 ∧ Aside0 (spec_l1Same.l0 kq l0 l1 (l0.length : Int) x13_1 = some r) ∧ Aside0 (kq ≤ k) ∧ Drawn0 w w')
  case atStart => exact ⟨(0), qc8f_, H', ⟨Nat.le_refl _⟩, qffa_⟩
  case round =>
   clear H'; try clear c1; try clear p2; try clear c3; try clear c3b0; try clear c3b1; try clear c3b2
   obtain ⟨x13_1, rfl, HA, HK1, ⟨m1, rfl⟩⟩ := hrel
   cases gk with
   | zero => exact absurd HA.out (by simp [spec_l1Same.l0])
   | succ k1 =>
    have H := HA.out
    clear HA
    simp only [spec_l1Same.l0] at H
    by_cases c4 : x13_1 < (l0.length : Int)
    ·
     rw [if_pos c4] at H
     have c4b0 := decide_eq_true c4
     clear c4
     by_cases c5 : 0 ≤ x13_1
     ·
      rw [if_pos c5] at H
      have c5b0 := decide_eq_true c5
      clear c5
      by_cases c6 : x13_1 < (l0.length : Int)
      ·
       rw [if_pos c6] at H
       have c6b0 := decide_eq_true c6
       clear c6
       by_cases c7 : x13_1 < (l1.length : Int)
       ·
        rw [if_pos c7] at H
        have c7b0 := decide_eq_true c7
        clear c7
        by_cases c8 : (rd l0 x13_1) = (rd l1 x13_1)
        ·
         rw [if_pos c8] at H
         have c8b0 := beq_iff_eq.mpr c8
         have c8b1 := bne_eq_false_iff_eq.mpr c8
         clear c8
         have H' := Aside0.mk H
         clear H
         have p464 : 0 ≤ (x13_1 : Int) := of_decide_eq_true qe84_
         have q464 : x13_1 < (l0.length : Int) := of_decide_eq_true qe84_
         obtain ⟨ad464, e464, hx464_0⟩ := Kd.at_int HR0.out x13_1 p464 q464
         cases e464
         replace p464 := eq_true p464
         replace q464 := eq_true q464
         have p465 : 0 ≤ (x13_1 : Int) := of_decide_eq_true qe84_
         have q465 : x13_1 < (l1.length : Int) := of_decide_eq_true qe84_
         obtain ⟨ad465, e465, hx465_0⟩ := Kd.at_int HR1.out x13_1 p465 q465
         cases e465
         replace p465 := eq_true p465
         replace q465 := eq_true q465
         go_wp2
         repeat (go_quiet (fail); try go_wp2)
         go_roundg k1
         case measure => have := HK1.out; omega
         case rel => exact ⟨(wrap64 (x13_1 + 1)), qc8f_, H', ⟨q1d0_ HK1.out⟩, qffa_⟩
        ·
         rw [if_neg c8] at H
         have c8b0 := beq_eq_false_iff_ne.mpr c8
         have c8b1 := bne_iff_ne.mpr c8
         obtain rfl := Option.some.inj H
         have p464 : 0 ≤ (x13_1 : Int) := of_decide_eq_true qe84_
         have q464 : x13_1 < (l0.length : Int) := of_decide_eq_true qe84_
         obtain ⟨ad464, e464, hx464_0⟩ := Kd.at_int HR0.out x13_1 p464 q464
         cases e464
         replace p464 := eq_true p464
         replace q464 := eq_true q464
         have p465 : 0 ≤ (x13_1 : Int) := of_decide_eq_true qe84_
         have q465 : x13_1 < (l1.length : Int) := of_decide_eq_true qe84_
         obtain ⟨ad465, e465, hx465_0⟩ := Kd.at_int HR1.out x13_1 p465 q465
         cases e465
         replace p465 := eq_true p465
         replace q465 := eq_true q465
         go_wp2
         repeat (go_quiet (fail); try go_wp2)
         go_ret
         exact ⟨qc8f_, qffa_⟩
       ·
        rw [if_neg c7] at H
        exact absurd H (by simp)
      ·
       rw [if_neg c6] at H
       exact absurd H (by simp)
     ·
      rw [if_neg c5] at H
      exact absurd H (by simp)
    ·
     rw [if_neg c4] at H
     have c4b0 := decide_eq_false c4
     clear c4
     obtain rfl := Option.some.inj H
     go_wp2
     repeat (go_quiet (fail); try go_wp2)
     go_ret
     exact ⟨qc8f_, qffa_⟩
 ·
  rw [if_neg c3] at H
  have c3b0 := beq_eq_false_iff_ne.mpr c3
  have c3b1 := bne_iff_ne.mpr c3
  have c3b2 : (l0.length == l1.length) = false := q002_
  obtain rfl := Option.some.inj H
  go_enter Tryz.func38, Tryz.ntmps38
  go_wp2
  repeat (go_quiet (fail); try go_wp2)
  go_ret
  exact ⟨qc8f_, qffa_⟩

/-! ### spec_FromUnitBlocks: function 13 -/
mutual
def spec_FromUnitBlocks.l0 : Nat → List (List Int) → Int → List (List Int) → Int → Int → Option (List Int × Bool)
 | 0, _, _, _, _, _ => none
 | k + 1, x0, x4, x18, x19, x20 => if x20 < x19 then (if 0 ≤ x20 then (if x20 < (x18.length : Int) then (if ((rd_L3 x18 x20).length : Int) = 0 then (some (([] : List Int), false)) else (if (wrap64 (x4 + ((rd_L3 x18 x20).length : Int))) > 8 then (some (([] : List Int), false)) else (spec_FromUnitBlocks.l0 k x0 (wrap64 (x4 + ((rd_L3 x18 x20).length : Int))) x18 x19 (wrap64 (x20 + 1))))) else (none)) else (none)) else (if 0 ≤ x4 then (if (x4 : Int).toNat ≤ 35184372088832 then (spec_FromUnitBlocks.l1 k x0 x4 (List.replicate (x4 : Int).toNat 0) ([] : List Int) 0 x0 (x0.length : Int) 0) else (none)) else (none))
def spec_FromUnitBlocks.l1 : Nat → List (List Int) → Int → List Int → List Int → Int → List (List Int) → Int → Int → Option (List Int × Bool)
 | 0, _, _, _, _, _, _, _, _ => none
 | k + 1, x0, x4, x7, x8, x9, x38, x39, x40 => if x40 < x39 then (if 0 ≤ x40 then (if x40 < (x38.length : Int) then (spec_FromUnitBlocks.l2 k x0 x4 x7 x8 x9 (rd_L3 x38 x40) x38 x39 x40 (rd_L3 x38 x40) ((rd_L3 x38 x40).length : Int) 0) else (none)) else (none)) else ((spec_UnitBlocks.f k x7).bind fun bt479 => (if bt479.2 = true then (spec_FromUnitBlocks.j3 k x0 x7 bt479.1 ((bt479.1.length : Int) != (x0.length : Int))) else (spec_FromUnitBlocks.j3 k x0 x7 bt479.1 true)))
def spec_FromUnitBlocks.l2 : Nat → List (List Int) → Int → List Int → List Int → Int → List Int → List (List Int) → Int → Int → List Int → Int → Int → Option (List Int × Bool)
 | 0, _, _, _, _, _, _, _, _, _, _, _, _ => none
 | k + 1, x0, x4, x7, x8, x9, x11, x38, x39, x40, x44, x45, x46 => if x46 < x45 then (if 0 ≤ x46 then (if x46 < (x44.length : Int) then ((spec_l1In.f (rd x44 x46) 0 (wrap64 (x4 - 1))).bind fun t472 => (if t472 = true then ((spec_l1Has.f k x8 (rd x44 x46)).bind fun t473 => (if t473 = true then (some (([] : List Int), false)) else (if x8.length < 17592186044416 then ((spec_l1Most.f (wrap64 (x46 - 1)) 0).bind fun t477 => (if 0 ≤ (rd x44 x46) then (if (rd x44 x46) < (x7.length : Int) then (spec_FromUnitBlocks.l2 k x0 x4 (x7.set ((rd x44 x46) : Int).toNat (wrap64 (x9 + t477))) (x8 ++ [rd x44 x46]) x9 x11 x38 x39 x40 x44 x45 (wrap64 (x46 + 1))) else (none)) else (none))) else (none)))) else (some (([] : List Int), false)))) else (none)) else (none)) else (spec_FromUnitBlocks.l1 k x0 x4 x7 x8 (wrap64 (x9 + (x11.length : Int))) x38 x39 (wrap64 (x40 + 1)))
def spec_FromUnitBlocks.j3 : Nat → List (List Int) → List Int → List (List Int) → Bool → Option (List Int × Bool)
 | 0, _, _, _, _ => none
 | k + 1, x0, x7, x14, x92 => if x92 = true then (some (([] : List Int), false)) else (spec_FromUnitBlocks.l3 k x7 x14 x0 (x0.length : Int) 0)
def spec_FromUnitBlocks.l3 : Nat → List Int → List (List Int) → List (List Int) → Int → Int → Option (List Int × Bool)
 | 0, _, _, _, _, _ => none
 | k + 1, x7, x14, x93, x94, x95 => if x95 < x94 then (if 0 ≤ x95 then (if x95 < (x93.length : Int) then (if x95 < (x14.length : Int) then ((spec_l1Same.f k (rd_L3 x93 x95) (rd_L3 x14 x95)).bind fun t485 => (if t485 = true then (spec_FromUnitBlocks.l3 k x7 x14 x93 x94 (wrap64 (x95 + 1))) else (some (([] : List Int), false)))) else (none)) else (none)) else (none)) else (some (x7, true))
end
def spec_FromUnitBlocks.f (k : Nat) (l0 : List (List Int)) : Option (List Int × Bool) := spec_FromUnitBlocks.l0 k l0 0 l0 (l0.length : Int) 0
theorem spec_FromUnitBlocks.mono_l : ∀ k, (∀ y0 y1 y2 y3 y4, LeO (spec_FromUnitBlocks.l0 k y0 y1 y2 y3 y4) (spec_FromUnitBlocks.l0 (k + 1) y0 y1 y2 y3 y4)) ∧ (∀ y0 y1 y2 y3 y4 y5 y6 y7, LeO (spec_FromUnitBlocks.l1 k y0 y1 y2 y3 y4 y5 y6 y7) (spec_FromUnitBlocks.l1 (k + 1) y0 y1 y2 y3 y4 y5 y6 y7)) ∧ (∀ y0 y1 y2 y3 y4 y5 y6 y7 y8 y9 y10 y11, LeO (spec_FromUnitBlocks.l2 k y0 y1 y2 y3 y4 y5 y6 y7 y8 y9 y10 y11) (spec_FromUnitBlocks.l2 (k + 1) y0 y1 y2 y3 y4 y5 y6 y7 y8 y9 y10 y11)) ∧ (∀ y0 y1 y2 y3, LeO (spec_FromUnitBlocks.j3 k y0 y1 y2 y3) (spec_FromUnitBlocks.j3 (k + 1) y0 y1 y2 y3)) ∧ (∀ y0 y1 y2 y3 y4, LeO (spec_FromUnitBlocks.l3 k y0 y1 y2 y3 y4) (spec_FromUnitBlocks.l3 (k + 1) y0 y1 y2 y3 y4))
 | 0 => ⟨fun _ _ _ _ _ r h => by simp [spec_FromUnitBlocks.l0] at h, fun _ _ _ _ _ _ _ _ r h => by simp [spec_FromUnitBlocks.l1] at h, fun _ _ _ _ _ _ _ _ _ _ _ _ r h => by simp [spec_FromUnitBlocks.l2] at h, fun _ _ _ _ r h => by simp [spec_FromUnitBlocks.j3] at h, fun _ _ _ _ _ r h => by simp [spec_FromUnitBlocks.l3] at h⟩
 | k + 1 => by
  obtain ⟨ih0, ih1, ih2, ih3, ih4⟩ := spec_FromUnitBlocks.mono_l k
  refine ⟨?_, ?_, ?_, ?_, ?_⟩
  ·
   intro y0 y1 y2 y3 y4
   unfold spec_FromUnitBlocks.l0
   repeat' (with_reducible first | exact ih0 _ _ _ _ _ | exact ih1 _ _ _ _ _ _ _ _ | exact ih2 _ _ _ _ _ _ _ _ _ _ _ _ | exact ih3 _ _ _ _ | exact ih4 _ _ _ _ _ | exact spec_UnitBlocks.mono _ _ | exact spec_l1Has.mono _ _ _ | exact spec_l1Same.mono _ _ _ | exact LeO.refl _ | exact LeO.none _ | refine LeO.ite ?_ ?_ | refine LeO.bind ?_ (fun _ => ?_))
  ·
   intro y0 y1 y2 y3 y4 y5 y6 y7
   unfold spec_FromUnitBlocks.l1
   repeat' (with_reducible first | exact ih0 _ _ _ _ _ | exact ih1 _ _ _ _ _ _ _ _ | exact ih2 _ _ _ _ _ _ _ _ _ _ _ _ | exact ih3 _ _ _ _ | exact ih4 _ _ _ _ _ | exact spec_UnitBlocks.mono _ _ | exact spec_l1Has.mono _ _ _ | exact spec_l1Same.mono _ _ _ | exact LeO.refl _ | exact LeO.none _ | refine LeO.ite ?_ ?_ | refine LeO.bind ?_ (fun _ => ?_))
  ·
   intro y0 y1 y2 y3 y4 y5 y6 y7 y8 y9 y10 y11
   unfold spec_FromUnitBlocks.l2
   repeat' (with_reducible first | exact ih0 _ _ _ _ _ | exact ih1 _ _ _ _ _ _ _ _ | exact ih2 _ _ _ _ _ _ _ _ _ _ _ _ | exact ih3 _ _ _ _ | exact ih4 _ _ _ _ _ | exact spec_UnitBlocks.mono _ _ | exact spec_l1Has.mono _ _ _ | exact spec_l1Same.mono _ _ _ | exact LeO.refl _ | exact LeO.none _ | refine LeO.ite ?_ ?_ | refine LeO.bind ?_ (fun _ => ?_))
  ·
   intro y0 y1 y2 y3
   unfold spec_FromUnitBlocks.j3
   repeat' (with_reducible first | exact ih0 _ _ _ _ _ | exact ih1 _ _ _ _ _ _ _ _ | exact ih2 _ _ _ _ _ _ _ _ _ _ _ _ | exact ih3 _ _ _ _ | exact ih4 _ _ _ _ _ | exact spec_UnitBlocks.mono _ _ | exact spec_l1Has.mono _ _ _ | exact spec_l1Same.mono _ _ _ | exact LeO.refl _ | exact LeO.none _ | refine LeO.ite ?_ ?_ | refine LeO.bind ?_ (fun _ => ?_))
  ·
   intro y0 y1 y2 y3 y4
   unfold spec_FromUnitBlocks.l3
   repeat' (with_reducible first | exact ih0 _ _ _ _ _ | exact ih1 _ _ _ _ _ _ _ _ | exact ih2 _ _ _ _ _ _ _ _ _ _ _ _ | exact ih3 _ _ _ _ | exact ih4 _ _ _ _ _ | exact spec_UnitBlocks.mono _ _ | exact spec_l1Has.mono _ _ _ | exact spec_l1Same.mono _ _ _ | exact LeO.refl _ | exact LeO.none _ | refine LeO.ite ?_ ?_ | refine LeO.bind ?_ (fun _ => ?_))
theorem spec_FromUnitBlocks.mono : ∀ a0 k, LeO (spec_FromUnitBlocks.f k a0) (spec_FromUnitBlocks.f (k + 1) a0) := by
 intro a0 k
 obtain ⟨ih0, ih1, ih2, ih3, ih4⟩ := spec_FromUnitBlocks.mono_l k
 unfold spec_FromUnitBlocks.f
 repeat' (with_reducible first | exact ih0 _ _ _ _ _ | exact ih1 _ _ _ _ _ _ _ _ | exact ih2 _ _ _ _ _ _ _ _ _ _ _ _ | exact ih3 _ _ _ _ | exact ih4 _ _ _ _ _ | exact spec_UnitBlocks.mono _ _ | exact spec_l1Has.mono _ _ _ | exact spec_l1Same.mono _ _ _ | exact LeO.refl _ | exact LeO.none _ | refine LeO.ite ?_ ?_ | refine LeO.bind ?_ (fun _ => ?_))
theorem spec_FromUnitBlocks.calls (k : Nat) (A0 : Option Addr) (c0 : Nat) (l0 : List (List Int)) (r1 : List Int) (r2 : Bool) (w : World) (hr0 : Kd.C (Kd.slice 3 (Kd.int .i64)) w A0 l0.length l0) (hc0 : l0.length ≤ c0) (h : spec_FromUnitBlocks.f k l0 = some (r1, r2)) :
  Calls Tryz.prog 13 #[.slice A0 l0.length c0] w fun e w' => ∃ v0_ : Value, e = .returned (.tuple #[v0_, .bool r2]) ∧ Kd.R (Kd.int .i64) 3 w' w.heap.size (fun _ => True) v0_ r1 ∧ Below w.heap.size w w' := by
 have HR0 := Aside0.mk hr0
 have HC0 := Aside0.mk hc0
 clear hr0 hc0
 have HB := Aside0.mk (Below.refl w.heap.size w)
 unfold spec_FromUnitBlocks.f at h
 have H := h; clear h
 have H' := Aside0.mk H
 clear H
 go_enter Tryz.func13, Tryz.ntmps13
 go_wp2
 go_loopg [4, 20] k (fun kq v4 v20 w' => ∃ (x4_1 : Int) (x20_1 : Int), v4 = .int .i64 x4_1 ∧ v20 = .int .i64 x20_1 ∧ Aside0 (spec_FromUnitBlocks.l0 kq l0 x4_1 l0 (l0.length : Int) x20_1 = some (r1, r2)) ∧ Aside0 (kq ≤ k) ∧ Aside0 (Below w.heap.size w w'))
 case atStart => exact ⟨(0), (0), qc8f_, qc8f_, H', ⟨Nat.le_refl _⟩, ⟨q0c4_⟩⟩
 case round =>
  clear H'; try clear c1
  obtain ⟨x4_1, x20_1, rfl, rfl, HA, HK1, HB⟩ := hrel
  cases gk with
  | zero => exact absurd HA.out (by simp [spec_FromUnitBlocks.l0])
  | succ k1 =>
   have H := HA.out
   clear HA
   simp only [spec_FromUnitBlocks.l0] at H
   by_cases c2 : x20_1 < (l0.length : Int)
   ·
    rw [if_pos c2] at H
    have c2b0 := decide_eq_true c2
    clear c2
    by_cases c3 : 0 ≤ x20_1
    ·
     rw [if_pos c3] at H
     have c3b0 := decide_eq_true c3
     clear c3
     by_cases c4 : x20_1 < (l0.length : Int)
     ·
      rw [if_pos c4] at H
      have c4b0 := decide_eq_true c4
      clear c4
      by_cases c5 : ((rd_L3 l0 x20_1).length : Int) = 0
      ·
       rw [if_pos c5] at H
       have c5b0 := beq_iff_eq.mpr c5
       have c5b1 := bne_eq_false_iff_eq.mpr c5
       clear c5
       simp only [Option.some.injEq, Prod.mk.injEq] at H
       obtain ⟨rfl, rfl⟩ := H
       have p466 : 0 ≤ (x20_1 : Int) := of_decide_eq_true qe84_
       have q466 : x20_1 < (l0.length : Int) := of_decide_eq_true qe84_
       obtain ⟨ad466, A466_0, c466_0, e466, hx466_0, hl466_0, hi466_0⟩ := at_L3 HR0.out x20_1 p466 q466
       cases e466
       (try (replace hx466_0 := (HB.out.cell (World.block_lt_of_cell? w _ hx466_0)).trans hx466_0))
       have HR466_0 := Aside0.mk hi466_0
       have HC466_0 := Aside0.mk hl466_0
       clear hi466_0 hl466_0
       replace p466 := eq_true p466
       replace q466 := eq_true q466
       go_wp2
       go_ret2
       exact ⟨_, qce7_, qf62_, q0c4_⟩
      ·
       rw [if_neg c5] at H
       have c5b0 := beq_eq_false_iff_ne.mpr c5
       have c5b1 := bne_iff_ne.mpr c5
       have c5b2 : ¬ ((rd_L3 l0 x20_1) = []) := fun h_ => c5 (by rw [h_]; rfl)
       by_cases c6 : (wrap64 (x4_1 + ((rd_L3 l0 x20_1).length : Int))) > 8
       ·
        rw [if_pos c6] at H
        have c6b0 := decide_eq_true c6
        clear c6
        simp only [Option.some.injEq, Prod.mk.injEq] at H
        obtain ⟨rfl, rfl⟩ := H
        have p466 : 0 ≤ (x20_1 : Int) := of_decide_eq_true qe84_
        have q466 : x20_1 < (l0.length : Int) := of_decide_eq_true qe84_
        obtain ⟨ad466, A466_0, c466_0, e466, hx466_0, hl466_0, hi466_0⟩ := at_L3 HR0.out x20_1 p466 q466
        cases e466
        (try (replace hx466_0 := (HB.out.cell (World.block_lt_of_cell? w _ hx466_0)).trans hx466_0))
        have HR466_0 := Aside0.mk hi466_0
        have HC466_0 := Aside0.mk hl466_0
        clear hi466_0 hl466_0
        replace p466 := eq_true p466
        replace q466 := eq_true q466
        go_wp2
        go_ret2
        exact ⟨_, qce7_, qf62_, q0c4_⟩
       ·
        rw [if_neg c6] at H
        have c6b0 := decide_eq_false c6
        clear c6
        have H' := Aside0.mk H
        clear H
        have p466 : 0 ≤ (x20_1 : Int) := of_decide_eq_true qe84_
        have q466 : x20_1 < (l0.length : Int) := of_decide_eq_true qe84_
        obtain ⟨ad466, A466_0, c466_0, e466, hx466_0, hl466_0, hi466_0⟩ := at_L3 HR0.out x20_1 p466 q466
        cases e466
        (try (replace hx466_0 := (HB.out.cell (World.block_lt_of_cell? w _ hx466_0)).trans hx466_0))
        have HR466_0 := Aside0.mk hi466_0
        have HC466_0 := Aside0.mk hl466_0
        clear hi466_0 hl466_0
        replace p466 := eq_true p466
        replace q466 := eq_true q466
        go_wp2
        go_roundg k1
        case measure => have := HK1.out; omega
        case rel => exact ⟨(wrap64 (x4_1 + ((rd_L3 l0 x20_1).length : Int))), (wrap64 (x20_1 + 1)), qc8f_, qc8f_, H', ⟨q1d0_ HK1.out⟩, ⟨q0c4_⟩⟩
     ·
      rw [if_neg c4] at H
      exact absurd H (by simp)
    ·
     rw [if_neg c3] at H
     exact absurd H (by simp)
   ·
    rw [if_neg c2] at H
    have c2b0 := decide_eq_false c2
    clear c2
    by_cases c7 : 0 ≤ x4_1
    ·
     rw [if_pos c7] at H
     have c7b0 := eq_true c7
     have c7b1 := decide_eq_true c7
     clear c7
     by_cases c8 : (x4_1 : Int).toNat ≤ 35184372088832
     ·
      rw [if_pos c8] at H
      have c8b0 := eq_true c8
      have c8b1 := decide_eq_true c8
      clear c8
      obtain ⟨y467, hy467⟩ : ∃ y_ : List Int, y_ = (List.replicate (x4_1 : Int).toNat 0) := ⟨_, rfl⟩
      replace H : (spec_FromUnitBlocks.l1 k1 l0 x4_1 y467 ([] : List Int) 0 l0 (l0.length : Int) 0) = some (r1, r2) := by first | (rw [hy467]; with_reducible exact H) | (have H2_ := (Option.bind_some _ _).symm.trans H; rw [hy467]; with_reducible exact H2_) | (have H2_ := (Option.bind_some _ _).symm.trans H; with_reducible exact H2_) | with_reducible exact H | (rw [hy467]; exact H) | exact H
      have Ny467 := Aside0.mk hy467
      clear hy467
      have H' := Aside0.mk H
      clear H
      go_wp2_with (first | ((with_reducible refine gate_dst (N := 37) rfl ?_); (try (refine gate_guard (by rfl) ?_; dsimp only)); refine Kd.R_make (Kd.int .i64) _ 3 rfl (N := 37) rfl 24 _ _ rfl x4_1 rfl rfl Tryz.underlying24 (.int .i64 0) 8 info3 rfl (by decide) (by omega) 0 (ok := fun _ => True) (okp := fun _ => True) rfl (fun _ hk => hk) trivial (of_decide_eq_true qe84_) (Nat.le_trans (Nat.mul_le_mul_right _ (of_decide_eq_true qe84_ : x4_1.toNat ≤ 35184372088832)) (by omega)) (Below.refl _ _) (Nat.le_refl _) ?_; intro v468 w9 ho10 hb hg_ hnew_; clear hg_ hnew_; (first | rw [← Ny467.out] at ho10 | (simp only [Int.reduceToNat] at ho10; rw [← Ny467.out] at ho10)); have HO469 := Aside0.mk (Kd.R_lower ho10 (below_size q0c4_)); replace HB := Aside0.mk (below_step q0c4_ hb); clear hb ho10))
      go_loopg [8, 9, 40] k1 (fun kq v8 v9 v40 w' => ∃ (x7_2 : List Int) (x8_2 : List Int) (x9_2 : Int) (x40_2 : Int), v9 = .int .i64 x9_2 ∧ v40 = .int .i64 x40_2 ∧ Aside0 (spec_FromUnitBlocks.l1 kq l0 x4_1 x7_2 x8_2 x9_2 l0 (l0.length : Int) x40_2 = some (r1, r2)) ∧ Aside0 (kq ≤ k1) ∧ Aside0 (Kd.R (Kd.int .i64) 3 w' w.heap.size (fun k_ => some k_ ≠ (v8 : Value).ownBlock) v468 x7_2) ∧ Aside0 (Kd.R (Kd.int .i64) 3 w' w.heap.size (fun k_ => some k_ ≠ (v468 : Value).ownBlock) v8 x8_2) ∧ Aside0 (Below w.heap.size w w'))
      case atStart => exact ⟨(y467), (([] : List Int)), (0), (0), qc8f_, qc8f_, H', ⟨Nat.le_refl _⟩, ⟨by (with_reducible repeat (first | apply Kd.R_alloc | apply Kd.R_drewN | apply Kd.R_drew)); exact Kd.R_mono HO469.out (fun _ hk => (by simp [Value.ownBlock]))⟩, ⟨qf62_⟩, ⟨q0c4_⟩⟩
      case round =>
       clear H'; try clear c1; try clear c2; try clear c2b0; try clear p2; try clear c3; try clear c3b0; try clear c4; try clear c4b0; try clear p4; try clear q4; try clear hx4; try clear c5; try clear c5b0; try clear c5b1; try clear c5b2; try clear c6; try clear c6b0; try clear p6; try clear c7; try clear c7b0; try clear c7b1; try clear c8; try clear c8b0; try clear c8b1; try clear hx466_0; try clear p466; try clear q466
       obtain ⟨x7_2, x8_2, x9_2, x40_2, rfl, rfl, HA, HK2, HO_7, HO_8, HB⟩ := hrel
       cases gk with
       | zero => exact absurd HA.out (by simp [spec_FromUnitBlocks.l1])
       | succ k2 =>
        have H := HA.out
        clear HA
        simp only [spec_FromUnitBlocks.l1] at H
        by_cases c11 : x40_2 < (l0.length : Int)
        ·
         rw [if_pos c11] at H
         have c11b0 := decide_eq_true c11
         clear c11
         by_cases c12 : 0 ≤ x40_2
         ·
          rw [if_pos c12] at H
          have c12b0 := decide_eq_true c12
          clear c12
          by_cases c13 : x40_2 < (l0.length : Int)
          ·
           rw [if_pos c13] at H
           have c13b0 := decide_eq_true c13
           clear c13
           have H' := Aside0.mk H
           clear H
           have p470 : 0 ≤ (x40_2 : Int) := of_decide_eq_true qe84_
           have q470 : x40_2 < (l0.length : Int) := of_decide_eq_true qe84_
           obtain ⟨ad470, A470_0, c470_0, e470, hx470_0, hl470_0, hi470_0⟩ := at_L3 HR0.out x40_2 p470 q470
           cases e470
           (try (replace hx470_0 := (HB.out.cell (World.block_lt_of_cell? w _ hx470_0)).trans hx470_0))
           have HR470_0 := Aside0.mk hi470_0
           have HC470_0 := Aside0.mk hl470_0
           clear hi470_0 hl470_0
           replace p470 := eq_true p470
           replace q470 := eq_true q470
           go_wp2
           go_loopg [8, 46] k2 (fun kq v8 v46 w' => ∃ (x7_3 : List Int) (x8_3 : List Int) (x46_3 : Int), v46 = .int .i64 x46_3 ∧ Aside0 (spec_FromUnitBlocks.l2 kq l0 x4_1 x7_3 x8_3 x9_2 (rd_L3 l0 x40_2) l0 (l0.length : Int) x40_2 (rd_L3 l0 x40_2) ((rd_L3 l0 x40_2).length : Int) x46_3 = some (r1, r2)) ∧ Aside0 (kq ≤ k2) ∧ Aside0 (Kd.R (Kd.int .i64) 3 w' w.heap.size (fun k_ => some k_ ≠ (v8 : Value).ownBlock) v468 x7_3) ∧ Aside0 (Kd.R (Kd.int .i64) 3 w' w.heap.size (fun k_ => some k_ ≠ (v468 : Value).ownBlock) v8 x8_3) ∧ Aside0 (Below w.heap.size w w'))
           case atStart => exact ⟨(x7_2), (x8_2), (0), qc8f_, H', ⟨Nat.le_refl _⟩, ⟨q9d5_ HO_7.out⟩, ⟨q9d5_ HO_8.out⟩, ⟨q0c4_⟩⟩
           case round =>
            clear H'; try clear c1; try clear c2; try clear c2b0; try clear p2; try clear c3; try clear c3b0; try clear c4; try clear c4b0; try clear p4; try clear q4; try clear hx4; try clear c5; try clear c5b0; try clear c5b1; try clear c5b2; try clear c6; try clear c6b0; try clear p6; try clear c7; try clear c7b0; try clear c7b1; try clear c8; try clear c8b0; try clear c8b1; try clear c11; try clear c11b0; try clear c12; try clear c12b0; try clear c13; try clear c13b0; try clear hx466_0; try clear hx470_0; try clear p2; try clear p4; try clear p466; try clear p470; try clear p6; try clear q4; try clear q466; try clear q470
            obtain ⟨x7_3, x8_3, x46_3, rfl, HA, HK3, HO_7, HO_8, HB⟩ := hrel
            cases gk with
            | zero => exact absurd HA.out (by simp [spec_FromUnitBlocks.l2])
            | succ k3 =>
             have H := HA.out
             clear HA
             simp only [spec_FromUnitBlocks.l2] at H
             by_cases c14 : x46_3 < ((rd_L3 l0 x40_2).length : Int)
             ·
              rw [if_pos c14] at H
              have c14b0 := decide_eq_true c14
              clear c14
              by_cases c15 : 0 ≤ x46_3
              ·
               rw [if_pos c15] at H
               have c15b0 := decide_eq_true c15
               clear c15
               by_cases c16 : x46_3 < ((rd_L3 l0 x40_2).length : Int)
               ·
                rw [if_pos c16] at H
                have c16b0 := decide_eq_true c16
                clear c16
                obtain ⟨t472, A17, H⟩ := ob_ H
                by_cases c18 : t472 = true
                ·
                 subst c18
                 rw [if_pos rfl] at H
                 obtain ⟨t473, A19, H⟩ := ob_ H
                 by_cases c20 : t473 = true
                 ·
                  subst c20
                  rw [if_pos rfl] at H
                  simp only [Option.some.injEq, Prod.mk.injEq] at H
                  obtain ⟨rfl, rfl⟩ := H
                  have p471 : 0 ≤ (x46_3 : Int) := of_decide_eq_true qe84_
                  have q471 : x46_3 < ((rd_L3 l0 x40_2).length : Int) := of_decide_eq_true qe84_
                  obtain ⟨ad471, e471, hx471_0⟩ := Kd.at_int HR470_0.out x46_3 p471 q471
                  cases e471
                  (try (replace hx471_0 := (HB.out.cell (World.block_lt_of_cell? w _ hx471_0)).trans hx471_0))
                  replace p471 := eq_true p471
                  replace q471 := eq_true q471
                  go_wp2_with (first | ((with_reducible refine gate_callee (f := 35) rfl ?_); refine gl_ 54 Tryz.func35 #[.int .i64 (rd (rd_L3 l0 x40_2) x46_3), .int .i64 0, .int .i64 (wrap64 (x4_1 - 1))] ?_; (with_reducible refine (spec_l1In.calls (rd (rd_L3 l0 x40_2) x46_3) 0 (wrap64 (x4_1 - 1)) true _ A17.out).mono ?_); rintro e w' ⟨rfl, ⟨nd, rfl⟩⟩; refine ⟨_, rfl, ?_⟩; obtain ⟨Ao21, co21, eo21⟩ := Kd.R_slice HO_8.out; subst eo21) | (go_at_call 36; (with_reducible refine (spec_l1Has.calls k3 _ _ x8_3 (rd (rd_L3 l0 x40_2) x46_3) true _ ?s1 ?s2 A19.out).mono ?_); (case s1 => exact q5a8_ HO_8.out); (case s2 => exact (Kd.R_reads' HO_8.out).2.1); rintro e w' ⟨rfl, ⟨nd, rfl⟩⟩))
                  go_ret2
                  exact ⟨_, qce7_, qf62_, q0c4_⟩
                 ·
                  replace c20 := Bool.eq_false_iff.mpr c20
                  subst c20
                  rw [if_neg nf_] at H
                  by_cases c22 : x8_3.length < 17592186044416
                  ·
                   rw [if_pos c22] at H
                   have LMc22 := Aside0.mk c22
                   clear c22
                   obtain ⟨y474, hy474⟩ : ∃ y_ : List Int, y_ = (x8_3 ++ [rd (rd_L3 l0 x40_2) x46_3]) := ⟨_, rfl⟩
                   replace H : ((spec_l1Most.f (wrap64 (x46_3 - 1)) 0).bind fun t477 => (if 0 ≤ (rd (rd_L3 l0 x40_2) x46_3) then (if (rd (rd_L3 l0 x40_2) x46_3) < (x7_3.length : Int) then (spec_FromUnitBlocks.l2 k3 l0 x4_1 (x7_3.set ((rd (rd_L3 l0 x40_2) x46_3) : Int).toNat (wrap64 (x9_2 + t477))) y474 x9_2 (rd_L3 l0 x40_2) l0 (l0.length : Int) x40_2 (rd_L3 l0 x40_2) ((rd_L3 l0 x40_2).length : Int) (wrap64 (x46_3 + 1))) else (none)) else (none))) = some (r1, r2) := by first | (rw [hy474]; with_reducible exact H) | (have H2_ := (Option.bind_some _ _).symm.trans H; rw [hy474]; with_reducible exact H2_) | (have H2_ := (Option.bind_some _ _).symm.trans H; with_reducible exact H2_) | with_reducible exact H | (rw [hy474]; exact H) | exact H
                   have Ny474 := Aside0.mk hy474
                   clear hy474
                   obtain ⟨t477, A23, H⟩ := ob_ H
                   by_cases c24 : 0 ≤ (rd (rd_L3 l0 x40_2) x46_3)
                   ·
                    rw [if_pos c24] at H
                    have c24b0 := decide_eq_true c24
                    clear c24
                    by_cases c25 : (rd (rd_L3 l0 x40_2) x46_3) < (x7_3.length : Int)
                    ·
                     rw [if_pos c25] at H
                     have c25b0 := decide_eq_true c25
                     clear c25
                     obtain ⟨y478, hy478⟩ : ∃ y_ : List Int, y_ = (x7_3.set ((rd (rd_L3 l0 x40_2) x46_3) : Int).toNat (wrap64 (x9_2 + t477))) := ⟨_, rfl⟩
                     replace H : (spec_FromUnitBlocks.l2 k3 l0 x4_1 y478 y474 x9_2 (rd_L3 l0 x40_2) l0 (l0.length : Int) x40_2 (rd_L3 l0 x40_2) ((rd_L3 l0 x40_2).length : Int) (wrap64 (x46_3 + 1))) = some (r1, r2) := by first | (rw [hy478]; with_reducible exact H) | (have H2_ := (Option.bind_some _ _).symm.trans H; rw [hy478]; with_reducible exact H2_) | (have H2_ := (Option.bind_some _ _).symm.trans H; with_reducible exact H2_) | with_reducible exact H | (rw [hy478]; exact H) | exact H
                     have Ny478 := Aside0.mk hy478
                     clear hy478
                     have H' := Aside0.mk H
                     clear H
                     have p471 : 0 ≤ (x46_3 : Int) := of_decide_eq_true qe84_
                     have q471 : x46_3 < ((rd_L3 l0 x40_2).length : Int) := of_decide_eq_true qe84_
                     obtain ⟨ad471, e471, hx471_0⟩ := Kd.at_int HR470_0.out x46_3 p471 q471
                     cases e471
                     (try (replace hx471_0 := (HB.out.cell (World.block_lt_of_cell? w _ hx471_0)).trans hx471_0))
                     replace p471 := eq_true p471
                     replace q471 := eq_true q471
                     go_wp2_with (first | ((with_reducible refine gate_callee (f := 35) rfl ?_); refine gl_ 54 Tryz.func35 #[.int .i64 (rd (rd_L3 l0 x40_2) x46_3), .int .i64 0, .int .i64 (wrap64 (x4_1 - 1))] ?_; (with_reducible refine (spec_l1In.calls (rd (rd_L3 l0 x40_2) x46_3) 0 (wrap64 (x4_1 - 1)) true _ A17.out).mono ?_); rintro e w' ⟨rfl, ⟨nd, rfl⟩⟩; refine ⟨_, rfl, ?_⟩; (try (rw [drewN_self wr]; generalize hq_ : World.drewN wr _ = wr; have n0_ : Aside0 (Kd.R (Kd.int .i64) 3 wr w.heap.size (fun k_ => some k_ ≠ (u8 : Value).ownBlock) v468 x7_3) := ⟨q4d4_ HO_7.out⟩; have n1_ : Aside0 (Kd.R (Kd.int .i64) 3 wr w.heap.size (fun k_ => some k_ ≠ (v468 : Value).ownBlock) u8 x8_3) := ⟨q4d4_ HO_8.out⟩; have n2_ : Aside0 (Below w.heap.size w wr) := ⟨by rw [← hq_]; exact q0c4_⟩; clear HO_7 HO_8 HB hq_; have HO_7 := n0_; have HO_8 := n1_; have HB := n2_; clear n0_ n1_ n2_)); obtain ⟨Ao27, co27, eo27⟩ := Kd.R_slice HO_8.out; subst eo27) | (go_at_call 36; (with_reducible refine (spec_l1Has.calls k3 _ _ x8_3 (rd (rd_L3 l0 x40_2) x46_3) false _ ?s1 ?s2 A19.out).mono ?_); (case s1 => exact q5a8_ HO_8.out); (case s2 => exact (Kd.R_reads' HO_8.out).2.1); rintro e w' ⟨rfl, ⟨nd, rfl⟩⟩; (try (rw [drewN_self wr]; generalize hq_ : World.drewN wr _ = wr; have n0_ : Aside0 (Kd.R (Kd.int .i64) 3 wr w.heap.size (fun k_ => some k_ ≠ (.slice Ao27 x8_3.length co27 : Value).ownBlock) v468 x7_3) := ⟨q4d4_ HO_7.out⟩; have n1_ : Aside0 (Kd.R (Kd.int .i64) 3 wr w.heap.size (fun k_ => some k_ ≠ (v468 : Value).ownBlock) (.slice Ao27 x8_3.length co27) x8_3) := ⟨q4d4_ HO_8.out⟩; have n2_ : Aside0 (Below w.heap.size w wr) := ⟨by rw [← hq_]; exact q0c4_⟩; clear HO_7 HO_8 HB hq_; have HO_7 := n0_; have HO_8 := n1_; have HB := n2_; clear n0_ n1_ n2_))) | ((with_reducible refine gate_builtin (b := .append) (xs := #[.tmp 61, .tmp 63]) rfl ?_); (try (refine gate_guard (by rfl) ?_; dsimp only)); at_builtin; refine Kd.R_append (Kd.int .i64) (w0 := w) w.heap.size rfl (.tmp 61) (.tmp 63) 24 3 (.int .i64 0) 8 rfl Tryz.underlying24 info3 rfl (by decide) (by omega) (.slice Ao27 x8_3.length co27) x8_3 (rd (rd_L3 l0 x40_2) x46_3) [.int .i64 (rd (rd_L3 l0 x40_2) x46_3)] (fun k_ => some k_ ≠ (v468 : Value).ownBlock) (fun _ => False) rfl rfl ?aP (fun _ hk => hk.elim) ?aF ?aO ?aB ?aS ?aL ?_; (case aP => exact rfl); (case aB => exact q0c4_); (case aF => exact (fun k_ hk => Kd.fresh' (Kd.R_lt (q9d5_ HO_7.out)) k_ hk)); (case aO => exact (q9d5_ HO_8.out)); (case aS => exact (below_size q0c4_)); (case aL => have := LMc22.out; omega); intro v475 w28 ho hb hg hat; rw [← Ny474.out] at ho; have n0_ := Aside0.mk (Kd.R_after (ok := (fun _ => True)) (q0ef_ HO_7.out) hg hat); have n1_ := Aside0.mk (hb); have n2_ := Aside0.mk (ho); replace HO_7 := n0_; replace HB := n1_; have HO476 := n2_; clear n0_ n1_ n2_; clear ho hb hg hat) | ((with_reducible refine gate_callee (f := 37) rfl ?_); refine gl_ 70 Tryz.func37 #[.int .i64 (wrap64 (x46_3 - 1)), .int .i64 0] ?_; (with_reducible refine (spec_l1Most.calls (wrap64 (x46_3 - 1)) 0 t477 _ A23.out).mono ?_); rintro e w' ⟨rfl, ⟨nd, rfl⟩⟩; refine ⟨_, rfl, ?_⟩; (try (rw [drewN_self w28]; generalize hq_ : World.drewN w28 _ = w28; have n0_ : Aside0 (Kd.R (Kd.int .i64) 3 w28 w.heap.size (fun k_ => some k_ ≠ (v468 : Value).ownBlock) v475 y474) := ⟨q4d4_ HO476.out⟩; have n1_ : Aside0 (Kd.R (Kd.int .i64) 3 w28 w.heap.size (fun k_ => some k_ ≠ (v475 : Value).ownBlock) v468 x7_3) := ⟨by rw [← hq_]; exact (qe0f_ HO_7.out)⟩; have n2_ : Aside0 (Below w.heap.size w w28) := ⟨by rw [← hq_]; exact q0c4_⟩; clear HO476 HO_7 HB hq_; have HO476 := n0_; have HO_7 := n1_; have HB := n2_; clear n0_ n1_ n2_)); have p26 : 0 ≤ ((rd (rd_L3 l0 x40_2) x46_3) : Int) := of_decide_eq_true qe84_; have q26 : ((rd (rd_L3 l0 x40_2) x46_3) : Int) < ((x7_3.length : Int) : Int) := of_decide_eq_true qe84_; obtain ⟨go26, co26, eo26, gb26, gl26, cl26, HG26⟩ := Kd.R_form HO_7.out (by omega); (first | cases eo26 | (injection eo26 with ea_ en_ ec_; (first | subst ea_ | (injection ea_ with ea_; subst ea_)); subst ec_; clear en_)); have GB26 := Aside0.mk gb26; have GG26 := Aside0.mk HG26; clear gb26 gl26 HG26; obtain ⟨hx26_0, hf26_0⟩ := Kd.R_celln 0 HO_7.out ((rd (rd_L3 l0 x40_2) x46_3) : Int) p26 q26; replace p26 := eq_true p26; replace q26 := eq_true q26; (try ((try ((try ((try (have n_ := Aside0.mk (Kd.R_mono (ok' := (fun k_ => some k_ ≠ (v475 : Value).ownBlock)) HO_7.out (fun k_ hk => hk.2)); clear HO_7; have HO_7 := n_; clear n_)))))))); obtain ⟨hy29_, hz29_⟩ := Kd.R_celln 0 HO_7.out ((rd (rd_L3 l0 x40_2) x46_3) : Int) (of_decide_eq_true qe84_) (of_decide_eq_true qe84_); have HP29 := Kd.R_putg HO_7.out ((rd (rd_L3 l0 x40_2) x46_3) : Int) (wrap64 (x9_2 + t477))) | ((with_reducible refine gate_store (t := 3) (p := 72) rfl ?_); refine store_event (t := 3) (p := 72) (v := ?vo_w30) (w1 := (w28.setCell ⟨go26, ((rd (rd_L3 l0 x40_2) x46_3) : Int).toNat, none⟩ (.int .i64 (wrap64 (x9_2 + t477))))) ?hg ?ho ?hn ?hr ?_; (case ho => rfl); (case hg => rfl); (case hn => rfl); (case hr => exact qba7_); intro w30 hw; have hg : w28.grownBy w30 (some go26) := (by rw [hw]; exact HP29.2); have hp_ : Kd.R (Kd.int .i64) 3 w30 w.heap.size (fun k_ => some k_ ≠ (v475 : Value).ownBlock) (.slice (some ⟨go26, 0, none⟩) x7_3.length co26) y478 := (by rw [hw, Ny478.out]; exact HP29.1); clear HP29; replace HO_7 := Aside0.mk (hp_); replace HO476 := Aside0.mk (Kd.R_after (v := (.slice (some ⟨go26, 0, none⟩) x7_3.length co26)) (v1 := (.slice (some ⟨go26, 0, none⟩) x7_3.length co26)) (ok := (fun _ => True)) (q0ef_ HO476.out) hg (.inl rfl)); replace HB := Aside0.mk ((by rw [hw]; exact below_set (HB.out) GB26.out : Below w.heap.size w w30)); clear hg hw hp_))
                     go_roundg k3
                     case measure => have := HK1.out; have := HK2.out; have := HK3.out; omega
                     case rel => exact ⟨(y478), (y474), (wrap64 (x46_3 + 1)), qc8f_, H', ⟨by have := HK1.out; have := HK2.out; have := HK3.out; omega⟩, ⟨q9d5_ HO_7.out⟩, ⟨qe0f_ HO476.out⟩, ⟨q0c4_⟩⟩
                    ·
                     rw [if_neg c25] at H
                     exact absurd H (by simp)
                   ·
                    rw [if_neg c24] at H
                    exact absurd H (by simp)
                  ·
                   rw [if_neg c22] at H
                   exact absurd H (by simp)
                ·
                 replace c18 := Bool.eq_false_iff.mpr c18
                 subst c18
                 rw [if_neg nf_] at H
                 simp only [Option.some.injEq, Prod.mk.injEq] at H
                 obtain ⟨rfl, rfl⟩ := H
                 have p471 : 0 ≤ (x46_3 : Int) := of_decide_eq_true qe84_
                 have q471 : x46_3 < ((rd_L3 l0 x40_2).length : Int) := of_decide_eq_true qe84_
                 obtain ⟨ad471, e471, hx471_0⟩ := Kd.at_int HR470_0.out x46_3 p471 q471
                 cases e471
                 (try (replace hx471_0 := (HB.out.cell (World.block_lt_of_cell? w _ hx471_0)).trans hx471_0))
                 replace p471 := eq_true p471
                 replace q471 := eq_true q471
                 go_wp2_with (first | ((with_reducible refine gate_callee (f := 35) rfl ?_); refine gl_ 54 Tryz.func35 #[.int .i64 (rd (rd_L3 l0 x40_2) x46_3), .int .i64 0, .int .i64 (wrap64 (x4_1 - 1))] ?_; (with_reducible refine (spec_l1In.calls (rd (rd_L3 l0 x40_2) x46_3) 0 (wrap64 (x4_1 - 1)) false _ A17.out).mono ?_); rintro e w' ⟨rfl, ⟨nd, rfl⟩⟩; refine ⟨_, rfl, ?_⟩))
                 go_ret2
                 exact ⟨_, qce7_, qf62_, q0c4_⟩
               ·
                rw [if_neg c16] at H
                exact absurd H (by simp)
              ·
               rw [if_neg c15] at H
               exact absurd H (by simp)
             ·
              rw [if_neg c14] at H
              have c14b0 := decide_eq_false c14
              clear c14
              have H' := Aside0.mk H
              clear H
              go_wp2
              go_roundg k3
              case measure => have := HK1.out; have := HK2.out; have := HK3.out; omega
              case rel => exact ⟨(x7_3), (x8_3), (wrap64 (x9_2 + ((rd_L3 l0 x40_2).length : Int))), (wrap64 (x40_2 + 1)), qc8f_, qc8f_, H', ⟨by have := HK1.out; have := HK2.out; have := HK3.out; omega⟩, ⟨q9d5_ HO_7.out⟩, ⟨q9d5_ HO_8.out⟩, ⟨q0c4_⟩⟩
          ·
           rw [if_neg c13] at H
           exact absurd H (by simp)
         ·
          rw [if_neg c12] at H
          exact absurd H (by simp)
        ·
         rw [if_neg c11] at H
         have c11b0 := decide_eq_false c11
         clear c11
         obtain ⟨⟨t479, t480⟩, A31, H⟩ := ob_ H
         dsimp only at H
         have HC32 := Aside0.mk H
         clear H
         obtain ⟨Ao33, co33, eo33⟩ := Kd.R_slice HO_7.out
         subst eo33
         go_upto_region 26 with (first | ((with_reducible refine gate_callee (f := 7) rfl ?_); refine gl_ 81 Tryz.func7 #[.slice Ao33 x7_2.length co33] ?_; (with_reducible refine (spec_UnitBlocks.calls k2 _ _ x7_2 t479 t480 _ ?s1 ?s2 A31.out).mono ?_); (case s1 => exact q5a8_ HO_7.out); (case s2 => exact (Kd.R_reads' HO_7.out).2.1); rintro e w34 ⟨v481, rfl, ho0, hb⟩; refine ⟨_, rfl, ?_⟩; have n0_ := Aside0.mk (Kd.R_below (q9d5_ HO_7.out) hb); have n1_ := Aside0.mk (Kd.R_below (q9d5_ HO_8.out) hb); have n2_ := Aside0.mk (Kd.S_lower (Kd.S_new' (Kd.S_new' ho0 (Kd.R_lt (q9d5_ HO_7.out))) (Kd.R_lt (q9d5_ HO_8.out))) (below_size q0c4_)); have n3_ := Aside0.mk (below_step q0c4_ hb); replace HO_7 := n0_; replace HO_8 := n1_; have HO482 := n2_; replace HB := n3_; clear n0_ n1_ n2_ n3_; clear hb ho0))
         (try simp only [Act.put, List.setIfInBounds_toArray, List.set_cons_zero, List.set_cons_succ])
         go_cut [92] (fun v92 wc => ∃ (kq : Nat) (x92_31 : Bool), v92 = .bool x92_31 ∧ Aside0 (spec_FromUnitBlocks.j3 kq l0 x7_2 t479 x92_31 = some (r1, r2)) ∧ Aside0 (kq ≤ k2) ∧ Aside0 (Kd.R (Kd.int .i64) 3 wc w.heap.size (fun _ => True) (.slice Ao33 x7_2.length co33) x7_2) ∧ Aside0 (Kd.S (Kd.slice 3 (Kd.int .i64)) 24 wc w.heap.size (fun k_ => some k_ ≠ ((.slice Ao33 x7_2.length co33) : Value).ownBlock) v481 t479) ∧ Aside0 (Below w.heap.size w wc))
         case first =>
          have H := HC32.out
          clear HC32
          by_cases c35 : t480 = true
          ·
           subst c35
           rw [if_pos rfl] at H
           have H' := Aside0.mk H
           clear H
           obtain ⟨Ao36, co36, eo36⟩ := Kd.S_slice HO482.out
           subst eo36
           go_wp2
           go_meet
           case rel => exact ⟨_, (((t479.length : Int) != (l0.length : Int))), qc8f_, H', ⟨q313_ HK1.out HK2.out⟩, ⟨q7d9_ HO_7.out⟩, ⟨q6e0_ HO482.out⟩, ⟨q0c4_⟩⟩
          ·
           replace c35 := Bool.eq_false_iff.mpr c35
           subst c35
           rw [if_neg nf_] at H
           have H' := Aside0.mk H
           clear H
           go_wp2
           go_meet
           case rel => exact ⟨_, (true), qc8f_, H', ⟨q313_ HK1.out HK2.out⟩, ⟨q7d9_ HO_7.out⟩, ⟨q6e0_ HO482.out⟩, ⟨q0c4_⟩⟩
         case rest =>
          clear HC32; try clear c1; try clear c2; try clear c2b0; try clear p2; try clear q2; try clear hx2; try clear hf2; try clear c3; try clear c3b0; try clear c4; try clear c4b0; try clear p4; try clear q4; try clear hx4; try clear c5; try clear c5b0; try clear c5b1; try clear c5b2; try clear c6; try clear c6b0; try clear p6; try clear c7; try clear c7b0; try clear c7b1; try clear c8; try clear c8b0; try clear c8b1; try clear c11; try clear c11b0; try clear c12; try clear c12b0; try clear c13; try clear c13b0; try clear c14; try clear c14b0; try clear c15; try clear c15b0; try clear c16; try clear c16b0; try clear c18; try clear c20; try clear c22; try clear c24; try clear c24b0; try clear c25; try clear c25b0; try clear p26; try clear q26; try clear hx26; try clear hf26; try clear c35; try clear hx26_0; try clear hx466_0; try clear hx470_0; try clear hx471_0; try clear p2; try clear p26; try clear p4; try clear p466; try clear p470; try clear p471; try clear p6; try clear q26; try clear q4; try clear q466; try clear q470; try clear q471
          obtain ⟨kq, x92_31, rfl, HA, HJ31, HO_7, HO_14, HB⟩ := hcut
          cases kq with
          | zero => exact absurd HA.out (by simp [spec_FromUnitBlocks.j3])
          | succ kj31 =>
           have H := HA.out
           clear HA
           simp only [spec_FromUnitBlocks.j3] at H
           by_cases c37 : x92_31 = true
           ·
            subst c37
            rw [if_pos rfl] at H
            simp only [Option.some.injEq, Prod.mk.injEq] at H
            obtain ⟨rfl, rfl⟩ := H
            go_wp2
            go_ret2
            exact ⟨_, qce7_, qf62_, q0c4_⟩
           ·
            replace c37 := Bool.eq_false_iff.mpr c37
            subst c37
            rw [if_neg nf_] at H
            have H' := Aside0.mk H
            clear H
            go_wp2
            go_loopg [95] kj31 (fun kq v95 w' => ∃ (x95_4 : Int), v95 = .int .i64 x95_4 ∧ Aside0 (spec_FromUnitBlocks.l3 kq x7_2 t479 l0 (l0.length : Int) x95_4 = some (r1, r2)) ∧ Aside0 (kq ≤ kj31) ∧ Aside0 (Kd.R (Kd.int .i64) 3 w' w.heap.size (fun _ => True) (.slice Ao33 x7_2.length co33) x7_2) ∧ Aside0 (Kd.S (Kd.slice 3 (Kd.int .i64)) 24 w' w.heap.size (fun k_ => some k_ ≠ ((.slice Ao33 x7_2.length co33) : Value).ownBlock) v481 t479) ∧ Aside0 (Below w.heap.size w w'))
            case atStart => exact ⟨(0), qc8f_, H', ⟨Nat.le_refl _⟩, ⟨q9d5_ HO_7.out⟩, ⟨qd7e_ HO_14.out⟩, ⟨q0c4_⟩⟩
            case round =>
             clear H'; try clear c1; try clear c2; try clear c2b0; try clear p2; try clear q2; try clear hx2; try clear hf2; try clear c3; try clear c3b0; try clear c4; try clear c4b0; try clear p4; try clear q4; try clear hx4; try clear c5; try clear c5b0; try clear c5b1; try clear c5b2; try clear c6; try clear c6b0; try clear p6; try clear c7; try clear c7b0; try clear c7b1; try clear c8; try clear c8b0; try clear c8b1; try clear c11; try clear c11b0; try clear c12; try clear c12b0; try clear c13; try clear c13b0; try clear c14; try clear c14b0; try clear c15; try clear c15b0; try clear c16; try clear c16b0; try clear c18; try clear c20; try clear c22; try clear c24; try clear c24b0; try clear c25; try clear c25b0; try clear p26; try clear q26; try clear hx26; try clear hf26; try clear c35; try clear c37; try clear hx26_0; try clear hx466_0; try clear hx470_0; try clear hx471_0; try clear p2; try clear p26; try clear p4; try clear p466; try clear p470; try clear p471; try clear p6; try clear q2; try clear q26; try clear q4; try clear q466; try clear q470; try clear q471
             obtain ⟨x95_4, rfl, HA, HK4, HO_7, HO_14, HB⟩ := hrel
             cases gk with
             | zero => exact absurd HA.out (by simp [spec_FromUnitBlocks.l3])
             | succ k4 =>
              have H := HA.out
              clear HA
              simp only [spec_FromUnitBlocks.l3] at H
              by_cases c38 : x95_4 < (l0.length : Int)
              ·
               rw [if_pos c38] at H
               have c38b0 := decide_eq_true c38
               clear c38
               by_cases c39 : 0 ≤ x95_4
               ·
                rw [if_pos c39] at H
                have c39b0 := decide_eq_true c39
                clear c39
                by_cases c40 : x95_4 < (l0.length : Int)
                ·
                 rw [if_pos c40] at H
                 have c40b0 := decide_eq_true c40
                 clear c40
                 by_cases c41 : x95_4 < (t479.length : Int)
                 ·
                  rw [if_pos c41] at H
                  have c41b0 := decide_eq_true c41
                  clear c41
                  obtain ⟨t485, A42, H⟩ := ob_ H
                  by_cases c43 : t485 = true
                  ·
                   subst c43
                   rw [if_pos rfl] at H
                   have H' := Aside0.mk H
                   clear H
                   have p483 : 0 ≤ (x95_4 : Int) := of_decide_eq_true qe84_
                   have q483 : x95_4 < (l0.length : Int) := of_decide_eq_true qe84_
                   obtain ⟨ad483, A483_0, c483_0, e483, hx483_0, hl483_0, hi483_0⟩ := at_L3 HR0.out x95_4 p483 q483
                   cases e483
                   (try (replace hx483_0 := (HB.out.cell (World.block_lt_of_cell? w _ hx483_0)).trans hx483_0))
                   have HR483_0 := Aside0.mk hi483_0
                   have HC483_0 := Aside0.mk hl483_0
                   clear hi483_0 hl483_0
                   replace p483 := eq_true p483
                   replace q483 := eq_true q483
                   obtain ⟨Ao44, co44, eo44⟩ := Kd.S_slice HO_14.out
                   subst eo44
                   have p484 : 0 ≤ (x95_4 : Int) := of_decide_eq_true qe84_
                   have q484 : x95_4 < (t479.length : Int) := of_decide_eq_true qe84_
                   obtain ⟨ad484, A484_0, c484_0, e484, hx484_0, hl484_0, hi484_0⟩ := at_L3 (Kd.S_reads' HO_14.out).2.2 x95_4 p484 q484
                   cases e484
                   obtain ⟨ce484, hce484, hMe484, hcc484⟩ := Kd.S_get HO_14.out [] x95_4 p484 (by first | exact q484 | exact of_decide_eq_true qe84_ | (have e_ := (Kd.S_reads' HO_14.out).1; omega))
                   obtain ⟨ve484_0, rfl, ge484_0⟩ := hMe484
                   have hv484_0 := hcc484 0 _ rfl
                   rw [Nat.add_zero, show ((Kd.slice 3 (Kd.int .i64))).sz = 1 from rfl, Nat.mul_one] at hv484_0
                   replace hv484_0 := Option.some.inj (hv484_0.symm.trans hx484_0)
                   rw [hv484_0] at ge484_0
                   have HL484_0 := Aside0.mk (show Kd.R (Kd.int .i64) 3 _ _ _ _ (rd_L3 t479 x95_4) from ge484_0)
                   clear hv484_0 ge484_0 hcc484 hce484
                   have HR484_0 := Aside0.mk hi484_0
                   have HC484_0 := Aside0.mk hl484_0
                   clear hi484_0 hl484_0
                   replace p484 := eq_true p484
                   replace q484 := eq_true q484
                   go_wp2_with (first | ((with_reducible refine gate_callee (f := 38) rfl ?_); refine gl_ 105 Tryz.func38 #[.slice A483_0 (rd_L3 l0 x95_4).length c483_0, .slice A484_0 (rd_L3 t479 x95_4).length c484_0] ?_; (with_reducible refine (spec_l1Same.calls k4 _ _ (rd_L3 l0 x95_4) _ _ (rd_L3 t479 x95_4) true _ ?s1 ?s2 ?s3 ?s4 A42.out).mono ?_); (case s1 => exact qe02_ HR483_0.out); (case s2 => exact HC483_0.out); (case s3 => exact qe8c_ HR484_0.out); (case s4 => exact HC484_0.out); rintro e w' ⟨rfl, ⟨nd, rfl⟩⟩; refine ⟨_, rfl, ?_⟩))
                   go_roundg k4
                   case measure => have := HK1.out; have := HK2.out; have := HJ31.out; have := HK4.out; omega
                   case rel => exact ⟨(wrap64 (x95_4 + 1)), qc8f_, H', ⟨by have := HK1.out; have := HK2.out; have := HJ31.out; have := HK4.out; omega⟩, ⟨q9d5_ HO_7.out⟩, ⟨qd7e_ HO_14.out⟩, ⟨q0c4_⟩⟩
                  ·
                   replace c43 := Bool.eq_false_iff.mpr c43
                   subst c43
                   rw [if_neg nf_] at H
                   simp only [Option.some.injEq, Prod.mk.injEq] at H
                   obtain ⟨rfl, rfl⟩ := H
                   have p483 : 0 ≤ (x95_4 : Int) := of_decide_eq_true qe84_
                   have q483 : x95_4 < (l0.length : Int) := of_decide_eq_true qe84_
                   obtain ⟨ad483, A483_0, c483_0, e483, hx483_0, hl483_0, hi483_0⟩ := at_L3 HR0.out x95_4 p483 q483
                   cases e483
                   (try (replace hx483_0 := (HB.out.cell (World.block_lt_of_cell? w _ hx483_0)).trans hx483_0))
                   have HR483_0 := Aside0.mk hi483_0
                   have HC483_0 := Aside0.mk hl483_0
                   clear hi483_0 hl483_0
                   replace p483 := eq_true p483
                   replace q483 := eq_true q483
                   obtain ⟨Ao45, co45, eo45⟩ := Kd.S_slice HO_14.out
                   subst eo45
                   have p484 : 0 ≤ (x95_4 : Int) := of_decide_eq_true qe84_
                   have q484 : x95_4 < (t479.length : Int) := of_decide_eq_true qe84_
                   obtain ⟨ad484, A484_0, c484_0, e484, hx484_0, hl484_0, hi484_0⟩ := at_L3 (Kd.S_reads' HO_14.out).2.2 x95_4 p484 q484
                   cases e484
                   obtain ⟨ce484, hce484, hMe484, hcc484⟩ := Kd.S_get HO_14.out [] x95_4 p484 (by first | exact q484 | exact of_decide_eq_true qe84_ | (have e_ := (Kd.S_reads' HO_14.out).1; omega))
                   obtain ⟨ve484_0, rfl, ge484_0⟩ := hMe484
                   have hv484_0 := hcc484 0 _ rfl
                   rw [Nat.add_zero, show ((Kd.slice 3 (Kd.int .i64))).sz = 1 from rfl, Nat.mul_one] at hv484_0
                   replace hv484_0 := Option.some.inj (hv484_0.symm.trans hx484_0)
                   rw [hv484_0] at ge484_0
                   have HL484_0 := Aside0.mk (show Kd.R (Kd.int .i64) 3 _ _ _ _ (rd_L3 t479 x95_4) from ge484_0)
                   clear hv484_0 ge484_0 hcc484 hce484
                   have HR484_0 := Aside0.mk hi484_0
                   have HC484_0 := Aside0.mk hl484_0
                   clear hi484_0 hl484_0
                   replace p484 := eq_true p484
                   replace q484 := eq_true q484
                   go_wp2_with (first | ((with_reducible refine gate_callee (f := 38) rfl ?_); refine gl_ 105 Tryz.func38 #[.slice A483_0 (rd_L3 l0 x95_4).length c483_0, .slice A484_0 (rd_L3 t479 x95_4).length c484_0] ?_; (with_reducible refine (spec_l1Same.calls k4 _ _ (rd_L3 l0 x95_4) _ _ (rd_L3 t479 x95_4) false _ ?s1 ?s2 ?s3 ?s4 A42.out).mono ?_); (case s1 => exact qe02_ HR483_0.out); (case s2 => exact HC483_0.out); (case s3 => exact qe8c_ HR484_0.out); (case s4 => exact HC484_0.out); rintro e w' ⟨rfl, ⟨nd, rfl⟩⟩; refine ⟨_, rfl, ?_⟩))
                   go_ret2
                   exact ⟨_, qce7_, qf62_, q0c4_⟩
                 ·
                  rw [if_neg c41] at H
                  exact absurd H (by simp)
                ·
                 rw [if_neg c40] at H
                 exact absurd H (by simp)
               ·
                rw [if_neg c39] at H
                exact absurd H (by simp)
              ·
               rw [if_neg c38] at H
               have c38b0 := decide_eq_false c38
               clear c38
               simp only [Option.some.injEq, Prod.mk.injEq] at H
               obtain ⟨rfl, rfl⟩ := H
               go_wp2
               go_ret2
               exact ⟨_, qce7_, q9d5_ HO_7.out, q0c4_⟩
     ·
      rw [if_neg c8] at H
      exact absurd H (by simp)
    ·
     rw [if_neg c7] at H
     exact absurd H (by simp)

/-! ### spec_DrawIsUnit: function 14 -/
def spec_DrawIsUnit.f (k : Nat) (l0 : List Int) : Option (List Int × Int) := (spec_l1Cur_park.f k l0 0 0 7).bind fun bt487 => ((spec_l1Cur_among.f l0 bt487.2.1 bt487.2.2 (([0, 1, 1, 2, 3, 8, 9, (-1)] : List Int))).bind fun bt495 => (some (bt487.1, bt495.1)))
theorem spec_DrawIsUnit.mono : ∀ a0 k, LeO (spec_DrawIsUnit.f k a0) (spec_DrawIsUnit.f (k + 1) a0) := by
 intro a0 k
 unfold spec_DrawIsUnit.f
 repeat' (with_reducible first | exact spec_l1Cur_park.mono _ _ _ _ _ | exact LeO.refl _ | exact LeO.none _ | refine LeO.ite ?_ ?_ | refine LeO.bind ?_ (fun _ => ?_))
theorem spec_DrawIsUnit.calls (k : Nat) (A0 : Option Addr) (c0 : Nat) (l0 : List Int) (r1 : List Int) (r2 : Int) (w : World) (hr0 : Kd.C (Kd.int .u8) w A0 l0.length l0) (hc0 : l0.length ≤ c0) (h : spec_DrawIsUnit.f k l0 = some (r1, r2)) :
  Calls Tryz.prog 14 #[.slice A0 l0.length c0] w fun e w' => ∃ v0_ : Value, e = .returned (.tuple #[v0_, .int .i64 r2]) ∧ Kd.R (Kd.int .i64) 3 w' w.heap.size (fun _ => True) v0_ r1 ∧ Below w.heap.size w w' := by
 have hu46 := Tryz.underlying46
 have HR0 := Aside0.mk hr0
 have HC0 := Aside0.mk hc0
 clear hr0 hc0
 have HB := Aside0.mk (Below.refl w.heap.size w)
 unfold spec_DrawIsUnit.f at h
 have H := h; clear h
 obtain ⟨⟨t487, t490, t491⟩, A2, H⟩ := ob_ H
 dsimp only at H
 obtain ⟨y492, hy492⟩ : ∃ y_ : List Int, y_ = (([0, 1, 1, 2, 3, 8, 9, (-1)] : List Int)) := ⟨_, rfl⟩
 replace H : ((spec_l1Cur_among.f l0 t490 t491 y492).bind fun bt495 => (some (t487, bt495.1))) = some (r1, r2) := by first | (rw [hy492]; with_reducible exact H) | (have H2_ := (Option.bind_some _ _).symm.trans H; rw [hy492]; with_reducible exact H2_) | (have H2_ := (Option.bind_some _ _).symm.trans H; with_reducible exact H2_) | with_reducible exact H | (rw [hy492]; exact H) | exact H
 have Ny492 := Aside0.mk hy492
 clear hy492
 obtain ⟨⟨t495, t496, t497⟩, A3, H⟩ := ob_ H
 dsimp only at H
 simp only [Option.some.injEq, Prod.mk.injEq] at H
 obtain ⟨rfl, rfl⟩ := H
 go_enter Tryz.func14, Tryz.ntmps14
 go_wp2_with (first | ((with_reducible refine gate_dst (N := 7) rfl ?_); refine box_event ?hg (N := 7) ?hd (cs := #[.slice A0 l0.length c0, .int .i64 0, .int .u64 0]) (t := 46) ?hr ?_; (case hd => rfl); (case hg => rfl); (case hr => exact qba7_); intro gb486 hg w4 hbox hb; have n0_ := Aside0.mk (below_step q0c4_ hb); have n1_ := Aside0.mk (hbox); have n2_ := Aside0.mk ((by rw [hg]; exact (below_size q0c4_) : w.heap.size ≤ gb486)); have n3_ := Aside0.mk ((by rw [hg]; exact (below_size q0c4_) : w.heap.size ≤ gb486)); have n4_ := Aside0.mk ((show IsS46 w w4 gb486 l0 0 0 from ⟨_, _, hbox, (by rw [hg]; exact (below_size q0c4_) : w.heap.size ≤ gb486), HR0.out⟩)); replace HB := n0_; have BK486 := n1_; have GW486 := n2_; have GE486 := n3_; have HI486 := n4_; clear n0_ n1_ n2_ n3_ n4_; clear hb hbox hg) | ((with_reducible refine gate_callee (f := 39) rfl ?_); refine gl_ 9 Tryz.func39 #[.pointer (some ⟨gb486, 0, none⟩), .int .i64 7] ?_; (with_reducible refine (spec_l1Cur_park.calls k gb486 l0 0 0 7 t487 t490 t491 w _ ?s1 ?s2 A2.out).mono ?_); (case s1 => exact qdc6_ HI486.out); (case s2 => exact q59b_ HI486.out); rintro e w5 ⟨v488, rfl, ho0, hi, hb, hk⟩; refine ⟨_, rfl, ?_⟩; have HO489 := Aside0.mk (Kd.R_lower ho0 (below_size (q59b_ HI486.out))); replace HB := Aside0.mk (hb); replace HI486 := Aside0.mk (hi); clear hb hk hi ho0) | ((with_reducible refine gate_dst (N := 11) rfl ?_); refine Kd.R_lit (Kd.int .i64) _ 3 ?hg (N := 11) ?hd (xs := ([0, 1, 1, 2, 3, 8, 9, (-1)] : List Int)) (inner := [.int .i64 0, .int .i64 1, .int .i64 1, .int .i64 2, .int .i64 3, .int .i64 8, .int .i64 9, .int .i64 (-1)]) (ok := fun _ => True) (okp := fun _ => True) ?hr ?hp (fun _ hk => hk) trivial (Below.refl _ _) (Nat.le_refl _) (by simp) ?_; (case hd => rfl); (case hg => rfl); (case hr => exact qba7_); (case hp => exact (Reps.one (show Kd.M (Kd.int .i64) _ _ _ 0 [.int .i64 0] from rfl) (Reps.one (show Kd.M (Kd.int .i64) _ _ _ 1 [.int .i64 1] from rfl) (Reps.one (show Kd.M (Kd.int .i64) _ _ _ 1 [.int .i64 1] from rfl) (Reps.one (show Kd.M (Kd.int .i64) _ _ _ 2 [.int .i64 2] from rfl) (Reps.one (show Kd.M (Kd.int .i64) _ _ _ 3 [.int .i64 3] from rfl) (Reps.one (show Kd.M (Kd.int .i64) _ _ _ 8 [.int .i64 8] from rfl) (Reps.one (show Kd.M (Kd.int .i64) _ _ _ 9 [.int .i64 9] from rfl) (Reps.one (show Kd.M (Kd.int .i64) _ _ _ (-1) [.int .i64 (-1)] from rfl) (Reps.none _ _)))))))))); intro v493 w6 ho7 hb hg_ hnew_; clear hg_ hnew_; (first | rw [← Ny492.out] at ho7 | (simp only [Int.reduceToNat] at ho7; rw [← Ny492.out] at ho7)); have n0_ := Aside0.mk (Kd.R_elder' (q9d5_ HO489.out) (Kd.R_base ho7) hb); have n1_ := Aside0.mk (Kd.R_lower (Kd.R_new' ho7 (Kd.R_lt (q9d5_ HO489.out))) (below_size (q59b_ HI486.out))); have n2_ := Aside0.mk (IsS46.below (qdc6_ HI486.out) hb); have n3_ := Aside0.mk (below_step (q59b_ HI486.out) hb); replace HO489 := n0_; have HO494 := n1_; replace HI486 := n2_; replace HB := n3_; clear n0_ n1_ n2_ n3_; clear hb ho7; obtain ⟨Ao8, co8, eo8⟩ := Kd.R_slice HO494.out; subst eo8) | ((with_reducible refine gate_callee (f := 40) rfl ?_); refine gl_ 12 Tryz.func40 #[.pointer (some ⟨gb486, 0, none⟩), .slice Ao8 y492.length co8] ?_; (with_reducible refine (spec_l1Cur_among.calls gb486 l0 t490 t491 _ _ y492 t495 t496 t497 w _ ?s1 ?s2 ?s3 ?s4 ?s5 A3.out).mono ?_); (case s1 => exact qdc6_ HI486.out); (case s2 => exact q59b_ HI486.out); (case s3 => exact q5a8_ HO494.out); (case s4 => exact (Kd.R_reads' HO494.out).2.1); (case s5 => exact far_slice (IsS46.own_ne HI486.out HO494.out (by decide))); rintro e w9 ⟨rfl, hi, hb, hk⟩; refine ⟨_, rfl, ?_⟩; replace HO489 := Aside0.mk (Kd.R_mono (Kd.R_keep (IsS46.apart (show IsS46 w _ gb486 l0 t490 t491 from qdc6_ HI486.out) (q9d5_ HO489.out) (by decide)) hk (fun _ h => h.2)) (fun _ h => h.1)); replace HO494 := Aside0.mk (Kd.R_mono (Kd.R_keep (IsS46.apart (show IsS46 w _ gb486 l0 t490 t491 from qdc6_ HI486.out) (q9d5_ HO494.out) (by decide)) hk (fun _ h => h.2)) (fun _ h => h.1)); replace HB := Aside0.mk (hb); replace HI486 := Aside0.mk (hi); clear hb hk hi))
 go_ret2
 exact ⟨_, qce7_, q7d9_ HO489.out, q59b_ HI486.out⟩

/-! ### spec_cnCars: function 41 -/
def spec_cnCars.f (a0 : Int) : Option (Bool) := (spec_l1In.f a0 0 8).bind fun t498 => (some t498)
theorem spec_cnCars.calls (a0 : Int) (r : Bool) (w : World) (h : spec_cnCars.f a0 = some r) :
  Calls Tryz.prog 41 #[.int .i64 a0] w fun e w' => e = .returned (.bool r) ∧ Drawn0 w w' := by
 unfold spec_cnCars.f at h
 have H := h; clear h
 obtain ⟨t498, A2, H⟩ := ob_ H
 obtain rfl := Option.some.inj H
 go_enter Tryz.func41, Tryz.ntmps41
 go_wp2_with (first | ((with_reducible refine gate_callee (f := 35) rfl ?_); refine gl_ 4 Tryz.func35 #[.int .i64 a0, .int .i64 0, .int .i64 8] ?_; (with_reducible refine (spec_l1In.calls a0 0 8 t498 _ A2.out).mono ?_); rintro e w' ⟨rfl, ⟨nd, rfl⟩⟩; refine ⟨_, rfl, ?_⟩))
 go_ret
 exact ⟨qc8f_, qffa_⟩

/-! ### spec_IsUnit: function 15 -/
def spec_IsUnit.f (k : Nat) (l0 : List Int) (a1 : Int) : Option (Bool × Bool) := (spec_paParking.f k l0).bind fun t499 => (if t499 = true then ((spec_cnCars.f a1).bind fun t500 => (if t500 = true then ((spec_vaUnit.f k l0 a1).bind fun t501 => (some (t501, true))) else (some (false, false)))) else (some (false, false)))
theorem spec_IsUnit.mono : ∀ a0 a1 k, LeO (spec_IsUnit.f k a0 a1) (spec_IsUnit.f (k + 1) a0 a1) := by
 intro a0 a1 k
 unfold spec_IsUnit.f
 repeat' (with_reducible first | exact spec_paParking.mono _ _ | exact spec_vaUnit.mono _ _ _ | exact LeO.refl _ | exact LeO.none _ | refine LeO.ite ?_ ?_ | refine LeO.bind ?_ (fun _ => ?_))
theorem spec_IsUnit.calls (k : Nat) (A0 : Option Addr) (c0 : Nat) (l0 : List Int) (a1 : Int) (r1 : Bool) (r2 : Bool) (w : World) (hr0 : Kd.C (Kd.int .i64) w A0 l0.length l0) (hc0 : l0.length ≤ c0) (h : spec_IsUnit.f k l0 a1 = some (r1, r2)) :
  Calls Tryz.prog 15 #[.slice A0 l0.length c0, .int .i64 a1] w fun e w' => e = .returned (.tuple #[.bool r1, .bool r2]) ∧ Below w.heap.size w w' := by
 have HR0 := Aside0.mk hr0
 have HC0 := Aside0.mk hc0
 clear hr0 hc0
 have HB := Aside0.mk (Below.refl w.heap.size w)
 unfold spec_IsUnit.f at h
 have H := h; clear h
 obtain ⟨t499, A3, H⟩ := ob_ H
 by_cases c4 : t499 = true
 ·
  subst c4
  rw [if_pos rfl] at H
  obtain ⟨t500, A5, H⟩ := ob_ H
  by_cases c6 : t500 = true
  ·
   subst c6
   rw [if_pos rfl] at H
   obtain ⟨t501, A7, H⟩ := ob_ H
   simp only [Option.some.injEq, Prod.mk.injEq] at H
   obtain ⟨rfl, rfl⟩ := H
   go_enter Tryz.func15, Tryz.ntmps15
   go_wp2_with (first | ((with_reducible refine gate_callee (f := 24) rfl ?_); refine gl_ 7 Tryz.func24 #[.slice A0 l0.length c0] ?_; (with_reducible refine (spec_paParking.calls k _ _ l0 true _ ?s1 ?s2 A3.out).mono ?_); (case s1 => exact q201_ HR0.out); (case s2 => exact HC0.out); rintro e w8 ⟨rfl, hb⟩; refine ⟨_, rfl, ?_⟩; replace HB := Aside0.mk (below_step q0c4_ hb); clear hb) | (go_at_call 41; (with_reducible refine (spec_cnCars.calls a1 true _ A5.out).mono ?_); rintro e w' ⟨rfl, ⟨nd, rfl⟩⟩) | ((with_reducible refine gate_callee (f := 25) rfl ?_); refine gl_ 16 Tryz.func25 #[.slice A0 l0.length c0, .int .i64 a1] ?_; (with_reducible refine (spec_vaUnit.calls k _ _ l0 a1 t501 _ ?s1 ?s2 A7.out).mono ?_); (case s1 => exact q749_ HR0.out); (case s2 => exact HC0.out); rintro e w9 ⟨rfl, hb⟩; refine ⟨_, rfl, ?_⟩; replace HB := Aside0.mk (below_step q0c4_ hb); clear hb))
   go_ret2
   exact ⟨qce7_, q0c4_⟩
  ·
   replace c6 := Bool.eq_false_iff.mpr c6
   subst c6
   rw [if_neg nf_] at H
   simp only [Option.some.injEq, Prod.mk.injEq] at H
   obtain ⟨rfl, rfl⟩ := H
   go_enter Tryz.func15, Tryz.ntmps15
   go_wp2_with (first | ((with_reducible refine gate_callee (f := 24) rfl ?_); refine gl_ 7 Tryz.func24 #[.slice A0 l0.length c0] ?_; (with_reducible refine (spec_paParking.calls k _ _ l0 true _ ?s1 ?s2 A3.out).mono ?_); (case s1 => exact q201_ HR0.out); (case s2 => exact HC0.out); rintro e w10 ⟨rfl, hb⟩; refine ⟨_, rfl, ?_⟩; replace HB := Aside0.mk (below_step q0c4_ hb); clear hb) | (go_at_call 41; (with_reducible refine (spec_cnCars.calls a1 false _ A5.out).mono ?_); rintro e w' ⟨rfl, ⟨nd, rfl⟩⟩))
   go_ret2
   exact ⟨qce7_, q0c4_⟩
 ·
  replace c4 := Bool.eq_false_iff.mpr c4
  subst c4
  rw [if_neg nf_] at H
  simp only [Option.some.injEq, Prod.mk.injEq] at H
  obtain ⟨rfl, rfl⟩ := H
  go_enter Tryz.func15, Tryz.ntmps15
  go_wp2_with (first | ((with_reducible refine gate_callee (f := 24) rfl ?_); refine gl_ 7 Tryz.func24 #[.slice A0 l0.length c0] ?_; (with_reducible refine (spec_paParking.calls k _ _ l0 false _ ?s1 ?s2 A3.out).mono ?_); (case s1 => exact q201_ HR0.out); (case s2 => exact HC0.out); rintro e w11 ⟨rfl, hb⟩; refine ⟨_, rfl, ?_⟩; replace HB := Aside0.mk (below_step q0c4_ hb); clear hb))
  go_ret2
  exact ⟨qce7_, q0c4_⟩

/-! ### spec_DrawCountUnit: function 16 -/
def spec_DrawCountUnit.f (l0 : List Int) : Option (Int × Int) := (spec_l1Cur_among.f l0 0 0 (([0, 1, 2, 3, 4, 4, 5, 6, (-1)] : List Int))).bind fun bt506 => ((spec_l1Cur_among.f l0 bt506.2.1 bt506.2.2 (([0, 1, 1, 2, 3, 8, 9, (-1)] : List Int))).bind fun bt512 => (some (bt506.1, bt512.1)))
theorem spec_DrawCountUnit.calls (A0 : Option Addr) (c0 : Nat) (l0 : List Int) (r1 : Int) (r2 : Int) (w : World) (hr0 : Kd.C (Kd.int .u8) w A0 l0.length l0) (hc0 : l0.length ≤ c0) (h : spec_DrawCountUnit.f l0 = some (r1, r2)) :
  Calls Tryz.prog 16 #[.slice A0 l0.length c0] w fun e w' => e = .returned (.tuple #[.int .i64 r1, .int .i64 r2]) ∧ Below w.heap.size w w' := by
 have hu46 := Tryz.underlying46
 have HR0 := Aside0.mk hr0
 have HC0 := Aside0.mk hc0
 clear hr0 hc0
 have HB := Aside0.mk (Below.refl w.heap.size w)
 unfold spec_DrawCountUnit.f at h
 have H := h; clear h
 obtain ⟨y503, hy503⟩ : ∃ y_ : List Int, y_ = (([0, 1, 2, 3, 4, 4, 5, 6, (-1)] : List Int)) := ⟨_, rfl⟩
 replace H : ((spec_l1Cur_among.f l0 0 0 y503).bind fun bt506 => ((spec_l1Cur_among.f l0 bt506.2.1 bt506.2.2 (([0, 1, 1, 2, 3, 8, 9, (-1)] : List Int))).bind fun bt512 => (some (bt506.1, bt512.1)))) = some (r1, r2) := by first | (rw [hy503]; with_reducible exact H) | (have H2_ := (Option.bind_some _ _).symm.trans H; rw [hy503]; with_reducible exact H2_) | (have H2_ := (Option.bind_some _ _).symm.trans H; with_reducible exact H2_) | with_reducible exact H | (rw [hy503]; exact H) | exact H
 have Ny503 := Aside0.mk hy503
 clear hy503
 obtain ⟨⟨t506, t507, t508⟩, A2, H⟩ := ob_ H
 dsimp only at H
 obtain ⟨y509, hy509⟩ : ∃ y_ : List Int, y_ = (([0, 1, 1, 2, 3, 8, 9, (-1)] : List Int)) := ⟨_, rfl⟩
 replace H : ((spec_l1Cur_among.f l0 t507 t508 y509).bind fun bt512 => (some (t506, bt512.1))) = some (r1, r2) := by first | (rw [hy509]; with_reducible exact H) | (have H2_ := (Option.bind_some _ _).symm.trans H; rw [hy509]; with_reducible exact H2_) | (have H2_ := (Option.bind_some _ _).symm.trans H; with_reducible exact H2_) | with_reducible exact H | (rw [hy509]; exact H) | exact H
 have Ny509 := Aside0.mk hy509
 clear hy509
 obtain ⟨⟨t512, t513, t514⟩, A3, H⟩ := ob_ H
 dsimp only at H
 simp only [Option.some.injEq, Prod.mk.injEq] at H
 obtain ⟨rfl, rfl⟩ := H
 go_enter Tryz.func16, Tryz.ntmps16
 go_wp2_with (first | ((with_reducible refine gate_dst (N := 7) rfl ?_); refine box_event ?hg (N := 7) ?hd (cs := #[.slice A0 l0.length c0, .int .i64 0, .int .u64 0]) (t := 46) ?hr ?_; (case hd => rfl); (case hg => rfl); (case hr => exact qba7_); intro gb502 hg w4 hbox hb; have n0_ := Aside0.mk (below_step q0c4_ hb); have n1_ := Aside0.mk (hbox); have n2_ := Aside0.mk ((by rw [hg]; exact (below_size q0c4_) : w.heap.size ≤ gb502)); have n3_ := Aside0.mk ((by rw [hg]; exact (below_size q0c4_) : w.heap.size ≤ gb502)); have n4_ := Aside0.mk ((show IsS46 w w4 gb502 l0 0 0 from ⟨_, _, hbox, (by rw [hg]; exact (below_size q0c4_) : w.heap.size ≤ gb502), HR0.out⟩)); replace HB := n0_; have BK502 := n1_; have GW502 := n2_; have GE502 := n3_; have HI502 := n4_; clear n0_ n1_ n2_ n3_ n4_; clear hb hbox hg) | ((with_reducible refine gate_dst (N := 9) rfl ?_); refine Kd.R_lit (Kd.int .i64) _ 3 ?hg (N := 9) ?hd (xs := ([0, 1, 2, 3, 4, 4, 5, 6, (-1)] : List Int)) (inner := [.int .i64 0, .int .i64 1, .int .i64 2, .int .i64 3, .int .i64 4, .int .i64 4, .int .i64 5, .int .i64 6, .int .i64 (-1)]) (ok := fun _ => True) (okp := fun _ => True) ?hr ?hp (fun _ hk => hk) trivial (Below.refl _ _) (Nat.le_refl _) (by simp) ?_; (case hd => rfl); (case hg => rfl); (case hr => exact qba7_); (case hp => exact (Reps.one (show Kd.M (Kd.int .i64) _ _ _ 0 [.int .i64 0] from rfl) (Reps.one (show Kd.M (Kd.int .i64) _ _ _ 1 [.int .i64 1] from rfl) (Reps.one (show Kd.M (Kd.int .i64) _ _ _ 2 [.int .i64 2] from rfl) (Reps.one (show Kd.M (Kd.int .i64) _ _ _ 3 [.int .i64 3] from rfl) (Reps.one (show Kd.M (Kd.int .i64) _ _ _ 4 [.int .i64 4] from rfl) (Reps.one (show Kd.M (Kd.int .i64) _ _ _ 4 [.int .i64 4] from rfl) (Reps.one (show Kd.M (Kd.int .i64) _ _ _ 5 [.int .i64 5] from rfl) (Reps.one (show Kd.M (Kd.int .i64) _ _ _ 6 [.int .i64 6] from rfl) (Reps.one (show Kd.M (Kd.int .i64) _ _ _ (-1) [.int .i64 (-1)] from rfl) (Reps.none _ _))))))))))); intro v504 w5 ho6 hb hg_ hnew_; clear hg_ hnew_; (first | rw [← Ny503.out] at ho6 | (simp only [Int.reduceToNat] at ho6; rw [← Ny503.out] at ho6)); have n0_ := Aside0.mk (Kd.R_lower ho6 (below_size (q59b_ HI502.out))); have n1_ := Aside0.mk (IsS46.below (qdc6_ HI502.out) hb); have n2_ := Aside0.mk (below_step (q59b_ HI502.out) hb); have HO505 := n0_; replace HI502 := n1_; replace HB := n2_; clear n0_ n1_ n2_; clear hb ho6; obtain ⟨Ao7, co7, eo7⟩ := Kd.R_slice HO505.out; subst eo7) | ((with_reducible refine gate_callee (f := 40) rfl ?_); refine gl_ 10 Tryz.func40 #[.pointer (some ⟨gb502, 0, none⟩), .slice Ao7 y503.length co7] ?_; (with_reducible refine (spec_l1Cur_among.calls gb502 l0 0 0 _ _ y503 t506 t507 t508 w _ ?s1 ?s2 ?s3 ?s4 ?s5 A2.out).mono ?_); (case s1 => exact qdc6_ HI502.out); (case s2 => exact q59b_ HI502.out); (case s3 => exact q5a8_ HO505.out); (case s4 => exact (Kd.R_reads' HO505.out).2.1); (case s5 => exact far_slice (IsS46.own_ne HI502.out HO505.out (by decide))); rintro e w8 ⟨rfl, hi, hb, hk⟩; refine ⟨_, rfl, ?_⟩; replace HO505 := Aside0.mk (Kd.R_mono (Kd.R_keep (IsS46.apart (show IsS46 w _ gb502 l0 0 0 from qdc6_ HI502.out) (q9d5_ HO505.out) (by decide)) hk (fun _ h => h.2)) (fun _ h => h.1)); replace HB := Aside0.mk (hb); replace HI502 := Aside0.mk (hi); clear hb hk hi) | ((with_reducible refine gate_dst (N := 12) rfl ?_); refine Kd.R_lit (Kd.int .i64) _ 3 ?hg (N := 12) ?hd (xs := ([0, 1, 1, 2, 3, 8, 9, (-1)] : List Int)) (inner := [.int .i64 0, .int .i64 1, .int .i64 1, .int .i64 2, .int .i64 3, .int .i64 8, .int .i64 9, .int .i64 (-1)]) (ok := fun _ => True) (okp := fun _ => True) ?hr ?hp (fun _ hk => hk) trivial (Below.refl _ _) (Nat.le_refl _) (by simp) ?_; (case hd => rfl); (case hg => rfl); (case hr => exact qba7_); (case hp => exact (Reps.one (show Kd.M (Kd.int .i64) _ _ _ 0 [.int .i64 0] from rfl) (Reps.one (show Kd.M (Kd.int .i64) _ _ _ 1 [.int .i64 1] from rfl) (Reps.one (show Kd.M (Kd.int .i64) _ _ _ 1 [.int .i64 1] from rfl) (Reps.one (show Kd.M (Kd.int .i64) _ _ _ 2 [.int .i64 2] from rfl) (Reps.one (show Kd.M (Kd.int .i64) _ _ _ 3 [.int .i64 3] from rfl) (Reps.one (show Kd.M (Kd.int .i64) _ _ _ 8 [.int .i64 8] from rfl) (Reps.one (show Kd.M (Kd.int .i64) _ _ _ 9 [.int .i64 9] from rfl) (Reps.one (show Kd.M (Kd.int .i64) _ _ _ (-1) [.int .i64 (-1)] from rfl) (Reps.none _ _)))))))))); intro v510 w9 ho10 hb hg_ hnew_; clear hg_ hnew_; (first | rw [← Ny509.out] at ho10 | (simp only [Int.reduceToNat] at ho10; rw [← Ny509.out] at ho10)); have n0_ := Aside0.mk (Kd.R_elder' (q9d5_ HO505.out) (Kd.R_base ho10) hb); have n1_ := Aside0.mk (Kd.R_lower (Kd.R_new' ho10 (Kd.R_lt (q9d5_ HO505.out))) (below_size (q59b_ HI502.out))); have n2_ := Aside0.mk (IsS46.below (qdc6_ HI502.out) hb); have n3_ := Aside0.mk (below_step (q59b_ HI502.out) hb); replace HO505 := n0_; have HO511 := n1_; replace HI502 := n2_; replace HB := n3_; clear n0_ n1_ n2_ n3_; clear hb ho10; obtain ⟨Ao11, co11, eo11⟩ := Kd.R_slice HO511.out; subst eo11) | ((with_reducible refine gate_callee (f := 40) rfl ?_); refine gl_ 13 Tryz.func40 #[.pointer (some ⟨gb502, 0, none⟩), .slice Ao11 y509.length co11] ?_; (with_reducible refine (spec_l1Cur_among.calls gb502 l0 t507 t508 _ _ y509 t512 t513 t514 w _ ?s1 ?s2 ?s3 ?s4 ?s5 A3.out).mono ?_); (case s1 => exact qdc6_ HI502.out); (case s2 => exact q59b_ HI502.out); (case s3 => exact q5a8_ HO511.out); (case s4 => exact (Kd.R_reads' HO511.out).2.1); (case s5 => exact far_slice (IsS46.own_ne HI502.out HO511.out (by decide))); rintro e w12 ⟨rfl, hi, hb, hk⟩; refine ⟨_, rfl, ?_⟩; replace HO505 := Aside0.mk (Kd.R_mono (Kd.R_keep (IsS46.apart (show IsS46 w _ gb502 l0 t507 t508 from qdc6_ HI502.out) (q9d5_ HO505.out) (by decide)) hk (fun _ h => h.2)) (fun _ h => h.1)); replace HO511 := Aside0.mk (Kd.R_mono (Kd.R_keep (IsS46.apart (show IsS46 w _ gb502 l0 t507 t508 from qdc6_ HI502.out) (q9d5_ HO511.out) (by decide)) hk (fun _ h => h.2)) (fun _ h => h.1)); replace HB := Aside0.mk (hb); replace HI502 := Aside0.mk (hi); clear hb hk hi))
 go_ret2
 exact ⟨qce7_, q59b_ HI502.out⟩

/-! ### impl_power: function 59 -/
def impl_power.l0 : Nat → Int → Int → Int → Int → Option (Int)
 | 0, _, _, _, _ => none
 | k + 1, x0, x5, x6, x7 => if x7 < x6 then (impl_power.l0 k x0 (wrap64 (x5 * x0)) x6 (wrap64 (x7 + 1))) else (some x5)
def impl_power.f (k : Nat) (a0 : Int) (a1 : Int) : Option (Int) := impl_power.l0 k a0 1 a1 0
theorem impl_power.mono_l : ∀ k, (∀ y0 y1 y2 y3, LeO (impl_power.l0 k y0 y1 y2 y3) (impl_power.l0 (k + 1) y0 y1 y2 y3))
 | 0 => fun _ _ _ _ r h => by simp [impl_power.l0] at h
 | k + 1 => by
  have ih0 := impl_power.mono_l k
  ·
   intro y0 y1 y2 y3
   unfold impl_power.l0
   repeat' (with_reducible first | exact ih0 _ _ _ _ | exact LeO.refl _ | exact LeO.none _ | refine LeO.ite ?_ ?_ | refine LeO.bind ?_ (fun _ => ?_))
theorem impl_power.mono : ∀ a0 a1 k, LeO (impl_power.f k a0 a1) (impl_power.f (k + 1) a0 a1) := by
 intro a0 a1 k
 have ih0 := impl_power.mono_l k
 unfold impl_power.f
 repeat' (with_reducible first | exact ih0 _ _ _ _ | exact LeO.refl _ | exact LeO.none _ | refine LeO.ite ?_ ?_ | refine LeO.bind ?_ (fun _ => ?_))
theorem impl_power.calls (k : Nat) (a0 : Int) (a1 : Int) (r : Int) (w : World) (h : impl_power.f k a0 a1 = some r) :
  Calls Tryz.prog 59 #[.int .i64 a0, .int .i64 a1] w fun e w' => e = .returned (.int .i64 r) ∧ Drawn0 w w' := by
 unfold impl_power.f at h
 have H := h; clear h
 have H' := Aside0.mk H
 clear H
 go_enter Tryz.func59, Tryz.ntmps59
 go_wp2
 go_loopg [5, 7] k (fun kq v5 v7 w' => ∃ (x5_1 : Int) (x7_1 : Int), v5 = .int .i64 x5_1 ∧ v7 = .int .i64 x7_1 ∧ Aside0 (impl_power.l0 kq a0 x5_1 a1 x7_1 = some r) ∧ Aside0 (kq ≤ k) ∧ Drawn0 w w')
 case atStart => exact ⟨(1), (0), qc8f_, qc8f_, H', ⟨Nat.le_refl _⟩, qffa_⟩
 case round =>
  clear H'; try clear p2
  obtain ⟨x5_1, x7_1, rfl, rfl, HA, HK1, ⟨m1, rfl⟩⟩ := hrel
  cases gk with
  | zero => exact absurd HA.out (by simp [impl_power.l0])
  | succ k1 =>
   have H := HA.out
   clear HA
   simp only [impl_power.l0] at H
   by_cases c3 : x7_1 < a1
   ·
    rw [if_pos c3] at H
    have c3b0 := decide_eq_true c3
    clear c3
    have H' := Aside0.mk H
    clear H
    go_wp2
    go_roundg k1
    case measure => have := HK1.out; omega
    case rel => exact ⟨(wrap64 (x5_1 * a0)), (wrap64 (x7_1 + 1)), qc8f_, qc8f_, H', ⟨q1d0_ HK1.out⟩, qffa_⟩
   ·
    rw [if_neg c3] at H
    have c3b0 := decide_eq_false c3
    clear c3
    obtain rfl := Option.some.inj H
    go_wp2
    go_ret
    exact ⟨qc8f_, qffa_⟩

/-! ### impl_countParking: function 45 -/
def impl_countParking.f (k : Nat) (a0 : Int) : Option (Int) := (impl_power.f k (wrap64 (a0 + 1)) (mx (wrap64 (a0 - 1)) 0)).bind fun t515 => (some t515)
theorem impl_countParking.mono : ∀ a0 k, LeO (impl_countParking.f k a0) (impl_countParking.f (k + 1) a0) := by
 intro a0 k
 unfold impl_countParking.f
 repeat' (with_reducible first | exact impl_power.mono _ _ _ | exact LeO.refl _ | exact LeO.none _ | refine LeO.ite ?_ ?_ | refine LeO.bind ?_ (fun _ => ?_))
theorem impl_countParking.calls (k : Nat) (a0 : Int) (r : Int) (w : World) (h : impl_countParking.f k a0 = some r) :
  Calls Tryz.prog 45 #[.int .i64 a0] w fun e w' => e = .returned (.int .i64 r) ∧ Below w.heap.size w w' := by
 have HB := Aside0.mk (Below.refl w.heap.size w)
 unfold impl_countParking.f at h
 have H := h; clear h
 obtain ⟨ji2, hji2⟩ : ∃ j_ : Int, (mx (wrap64 (a0 - 1)) 0) = j_ := ⟨_, rfl⟩
 replace H : ((impl_power.f k (wrap64 (a0 + 1)) (ji2)).bind fun t515 => (some t515)) = some r := by first | (rw [hji2] at H; exact H) | (simp only [hji2] at H ⊢; exact H)
 (try (have hji2l : 0 ≤ ji2 := by (rw [← hji2]; unfold mx; (repeat' split) <;> omega)))
 (try (have hji2m : 0 ≤ ji2 := by omega))
 have hji2_ : (if (wrap64 (a0 - 1)) < 0 then 0 else (wrap64 (a0 - 1))) = ji2 := hji2
 obtain ⟨t515, A3, H⟩ := ob_ H
 obtain rfl := Option.some.inj H
 go_enter Tryz.func45, Tryz.ntmps45
 go_wp2_with (first | ((with_reducible refine gate_callee (f := 59) rfl ?_); refine goesL_ (some 8) rfl rfl Tryz.func59 (by kernel_rfl) rfl #[.int .i64 (wrap64 (a0 + 1)), .int .i64 ji2] rfl (by (try simp only [List.map_toArray, List.map_cons, List.map_nil]); first | done | (simp only [hji2]; rfl) | rfl | (simp only [List.length_drop, List.length_take]; rfl)) ?_; (with_reducible refine (impl_power.calls k (wrap64 (a0 + 1)) ji2 t515 _ A3.out).mono ?_); rintro e w' ⟨rfl, ⟨nd, rfl⟩⟩; refine ⟨_, rfl, ?_⟩))
 go_ret
 exact ⟨by first | rfl | (simp [errW_none, errW_some] <;> rfl) | (simp only [← hji2]; first | rfl | (simp [errW_none, errW_some] <;> rfl)) | (simp [*, errW_none, errW_some] <;> rfl), q0c4_⟩

/-! ### impl_choose: function 79 -/
def impl_choose.l0 : Nat → Int → Int → Int → Int → Option (Int)
 | 0, _, _, _, _ => none
 | k + 1, x0, x5, x7, x8 => if x8 < x7 then (if (wrap64 (x8 + 1)) = 0 then (none) else (impl_choose.l0 k x0 (wrap64 (Int.tdiv (wrap64 (x5 * (wrap64 (x0 - x8)))) (wrap64 (x8 + 1)))) x7 (wrap64 (x8 + 1)))) else (some x5)
def impl_choose.f (k : Nat) (a0 : Int) (a1 : Int) : Option (Int) := impl_choose.l0 k a0 1 a1 0
theorem impl_choose.mono_l : ∀ k, (∀ y0 y1 y2 y3, LeO (impl_choose.l0 k y0 y1 y2 y3) (impl_choose.l0 (k + 1) y0 y1 y2 y3))
 | 0 => fun _ _ _ _ r h => by simp [impl_choose.l0] at h
 | k + 1 => by
  have ih0 := impl_choose.mono_l k
  ·
   intro y0 y1 y2 y3
   unfold impl_choose.l0
   repeat' (with_reducible first | exact ih0 _ _ _ _ | exact LeO.refl _ | exact LeO.none _ | refine LeO.ite ?_ ?_ | refine LeO.bind ?_ (fun _ => ?_))
theorem impl_choose.mono : ∀ a0 a1 k, LeO (impl_choose.f k a0 a1) (impl_choose.f (k + 1) a0 a1) := by
 intro a0 a1 k
 have ih0 := impl_choose.mono_l k
 unfold impl_choose.f
 repeat' (with_reducible first | exact ih0 _ _ _ _ | exact LeO.refl _ | exact LeO.none _ | refine LeO.ite ?_ ?_ | refine LeO.bind ?_ (fun _ => ?_))
theorem impl_choose.calls (k : Nat) (a0 : Int) (a1 : Int) (r : Int) (w : World) (h : impl_choose.f k a0 a1 = some r) :
  Calls Tryz.prog 79 #[.int .i64 a0, .int .i64 a1] w fun e w' => e = .returned (.int .i64 r) ∧ Drawn0 w w' := by
 unfold impl_choose.f at h
 have H := h; clear h
 have H' := Aside0.mk H
 clear H
 go_enter Tryz.func79, Tryz.ntmps79
 go_wp2
 go_loopg [5, 8] k (fun kq v5 v8 w' => ∃ (x5_1 : Int) (x8_1 : Int), v5 = .int .i64 x5_1 ∧ v8 = .int .i64 x8_1 ∧ Aside0 (impl_choose.l0 kq a0 x5_1 a1 x8_1 = some r) ∧ Aside0 (kq ≤ k) ∧ Drawn0 w w')
 case atStart => exact ⟨(1), (0), qc8f_, qc8f_, H', ⟨Nat.le_refl _⟩, qffa_⟩
 case round =>
  clear H'; try clear p2
  obtain ⟨x5_1, x8_1, rfl, rfl, HA, HK1, ⟨m1, rfl⟩⟩ := hrel
  cases gk with
  | zero => exact absurd HA.out (by simp [impl_choose.l0])
  | succ k1 =>
   have H := HA.out
   clear HA
   simp only [impl_choose.l0] at H
   by_cases c3 : x8_1 < a1
   ·
    rw [if_pos c3] at H
    have c3b0 := decide_eq_true c3
    clear c3
    by_cases c4 : (wrap64 (x8_1 + 1)) = 0
    ·
     rw [if_pos c4] at H
     exact absurd H (by simp)
    ·
     rw [if_neg c4] at H
     have c4b0 := beq_eq_false_iff_ne.mpr c4
     have c4b1 := bne_iff_ne.mpr c4
     have H' := Aside0.mk H
     clear H
     go_wp2
     go_roundg k1
     case measure => have := HK1.out; omega
     case rel => exact ⟨(wrap64 (Int.tdiv (wrap64 (x5_1 * (wrap64 (a0 - x8_1)))) (wrap64 (x8_1 + 1)))), (wrap64 (x8_1 + 1)), qc8f_, qc8f_, H', ⟨q1d0_ HK1.out⟩, qffa_⟩
   ·
    rw [if_neg c3] at H
    have c3b0 := decide_eq_false c3
    clear c3
    obtain rfl := Option.some.inj H
    go_wp2
    go_ret
    exact ⟨qc8f_, qffa_⟩

end Go.Proofs.YtleemfmhilhklaaGreat.PAll
