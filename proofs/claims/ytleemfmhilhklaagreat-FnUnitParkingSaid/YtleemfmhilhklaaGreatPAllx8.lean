-- written by a program of this session (wip/gen/xpatch.py over the translation); Lean checks it
import Derived.Test.YtleemfmhilhklaaGreatPAllx0
import Derived.Test.YtleemfmhilhklaaGreatPAllx1
import Derived.Test.YtleemfmhilhklaaGreatPAllx2
import Derived.Test.YtleemfmhilhklaaGreatPAllx3
import Derived.Test.YtleemfmhilhklaaGreatPAllx4
import Derived.Test.YtleemfmhilhklaaGreatPAllx5
import Derived.Test.YtleemfmhilhklaaGreatPAllx6
import Derived.Test.YtleemfmhilhklaaGreatPAllx7
namespace Go.Proofs.YtleemfmhilhklaaGreat.PAll
open Go.RowKit Go.Proofs.YtleemfmhilhklaaGreat.Hand Go.Proofs.YtleemfmhilhklaaGreatW.PrintWords Go.Proofs.YtleemfmhilhklaaGreatW.PrintLast Go.Proofs.YtleemfmhilhklaaGreatW.PrintMore
attribute [local go_sem] max2_int min2_int max_two min_two max_three min_three max_four min_four   -- for this text's walks alone
set_option maxHeartbeats 8000000
set_option maxRecDepth 100000
set_option linter.unusedVariables false
set_option linter.unusedSimpArgs false

/-! ### laws_FnUnitParking: function 3 -/
mutual
def laws_FnUnitParking.j0 : Nat → List Int → List Int → List (List Int) → Bool → Bool → Option (Bool)
 | 0, _, _, _, _, _ => none
 | k + 1, x1, x5, x6, x7, x72 => if x72 = true then (none) else (if x7 = true then ((impl_FromUnitBlocks.f k x6).bind fun bt618 => (if bt618.2 = true then ((laws_jSame.f k bt618.1 x5).bind fun t622 => (if t622 = true then (laws_FnUnitParking.l0 k x1 x6 (x6.length : Int) 0) else (none))) else (none))) else (laws_FnUnitParking.j3 k x1))
def laws_FnUnitParking.j3 : Nat → List Int → Option (Bool)
 | 0, _ => none
 | k + 1, x1 => (spec_DrawFromUnitBlocks.f k x1).bind fun t626 => ((impl_FromUnitBlocks.f k t626).bind fun bt629 => ((spec_FromUnitBlocks.f k t626).bind fun bt633 => (if (bt629.2 != bt633.2) = true then (none) else ((laws_jSame.f k bt629.1 bt633.1).bind fun t637 => (if t637 = true then ((spec_DrawIsUnit.f k x1).bind fun bt638 => ((impl_IsUnit.f k bt638.1 bt638.2).bind fun bt642 => ((spec_IsUnit.f k bt638.1 bt638.2).bind fun bt644 => (if (bt642.2 != bt644.2) = true then (none) else (if (bt642.1 != bt644.1) = true then (none) else ((spec_DrawCountUnit.f x1).bind fun bt646 => ((impl_CountUnit.f k bt646.1 bt646.2).bind fun bt648 => ((spec_CountUnit.f k bt646.1 bt646.2).bind fun bt650 => (if (bt648.2 != bt650.2) = true then (none) else (if bt648.1 = bt650.1 then (if bt648.2 = true then (laws_FnUnitParking.j4 k bt646.1 bt646.2 bt648.1 (decide (bt646.2 < 8))) else (laws_FnUnitParking.j4 k bt646.1 bt646.2 bt648.1 false)) else (none))))))))))) else (none))))))
def laws_FnUnitParking.j4 : Nat → Int → Int → Int → Bool → Option (Bool)
 | 0, _, _, _, _ => none
 | k + 1, x28, x29, x30, x185 => if x185 = true then ((impl_CountUnit.f k x28 (wrap64 (x29 + 1))).bind fun bt652 => ((impl_CountParking.f k x28).bind fun bt654 => (if bt652.2 = true then (if bt654.2 = true then (if x30 ≤ bt652.1 then (if bt652.1 ≤ bt654.1 then (if x29 < (wrap64 (x28 - 1)) then (some true) else (some (x30 == bt654.1))) else (none)) else (none)) else (none)) else (none)))) else (some true)
def laws_FnUnitParking.l0 : Nat → List Int → List (List Int) → Int → Int → Option (Bool)
 | 0, _, _, _, _ => none
 | k + 1, x1, x87, x88, x89 => if x89 < x88 then (if 0 ≤ x89 then (if x89 < (x87.length : Int) then (laws_FnUnitParking.l1 k x1 (rd_L3 x87 x89) 1 x87 x88 x89) else (none)) else (none)) else (laws_FnUnitParking.j3 k x1)
def laws_FnUnitParking.l1 : Nat → List Int → List Int → Int → List (List Int) → Int → Int → Option (Bool)
 | 0, _, _, _, _, _, _ => none
 | k + 1, x1, x15, x16, x87, x88, x89 => if x16 < (x15.length : Int) then (if 0 ≤ x16 then (if 0 ≤ (wrap64 (x16 - 1)) then (if (wrap64 (x16 - 1)) < (x15.length : Int) then (if (rd x15 x16) ≤ (rd x15 (wrap64 (x16 - 1))) then (none) else (laws_FnUnitParking.l1 k x1 x15 (wrap64 (x16 + 1)) x87 x88 x89)) else (none)) else (none)) else (none)) else (laws_FnUnitParking.l0 k x1 x87 x88 (wrap64 (x89 + 1)))
end
def laws_FnUnitParking.f (k : Nat) (l0 : List Int) (l1 : List Int) : Option (Bool) := (laws_big.f l0 l1).bind fun t603 => (if t603 = true then (some true) else ((spec_DrawUnitBlocks.f k l0).bind fun t604 => ((impl_UnitBlocks.f k t604).bind fun bt607 => ((spec_UnitBlocks.f k t604).bind fun bt611 => (if (bt607.2 != bt611.2) = true then (none) else ((laws_jRows.f k bt607.1 bt611.1).bind fun t615 => (if t615 = true then ((impl_IsUnit.f k t604 1).bind fun bt616 => (if bt616.2 = true then (laws_FnUnitParking.j0 k l1 t604 bt607.1 bt607.2 (bt607.2 != bt616.1)) else (laws_FnUnitParking.j0 k l1 t604 bt607.1 bt607.2 (bt607.2 != false)))) else (none))))))))
theorem laws_FnUnitParking.mono_l : ∀ k, (∀ y0 y1 y2 y3 y4, LeO (laws_FnUnitParking.j0 k y0 y1 y2 y3 y4) (laws_FnUnitParking.j0 (k + 1) y0 y1 y2 y3 y4)) ∧ (∀ y0, LeO (laws_FnUnitParking.j3 k y0) (laws_FnUnitParking.j3 (k + 1) y0)) ∧ (∀ y0 y1 y2 y3, LeO (laws_FnUnitParking.j4 k y0 y1 y2 y3) (laws_FnUnitParking.j4 (k + 1) y0 y1 y2 y3)) ∧ (∀ y0 y1 y2 y3, LeO (laws_FnUnitParking.l0 k y0 y1 y2 y3) (laws_FnUnitParking.l0 (k + 1) y0 y1 y2 y3)) ∧ (∀ y0 y1 y2 y3 y4 y5, LeO (laws_FnUnitParking.l1 k y0 y1 y2 y3 y4 y5) (laws_FnUnitParking.l1 (k + 1) y0 y1 y2 y3 y4 y5))
 | 0 => ⟨fun _ _ _ _ _ r h => by simp [laws_FnUnitParking.j0] at h, fun _ r h => by simp [laws_FnUnitParking.j3] at h, fun _ _ _ _ r h => by simp [laws_FnUnitParking.j4] at h, fun _ _ _ _ r h => by simp [laws_FnUnitParking.l0] at h, fun _ _ _ _ _ _ r h => by simp [laws_FnUnitParking.l1] at h⟩
 | k + 1 => by
  obtain ⟨ih0, ih1, ih2, ih3, ih4⟩ := laws_FnUnitParking.mono_l k
  refine ⟨?_, ?_, ?_, ?_, ?_⟩
  ·
   intro y0 y1 y2 y3 y4
   unfold laws_FnUnitParking.j0
   repeat' (with_reducible first | exact ih0 _ _ _ _ _ | exact ih1 _ | exact ih2 _ _ _ _ | exact ih3 _ _ _ _ | exact ih4 _ _ _ _ _ _ | exact impl_CountParking.mono _ _ | exact impl_CountUnit.mono _ _ _ | exact impl_FromUnitBlocks.mono _ _ | exact impl_IsUnit.mono _ _ _ | exact impl_UnitBlocks.mono _ _ | exact laws_jRows.mono _ _ _ | exact laws_jSame.mono _ _ _ | exact spec_CountUnit.mono _ _ _ | exact spec_DrawFromUnitBlocks.mono _ _ | exact spec_DrawIsUnit.mono _ _ | exact spec_DrawUnitBlocks.mono _ _ | exact spec_FromUnitBlocks.mono _ _ | exact spec_IsUnit.mono _ _ _ | exact spec_UnitBlocks.mono _ _ | exact LeO.refl _ | exact LeO.none _ | refine LeO.ite ?_ ?_ | refine LeO.bind ?_ (fun _ => ?_))
  ·
   intro y0
   unfold laws_FnUnitParking.j3
   repeat' (with_reducible first | exact ih0 _ _ _ _ _ | exact ih1 _ | exact ih2 _ _ _ _ | exact ih3 _ _ _ _ | exact ih4 _ _ _ _ _ _ | exact impl_CountParking.mono _ _ | exact impl_CountUnit.mono _ _ _ | exact impl_FromUnitBlocks.mono _ _ | exact impl_IsUnit.mono _ _ _ | exact impl_UnitBlocks.mono _ _ | exact laws_jRows.mono _ _ _ | exact laws_jSame.mono _ _ _ | exact spec_CountUnit.mono _ _ _ | exact spec_DrawFromUnitBlocks.mono _ _ | exact spec_DrawIsUnit.mono _ _ | exact spec_DrawUnitBlocks.mono _ _ | exact spec_FromUnitBlocks.mono _ _ | exact spec_IsUnit.mono _ _ _ | exact spec_UnitBlocks.mono _ _ | exact LeO.refl _ | exact LeO.none _ | refine LeO.ite ?_ ?_ | refine LeO.bind ?_ (fun _ => ?_))
  ·
   intro y0 y1 y2 y3
   unfold laws_FnUnitParking.j4
   repeat' (with_reducible first | exact ih0 _ _ _ _ _ | exact ih1 _ | exact ih2 _ _ _ _ | exact ih3 _ _ _ _ | exact ih4 _ _ _ _ _ _ | exact impl_CountParking.mono _ _ | exact impl_CountUnit.mono _ _ _ | exact impl_FromUnitBlocks.mono _ _ | exact impl_IsUnit.mono _ _ _ | exact impl_UnitBlocks.mono _ _ | exact laws_jRows.mono _ _ _ | exact laws_jSame.mono _ _ _ | exact spec_CountUnit.mono _ _ _ | exact spec_DrawFromUnitBlocks.mono _ _ | exact spec_DrawIsUnit.mono _ _ | exact spec_DrawUnitBlocks.mono _ _ | exact spec_FromUnitBlocks.mono _ _ | exact spec_IsUnit.mono _ _ _ | exact spec_UnitBlocks.mono _ _ | exact LeO.refl _ | exact LeO.none _ | refine LeO.ite ?_ ?_ | refine LeO.bind ?_ (fun _ => ?_))
  ·
   intro y0 y1 y2 y3
   unfold laws_FnUnitParking.l0
   repeat' (with_reducible first | exact ih0 _ _ _ _ _ | exact ih1 _ | exact ih2 _ _ _ _ | exact ih3 _ _ _ _ | exact ih4 _ _ _ _ _ _ | exact impl_CountParking.mono _ _ | exact impl_CountUnit.mono _ _ _ | exact impl_FromUnitBlocks.mono _ _ | exact impl_IsUnit.mono _ _ _ | exact impl_UnitBlocks.mono _ _ | exact laws_jRows.mono _ _ _ | exact laws_jSame.mono _ _ _ | exact spec_CountUnit.mono _ _ _ | exact spec_DrawFromUnitBlocks.mono _ _ | exact spec_DrawIsUnit.mono _ _ | exact spec_DrawUnitBlocks.mono _ _ | exact spec_FromUnitBlocks.mono _ _ | exact spec_IsUnit.mono _ _ _ | exact spec_UnitBlocks.mono _ _ | exact LeO.refl _ | exact LeO.none _ | refine LeO.ite ?_ ?_ | refine LeO.bind ?_ (fun _ => ?_))
  ·
   intro y0 y1 y2 y3 y4 y5
   unfold laws_FnUnitParking.l1
   repeat' (with_reducible first | exact ih0 _ _ _ _ _ | exact ih1 _ | exact ih2 _ _ _ _ | exact ih3 _ _ _ _ | exact ih4 _ _ _ _ _ _ | exact impl_CountParking.mono _ _ | exact impl_CountUnit.mono _ _ _ | exact impl_FromUnitBlocks.mono _ _ | exact impl_IsUnit.mono _ _ _ | exact impl_UnitBlocks.mono _ _ | exact laws_jRows.mono _ _ _ | exact laws_jSame.mono _ _ _ | exact spec_CountUnit.mono _ _ _ | exact spec_DrawFromUnitBlocks.mono _ _ | exact spec_DrawIsUnit.mono _ _ | exact spec_DrawUnitBlocks.mono _ _ | exact spec_FromUnitBlocks.mono _ _ | exact spec_IsUnit.mono _ _ _ | exact spec_UnitBlocks.mono _ _ | exact LeO.refl _ | exact LeO.none _ | refine LeO.ite ?_ ?_ | refine LeO.bind ?_ (fun _ => ?_))
theorem laws_FnUnitParking.mono : ∀ a0 a1 k, LeO (laws_FnUnitParking.f k a0 a1) (laws_FnUnitParking.f (k + 1) a0 a1) := by
 intro a0 a1 k
 obtain ⟨ih0, ih1, ih2, ih3, ih4⟩ := laws_FnUnitParking.mono_l k
 unfold laws_FnUnitParking.f
 repeat' (with_reducible first | exact ih0 _ _ _ _ _ | exact ih1 _ | exact ih2 _ _ _ _ | exact ih3 _ _ _ _ | exact ih4 _ _ _ _ _ _ | exact impl_CountParking.mono _ _ | exact impl_CountUnit.mono _ _ _ | exact impl_FromUnitBlocks.mono _ _ | exact impl_IsUnit.mono _ _ _ | exact impl_UnitBlocks.mono _ _ | exact laws_jRows.mono _ _ _ | exact laws_jSame.mono _ _ _ | exact spec_CountUnit.mono _ _ _ | exact spec_DrawFromUnitBlocks.mono _ _ | exact spec_DrawIsUnit.mono _ _ | exact spec_DrawUnitBlocks.mono _ _ | exact spec_FromUnitBlocks.mono _ _ | exact spec_IsUnit.mono _ _ _ | exact spec_UnitBlocks.mono _ _ | exact LeO.refl _ | exact LeO.none _ | refine LeO.ite ?_ ?_ | refine LeO.bind ?_ (fun _ => ?_))
theorem laws_FnUnitParking.calls (k : Nat) (A0 : Option Addr) (c0 : Nat) (l0 : List Int) (A1 : Option Addr) (c1 : Nat) (l1 : List Int) (r : Bool) (w : World) (hr0 : Kd.C (Kd.int .u8) w A0 l0.length l0) (hc0 : l0.length ≤ c0) (hr1 : Kd.C (Kd.int .u8) w A1 l1.length l1) (hc1 : l1.length ≤ c1) (h : laws_FnUnitParking.f k l0 l1 = some r) :
  Calls Tryz.prog 3 #[.slice A0 l0.length c0, .slice A1 l1.length c1] w fun e w' => e = .returned (.bool r) ∧ Below w.heap.size w w' := by
 have HR0 := Aside0.mk hr0
 have HC0 := Aside0.mk hc0
 clear hr0 hc0
 have HR1 := Aside0.mk hr1
 have HC1 := Aside0.mk hc1
 clear hr1 hc1
 have HB := Aside0.mk (Below.refl w.heap.size w)
 unfold laws_FnUnitParking.f at h
 have H := h; clear h
 obtain ⟨t603, A3, H⟩ := ob_ H
 by_cases c4 : t603 = true
 ·
  subst c4
  rw [if_pos rfl] at H
  obtain rfl := Option.some.inj H
  go_enter Tryz.func3, Tryz.ntmps3
  have zz_ := trivial
  repeat (clear zz_; go_wp2_with (first | (go_at_call 4; (with_reducible refine (laws_big.calls _ _ l0 _ _ l1 true _ ?s1 ?s2 ?s3 ?s4 A3.out).mono ?_); (case s1 => exact q201_ HR0.out); (case s2 => exact HC0.out); (case s3 => exact q201_ HR1.out); (case s4 => exact HC1.out); rintro e w' ⟨rfl, ⟨nd, rfl⟩⟩; (try exact q447_))); try (go_quiet ((go_at_call 4; (with_reducible refine (laws_big.calls _ _ l0 _ _ l1 true _ ?s1 ?s2 ?s3 ?s4 A3.out).mono ?_); (case s1 => exact q201_ HR0.out); (case s2 => exact HC0.out); (case s3 => exact q201_ HR1.out); (case s4 => exact HC1.out); rintro e w' ⟨rfl, ⟨nd, rfl⟩⟩; (try exact q447_))); have zz_ := trivial))
  go_ret
  exact ⟨qce7_, q0c4_⟩
 ·
  replace c4 := Bool.eq_false_iff.mpr c4
  subst c4
  rw [if_neg nf_] at H
  obtain ⟨t604, A5, H⟩ := ob_ H
  obtain ⟨⟨t607, t608⟩, A6, H⟩ := ob_ H
  dsimp only at H
  obtain ⟨⟨t611, t612⟩, A7, H⟩ := ob_ H
  dsimp only at H
  by_cases c8 : (t608 != t612) = true
  ·
   rw [if_pos c8] at H
   exact absurd H (by simp)
  ·
   rw [if_neg c8] at H
   have c8b0 : (t608 != t612) = false := by simpa using c8
   (try (have c8b1 : decide (t608 = t612) = true := by simpa using c8))
   (try (have c8b2 : (t608 == t612) = true := by simpa using c8))
   clear c8
   obtain ⟨t615, A9, H⟩ := ob_ H
   by_cases c10 : t615 = true
   ·
    subst c10
    rw [if_pos rfl] at H
    obtain ⟨⟨t616, t617⟩, A11, H⟩ := ob_ H
    dsimp only at H
    have HC12 := Aside0.mk H
    clear H
    go_enter Tryz.func3, Tryz.ntmps3
    have zz_ := trivial
    repeat (clear zz_; go_upto_region 9 with (first | (go_at_call 4; (with_reducible refine (laws_big.calls _ _ l0 _ _ l1 false _ ?s1 ?s2 ?s3 ?s4 A3.out).mono ?_); (case s1 => exact q201_ HR0.out); (case s2 => exact HC0.out); (case s3 => exact q201_ HR1.out); (case s4 => exact HC1.out); rintro e w' ⟨rfl, ⟨nd, rfl⟩⟩; (try exact q447_)) | (go_at_call 5; (with_reducible refine (spec_DrawUnitBlocks.calls k _ _ l0 t604 _ ?s1 ?s2 A5.out).mono ?_); (case s1 => exact q201_ HR0.out); (case s2 => exact HC0.out); rintro e w13 ⟨v605, rfl, ho0, hb⟩; have HO606 := Aside0.mk (Kd.R_lower ho0 (below_size q0c4_)); replace HB := Aside0.mk (below_step q0c4_ hb); clear hb ho0; obtain ⟨Ao14, co14, eo14⟩ := Kd.R_slice HO606.out; subst eo14) | (go_at_call 6; (with_reducible refine (impl_UnitBlocks.calls k _ _ t604 t607 t608 _ ?s1 ?s2 A6.out).mono ?_); (case s1 => exact q5a8_ HO606.out); (case s2 => exact (Kd.R_reads' HO606.out).2.1); rintro e w15 ⟨v609, rfl, ho0, hb⟩; have n0_ := Aside0.mk (Kd.R_below (q9d5_ HO606.out) hb); have n1_ := Aside0.mk (Kd.S_lower (Kd.S_new' ho0 (Kd.R_lt (q9d5_ HO606.out))) (below_size q0c4_)); have n2_ := Aside0.mk (below_step q0c4_ hb); replace HO606 := n0_; have HO610 := n1_; replace HB := n2_; clear n0_ n1_ n2_; clear hb ho0) | (go_at_call 7; (with_reducible refine (spec_UnitBlocks.calls k _ _ t604 t611 t612 _ ?s1 ?s2 A7.out).mono ?_); (case s1 => exact q5a8_ HO606.out); (case s2 => exact (Kd.R_reads' HO606.out).2.1); rintro e w16 ⟨v613, rfl, ho0, hb⟩; have n0_ := Aside0.mk (Kd.R_below (q9d5_ HO606.out) hb); have n1_ := Aside0.mk (Kd.S_elder' (qd7e_ HO610.out) (Kd.S_base ho0) hb); have n2_ := Aside0.mk (Kd.S_lower (Kd.S_new' (Kd.S_new' ho0 (Kd.R_lt (q9d5_ HO606.out))) (Kd.S_lt (qd7e_ HO610.out))) (below_size q0c4_)); have n3_ := Aside0.mk (below_step q0c4_ hb); replace HO606 := n0_; replace HO610 := n1_; have HO614 := n2_; replace HB := n3_; clear n0_ n1_ n2_ n3_; clear hb ho0; obtain ⟨Ao17, co17, eo17⟩ := Kd.S_slice HO610.out; subst eo17; obtain ⟨Ao18, co18, eo18⟩ := Kd.S_slice HO614.out; subst eo18) | (go_at_call 8; (with_reducible refine (laws_jRows.calls k _ _ t607 _ _ t611 true _ ?s1 ?s2 ?s3 ?s4 A9.out).mono ?_); (case s1 => exact q269_ HO610.out); (case s2 => exact (Kd.S_reads' HO610.out).2.1); (case s3 => exact q269_ HO614.out); (case s4 => exact (Kd.S_reads' HO614.out).2.1); rintro e w' ⟨rfl, ⟨nd, rfl⟩⟩; (try exact q447_)) | (go_at_call 9; (with_reducible refine (impl_IsUnit.calls k _ _ t604 1 t616 t617 _ ?s1 ?s2 A11.out).mono ?_); (case s1 => exact q5a8_ HO606.out); (case s2 => exact (Kd.R_reads' HO606.out).2.1); rintro e w19 ⟨rfl, hb⟩; replace HO606 := Aside0.mk (Kd.R_below (q9d5_ HO606.out) hb); replace HO610 := Aside0.mk (Kd.S_below (qd7e_ HO610.out) hb); replace HO614 := Aside0.mk (Kd.S_below (qd7e_ HO614.out) hb); replace HB := Aside0.mk (below_step q0c4_ hb); clear hb)); try (go_quiet (first | (go_at_call 4; (with_reducible refine (laws_big.calls _ _ l0 _ _ l1 false _ ?s1 ?s2 ?s3 ?s4 A3.out).mono ?_); (case s1 => exact q201_ HR0.out); (case s2 => exact HC0.out); (case s3 => exact q201_ HR1.out); (case s4 => exact HC1.out); rintro e w' ⟨rfl, ⟨nd, rfl⟩⟩; (try exact q447_)) | (go_at_call 8; (with_reducible refine (laws_jRows.calls k _ _ t607 _ _ t611 true _ ?s1 ?s2 ?s3 ?s4 A9.out).mono ?_); (case s1 => exact q269_ HO610.out); (case s2 => exact (Kd.S_reads' HO610.out).2.1); (case s3 => exact q269_ HO614.out); (case s4 => exact (Kd.S_reads' HO614.out).2.1); rintro e w' ⟨rfl, ⟨nd, rfl⟩⟩; (try exact q447_))); have zz_ := trivial))
    (try simp only [Act.put, List.setIfInBounds_toArray, List.set_cons_zero, List.set_cons_succ])
    go_cut [72] (fun v72 wc => ∃ (kq : Nat) (x72_11 : Bool), v72 = .bool x72_11 ∧ Aside0 (laws_FnUnitParking.j0 kq l1 t604 t607 t608 x72_11 = some r) ∧ Aside0 (kq ≤ k) ∧ Aside0 (Kd.R (Kd.int .i64) 3 wc w.heap.size (fun _ => True) (.slice Ao14 t604.length co14) t604) ∧ Aside0 (Kd.S (Kd.slice 3 (Kd.int .i64)) 24 wc w.heap.size (fun k_ => some k_ ≠ ((.slice Ao14 t604.length co14) : Value).ownBlock) (.slice Ao17 t607.length co17) t607) ∧ Aside0 (Below w.heap.size w wc))
    case first =>
     have H := HC12.out
     clear HC12
     by_cases c20 : t617 = true
     ·
      subst c20
      rw [if_pos rfl] at H
      have H' := Aside0.mk H
      clear H
      go_wp2
      repeat (go_quiet (fail); try go_wp2)
      go_meet
      case rel => exact ⟨_, ((t608 != t616)), qc8f_, H', ⟨q821_⟩, ⟨q9d5_ HO606.out⟩, ⟨q6e0_ HO610.out⟩, ⟨q0c4_⟩⟩
     ·
      replace c20 := Bool.eq_false_iff.mpr c20
      subst c20
      rw [if_neg nf_] at H
      have H' := Aside0.mk H
      clear H
      go_wp2
      repeat (go_quiet (fail); try go_wp2)
      go_meet
      case rel => exact ⟨_, ((t608 != false)), qc8f_, H', ⟨q821_⟩, ⟨q9d5_ HO606.out⟩, ⟨q6e0_ HO610.out⟩, ⟨q0c4_⟩⟩
    case rest =>
     clear HC12; try clear c1; try clear c2; try clear p2; try clear c3; try clear c4; try clear c8; try clear c8b0; try clear c8b1; try clear c8b2; try clear c10; try clear c20
     obtain ⟨kq, x72_11, rfl, HA, HJ11, HO_5, HO_6, HB⟩ := hcut
     cases kq with
     | zero => exact absurd HA.out (by simp [laws_FnUnitParking.j0])
     | succ kj11 =>
      have H := HA.out
      clear HA
      simp only [laws_FnUnitParking.j0] at H
      by_cases c21 : x72_11 = true
      ·
       subst c21
       rw [if_pos rfl] at H
       exact absurd H (by simp)
      ·
       replace c21 := Bool.eq_false_iff.mpr c21
       subst c21
       rw [if_neg nf_] at H
       have HC22 := Aside0.mk H
       clear H
       go_upto_if 73 with (fail)
       repeat (go_quiet (fail); try go_upto_if 73 with (fail))
       go_cut [] (fun wc => ∃ (kq : Nat), Aside0 (laws_FnUnitParking.j3 kq l1 = some r) ∧ Aside0 (kq ≤ kj11) ∧ Aside0 (Below w.heap.size w wc))
       case first =>
        have H := HC22.out
        clear HC22
        by_cases c23 : t608 = true
        ·
         subst c23
         rw [if_pos rfl] at H
         obtain ⟨⟨t618, t619⟩, A24, H⟩ := ob_ H
         dsimp only at H
         by_cases c25 : t619 = true
         ·
          subst c25
          rw [if_pos rfl] at H
          obtain ⟨t622, A26, H⟩ := ob_ H
          by_cases c27 : t622 = true
          ·
           subst c27
           rw [if_pos rfl] at H
           have H' := Aside0.mk H
           clear H; have zz_ := trivial
           repeat (clear zz_; go_wp2_with (first | (go_at_call 10; (with_reducible refine (impl_FromUnitBlocks.calls kj11 _ _ t607 t618 true _ ?s1 ?s2 A24.out).mono ?_); (case s1 => exact q269_ HO_6.out); (case s2 => exact (Kd.S_reads' HO_6.out).2.1); rintro e w28 ⟨v620, rfl, ho0, hb⟩; have n0_ := Aside0.mk (Kd.R_elder' (q9d5_ HO_5.out) (Kd.R_base ho0) hb); have n1_ := Aside0.mk (Kd.S_elder' (qd7e_ HO_6.out) (Kd.R_base ho0) hb); have n2_ := Aside0.mk (Kd.R_lower (Kd.R_new' ho0 (Kd.R_lt (q9d5_ HO_5.out))) (below_size q0c4_)); have n3_ := Aside0.mk (below_step q0c4_ hb); replace HO_5 := n0_; replace HO_6 := n1_; have HO621 := n2_; replace HB := n3_; clear n0_ n1_ n2_ n3_; clear hb ho0; obtain ⟨Ao29, co29, eo29⟩ := Kd.R_slice HO621.out; subst eo29) | (go_at_call 11; (with_reducible refine (laws_jSame.calls kj11 _ _ t618 _ _ t604 true _ ?s1 ?s2 ?s3 ?s4 A26.out).mono ?_); (case s1 => exact q5a8_ HO621.out); (case s2 => exact (Kd.R_reads' HO621.out).2.1); (case s3 => exact q5a8_ HO_5.out); (case s4 => exact (Kd.R_reads' HO_5.out).2.1); rintro e w' ⟨rfl, ⟨nd, rfl⟩⟩; (try exact q447_))); try (go_quiet ((go_at_call 11; (with_reducible refine (laws_jSame.calls kj11 _ _ t618 _ _ t604 true _ ?s1 ?s2 ?s3 ?s4 A26.out).mono ?_); (case s1 => exact q5a8_ HO621.out); (case s2 => exact (Kd.R_reads' HO621.out).2.1); (case s3 => exact q5a8_ HO_5.out); (case s4 => exact (Kd.R_reads' HO_5.out).2.1); rintro e w' ⟨rfl, ⟨nd, rfl⟩⟩; (try exact q447_))); have zz_ := trivial))
           go_loopg [89] kj11 (fun kq v89 w' => ∃ (x89_2 : Int), v89 = .int .i64 x89_2 ∧ Aside0 (laws_FnUnitParking.l0 kq l1 t607 (t607.length : Int) x89_2 = some r) ∧ Aside0 (kq ≤ kj11) ∧ Aside0 (Kd.S (Kd.slice 3 (Kd.int .i64)) 24 w' w.heap.size (fun _ => True) (.slice Ao17 t607.length co17) t607) ∧ Aside0 (Below w.heap.size w w'))
           case atStart => exact ⟨(0), qc8f_, H', ⟨Nat.le_refl _⟩, ⟨qcd3_ HO_6.out⟩, ⟨q0c4_⟩⟩
           case round =>
            clear H'; try clear c1; try clear c2; try clear p2; try clear c3; try clear c4; try clear c8; try clear c8b0; try clear c8b1; try clear c8b2; try clear c10; try clear c20; try clear c21; try clear c23; try clear c25; try clear c27; try clear p2
            obtain ⟨x89_2, rfl, HA, HK2, HO_87, HB⟩ := hrel
            cases gk with
            | zero => exact absurd HA.out (by simp [laws_FnUnitParking.l0])
            | succ k2 =>
             have H := HA.out
             clear HA
             simp only [laws_FnUnitParking.l0] at H
             by_cases c30 : x89_2 < (t607.length : Int)
             ·
              rw [if_pos c30] at H
              have c30b0 := decide_eq_true c30
              clear c30
              (first | rw [c30b0] | (simp only [i64_w, i32_w]; rw [c30b0]) | skip)
              by_cases c31 : 0 ≤ x89_2
              ·
               rw [if_pos c31] at H
               have c31b0 := decide_eq_true c31
               clear c31
               by_cases c32 : x89_2 < (t607.length : Int)
               ·
                rw [if_pos c32] at H
                have c32b0 := decide_eq_true c32
                clear c32
                have H' := Aside0.mk H
                clear H
                have p623 : 0 ≤ (x89_2 : Int) := of_decide_eq_true qe84_
                have q623 : x89_2 < (t607.length : Int) := of_decide_eq_true qe84_
                obtain ⟨ad623, A623_0, c623_0, e623, hx623_0, hl623_0, hi623_0⟩ := at_L3 (Kd.S_reads' HO_87.out).2.2 x89_2 p623 q623
                cases e623
                obtain ⟨ce623, hce623, hMe623, hcc623⟩ := Kd.S_get HO_87.out [] x89_2 p623 (by first | exact q623 | exact of_decide_eq_true qe84_ | (have e_ := (Kd.S_reads' HO_87.out).1; omega))
                obtain ⟨ve623_0, rfl, ge623_0⟩ := hMe623
                have hv623_0 := hcc623 0 _ rfl
                rw [Nat.add_zero, show ((Kd.slice 3 (Kd.int .i64))).sz = 1 from rfl, Nat.mul_one] at hv623_0
                replace hv623_0 := Option.some.inj (hv623_0.symm.trans hx623_0)
                rw [hv623_0] at ge623_0
                have HL623_0 := Aside0.mk (show Kd.R (Kd.int .i64) 3 _ _ _ _ (rd_L3 t607 x89_2) from ge623_0)
                clear hv623_0 ge623_0 hcc623 hce623
                have HR623_0 := Aside0.mk hi623_0
                have HC623_0 := Aside0.mk hl623_0
                clear hi623_0 hl623_0
                replace p623 := eq_true p623
                replace q623 := eq_true q623
                go_wp2
                repeat (go_quiet (fail); try go_wp2)
                go_loopg [16] k2 (fun kq v16 w' => ∃ (x16_3 : Int), v16 = .int .i64 x16_3 ∧ Aside0 (laws_FnUnitParking.l1 kq l1 (rd_L3 t607 x89_2) x16_3 t607 (t607.length : Int) x89_2 = some r) ∧ Aside0 (kq ≤ k2) ∧ Aside0 (Kd.S (Kd.slice 3 (Kd.int .i64)) 24 w' w.heap.size (fun _ => True) (.slice (some ad623) t607.length co17) t607) ∧ Aside0 (Kd.C (Kd.int .i64) w' A623_0 (rd_L3 t607 x89_2).length (rd_L3 t607 x89_2)) ∧ Aside0 (Below w.heap.size w w'))
                case atStart => exact ⟨(1), qc8f_, H', ⟨Nat.le_refl _⟩, ⟨qd7e_ HO_87.out⟩, ⟨q75a_ HR623_0.out⟩, ⟨q0c4_⟩⟩
                case round =>
                 clear H'; try clear c1; try clear c2; try clear p2; try clear c3; try clear c4; try clear c6; try clear p6; try clear q6; try clear hx6; try clear c8; try clear c8b0; try clear c8b1; try clear c8b2; try clear c10; try clear c20; try clear c21; try clear c23; try clear c25; try clear c27; try clear c30; try clear c30b0; try clear c31; try clear c31b0; try clear c32; try clear c32b0; try clear hx623_0; try clear p2; try clear p623; try clear q623
                 obtain ⟨x16_3, rfl, HA, HK3, HO_87, HR623_0, HB⟩ := hrel
                 cases gk with
                 | zero => exact absurd HA.out (by simp [laws_FnUnitParking.l1])
                 | succ k3 =>
                  have H := HA.out
                  clear HA
                  simp only [laws_FnUnitParking.l1] at H
                  by_cases c33 : x16_3 < ((rd_L3 t607 x89_2).length : Int)
                  ·
                   rw [if_pos c33] at H
                   have c33b0 := decide_eq_true c33
                   clear c33
                   by_cases c34 : 0 ≤ x16_3
                   ·
                    rw [if_pos c34] at H
                    have c34b0 := decide_eq_true c34
                    clear c34
                    obtain ⟨ji35, hji35⟩ : ∃ j_ : Int, (wrap64 (x16_3 - 1)) = j_ := ⟨_, rfl⟩
                    replace H : (if 0 ≤ (ji35) then (if (ji35) < ((rd_L3 t607 x89_2).length : Int) then (if (rd (rd_L3 t607 x89_2) x16_3) ≤ (rd (rd_L3 t607 x89_2) (ji35)) then (none) else (laws_FnUnitParking.l1 k3 l1 (rd_L3 t607 x89_2) (wrap64 (x16_3 + 1)) t607 (t607.length : Int) x89_2)) else (none)) else (none)) = some r := by first | (rw [hji35] at H; exact H) | (simp only [hji35] at H ⊢; exact H)
                    have hji35w : (IntKind.i64.wrap (x16_3 - 1)) = ji35 := (i64_w _).trans hji35
                    by_cases c36 : 0 ≤ (ji35)
                    ·
                     rw [if_pos c36] at H
                     have c36b0 := decide_eq_true c36
                     clear c36
                     by_cases c37 : (ji35) < ((rd_L3 t607 x89_2).length : Int)
                     ·
                      rw [if_pos c37] at H
                      have c37b0 := decide_eq_true c37
                      clear c37
                      by_cases c38 : (rd (rd_L3 t607 x89_2) x16_3) ≤ (rd (rd_L3 t607 x89_2) (ji35))
                      ·
                       rw [if_pos c38] at H
                       exact absurd H (by simp)
                      ·
                       rw [if_neg c38] at H
                       have c38b0 := decide_eq_false c38
                       clear c38
                       have H' := Aside0.mk H
                       clear H
                       have p624 : 0 ≤ (x16_3 : Int) := of_decide_eq_true qe84_
                       have q624 : x16_3 < ((rd_L3 t607 x89_2).length : Int) := of_decide_eq_true qe84_
                       obtain ⟨ad624, e624, hx624_0⟩ := Kd.at_int HR623_0.out x16_3 p624 q624
                       cases e624
                       (try (replace hx624_0 := (HB.out.cell (World.block_lt_of_cell? w _ hx624_0)).trans hx624_0))
                       replace p624 := eq_true p624
                       replace q624 := eq_true q624
                       have p625 : 0 ≤ ((ji35) : Int) := of_decide_eq_true qe84_
                       have q625 : (ji35) < ((rd_L3 t607 x89_2).length : Int) := of_decide_eq_true qe84_
                       obtain ⟨ad625, e625, hx625_0⟩ := Kd.at_int HR623_0.out (ji35) p625 q625
                       obtain rfl : ad624 = ad625 := (by injection e625)
                       (try (replace hx625_0 := (HB.out.cell (World.block_lt_of_cell? w _ hx625_0)).trans hx625_0))
                       replace p625 := eq_true p625
                       replace q625 := eq_true q625
                       go_wp2
                       repeat (go_quiet (fail); try go_wp2)
                       go_roundg k3
                       case measure => have := HJ11.out; have := HK2.out; have := HK3.out; omega
                       case rel => exact ⟨(wrap64 (x16_3 + 1)), qc8f_, H', ⟨by have := HJ11.out; have := HK2.out; have := HK3.out; omega⟩, ⟨qd7e_ HO_87.out⟩, ⟨q75a_ HR623_0.out⟩, ⟨q0c4_⟩⟩
                     ·
                      rw [if_neg c37] at H
                      exact absurd H (by simp)
                    ·
                     rw [if_neg c36] at H
                     exact absurd H (by simp)
                   ·
                    rw [if_neg c34] at H
                    exact absurd H (by simp)
                  ·
                   rw [if_neg c33] at H
                   have c33b0 := decide_eq_false c33
                   clear c33
                   have H' := Aside0.mk H
                   clear H
                   go_wp2
                   repeat (go_quiet (fail); try go_wp2)
                   go_roundg k3
                   case measure => have := HJ11.out; have := HK2.out; have := HK3.out; omega
                   case rel => exact ⟨(wrap64 (x89_2 + 1)), qc8f_, H', ⟨by have := HJ11.out; have := HK2.out; have := HK3.out; omega⟩, ⟨qd7e_ HO_87.out⟩, ⟨q0c4_⟩⟩
               ·
                rw [if_neg c32] at H
                exact absurd H (by simp)
              ·
               rw [if_neg c31] at H
               exact absurd H (by simp)
             ·
              rw [if_neg c30] at H
              have c30b0 := decide_eq_false c30
              clear c30
              (first | rw [c30b0] | (simp only [i64_w, i32_w]; rw [c30b0]) | skip)
              have H' := Aside0.mk H
              clear H
              go_wp2
              repeat (go_quiet (fail); try go_wp2)
              go_meet
              case rel => exact ⟨_, H', ⟨q313_ HJ11.out HK2.out⟩, ⟨q0c4_⟩⟩
          ·
           replace c27 := Bool.eq_false_iff.mpr c27
           subst c27
           rw [if_neg nf_] at H
           exact absurd H (by simp)
         ·
          replace c25 := Bool.eq_false_iff.mpr c25
          subst c25
          rw [if_neg nf_] at H
          exact absurd H (by simp)
        ·
         replace c23 := Bool.eq_false_iff.mpr c23
         subst c23
         rw [if_neg nf_] at H
         have H' := Aside0.mk H
         clear H
         go_wp2
         repeat (go_quiet (fail); try go_wp2)
         go_meet
         case rel => exact ⟨_, H', ⟨by have := HJ11.out; first | omega | exact Nat.le_refl _⟩, ⟨q0c4_⟩⟩
       case rest =>
        clear HC22; try clear c1; try clear c2; try clear p2; try clear c3; try clear c4; try clear c6; try clear p6; try clear q6; try clear hx6; try clear c8; try clear c8b0; try clear c8b1; try clear c8b2; try clear c10; try clear c20; try clear c21; try clear c23; try clear c25; try clear c27; try clear c30; try clear c30b0; try clear c31; try clear c31b0; try clear c32; try clear c32b0; try clear c33; try clear c33b0; try clear c34; try clear c34b0; try clear c36; try clear c36b0; try clear c37; try clear c37b0; try clear c38; try clear c38b0; try clear hx623_0; try clear hx624_0; try clear hx625_0; try clear p2; try clear p6; try clear p623; try clear p624; try clear p625; try clear q6; try clear q623; try clear q624; try clear q625
        obtain ⟨kq, HA, HJ21, HB⟩ := hcut
        cases kq with
        | zero => exact absurd HA.out (by simp [laws_FnUnitParking.j3])
        | succ kj21 =>
         have H := HA.out
         clear HA
         simp only [laws_FnUnitParking.j3] at H
         obtain ⟨t626, A39, H⟩ := ob_ H
         obtain ⟨⟨t629, t630⟩, A40, H⟩ := ob_ H
         dsimp only at H
         obtain ⟨⟨t633, t634⟩, A41, H⟩ := ob_ H
         dsimp only at H
         by_cases c42 : (t630 != t634) = true
         ·
          rw [if_pos c42] at H
          exact absurd H (by simp)
         ·
          rw [if_neg c42] at H
          have c42b0 : (t630 != t634) = false := by simpa using c42
          (try (have c42b1 : decide (t630 = t634) = true := by simpa using c42))
          (try (have c42b2 : (t630 == t634) = true := by simpa using c42))
          clear c42
          obtain ⟨t637, A43, H⟩ := ob_ H
          by_cases c44 : t637 = true
          ·
           subst c44
           rw [if_pos rfl] at H
           obtain ⟨⟨t638, t639⟩, A45, H⟩ := ob_ H
           dsimp only at H
           obtain ⟨⟨t642, t643⟩, A46, H⟩ := ob_ H
           dsimp only at H
           obtain ⟨⟨t644, t645⟩, A47, H⟩ := ob_ H
           dsimp only at H
           by_cases c48 : (t643 != t645) = true
           ·
            rw [if_pos c48] at H
            exact absurd H (by simp)
           ·
            rw [if_neg c48] at H
            have c48b0 : (t643 != t645) = false := by simpa using c48
            (try (have c48b1 : decide (t643 = t645) = true := by simpa using c48))
            (try (have c48b2 : (t643 == t645) = true := by simpa using c48))
            clear c48
            by_cases c49 : (t642 != t644) = true
            ·
             rw [if_pos c49] at H
             exact absurd H (by simp)
            ·
             rw [if_neg c49] at H
             have c49b0 : (t642 != t644) = false := by simpa using c49
             (try (have c49b1 : decide (t642 = t644) = true := by simpa using c49))
             (try (have c49b2 : (t642 == t644) = true := by simpa using c49))
             clear c49
             obtain ⟨⟨t646, t647⟩, A50, H⟩ := ob_ H
             dsimp only at H
             obtain ⟨⟨t648, t649⟩, A51, H⟩ := ob_ H
             dsimp only at H
             obtain ⟨⟨t650, t651⟩, A52, H⟩ := ob_ H
             dsimp only at H
             by_cases c53 : (t649 != t651) = true
             ·
              rw [if_pos c53] at H
              exact absurd H (by simp)
             ·
              rw [if_neg c53] at H
              have c53b0 : (t649 != t651) = false := by simpa using c53
              (try (have c53b1 : decide (t649 = t651) = true := by simpa using c53))
              (try (have c53b2 : (t649 == t651) = true := by simpa using c53))
              clear c53
              by_cases c54 : t648 = t650
              ·
               rw [if_pos c54] at H
               have c54b0 := beq_iff_eq.mpr c54
               have c54b1 := bne_eq_false_iff_eq.mpr c54
               clear c54
               have HC55 := Aside0.mk H
               clear H; have zz_ := trivial
               repeat (clear zz_; go_upto_region 39 with (first | (go_at_call 12; (with_reducible refine (spec_DrawFromUnitBlocks.calls kj21 _ _ l1 t626 _ ?s1 ?s2 A39.out).mono ?_); (case s1 => exact qe02_ HR1.out); (case s2 => exact HC1.out); rintro e w56 ⟨v627, rfl, ho0, hb⟩; have HO628 := Aside0.mk (Kd.S_lower ho0 (below_size q0c4_)); replace HB := Aside0.mk (below_step q0c4_ hb); clear hb ho0; obtain ⟨Ao57, co57, eo57⟩ := Kd.S_slice HO628.out; subst eo57) | (go_at_call 10; (with_reducible refine (impl_FromUnitBlocks.calls kj21 _ _ t626 t629 t630 _ ?s1 ?s2 A40.out).mono ?_); (case s1 => exact q269_ HO628.out); (case s2 => exact (Kd.S_reads' HO628.out).2.1); rintro e w58 ⟨v631, rfl, ho0, hb⟩; replace HO628 := Aside0.mk (Kd.S_elder' (qd7e_ HO628.out) (Kd.R_base ho0) hb); have HO632 := Aside0.mk (Kd.R_lower ho0 (below_size q0c4_)); replace HB := Aside0.mk (below_step q0c4_ hb); clear hb ho0) | (go_at_call 13; (with_reducible refine (spec_FromUnitBlocks.calls kj21 _ _ t626 t633 t634 _ ?s1 ?s2 A41.out).mono ?_); (case s1 => exact q269_ HO628.out); (case s2 => exact (Kd.S_reads' HO628.out).2.1); rintro e w59 ⟨v635, rfl, ho0, hb⟩; have n0_ := Aside0.mk (Kd.S_elder' (qd7e_ HO628.out) (Kd.R_base ho0) hb); have n1_ := Aside0.mk (Kd.R_elder' (q9d5_ HO632.out) (Kd.R_base ho0) hb); have n2_ := Aside0.mk (Kd.R_lower (Kd.R_new' ho0 (Kd.R_lt (q9d5_ HO632.out))) (below_size q0c4_)); have n3_ := Aside0.mk (below_step q0c4_ hb); replace HO628 := n0_; replace HO632 := n1_; have HO636 := n2_; replace HB := n3_; clear n0_ n1_ n2_ n3_; clear hb ho0; obtain ⟨Ao60, co60, eo60⟩ := Kd.R_slice HO632.out; subst eo60; obtain ⟨Ao61, co61, eo61⟩ := Kd.R_slice HO636.out; subst eo61) | (go_at_call 11; (with_reducible refine (laws_jSame.calls kj21 _ _ t629 _ _ t633 true _ ?s1 ?s2 ?s3 ?s4 A43.out).mono ?_); (case s1 => exact q5a8_ HO632.out); (case s2 => exact (Kd.R_reads' HO632.out).2.1); (case s3 => exact q5a8_ HO636.out); (case s4 => exact (Kd.R_reads' HO636.out).2.1); rintro e w' ⟨rfl, ⟨nd, rfl⟩⟩; (try exact q447_)) | (go_at_call 14; (with_reducible refine (spec_DrawIsUnit.calls kj21 _ _ l1 t638 t639 _ ?s1 ?s2 A45.out).mono ?_); (case s1 => exact q749_ HR1.out); (case s2 => exact HC1.out); rintro e w62 ⟨v640, rfl, ho0, hb⟩; have n0_ := Aside0.mk (Kd.S_elder' (qd7e_ HO628.out) (Kd.R_base ho0) hb); have n1_ := Aside0.mk (Kd.R_elder' (q9d5_ HO632.out) (Kd.R_base ho0) hb); have n2_ := Aside0.mk (Kd.R_elder' (q9d5_ HO636.out) (Kd.R_base ho0) hb); have n3_ := Aside0.mk (Kd.R_lower (Kd.R_new' (Kd.R_new' ho0 (Kd.R_lt (q9d5_ HO632.out))) (Kd.R_lt (q9d5_ HO636.out))) (below_size q0c4_)); have n4_ := Aside0.mk (below_step q0c4_ hb); replace HO628 := n0_; replace HO632 := n1_; replace HO636 := n2_; have HO641 := n3_; replace HB := n4_; clear n0_ n1_ n2_ n3_ n4_; clear hb ho0; obtain ⟨Ao63, co63, eo63⟩ := Kd.R_slice HO641.out; subst eo63) | (go_at_call 9; (with_reducible refine (impl_IsUnit.calls kj21 _ _ t638 t639 t642 t643 _ ?s1 ?s2 A46.out).mono ?_); (case s1 => exact q5a8_ HO641.out); (case s2 => exact (Kd.R_reads' HO641.out).2.1); rintro e w64 ⟨rfl, hb⟩; replace HO628 := Aside0.mk (Kd.S_below (qd7e_ HO628.out) hb); replace HO632 := Aside0.mk (Kd.R_below (q9d5_ HO632.out) hb); replace HO636 := Aside0.mk (Kd.R_below (q9d5_ HO636.out) hb); replace HO641 := Aside0.mk (Kd.R_below (q9d5_ HO641.out) hb); replace HB := Aside0.mk (below_step q0c4_ hb); clear hb) | (go_at_call 15; (with_reducible refine (spec_IsUnit.calls kj21 _ _ t638 t639 t644 t645 _ ?s1 ?s2 A47.out).mono ?_); (case s1 => exact q5a8_ HO641.out); (case s2 => exact (Kd.R_reads' HO641.out).2.1); rintro e w65 ⟨rfl, hb⟩; replace HO628 := Aside0.mk (Kd.S_below (qd7e_ HO628.out) hb); replace HO632 := Aside0.mk (Kd.R_below (q9d5_ HO632.out) hb); replace HO636 := Aside0.mk (Kd.R_below (q9d5_ HO636.out) hb); replace HO641 := Aside0.mk (Kd.R_below (q9d5_ HO641.out) hb); replace HB := Aside0.mk (below_step q0c4_ hb); clear hb) | (go_at_call 16; (with_reducible refine (spec_DrawCountUnit.calls _ _ l1 t646 t647 _ ?s1 ?s2 A50.out).mono ?_); (case s1 => exact qe02_ HR1.out); (case s2 => exact HC1.out); rintro e w66 ⟨rfl, hb⟩; replace HO628 := Aside0.mk (Kd.S_below (qd7e_ HO628.out) hb); replace HO632 := Aside0.mk (Kd.R_below (q9d5_ HO632.out) hb); replace HO636 := Aside0.mk (Kd.R_below (q9d5_ HO636.out) hb); replace HO641 := Aside0.mk (Kd.R_below (q9d5_ HO641.out) hb); replace HB := Aside0.mk (below_step q0c4_ hb); clear hb) | (go_at_call 17; (with_reducible refine (impl_CountUnit.calls kj21 t646 t647 t648 t649 _ A51.out).mono ?_); rintro e w67 ⟨rfl, hb⟩; replace HO628 := Aside0.mk (Kd.S_below (qd7e_ HO628.out) hb); replace HO632 := Aside0.mk (Kd.R_below (q9d5_ HO632.out) hb); replace HO636 := Aside0.mk (Kd.R_below (q9d5_ HO636.out) hb); replace HO641 := Aside0.mk (Kd.R_below (q9d5_ HO641.out) hb); replace HB := Aside0.mk (below_step q0c4_ hb); clear hb) | (go_at_call 18; (with_reducible refine (spec_CountUnit.calls kj21 t646 t647 t650 t651 _ A52.out).mono ?_); rintro e w68 ⟨rfl, hb⟩; replace HO628 := Aside0.mk (Kd.S_below (qd7e_ HO628.out) hb); replace HO632 := Aside0.mk (Kd.R_below (q9d5_ HO632.out) hb); replace HO636 := Aside0.mk (Kd.R_below (q9d5_ HO636.out) hb); replace HO641 := Aside0.mk (Kd.R_below (q9d5_ HO641.out) hb); replace HB := Aside0.mk (below_step q0c4_ hb); clear hb)); try (go_quiet ((go_at_call 11; (with_reducible refine (laws_jSame.calls kj21 _ _ t629 _ _ t633 true _ ?s1 ?s2 ?s3 ?s4 A43.out).mono ?_); (case s1 => exact q5a8_ HO632.out); (case s2 => exact (Kd.R_reads' HO632.out).2.1); (case s3 => exact q5a8_ HO636.out); (case s4 => exact (Kd.R_reads' HO636.out).2.1); rintro e w' ⟨rfl, ⟨nd, rfl⟩⟩; (try exact q447_))); have zz_ := trivial))
               (try simp only [Act.put, List.setIfInBounds_toArray, List.set_cons_zero, List.set_cons_succ])
               go_cut [185] (fun v185 wc => ∃ (kq : Nat) (x185_54 : Bool), v185 = .bool x185_54 ∧ Aside0 (laws_FnUnitParking.j4 kq t646 t647 t648 x185_54 = some r) ∧ Aside0 (kq ≤ kj21) ∧ Aside0 (Below w.heap.size w wc))
               case first =>
                have H := HC55.out
                clear HC55
                by_cases c69 : t649 = true
                ·
                 subst c69
                 rw [if_pos rfl] at H
                 have H' := Aside0.mk H
                 clear H
                 go_wp2
                 repeat (go_quiet (fail); try go_wp2)
                 go_meet
                 case rel => exact ⟨_, (decide (t647 < 8)), qc8f_, H', ⟨q313_ HJ11.out HJ21.out⟩, ⟨q0c4_⟩⟩
                ·
                 replace c69 := Bool.eq_false_iff.mpr c69
                 subst c69
                 rw [if_neg nf_] at H
                 have H' := Aside0.mk H
                 clear H
                 go_wp2
                 repeat (go_quiet (fail); try go_wp2)
                 go_meet
                 case rel => exact ⟨_, (false), qc8f_, H', ⟨q313_ HJ11.out HJ21.out⟩, ⟨q0c4_⟩⟩
               case rest =>
                clear HC55; try clear c1; try clear c2; try clear p2; try clear c3; try clear c4; try clear c5; try clear c6; try clear p6; try clear q6; try clear hx6; try clear c8; try clear c8b0; try clear c8b1; try clear c8b2; try clear c10; try clear c20; try clear c21; try clear c23; try clear c25; try clear c27; try clear c30; try clear c30b0; try clear c31; try clear c31b0; try clear c32; try clear c32b0; try clear c33; try clear c33b0; try clear c34; try clear c34b0; try clear c36; try clear c36b0; try clear c37; try clear c37b0; try clear c38; try clear c38b0; try clear c42; try clear c42b0; try clear c42b1; try clear c42b2; try clear c44; try clear c48; try clear c48b0; try clear c48b1; try clear c48b2; try clear c49; try clear c49b0; try clear c49b1; try clear c49b2; try clear c53; try clear c53b0; try clear c53b1; try clear c53b2; try clear c54; try clear c54b0; try clear c54b1; try clear c62; try clear p62; try clear q62; try clear hx62; try clear p64; try clear c69; try clear hx623_0; try clear hx624_0; try clear hx625_0; try clear p2; try clear p6; try clear p623; try clear p624; try clear p625; try clear q6; try clear q623; try clear q624; try clear q625
                obtain ⟨kq, x185_54, rfl, HA, HJ54, HB⟩ := hcut
                cases kq with
                | zero => exact absurd HA.out (by simp [laws_FnUnitParking.j4])
                | succ kj54 =>
                 have H := HA.out
                 clear HA
                 simp only [laws_FnUnitParking.j4] at H
                 by_cases c70 : x185_54 = true
                 ·
                  subst c70
                  rw [if_pos rfl] at H
                  obtain ⟨⟨t652, t653⟩, A71, H⟩ := ob_ H
                  dsimp only at H
                  obtain ⟨⟨t654, t655⟩, A72, H⟩ := ob_ H
                  dsimp only at H
                  by_cases c73 : t653 = true
                  ·
                   subst c73
                   rw [if_pos rfl] at H
                   by_cases c74 : t655 = true
                   ·
                    subst c74
                    rw [if_pos rfl] at H
                    by_cases c75 : t648 ≤ t652
                    ·
                     rw [if_pos c75] at H
                     have c75b0 := decide_eq_true c75
                     clear c75
                     by_cases c76 : t652 ≤ t654
                     ·
                      rw [if_pos c76] at H
                      have c76b0 := decide_eq_true c76
                      clear c76
                      by_cases c77 : t647 < (wrap64 (t646 - 1))
                      ·
                       rw [if_pos c77] at H
                       have c77b0 := decide_eq_true c77
                       clear c77
                       obtain rfl := Option.some.inj H
                       have zz_ := trivial
                       repeat (clear zz_; go_wp2_with (first | (go_at_call 17; (with_reducible refine (impl_CountUnit.calls kj54 t646 (wrap64 (t647 + 1)) t652 true _ A71.out).mono ?_); rintro e w78 ⟨rfl, hb⟩; replace HB := Aside0.mk (below_step q0c4_ hb); clear hb) | (go_at_call 19; (with_reducible refine (impl_CountParking.calls kj54 t646 t654 true _ A72.out).mono ?_); rintro e w79 ⟨rfl, hb⟩; replace HB := Aside0.mk (below_step q0c4_ hb); clear hb)); try (go_quiet (fail); have zz_ := trivial))
                       go_ret
                       exact ⟨qce7_, q0c4_⟩
                      ·
                       rw [if_neg c77] at H
                       have c77b0 := decide_eq_false c77
                       clear c77
                       obtain rfl := Option.some.inj H
                       have zz_ := trivial
                       repeat (clear zz_; go_wp2_with (first | (go_at_call 17; (with_reducible refine (impl_CountUnit.calls kj54 t646 (wrap64 (t647 + 1)) t652 true _ A71.out).mono ?_); rintro e w80 ⟨rfl, hb⟩; replace HB := Aside0.mk (below_step q0c4_ hb); clear hb) | (go_at_call 19; (with_reducible refine (impl_CountParking.calls kj54 t646 t654 true _ A72.out).mono ?_); rintro e w81 ⟨rfl, hb⟩; replace HB := Aside0.mk (below_step q0c4_ hb); clear hb)); try (go_quiet (fail); have zz_ := trivial))
                       go_ret
                       exact ⟨qce7_, q0c4_⟩
                     ·
                      rw [if_neg c76] at H
                      exact absurd H (by simp)
                    ·
                     rw [if_neg c75] at H
                     exact absurd H (by simp)
                   ·
                    replace c74 := Bool.eq_false_iff.mpr c74
                    subst c74
                    rw [if_neg nf_] at H
                    exact absurd H (by simp)
                  ·
                   replace c73 := Bool.eq_false_iff.mpr c73
                   subst c73
                   rw [if_neg nf_] at H
                   exact absurd H (by simp)
                 ·
                  replace c70 := Bool.eq_false_iff.mpr c70
                  subst c70
                  rw [if_neg nf_] at H
                  obtain rfl := Option.some.inj H
                  go_wp2
                  repeat (go_quiet (fail); try go_wp2)
                  go_ret
                  exact ⟨qce7_, q0c4_⟩
              ·
               rw [if_neg c54] at H
               exact absurd H (by simp)
          ·
           replace c44 := Bool.eq_false_iff.mpr c44
           subst c44
           rw [if_neg nf_] at H
           exact absurd H (by simp)
   ·
    replace c10 := Bool.eq_false_iff.mpr c10
    subst c10
    rw [if_neg nf_] at H
    exact absurd H (by simp)

/-- THE ONE PURE STATEMENT of laws_FnUnitParking: yours. -/
def laws_FnUnitParking.Pure : Prop := ∀ (l0 : List Int) (l1 : List Int), l0.length ≤ maxLen → l0.length * 1 ≤ 140737488351232 → (∀ x ∈ l0, (Lit.int .u8 x).wf = true) → l1.length ≤ maxLen → l1.length * 1 ≤ 140737488351232 → (∀ x ∈ l1, (Lit.int .u8 x).wf = true) → ∃ k, laws_FnUnitParking.f k l0 l1 = some true
theorem laws_FnUnitParking.walk (P : laws_FnUnitParking.Pure) (a0 : Option Addr) (len0 cap0 : Nat) (z0 : List Int) (a1 : Option Addr) (len1 cap1 : Nat) (z1 : List Int) (w : World) (w0 : (a0 = none ∧ len0 = 0 ∧ cap0 = 0 ∧ z0 = []) ∨ ∃ x, a0 = some x ∧ len0 ≤ cap0 ∧ cap0 ≤ maxLen ∧ z0.length = cap0 ∧ (∀ i, i < z0.length → w.cell? (x.add i) = some (.int .u8 (z0.getD i 0))) ∧ ∀ n ∈ z0, (Lit.int .u8 n).wf = true) (y0 : len0 * 1 ≤ 140737488351232) (w1 : (a1 = none ∧ len1 = 0 ∧ cap1 = 0 ∧ z1 = []) ∨ ∃ x, a1 = some x ∧ len1 ≤ cap1 ∧ cap1 ≤ maxLen ∧ z1.length = cap1 ∧ (∀ i, i < z1.length → w.cell? (x.add i) = some (.int .u8 (z1.getD i 0))) ∧ ∀ n ∈ z1, (Lit.int .u8 n).wf = true) (y1 : len1 * 1 ≤ 140737488351232) :
  Calls Tryz.prog 3 #[.slice a0 len0 cap0, .slice a1 len1 cap1] w fun e w' => e = .returned (.bool true) ∧ Below w.heap.size w w' := by
 obtain ⟨l0, rfl, hr0, hm0, hw0, hc0⟩ := ReadsInt.ofRowC w0
 obtain ⟨l1, rfl, hr1, hm1, hw1, hc1⟩ := ReadsInt.ofRowC w1
 obtain ⟨k, h⟩ := P l0 l1 hm0 y0 hw0 hm1 y1 hw1
 refine (laws_FnUnitParking.calls k _ _ l0 _ _ l1 true w (Kd.C_of_reads (d := (0 : Int)) (h1 := fun _ => rfl) hr0) hc0 (Kd.C_of_reads (d := (0 : Int)) (h1 := fun _ => rfl) hr1) hc1 h).mono ?_
 rintro e w' ⟨rfl, hd⟩
 exact ⟨rfl, hd⟩

end Go.Proofs.YtleemfmhilhklaaGreat.PAll
