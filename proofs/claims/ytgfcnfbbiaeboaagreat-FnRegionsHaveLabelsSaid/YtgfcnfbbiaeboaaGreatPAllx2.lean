-- written by a program of this session (wip/gen/xpatch.py over the translation); Lean checks it
import Derived.Test.YtgfcnfbbiaeboaaGreatPAllx0
import Derived.Test.YtgfcnfbbiaeboaaGreatPAllx1
namespace Go.Proofs.YtgfcnfbbiaeboaaGreat.PAll
open Go.RowKit Go.Proofs.YtgfcnfbbiaeboaaGreat.Hand Go.Proofs.YtgfcnfbbiaeboaaGreatW.PrintWords Go.Proofs.YtgfcnfbbiaeboaaGreatW.PrintLast Go.Proofs.YtgfcnfbbiaeboaaGreatW.PrintMore
attribute [local go_sem] max2_int min2_int max_two min_two max_three min_three max_four min_four   -- for this text's walks alone
set_option maxHeartbeats 8000000
set_option maxRecDepth 100000
set_option linter.unusedVariables false
set_option linter.unusedSimpArgs false

/-! ### slices_Contains_int_int: function 40 -/
def slices_Contains_int_int.f (k : Nat) (l0 : List Int) (a1 : Int) : Option (Bool) := (slices_Index_int_int.f k l0 a1).bind fun t199 => (some (decide (t199 ≥ 0)))
theorem slices_Contains_int_int.mono : ∀ a0 a1 k, LeO (slices_Contains_int_int.f k a0 a1) (slices_Contains_int_int.f (k + 1) a0 a1) := by
 intro a0 a1 k
 unfold slices_Contains_int_int.f
 repeat' (with_reducible first | exact slices_Index_int_int.mono _ _ _ | exact LeO.refl _ | exact LeO.none _ | refine LeO.ite ?_ ?_ | refine LeO.bind ?_ (fun _ => ?_))
theorem slices_Contains_int_int.calls (k : Nat) (A0 : Option Addr) (c0 : Nat) (l0 : List Int) (a1 : Int) (r : Bool) (w : World) (hr0 : Kd.C (Kd.int .i64) w A0 l0.length l0) (hc0 : l0.length ≤ c0) (h : slices_Contains_int_int.f k l0 a1 = some r) :
  Calls Tryz.prog 40 #[.slice A0 l0.length c0, .int .i64 a1] w fun e w' => e = .returned (.bool r) ∧ Drawn0 w w' := by
 have HR0 := Aside0.mk hr0
 have HC0 := Aside0.mk hc0
 clear hr0 hc0
 unfold slices_Contains_int_int.f at h
 have H := h; clear h
 obtain ⟨t199, A3, H⟩ := ob_ H
 obtain rfl := Option.some.inj H
 go_enter Tryz.func40, Tryz.ntmps40
 go_wp2_with (first | ((with_reducible refine gate_callee (f := 60) rfl ?_); refine gl_ 7 Tryz.func60 #[.slice A0 l0.length c0, .int .i64 a1] ?_; (with_reducible refine (slices_Index_int_int.calls k _ _ l0 a1 t199 _ ?s1 ?s2 A3.out).mono ?_); (case s1 => exact q201_ HR0.out); (case s2 => exact HC0.out); rintro e w' ⟨rfl, ⟨nd, rfl⟩⟩; refine ⟨_, rfl, ?_⟩))
 go_ret
 exact ⟨qc8f_, qffa_⟩

/-! ### impl_regionOf: function 21 -/
mutual
def impl_regionOf.j0 : Nat → List Int → Int → Int → List Int → List Int → Option (List Int × List Int × Bool)
 | 0, _, _, _, _, _ => none
 | k + 1, x0, x6, x7, x176000, x176001 => impl_regionOf.l0 k x0 x6 x7 x0 (x0.length : Int) 0 x176000 x176001
def impl_regionOf.l0 : Nat → List Int → Int → Int → List Int → Int → Int → List Int → List Int → Option (List Int × List Int × Bool)
 | 0, _, _, _, _, _, _, _, _ => none
 | k + 1, x0, x6, x7, x30, x31, x32, x176000, x176001 => if x32 < x31 then (if 0 ≤ x32 then (if x32 < (x30.length : Int) then ((slices_Contains_int_int.f k x176000 x32).bind fun t179 => (if t179 = true then (impl_regionOf.l0 k x0 x6 x7 x30 x31 (wrap64 (x32 + 1)) x176000 x176001) else (impl_regionOf.l1 k x0 x6 x7 x32 (rd x30 x32) x7 x30 x31 x32 x176000 x176001))) else (none)) else (none)) else (some (([] : List Int), ([] : List Int), false))
def impl_regionOf.j3 : Nat → List Int → Int → Int → Int → Int → Int → List Int → Int → Int → List Int → List Int → Option (List Int × List Int × Bool)
 | 0, _, _, _, _, _, _, _, _, _, _, _ => none
 | k + 1, x0, x6, x7, x8, x9, x10, x30, x31, x32, x176000, x176001 => (impl_labelAt.f x176000 x10 x8).bind fun t181 => (if t181 = x9 then ((slices_Clone_int_int.f x176000).bind fun t182 => ((some (([x8] : List Int) : List Int)).bind fun y185 => (if t182.length + y185.length < 17592186044416 then ((slices_Clone_int_int.f x176001).bind fun t191 => ((some (([x10] : List Int) : List Int)).bind fun y194 => (if t191.length + y194.length < 17592186044416 then ((impl_regionOf.f k x0 (t182 ++ y185) (t191 ++ y194)).bind fun bt201 => (if bt201.2.2 = true then (some (bt201.1, bt201.2.1, true)) else (impl_regionOf.l0 k x0 x6 x7 x30 x31 (wrap64 (x32 + 1)) x176000 x176001))) else (none)))) else (none)))) else (impl_regionOf.l0 k x0 x6 x7 x30 x31 (wrap64 (x32 + 1)) x176000 x176001))
def impl_regionOf.l1 : Nat → List Int → Int → Int → Int → Int → Int → List Int → Int → Int → List Int → List Int → Option (List Int × List Int × Bool)
 | 0, _, _, _, _, _, _, _, _, _, _, _ => none
 | k + 1, x0, x6, x7, x8, x9, x10, x30, x31, x32, x176000, x176001 => if x10 < x6 then ((impl_labelAt.f x176000 x10 x8).bind fun t180 => (if t180 < x9 then (impl_regionOf.l1 k x0 x6 x7 x8 x9 (wrap64 (x10 + 1)) x30 x31 x32 x176000 x176001) else (impl_regionOf.j3 k x0 x6 x7 x8 x9 x10 x30 x31 x32 x176000 x176001))) else (impl_regionOf.j3 k x0 x6 x7 x8 x9 x10 x30 x31 x32 x176000 x176001)
def impl_regionOf.f : Nat → List Int → List Int → List Int → Option (List Int × List Int × Bool)
 | 0, _, _, _ => none
 | k + 1, l0, l1_0, l1_1 => if (l1_0.length : Int) = (l0.length : Int) then (some (l1_0, l1_1, true)) else (if (l1_0.length : Int) > 0 then (if 0 ≤ (wrap64 ((l1_0.length : Int) - 1)) then (if (wrap64 ((l1_0.length : Int) - 1)) < (l1_1.length : Int) then (impl_regionOf.j0 k l0 (l1_0.length : Int) (rd l1_1 (wrap64 ((l1_0.length : Int) - 1))) l1_0 l1_1) else (none)) else (none)) else (impl_regionOf.j0 k l0 (l1_0.length : Int) 0 l1_0 l1_1))
end
theorem impl_regionOf.mono_l : ∀ k, (∀ y0 y1 y2, LeO (impl_regionOf.f k y0 y1 y2) (impl_regionOf.f (k + 1) y0 y1 y2)) ∧ (∀ y0 y1 y2 y3 y4, LeO (impl_regionOf.j0 k y0 y1 y2 y3 y4) (impl_regionOf.j0 (k + 1) y0 y1 y2 y3 y4)) ∧ (∀ y0 y1 y2 y3 y4 y5 y6 y7, LeO (impl_regionOf.l0 k y0 y1 y2 y3 y4 y5 y6 y7) (impl_regionOf.l0 (k + 1) y0 y1 y2 y3 y4 y5 y6 y7)) ∧ (∀ y0 y1 y2 y3 y4 y5 y6 y7 y8 y9 y10, LeO (impl_regionOf.j3 k y0 y1 y2 y3 y4 y5 y6 y7 y8 y9 y10) (impl_regionOf.j3 (k + 1) y0 y1 y2 y3 y4 y5 y6 y7 y8 y9 y10)) ∧ (∀ y0 y1 y2 y3 y4 y5 y6 y7 y8 y9 y10, LeO (impl_regionOf.l1 k y0 y1 y2 y3 y4 y5 y6 y7 y8 y9 y10) (impl_regionOf.l1 (k + 1) y0 y1 y2 y3 y4 y5 y6 y7 y8 y9 y10))
 | 0 => ⟨fun _ _ _ r h => by simp [impl_regionOf.f] at h, fun _ _ _ _ _ r h => by simp [impl_regionOf.j0] at h, fun _ _ _ _ _ _ _ _ r h => by simp [impl_regionOf.l0] at h, fun _ _ _ _ _ _ _ _ _ _ _ r h => by simp [impl_regionOf.j3] at h, fun _ _ _ _ _ _ _ _ _ _ _ r h => by simp [impl_regionOf.l1] at h⟩
 | k + 1 => by
  obtain ⟨ih0, ih1, ih2, ih3, ih4⟩ := impl_regionOf.mono_l k
  refine ⟨?_, ?_, ?_, ?_, ?_⟩
  ·
   intro y0 y1 y2
   unfold impl_regionOf.f
   repeat' (with_reducible first | exact ih0 _ _ _ | exact ih1 _ _ _ _ _ | exact ih2 _ _ _ _ _ _ _ _ | exact ih3 _ _ _ _ _ _ _ _ _ _ _ | exact ih4 _ _ _ _ _ _ _ _ _ _ _ | exact slices_Contains_int_int.mono _ _ _ | exact LeO.refl _ | exact LeO.none _ | refine LeO.ite ?_ ?_ | refine LeO.bind ?_ (fun _ => ?_))
  ·
   intro y0 y1 y2 y3 y4
   unfold impl_regionOf.j0
   repeat' (with_reducible first | exact ih0 _ _ _ | exact ih1 _ _ _ _ _ | exact ih2 _ _ _ _ _ _ _ _ | exact ih3 _ _ _ _ _ _ _ _ _ _ _ | exact ih4 _ _ _ _ _ _ _ _ _ _ _ | exact slices_Contains_int_int.mono _ _ _ | exact LeO.refl _ | exact LeO.none _ | refine LeO.ite ?_ ?_ | refine LeO.bind ?_ (fun _ => ?_))
  ·
   intro y0 y1 y2 y3 y4 y5 y6 y7
   unfold impl_regionOf.l0
   repeat' (with_reducible first | exact ih0 _ _ _ | exact ih1 _ _ _ _ _ | exact ih2 _ _ _ _ _ _ _ _ | exact ih3 _ _ _ _ _ _ _ _ _ _ _ | exact ih4 _ _ _ _ _ _ _ _ _ _ _ | exact slices_Contains_int_int.mono _ _ _ | exact LeO.refl _ | exact LeO.none _ | refine LeO.ite ?_ ?_ | refine LeO.bind ?_ (fun _ => ?_))
  ·
   intro y0 y1 y2 y3 y4 y5 y6 y7 y8 y9 y10
   unfold impl_regionOf.j3
   repeat' (with_reducible first | exact ih0 _ _ _ | exact ih1 _ _ _ _ _ | exact ih2 _ _ _ _ _ _ _ _ | exact ih3 _ _ _ _ _ _ _ _ _ _ _ | exact ih4 _ _ _ _ _ _ _ _ _ _ _ | exact slices_Contains_int_int.mono _ _ _ | exact LeO.refl _ | exact LeO.none _ | refine LeO.ite ?_ ?_ | refine LeO.bind ?_ (fun _ => ?_))
  ·
   intro y0 y1 y2 y3 y4 y5 y6 y7 y8 y9 y10
   unfold impl_regionOf.l1
   repeat' (with_reducible first | exact ih0 _ _ _ | exact ih1 _ _ _ _ _ | exact ih2 _ _ _ _ _ _ _ _ | exact ih3 _ _ _ _ _ _ _ _ _ _ _ | exact ih4 _ _ _ _ _ _ _ _ _ _ _ | exact slices_Contains_int_int.mono _ _ _ | exact LeO.refl _ | exact LeO.none _ | refine LeO.ite ?_ ?_ | refine LeO.bind ?_ (fun _ => ?_))
theorem impl_regionOf.mono : ∀ a0 a1 a2 k, LeO (impl_regionOf.f k a0 a1 a2) (impl_regionOf.f (k + 1) a0 a1 a2) := by
 intro a0 a1 a2 k
 obtain ⟨ih0, ih1, ih2, ih3, ih4⟩ := impl_regionOf.mono_l k
 exact ih0 a0 a1 a2
def impl_regionOf.T15 : Bool × List (List Nat × List Nat) := (true, [([], []), ([0], [0]), ([1], [1]), ([], []), ([3], [3]), ([2, 4, 2], [2, 4]), ([], []), ([6], [6]), ([7, 5], [7]), ([], []), ([9], [9]), ([8, 10, 8], [8, 10]), ([5, 11], [5, 11]), ([], []), ([13, 12, 11, 0, 1, 2, 3, 4, 5, 6, 7, 8, 9, 10, 11, 12, 13], [12, 13])])
def impl_regionOf.B15 : List Nat := [0, 1, 3, 0, 8, 31, 0, 64, 255, 0, 512, 2047, 4095, 0, 16383]
theorem impl_regionOf.tab15 : rtab .any (opsOf Tryz.f21 15) = impl_regionOf.T15 := by kernel_rfl
theorem impl_regionOf.bits15 : waitsOk impl_regionOf.T15.2 impl_regionOf.B15 = true := by kernel_rfl
theorem impl_regionOf.calls0 (k : Nat) : ∀ (A0 : Option Addr) (c0 : Nat) (l0 : List Int) (B0 : Option Addr) (d0 : Nat) (l1_0 : List Int) (B1 : Option Addr) (d1 : Nat) (l1_1 r1 r2 : List Int) (r3 : Bool) (w : World) (hr0 : Kd.C (Kd.int .i64) w A0 l0.length l0) (hc0 : l0.length ≤ c0) (hr1 : Kd.C (Kd.int .i64) w B0 l1_0.length l1_0) (hc1 : l1_0.length ≤ d0) (hr2 : Kd.C (Kd.int .i64) w B1 l1_1.length l1_1) (hc2 : l1_1.length ≤ d1) (h : impl_regionOf.f k l0 l1_0 l1_1 = some (r1, r2, r3)),
  Calls Tryz.prog 21 #[.slice A0 l0.length c0, .agg #[.slice B0 l1_0.length d0, .slice B1 l1_1.length d1]] w fun e w' => ∃ v0_ v1_ : Value, e = .returned (.tuple #[.agg #[v0_, v1_], .bool r3]) ∧ RgR w w' (.slice B0 l1_0.length d0 : Value) (.slice B1 l1_1.length d1 : Value) l1_0 l1_1 v0_ v1_ r1 r2 := by
 induction k using Nat.strongRecOn with
 | _ k ih =>
 intro A0 c0 l0 B0 d0 l1_0 B1 d1 l1_1 r1 r2 r3 w hr0 hc0 hr1 hc1 hr2 hc2 h
 cases k with
 | zero => exact absurd h (by simp [impl_regionOf.f])
 | succ k =>
 simp only [impl_regionOf.f] at h
 have hu33 := Tryz.underlying27
 have HR0 := Aside0.mk hr0
 have HC0 := Aside0.mk hc0
 have HR1 := Aside0.mk hr1
 have HC1 := Aside0.mk hc1
 have HR2 := Aside0.mk hr2
 have HC2 := Aside0.mk hc2
 clear hr0 hc0 hr1 hc1 hr2 hc2; have H := h; clear h
 by_cases c3 : (l1_0.length : Int) = (l0.length : Int)
 ·
  rw [if_pos c3] at H
  have c3b0 := beq_iff_eq.mpr c3
  have c3b1 := bne_eq_false_iff_eq.mpr c3
  have c3b2 : (l1_0.length == l0.length) = true := q002_
  clear c3
  simp only [Option.some.injEq, Prod.mk.injEq] at H
  obtain ⟨rfl, rfl, rfl⟩ := H
  go_enter Tryz.func21, Tryz.ntmps21
  go_wp2_with (first | ((with_reducible refine gate_dst (N := 3) rfl ?_); refine box_event ?hg (N := 3) ?hd (cs := #[.slice B0 l1_0.length d0, .slice B1 l1_1.length d1]) (t := 27) ?hr ?_; (case hd => rfl); (case hg => rfl); (case hr => exact qfba_); intro g5 hg w4 hbox hb; have BK5 := Aside0.mk hbox; have HB := Aside0.mk (below_step (Below.refl _ _) hb); have GE5 := Aside0.mk (Nat.le_of_eq hg.symm); clear hb hbox hg) | ((with_reducible refine gate_dst (N := 4) rfl ?_); refine box_event ?hg (N := 4) ?hd (cs := #[.slice none 0 0, .slice none 0 0]) (t := 27) ?hr ?_; (case hd => rfl); (case hg => rfl); (case hr => exact qfba_); intro g6 hg w5 hbox hb; have HG := Aside0.mk (show Rg0 w w5 g5 g6 (.slice B0 l1_0.length d0 : Value) (.slice B1 l1_1.length d1 : Value) from ⟨below_step HB.out hb, blk_below BK5.out hb, hbox, GE5.out, by rw [hg]; exact HB.out.size, by rw [hg]; exact Nat.ne_of_lt (blk_lt BK5.out)⟩); clear hb hbox hg BK5 HB; have hnb := HG.out.ne; have hnc := HG.out.ne.symm; have hcz0 : w5.cell? ⟨g5, 0, none⟩ = some (.slice B0 l1_0.length d0) := (blk_cell HG.out.h5 0).trans rfl; have hcz1 : w5.cell? ⟨g5, 1, none⟩ = some (.slice B1 l1_1.length d1) := (blk_cell HG.out.h5 1).trans rfl; have hfz0 := blk_frozen HG.out.h5 0; have hfz1 := blk_frozen HG.out.h5 1; have hyz0 : w5.cell? ⟨g6, 0, none⟩ = some (.slice none 0 0) := (blk_cell HG.out.h6 0).trans rfl; have hyz1 : w5.cell? ⟨g6, 1, none⟩ = some (.slice none 0 0) := (blk_cell HG.out.h6 1).trans rfl; have hyf0 := blk_frozen HG.out.h6 0; have hyf1 := blk_frozen HG.out.h6 1))
  refine bodyPost_ret (results_ct rfl _ _ g6 27 #[.slice B0 l1_0.length d0, .slice B1 l1_1.length d1] (0, 0) _ rfl q87a_ Tryz.underlying27 rfl (by kernel_rfl)) rfl ?_
  exact ⟨_, _, q6e2_, ⟨qae6_, .inl ⟨rfl, rfl, rfl, rfl⟩⟩⟩
 ·
  rw [if_neg c3] at H
  have c3b0 := beq_eq_false_iff_ne.mpr c3
  have c3b1 := bne_iff_ne.mpr c3
  have c3b2 : (l1_0.length == l0.length) = false := q002_
  clear c3
  have HC11 := Aside0.mk H
  clear H
  go_enter Tryz.func21, Tryz.ntmps21
  go_upto_if 23 with (first | ((with_reducible refine gate_dst (N := 3) rfl ?_); refine box_event ?hg (N := 3) ?hd (cs := #[.slice B0 l1_0.length d0, .slice B1 l1_1.length d1]) (t := 27) ?hr ?_; (case hd => rfl); (case hg => rfl); (case hr => exact qfba_); intro g5 hg w4 hbox hb; have BK5 := Aside0.mk hbox; have HB := Aside0.mk (below_step (Below.refl _ _) hb); have GE5 := Aside0.mk (Nat.le_of_eq hg.symm); clear hb hbox hg) | ((with_reducible refine gate_dst (N := 4) rfl ?_); refine box_event ?hg (N := 4) ?hd (cs := #[.slice none 0 0, .slice none 0 0]) (t := 27) ?hr ?_; (case hd => rfl); (case hg => rfl); (case hr => exact qfba_); intro g6 hg w5 hbox hb; have HG := Aside0.mk (show Rg0 w w5 g5 g6 (.slice B0 l1_0.length d0 : Value) (.slice B1 l1_1.length d1 : Value) from ⟨below_step HB.out hb, blk_below BK5.out hb, hbox, GE5.out, by rw [hg]; exact HB.out.size, by rw [hg]; exact Nat.ne_of_lt (blk_lt BK5.out)⟩); clear hb hbox hg BK5 HB; have hnb := HG.out.ne; have hnc := HG.out.ne.symm; have hcz0 : w5.cell? ⟨g5, 0, none⟩ = some (.slice B0 l1_0.length d0) := (blk_cell HG.out.h5 0).trans rfl; have hcz1 : w5.cell? ⟨g5, 1, none⟩ = some (.slice B1 l1_1.length d1) := (blk_cell HG.out.h5 1).trans rfl; have hfz0 := blk_frozen HG.out.h5 0; have hfz1 := blk_frozen HG.out.h5 1))
  (try simp only [Act.put, List.setIfInBounds_toArray, List.set_cons_zero, List.set_cons_succ])
  clear hnb hnc hcz0 hcz1 hfz0 hfz1
  go_cut [7] (fun v7 wc => ∃ (kq : Nat) (x7 : Int), v7 = .int .i64 x7 ∧ Aside0 (impl_regionOf.j0 kq l0 (l1_0.length : Int) x7 l1_0 l1_1 = some (r1, r2, r3)) ∧ Aside0 (kq ≤ k) ∧ Aside0 (Rg0 w wc g5 g6 (.slice B0 l1_0.length d0 : Value) (.slice B1 l1_1.length d1 : Value)))
  case first =>
   have H := HC11.out
   clear HC11
   by_cases c18 : (l1_0.length : Int) > 0
   ·
    rw [if_pos c18] at H
    have c18b0 := decide_eq_true c18
    have c18b1 : decide (0 < l1_0.length) = true := decide_eq_true (by omega)
    clear c18
    (first | rw [c18b1] | rw [c18b0])
    obtain ⟨ji, hji⟩ : ∃ j_ : Int, (wrap64 ((l1_0.length : Int) - 1)) = j_ := ⟨_, rfl⟩
    replace H : (if 0 ≤ ji then (if ji < (l1_1.length : Int) then (impl_regionOf.j0 k l0 (l1_0.length : Int) (rd l1_1 ji) l1_0 l1_1) else (none)) else (none)) = some (r1, r2, r3) := by first | (rw [hji] at H; exact H) | (simp only [hji] at H ⊢; exact H)
    have hjiw : (IntKind.i64.wrap ((l1_0.length : Int) - 1)) = ji := (i64_w _).trans hji
    by_cases c20 : 0 ≤ ji
    ·
     rw [if_pos c20] at H
     by_cases c21 : ji < (l1_1.length : Int)
     ·
      rw [if_pos c21] at H
      have c20b0 := decide_eq_true c20
      have c21b0 := decide_eq_true c21
      have H' := Aside0.mk H
      clear H
      have hnb := HG.out.ne
      have hnc := HG.out.ne.symm
      have hcz0 : w5.cell? ⟨g5, 0, none⟩ = some (.slice B0 l1_0.length d0) := (blk_cell HG.out.h5 0).trans rfl
      have hcz1 : w5.cell? ⟨g5, 1, none⟩ = some (.slice B1 l1_1.length d1) := (blk_cell HG.out.h5 1).trans rfl
      have hfz0 := blk_frozen HG.out.h5 0
      have hfz1 := blk_frozen HG.out.h5 1
      obtain ⟨ad1, e1, hx1⟩ := Kd.at_int (Kd.C_below HR2.out HG.out.below) ji c20 c21
      cases e1
      replace c20 := eq_true c20
      replace c21 := eq_true c21
      go_wp2
      go_meet
      case rel => exact ⟨_, (rd l1_1 ji), (by first | rfl | (simp; done) | (simp only [← hji] <;> (first | rfl | simp)) | (simp [*]; done)), H', ⟨Nat.le_refl _⟩, ⟨qc52_⟩⟩
     · rw [if_neg c21] at H; exact absurd H (by simp)
    · rw [if_neg c20] at H; exact absurd H (by simp)
   ·
    rw [if_neg c18] at H
    have c18b0 := decide_eq_false c18
    have c18b1 : decide (0 < l1_0.length) = false := decide_eq_false (by omega)
    clear c18
    (first | rw [c18b1] | rw [c18b0])
    have H' := Aside0.mk H
    clear H
    go_wp2
    go_meet
    case rel => exact ⟨_, 0, qc8f_, H', ⟨Nat.le_refl _⟩, ⟨qc52_⟩⟩
  case rest =>
   clear HC11 HG c3b0 c3b1 c3b2; try clear GE5
   obtain ⟨kq, x7, rfl, HA, HJ1, HG⟩ := hcut
   cases kq with
   | zero => exact absurd HA.out (by simp [impl_regionOf.j0])
   | succ kj =>
   have H := HA.out
   clear HA
   simp only [impl_regionOf.j0] at H
   have H' := Aside0.mk H
   clear H
   go_wp2
   go_loopg [32] kj (fun kq v32 w' => ∃ (x32 : Int), v32 = .int .i64 x32 ∧ Aside0 (impl_regionOf.l0 kq l0 (l1_0.length : Int) x7 l0 (l0.length : Int) x32 l1_0 l1_1 = some (r1, r2, r3)) ∧ Aside0 (kq ≤ kj) ∧ Aside0 (Rg0 w w' g5 g6 (.slice B0 l1_0.length d0 : Value) (.slice B1 l1_1.length d1 : Value)))
   case atStart => exact ⟨0, q6e2_, H', ⟨Nat.le_refl _⟩, ⟨qc52_⟩⟩
   case round =>
    clear H' HG
    obtain ⟨x32, rfl, HA, HK2, HG⟩ := hrel
    cases gk with
    | zero => exact absurd HA.out (by simp [impl_regionOf.l0])
    | succ k2 =>
    have H := HA.out
    clear HA
    simp only [impl_regionOf.l0] at H
    by_cases c24 : x32 < (l0.length : Int)
    ·
     rw [if_pos c24] at H
     have c24b0 := decide_eq_true c24
     by_cases c25 : 0 ≤ x32
     ·
      rw [if_pos c25, if_pos c24] at H
      have c25b0 := decide_eq_true c25
      obtain ⟨t1, A1, H⟩ := ob_ H
      obtain ⟨ad2, e2, hx2⟩ := Kd.at_int (Kd.C_below HR0.out HG.out.below) x32 c25 c24
      cases e2
      replace c24 := eq_true c24
      replace c25 := eq_true c25
      have hnb := HG.out.ne
      have hnc := HG.out.ne.symm
      have hcz0 : wr.cell? ⟨g5, 0, none⟩ = some (.slice B0 l1_0.length d0) := (blk_cell HG.out.h5 0).trans rfl
      have hcz1 : wr.cell? ⟨g5, 1, none⟩ = some (.slice B1 l1_1.length d1) := (blk_cell HG.out.h5 1).trans rfl
      have hfz0 := blk_frozen HG.out.h5 0
      have hfz1 := blk_frozen HG.out.h5 1
      cases t1 with
      | true =>
       rw [if_pos rfl] at H
       have H' := Aside0.mk H
       clear H
       go_wp2_with (first | ((with_reducible refine gate_callee (f := 40) rfl ?_); refine gl_ 40 Tryz.func40 #[.slice B0 l1_0.length d0, .int .i64 x32] ?_; (with_reducible refine (slices_Contains_int_int.calls k2 _ _ l1_0 x32 true _ ?s1 ?s2 A1.out).mono ?_); (case s1 => exact (q5e2_ HR1.out)); (case s2 => exact HC1.out); rintro e w' ⟨rfl, ⟨nd, rfl⟩⟩; refine ⟨_, rfl, ?_⟩))
       go_roundg k2
       case measure => have := HJ1.out; have := HK2.out; omega
       case rel => exact ⟨(wrap64 (x32 + 1)), qc8f_, H', ⟨q37b_ HJ1.out HK2.out⟩, ⟨qc52_⟩⟩
      | false =>
       rw [if_neg nf_] at H
       have HC31 := Aside0.mk H
       clear H
       go_upto_block 2 with (first | ((with_reducible refine gate_callee (f := 40) rfl ?_); refine gl_ 40 Tryz.func40 #[.slice B0 l1_0.length d0, .int .i64 x32] ?_; (with_reducible refine (slices_Contains_int_int.calls k2 _ _ l1_0 x32 false _ ?s1 ?s2 A1.out).mono ?_); (case s1 => exact (q5e2_ HR1.out)); (case s2 => exact HC1.out); rintro e w' ⟨rfl, ⟨nd, rfl⟩⟩; refine ⟨_, rfl, ?_⟩))
       (try simp only [Act.put, List.setIfInBounds_toArray, List.set_cons_zero, List.set_cons_succ])
       clear hnb hnc hcz0 hcz1 hfz0 hfz1
       go_cut [10] (fun v10 wc => ∃ (kq : Nat) (x10 : Int), v10 = .int .i64 x10 ∧ Aside0 (impl_regionOf.j3 kq l0 (l1_0.length : Int) x7 x32 (rd l0 x32) x10 l0 (l0.length : Int) x32 l1_0 l1_1 = some (r1, r2, r3)) ∧ Aside0 (kq ≤ k2) ∧ Aside0 (Rg0 w wc g5 g6 (.slice B0 l1_0.length d0 : Value) (.slice B1 l1_1.length d1 : Value)))
       case first =>
        have H' := Aside0.mk HC31.out
        clear HC31
        have HG0 := Aside0.mk qc52_
        go_wp2
        go_loopg [10] k2 (fun kq v10 w' => ∃ (x10 : Int), v10 = .int .i64 x10 ∧ Aside0 (impl_regionOf.l1 kq l0 (l1_0.length : Int) x7 x32 (rd l0 x32) x10 l0 (l0.length : Int) x32 l1_0 l1_1 = some (r1, r2, r3)) ∧ Aside0 (kq ≤ k2) ∧ Aside0 (Rg0 w w' g5 g6 (.slice B0 l1_0.length d0 : Value) (.slice B1 l1_1.length d1 : Value)))
        case atStart => exact ⟨x7, q6e2_, H', ⟨Nat.le_refl _⟩, ⟨qc52_⟩⟩
        case round =>
         clear H' HG HG0
         obtain ⟨x10, rfl, HA, HK3, HG⟩ := hrel
         cases gk with
         | zero => exact absurd HA.out (by simp [impl_regionOf.l1])
         | succ k3 =>
         have H := HA.out
         clear HA
         simp only [impl_regionOf.l1] at H
         by_cases c34 : x10 < (l1_0.length : Int)
         ·
          rw [if_pos c34] at H
          have c34b0 := decide_eq_true c34
          clear c34
          (first | rw [c34b0] | (simp only [i64_w, i32_w]; rw [c34b0]) | skip)
          obtain ⟨t4, A4, H⟩ := ob_ H
          by_cases c36 : t4 < (rd l0 x32)
          ·
           rw [if_pos c36] at H
           have c36b0 := decide_eq_true c36
           clear c36
           have H' := Aside0.mk H
           clear H
           have hnb := HG.out.ne
           have hnc := HG.out.ne.symm
           have hcz0 : wr.cell? ⟨g5, 0, none⟩ = some (.slice B0 l1_0.length d0) := (blk_cell HG.out.h5 0).trans rfl
           have hcz1 : wr.cell? ⟨g5, 1, none⟩ = some (.slice B1 l1_1.length d1) := (blk_cell HG.out.h5 1).trans rfl
           have hfz0 := blk_frozen HG.out.h5 0
           have hfz1 := blk_frozen HG.out.h5 1
           go_wp2_with (first | (go_at_call 30; (with_reducible refine (impl_labelAt.calls _ _ l1_0 x10 x32 t4 _ ?s1 ?s2 A4.out).mono ?_); (case s1 => exact (q5e2_ HR1.out)); (case s2 => exact HC1.out); rintro e w6 ⟨rfl, hb⟩; have hg_ := Aside0.mk (Rg0.next qc52_ hb); clear HG; have HG := hg_; clear hg_ hb))
           go_roundg k3
           case measure => have := HJ1.out; have := HK2.out; have := HK3.out; omega
           case rel => exact ⟨(wrap64 (x10 + 1)), qc8f_, H', ⟨by have := HJ1.out; have := HK2.out; have := HK3.out; omega⟩, ⟨qc52_⟩⟩
          ·
           rw [if_neg c36] at H
           have c36b0 := decide_eq_false c36
           clear c36
           have H' := Aside0.mk H
           clear H
           have hnb := HG.out.ne
           have hnc := HG.out.ne.symm
           have hcz0 : wr.cell? ⟨g5, 0, none⟩ = some (.slice B0 l1_0.length d0) := (blk_cell HG.out.h5 0).trans rfl
           have hcz1 : wr.cell? ⟨g5, 1, none⟩ = some (.slice B1 l1_1.length d1) := (blk_cell HG.out.h5 1).trans rfl
           have hfz0 := blk_frozen HG.out.h5 0
           have hfz1 := blk_frozen HG.out.h5 1
           go_wp2_with (first | (go_at_call 30; (with_reducible refine (impl_labelAt.calls _ _ l1_0 x10 x32 t4 _ ?s1 ?s2 A4.out).mono ?_); (case s1 => exact (q5e2_ HR1.out)); (case s2 => exact HC1.out); rintro e w6 ⟨rfl, hb⟩; have hg_ := Aside0.mk (Rg0.next qc52_ hb); clear HG; have HG := hg_; clear hg_ hb))
           go_meet
           case rel => exact ⟨_, x10, qc8f_, H', ⟨q0d4_ HJ1.out HK2.out HK3.out⟩, ⟨qc52_⟩⟩
         ·
          rw [if_neg c34] at H
          have c34b0 := decide_eq_false c34
          clear c34
          (first | rw [c34b0] | (simp only [i64_w, i32_w]; rw [c34b0]) | skip)
          have H' := Aside0.mk H
          clear H
          go_wp2
          go_meet
          case rel => exact ⟨_, x10, qc8f_, H', ⟨q0d4_ HJ1.out HK2.out HK3.out⟩, ⟨qc52_⟩⟩
       case rest =>
        clear HC31 HG
        obtain ⟨kq, x10, rfl, HA, HJ3, HG⟩ := hcut
        cases kq with
        | zero => exact absurd HA.out (by simp [impl_regionOf.j3])
        | succ kj3 =>
        have H := HA.out
        clear HA
        simp only [impl_regionOf.j3] at H
        obtain ⟨t4, A5, H⟩ := ob_ H
        by_cases c44 : t4 = (rd l0 x32)
        ·
         rw [if_pos c44] at H
         have c44b0 := beq_iff_eq.mpr c44
         have c44b1 := bne_eq_false_iff_eq.mpr c44
         clear c44
         have hnb := HG.out.ne
         have hnc := HG.out.ne.symm
         have hcz0 : wc.cell? ⟨g5, 0, none⟩ = some (.slice B0 l1_0.length d0) := (blk_cell HG.out.h5 0).trans rfl
         have hcz1 : wc.cell? ⟨g5, 1, none⟩ = some (.slice B1 l1_1.length d1) := (blk_cell HG.out.h5 1).trans rfl
         have hfz0 := blk_frozen HG.out.h5 0
         have hfz1 := blk_frozen HG.out.h5 1
         go_wp2_with (first | ((with_reducible refine gate_callee (f := 30) rfl ?_); refine gl_ 60 Tryz.func30 #[.slice B0 l1_0.length d0, .int .i64 x10, .int .i64 x32] ?_; (with_reducible refine (impl_labelAt.calls _ _ l1_0 x10 x32 t4 _ ?s1 ?s2 A5.out).mono ?_); (case s1 => exact (q5e2_ HR1.out)); (case s2 => exact HC1.out); rintro e w6 ⟨rfl, hb⟩; refine ⟨_, rfl, ?_⟩; have hg_ := Aside0.mk (Rg0.next qc52_ hb); clear HG; have HG := hg_; clear hg_ hb))
         clear hnb hnc hcz0 hcz1 hfz0 hfz1
         obtain ⟨t2, A2, H⟩ := ob_ H
         obtain ⟨y5, hy5⟩ : ∃ y_ : List Int, y_ = ([x32] : List Int) := ⟨_, rfl⟩
         rw [← hy5] at H
         simp only [Option.bind_some] at H
         by_cases c46 : t2.length + y5.length < 17592186044416
         ·
          rw [if_pos c46] at H
          have L5 := Aside0.mk c46
          clear c46
          obtain ⟨t3, A3, H⟩ := ob_ H
          obtain ⟨y6, hy6⟩ : ∃ y_ : List Int, y_ = ([x10] : List Int) := ⟨_, rfl⟩
          rw [← hy6] at H
          (try simp only [Option.bind_some] at H)
          by_cases c48 : t3.length + y6.length < 17592186044416
          ·
           rw [if_pos c48] at H
           have L11 := Aside0.mk c48
           clear c48
           obtain ⟨⟨s1, s2, s3⟩, A4, H2⟩ := ob_ H
           dsimp only at H2
           have Hs := Aside0.mk H2
           clear H H2
           subst hy5
           subst hy6
           refine start_ (n := 15) (S := fun w' => True) (ds := []) #[false, false, false, false, false, false, false, false, false, false, false, false, false, false, false] (by kernel_rfl) rfl rfl trivial (fun hHeld => ?_); refine with_tabW impl_regionOf.tab15 impl_regionOf.bits15 (fun HT_ HW_ => ?_)
           have HG2 := Aside0.mk (Rg0.drew HG.out)
           clear HG
           generalize w6.drew = wd at HG2 hHeld ⊢
           refine pure_ (i := 0) (N := some 63) (v := ?_) (a' := ?_) #[true, false, false, false, false, false, false, false, false, false, false, false, false, false, false] rfl rfl (any_of HT_.out (by kernel_rfl)) (fun _ _ _ h => h) (Or.inl ⟨by rfl, ?_⟩) ?_ ?_
           rotate_left
           · intro w'; go_simp; with_reducible rfl
           rotate_left
           · simp only [Act.put, List.setIfInBounds_toArray, List.set_cons_zero, List.set_cons_succ, i64_w, i32_w]; rfl
           refine pure_ (i := 3) (N := some 66) (v := ?_) (a' := ?_) #[true, false, false, true, false, false, false, false, false, false, false, false, false, false, false] rfl rfl (any_of HT_.out (by kernel_rfl)) (fun _ _ _ h => h) (Or.inl ⟨by rfl, ?_⟩) ?_ ?_
           rotate_left
           · intro w'; go_simp; with_reducible rfl
           rotate_left
           · simp only [Act.put, List.setIfInBounds_toArray, List.set_cons_zero, List.set_cons_succ, i64_w, i32_w]; rfl
           refine pure_ (i := 6) (N := some 69) (v := ?_) (a' := ?_) #[true, false, false, true, false, false, true, false, false, false, false, false, false, false, false] rfl rfl (any_of HT_.out (by kernel_rfl)) (fun _ _ _ h => h) (Or.inl ⟨by rfl, ?_⟩) ?_ ?_
           rotate_left
           · intro w'; go_simp; with_reducible rfl
           rotate_left
           · simp only [Act.put, List.setIfInBounds_toArray, List.set_cons_zero, List.set_cons_succ, i64_w, i32_w]; rfl
           refine pure_ (i := 9) (N := some 72) (v := ?_) (a' := ?_) #[true, false, false, true, false, false, true, false, false, true, false, false, false, false, false] rfl rfl (any_of HT_.out (by kernel_rfl)) (fun _ _ _ h => h) (Or.inl ⟨by rfl, ?_⟩) ?_ ?_
           rotate_left
           · intro w'; go_simp; with_reducible rfl
           rotate_left
           · simp only [Act.put, List.setIfInBounds_toArray, List.set_cons_zero, List.set_cons_succ, i64_w, i32_w]; rfl
           refine inv_at [1, 2, 4, 5, 7, 8, 10, 11, 12, 13, 14] (fun a0_ b a w' => ∃ (u2 u4 u5 u8 u10 u11 : Value) (gn : Nat) (m12 m13 : Value), a = putSel a0_ b [(1, 64, .slice B0 l1_0.length d0), (2, 65, u2), (4, 67, u4), (5, 68, u5), (7, 70, .slice B1 l1_1.length d1), (8, 71, u8), (10, 73, u10), (11, 74, u11), (12, 75, m12), (13, 11, m13)] ∧ (RgI w w' g5 g6 (.slice B0 l1_0.length d0 : Value) (.slice B1 l1_1.length d1 : Value) t2 t3 [x32] [x10] (b 2) (b 4) (b 5) (b 8) (b 10) (b 11) (b 13) (b 14) u2 u4 u5 u8 u10 u11 gn) ∧ (b 12 = true → m12 = .agg #[u5, u11]) ∧ (b 13 = true → m13 = .pointer (some ⟨gn, 0, none⟩))) HT_.out HW_.out (by kernel_rfl) (by kernel_rfl) ?_ ?_ ?_
           · exact ⟨.bool false, .bool false, .bool false, .bool false, .bool false, .bool false, 0, .bool false, .bool false, by simp only [putSel, Bool.false_eq_true, if_false], RgI.start HG2.out, fun h_ => absurd h_ (by decide), fun h_ => absurd h_ (by decide)⟩
           ·
            clear HG2
            refine steps_cons ?_ ?_
            ·
             rintro b a w' ⟨u2, u4, u5, u8, u10, u11, gn, m12, m13, ha, hI, h12, h13⟩ hb_ hon hoff
             refine ⟨_, rfl, fun K hK => ?_⟩
             have e63 : a.tmps[63]? = some (.pointer (some ⟨g5, 0, none⟩)) := q32c_
             replace ha := Aside0.mk ha
             have HI := Aside0.mk hI
             clear hI
             have hc0_ : w'.cell? ⟨g5, 0, none⟩ = some (.slice B0 l1_0.length d0) := (blk_cell HI.out.r0.h5 0).trans rfl
             have hc1_ : w'.cell? ⟨g5, 1, none⟩ = some (.slice B1 l1_1.length d1) := (blk_cell HI.out.r0.h5 1).trans rfl
             refine value_ (w1 := w') (v := .slice B0 l1_0.length d0) (by rfl) rfl ?_ ?_
             · go_simp; (try simp only [i64_w]); try rfl
             refine hK.out _ _ ⟨u2, u4, u5, u8, u10, u11, gn, m12, m13, (by rw [ha.out]; exact putSel_upk 0 hb_ rfl rfl rfl), HI.out, h12, h13⟩
            refine steps_cons ?_ ?_
            ·
             rintro b a w' ⟨u2, u4, u5, u8, u10, u11, gn, m12, m13, ha, hI, h12, h13⟩ hb_ hon hoff
             refine ⟨_, rfl, fun K hK => ?_⟩
             have e64 : a.tmps[64]? = some (.slice B0 l1_0.length d0) := by rw [ha]; exact putSel_on (e := (1, 64, .slice B0 l1_0.length d0)) 0 rfl rfl (hon 1 (by kernel_rfl)) rfl
             replace ha := Aside0.mk ha
             have HI := Aside0.mk hI
             clear hI
             refine goes_ Tryz.func41 (by kernel_rfl) rfl #[.slice B0 l1_0.length d0] (by rfl) rfl rfl (by first | (simp only [List.map_toArray, List.map_cons, List.map_nil, Act.eval, Array.getD_eq_getD_getElem?, Option.getD_some, e64]; done) | (simp only [List.map_toArray, List.map_cons, List.map_nil, Act.eval, Array.getD_eq_getD_getElem?, Option.getD_some, e64]; rfl)) ?_
             refine (slices_Clone_int_int.calls _ _ l1_0 t2 _ (Kd.C_below HR1.out HI.out.r0.below) HC1.out A2.out).mono ?_
             rintro e w1 ⟨vn, rfl, ho, hb⟩
             refine ⟨_, rfl, ?_⟩
             refine hK.out _ _ ⟨vn, u4, u5, u8, u10, u11, gn, m12, m13, (by rw [ha.out]; exact putSel_upk 1 hb_ rfl rfl rfl), (HI.out.s2 (hoff 11 (by kernel_rfl)) hb ho), fun h_ => absurd ((hoff 12 (by kernel_rfl)).symm.trans h_) (by decide), h13⟩
            refine steps_cons ?_ ?_
            ·
             rintro b a w' ⟨u2, u4, u5, u8, u10, u11, gn, m12, m13, ha, hI, h12, h13⟩ hb_ hon hoff
             refine ⟨_, rfl, fun K hK => ?_⟩
             have e66 : a.tmps[66]? = some (.int .i64 x32) := q32c_
             replace ha := Aside0.mk ha
             have HI := Aside0.mk hI
             clear hI
             refine Kd.R_lit_step (Kd.int .i64) _ 3 ?hg (N := 67) ?hd (xs := ([x32] : List Int)) (inner := [.int .i64 x32]) (ok := fun _ => True) (okp := fun _ => True) ?hr ?hp (fun _ hk => hk) trivial (Below.refl _ _) (Nat.le_refl _) (by simp) ?_; (case hd => rfl); (case hg => rfl); (case hr => exact qfba_); (case hp => exact (Reps.one (show Kd.M (Kd.int .i64) _ _ _ x32 [.int .i64 x32] from rfl) (Reps.none _ _)))
             intro vn w1 ho hb hg_ hnew_
             refine hK.out _ _ ⟨u2, vn, u5, u8, u10, u11, gn, m12, m13, (by rw [ha.out]; exact putSel_upk 2 hb_ rfl rfl rfl), (HI.out.s4 hb ho), h12, h13⟩
            refine steps_cons ?_ ?_
            ·
             rintro b a w' ⟨u2, u4, u5, u8, u10, u11, gn, m12, m13, ha, hI, h12, h13⟩ hb_ hon hoff
             refine ⟨_, rfl, fun K hK => ?_⟩
             have e65 : a.tmps[65]? = some (u2) := by rw [ha]; exact putSel_on (e := (2, 65, u2)) 1 rfl rfl (hon 2 (by kernel_rfl)) rfl
             have e67 : a.tmps[67]? = some (u4) := by rw [ha]; exact putSel_on (e := (4, 67, u4)) 2 rfl rfl (hon 4 (by kernel_rfl)) rfl
             replace ha := Aside0.mk ha
             have HI := Aside0.mk hI
             clear hI
             have HS := Aside0.mk (HI.out.c2 (hon 2 (by kernel_rfl)) hb_)
             have HX := Aside0.mk (HI.out.c4 (hon 4 (by kernel_rfl)) hb_)
             obtain ⟨Ax, cx, ex⟩ := Kd.R_slice HX.out
             refine Kd.R_append_rows_step (Kd.int .i64) (w0 := w) w.heap.size (by rfl) (.tmp 65) (.tmp 67) 24 3 (.int .i64 0) 8 rfl Tryz.underlying24 info_int rfl (by decide) (by omega) u2 t2 [x32] _ _ _ (fun _ => True) (fun _ => False) (by simp only [Act.eval, Array.getD_eq_getD_getElem?, e65, Option.getD_some]) (by simp only [Act.eval, Array.getD_eq_getD_getElem?, e67, Option.getD_some]; exact ex) HS.out ?aR (fun _ _ h => h) (fun _ h => h.elim) (fun _ _ => trivial) HI.out.r0.below HI.out.r0.below.size ?aL ?_
             (case aR => exact (Kd.R_reads' (ex ▸ HX.out)).2.2)
             (case aL => have := L5.out; simp only [List.length_cons, List.length_nil] at this ⊢; omega)
             intro vn w1 ho hb hg hat
             have hI5 := HI.out
             rw [show b 2 = true from (hon 2 (by kernel_rfl)), show b 5 = false from hb_, show b 8 = false from (hoff 8 (by kernel_rfl)), show b 11 = false from (hoff 11 (by kernel_rfl))] at hI5
             have hI6 := hI5.s5 (hoff 14 (by kernel_rfl)) hb hg ho
             refine hK.out _ _ ⟨u2, u4, vn, u8, u10, u11, gn, m12, m13, (by rw [ha.out]; exact putSel_upk 3 hb_ rfl rfl rfl), (by show RgI w _ g5 g6 _ _ t2 t3 _ _ (b 2) (b 4) true (b 8) (b 10) (b 11) (b 13) (b 14) _ _ _ _ _ _ _; rw [show b 2 = true from (hon 2 (by kernel_rfl)), show b 8 = false from (hoff 8 (by kernel_rfl)), show b 11 = false from (hoff 11 (by kernel_rfl))]; exact hI6), fun h_ => absurd ((hoff 12 (by kernel_rfl)).symm.trans h_) (by decide), h13⟩
            refine steps_cons ?_ ?_
            ·
             rintro b a w' ⟨u2, u4, u5, u8, u10, u11, gn, m12, m13, ha, hI, h12, h13⟩ hb_ hon hoff
             refine ⟨_, rfl, fun K hK => ?_⟩
             have e69 : a.tmps[69]? = some (.pointer (some ⟨g5, 1, none⟩)) := q32c_
             replace ha := Aside0.mk ha
             have HI := Aside0.mk hI
             clear hI
             have hc0_ : w'.cell? ⟨g5, 0, none⟩ = some (.slice B0 l1_0.length d0) := (blk_cell HI.out.r0.h5 0).trans rfl
             have hc1_ : w'.cell? ⟨g5, 1, none⟩ = some (.slice B1 l1_1.length d1) := (blk_cell HI.out.r0.h5 1).trans rfl
             refine value_ (w1 := w') (v := .slice B1 l1_1.length d1) (by rfl) rfl ?_ ?_
             · go_simp; (try simp only [i64_w]); try rfl
             refine hK.out _ _ ⟨u2, u4, u5, u8, u10, u11, gn, m12, m13, (by rw [ha.out]; exact putSel_upk 4 hb_ rfl rfl rfl), HI.out, h12, h13⟩
            refine steps_cons ?_ ?_
            ·
             rintro b a w' ⟨u2, u4, u5, u8, u10, u11, gn, m12, m13, ha, hI, h12, h13⟩ hb_ hon hoff
             refine ⟨_, rfl, fun K hK => ?_⟩
             have e70 : a.tmps[70]? = some (.slice B1 l1_1.length d1) := by rw [ha]; exact putSel_on (e := (7, 70, .slice B1 l1_1.length d1)) 4 rfl rfl (hon 7 (by kernel_rfl)) rfl
             replace ha := Aside0.mk ha
             have HI := Aside0.mk hI
             clear hI
             refine goes_ Tryz.func41 (by kernel_rfl) rfl #[.slice B1 l1_1.length d1] (by rfl) rfl rfl q506_ ?_
             refine (slices_Clone_int_int.calls _ _ l1_1 t3 _ (Kd.C_below HR2.out HI.out.r0.below) HC2.out A3.out).mono ?_
             rintro e w1 ⟨vn, rfl, ho, hb⟩
             refine ⟨_, rfl, ?_⟩
             refine hK.out _ _ ⟨u2, u4, u5, vn, u10, u11, gn, m12, m13, (by rw [ha.out]; exact putSel_upk 5 hb_ rfl rfl rfl), (HI.out.s8 hb ho), h12, h13⟩
            refine steps_cons ?_ ?_
            ·
             rintro b a w' ⟨u2, u4, u5, u8, u10, u11, gn, m12, m13, ha, hI, h12, h13⟩ hb_ hon hoff
             refine ⟨_, rfl, fun K hK => ?_⟩
             have e72 : a.tmps[72]? = some (.int .i64 x10) := q32c_
             replace ha := Aside0.mk ha
             have HI := Aside0.mk hI
             clear hI
             refine Kd.R_lit_step (Kd.int .i64) _ 3 ?hg (N := 73) ?hd (xs := ([x10] : List Int)) (inner := [.int .i64 x10]) (ok := fun _ => True) (okp := fun _ => True) ?hr ?hp (fun _ hk => hk) trivial (Below.refl _ _) (Nat.le_refl _) (by simp) ?_; (case hd => rfl); (case hg => rfl); (case hr => exact qfba_); (case hp => exact (Reps.one (show Kd.M (Kd.int .i64) _ _ _ x10 [.int .i64 x10] from rfl) (Reps.none _ _)))
             intro vn w1 ho hb hg_ hnew_
             refine hK.out _ _ ⟨u2, u4, u5, u8, vn, u11, gn, m12, m13, (by rw [ha.out]; exact putSel_upk 6 hb_ rfl rfl rfl), (HI.out.s10 hb ho), h12, h13⟩
            refine steps_cons ?_ ?_
            ·
             rintro b a w' ⟨u2, u4, u5, u8, u10, u11, gn, m12, m13, ha, hI, h12, h13⟩ hb_ hon hoff
             refine ⟨_, rfl, fun K hK => ?_⟩
             have e71 : a.tmps[71]? = some (u8) := by rw [ha]; exact putSel_on (e := (8, 71, u8)) 5 rfl rfl (hon 8 (by kernel_rfl)) rfl
             have e73 : a.tmps[73]? = some (u10) := by rw [ha]; exact putSel_on (e := (10, 73, u10)) 6 rfl rfl (hon 10 (by kernel_rfl)) rfl
             replace ha := Aside0.mk ha
             have HI := Aside0.mk hI
             clear hI
             have HS := Aside0.mk (HI.out.c8 (hon 8 (by kernel_rfl)) hb_)
             have HX := Aside0.mk (HI.out.c10 (hon 10 (by kernel_rfl)) hb_)
             obtain ⟨Ax, cx, ex⟩ := Kd.R_slice HX.out
             refine Kd.R_append_rows_step (Kd.int .i64) (w0 := w) w.heap.size (by rfl) (.tmp 71) (.tmp 73) 24 3 (.int .i64 0) 8 rfl Tryz.underlying24 info_int rfl (by decide) (by omega) u8 t3 [x10] _ _ _ (fun _ => True) (fun _ => False) (by simp only [Act.eval, Array.getD_eq_getD_getElem?, e71, Option.getD_some]) (by simp only [Act.eval, Array.getD_eq_getD_getElem?, e73, Option.getD_some]; exact ex) HS.out ?aR (fun _ _ h => h) (fun _ h => h.elim) (fun _ _ => trivial) HI.out.r0.below HI.out.r0.below.size ?aL ?_
             (case aR => exact (Kd.R_reads' (ex ▸ HX.out)).2.2)
             (case aL => have := L11.out; simp only [List.length_cons, List.length_nil] at this ⊢; omega)
             intro vn w1 ho hb hg hat
             have hI5 := HI.out
             rw [show b 5 = true from (hon 5 (by kernel_rfl)), show b 8 = true from (hon 8 (by kernel_rfl)), show b 11 = false from hb_] at hI5
             have hI6 := hI5.s11 (hoff 14 (by kernel_rfl)) hb hg hat ho
             refine hK.out _ _ ⟨u2, u4, u5, u8, u10, vn, gn, m12, m13, (by rw [ha.out]; exact putSel_upk 7 hb_ rfl rfl rfl), (by show RgI w _ g5 g6 _ _ t2 t3 _ _ (b 2) (b 4) (b 5) (b 8) (b 10) true (b 13) (b 14) _ _ _ _ _ _ _; rw [show b 5 = true from (hon 5 (by kernel_rfl)), show b 8 = true from (hon 8 (by kernel_rfl))]; exact hI6), fun h_ => absurd ((hoff 12 (by kernel_rfl)).symm.trans h_) (by decide), h13⟩
            refine steps_cons ?_ ?_
            ·
             rintro b a w' ⟨u2, u4, u5, u8, u10, u11, gn, m12, m13, ha, hI, h12, h13⟩ hb_ hon hoff
             refine ⟨_, rfl, fun K hK => ?_⟩
             have e68 : a.tmps[68]? = some (u5) := by rw [ha]; exact putSel_on (e := (5, 68, u5)) 3 rfl rfl (hon 5 (by kernel_rfl)) rfl
             have e74 : a.tmps[74]? = some (u11) := by rw [ha]; exact putSel_on (e := (11, 74, u11)) 7 rfl rfl (hon 11 (by kernel_rfl)) rfl
             obtain ⟨A5, c5, e5_⟩ := Kd.R_slice (hI.c5 (hon 5 (by kernel_rfl)))
             obtain ⟨n5, hn5⟩ : ∃ n_, n_ = (t2 ++ [x32]).length := ⟨_, rfl⟩
             rw [← hn5] at e5_
             subst e5_
             obtain ⟨A11, c11, e11_⟩ := Kd.R_slice (hI.c11 (hon 11 (by kernel_rfl)))
             obtain ⟨n11, hn11⟩ : ∃ n_, n_ = (t3 ++ [x10]).length := ⟨_, rfl⟩
             rw [← hn11] at e11_
             subst e11_
             clear hn5 hn11
             replace ha := Aside0.mk ha
             have HI := Aside0.mk hI
             clear hI
             refine value_ (w1 := w') (v := .agg #[.slice A5 n5 c5, .slice A11 n11 c11]) (by rfl) rfl ?_ ?_
             · go_simp; (try simp only [i64_w]); try rfl
             refine hK.out _ _ ⟨u2, u4, _, u8, u10, _, gn, (.agg #[.slice A5 n5 c5, .slice A11 n11 c11]), m13, (by rw [ha.out]; exact putSel_upk 8 hb_ rfl rfl rfl), HI.out, fun _ => rfl, h13⟩
            refine steps_cons ?_ ?_
            ·
             rintro b a w' ⟨u2, u4, u5, u8, u10, u11, gn, m12, m13, ha, hI, h12, h13⟩ hb_ hon hoff
             refine ⟨_, rfl, fun K hK => ?_⟩
             replace ha := Aside0.mk ha
             have HI := Aside0.mk hI
             clear hI
             refine box_step ?hg (N := 11) ?hd (cs := #[.slice none 0 0, .slice none 0 0]) (t := 27) ?hr ?_; (case hd => rfl); (case hg => rfl); (case hr => exact qfba_)
             intro gq hgq w1 hbox hb
             refine hK.out _ _ ⟨u2, u4, u5, u8, u10, u11, gq, m12, (.pointer (some ⟨gq, 0, none⟩)), (by rw [ha.out]; exact putSel_upk 9 hb_ rfl rfl rfl), (HI.out.s13 (hoff 14 (by kernel_rfl)) hb hgq hbox), h12, fun _ => rfl⟩
            refine steps_cons ?_ ?_
            ·
             rintro b a w' ⟨u2, u4, u5, u8, u10, u11, gn, m12, m13, ha, hI, h12, h13⟩ hb_ hon hoff
             refine ⟨_, rfl, fun K hK => ?_⟩
             obtain rfl := h12 (hon 12 (by kernel_rfl))
             obtain rfl := h13 (hon 13 (by kernel_rfl))
             obtain ⟨A5, c5, e5_⟩ := Kd.R_slice (hI.c5 (hon 5 (by kernel_rfl)))
             obtain ⟨n5, hn5⟩ : ∃ n_, n_ = (t2 ++ [x32]).length := ⟨_, rfl⟩
             rw [← hn5] at e5_
             subst e5_
             obtain ⟨A11, c11, e11_⟩ := Kd.R_slice (hI.c11 (hon 11 (by kernel_rfl)))
             obtain ⟨n11, hn11⟩ : ∃ n_, n_ = (t3 ++ [x10]).length := ⟨_, rfl⟩
             rw [← hn11] at e11_
             subst e11_
             clear hn5 hn11
             have e11 : a.tmps[11]? = some (.pointer (some ⟨gn, 0, none⟩)) := by rw [ha]; exact putSel_on (e := (13, 11, .pointer (some ⟨gn, 0, none⟩))) 9 rfl rfl (hon 13 (by kernel_rfl)) rfl
             have e75 : a.tmps[75]? = some (.agg #[.slice A5 n5 c5, .slice A11 n11 c11]) := by rw [ha]; exact putSel_on (e := (12, 75, .agg #[.slice A5 n5 c5, .slice A11 n11 c11])) 8 rfl rfl (hon 12 (by kernel_rfl)) rfl
             replace ha := Aside0.mk ha
             have HI := Aside0.mk hI
             clear hI
             have hcn := HI.out.cn (hon 13 (by kernel_rfl))
             rw [show b 14 = false from hb_] at hcn
             have hs0 : w'.cell? ⟨gn, 0, none⟩ = some (.slice none 0 0) := (blk_cell hcn.2 0).trans rfl
             have hs1 : w'.cell? ⟨gn, 1, none⟩ = some (.slice none 0 0) := (blk_cell hcn.2 1).trans rfl
             have hsf0 := blk_frozen hcn.2 0
             have hsf1 := blk_frozen hcn.2 1
             clear hcn
             refine skip_ (w1 := ?_) (by rfl) rfl ?_ ?_
             rotate_left
             · go_simp; rfl
             have hI5 := HI.out
             rw [show b 5 = true from (hon 5 (by kernel_rfl)), show b 11 = true from (hon 11 (by kernel_rfl)), show b 13 = true from (hon 13 (by kernel_rfl)), show b 14 = false from hb_] at hI5
             have hI6 := hI5.s14
             refine hK.out _ _ ⟨u2, u4, _, u8, u10, _, gn, _, _, (by rw [ha.out]; exact putSel_none (v := undef) rfl), (by show RgI w _ g5 g6 _ _ t2 t3 _ _ (b 2) (b 4) (b 5) (b 8) (b 10) (b 11) (b 13) true _ _ _ _ _ _ _; rw [show b 5 = true from (hon 5 (by kernel_rfl)), show b 11 = true from (hon 11 (by kernel_rfl)), show b 13 = true from (hon 13 (by kernel_rfl))]; exact hI6), fun _ => rfl, fun _ => rfl⟩
            exact steps_nil
           rintro b a wq hall ⟨u2, u4, u5, u8, u10, u11, gn, m12, m13, ha, hI, h12, h13⟩
           have hb1_ := hall 1 (by kernel_rfl)
           have hb2_ := hall 2 (by kernel_rfl)
           have hb4_ := hall 4 (by kernel_rfl)
           have hb5_ := hall 5 (by kernel_rfl)
           have hb7_ := hall 7 (by kernel_rfl)
           have hb8_ := hall 8 (by kernel_rfl)
           have hb10_ := hall 10 (by kernel_rfl)
           have hb11_ := hall 11 (by kernel_rfl)
           have hb12_ := hall 12 (by kernel_rfl)
           have hb13_ := hall 13 (by kernel_rfl)
           have hb14_ := hall 14 (by kernel_rfl)
           subst ha
           obtain rfl := h12 hb12_
           obtain rfl := h13 hb13_
           simp only [putSel, hb1_, hb2_, hb4_, hb5_, hb7_, hb8_, hb10_, hb11_, hb12_, hb13_, hb14_, if_true, Act.put, List.setIfInBounds_toArray, List.set_cons_zero, List.set_cons_succ]
           obtain ⟨A5, c5, e5_⟩ := Kd.R_slice (hI.c5 hb5_)
           obtain ⟨n5, hn5⟩ : ∃ n_, n_ = (t2 ++ [x32]).length := ⟨_, rfl⟩
           rw [← hn5] at e5_
           subst e5_
           obtain ⟨A11, c11, e11_⟩ := Kd.R_slice (hI.c11 hb11_)
           obtain ⟨n11, hn11⟩ : ∃ n_, n_ = (t3 ++ [x10]).length := ⟨_, rfl⟩
           rw [← hn11] at e11_
           subst e11_
           have HL5 := Aside0.mk hn5
           have HL11 := Aside0.mk hn11
           clear hn5 hn11
           have HN5 := Aside0.mk (hI.c5 hb5_)
           have HN11 := Aside0.mk (hI.c11 hb11_)
           have HNA := Aside0.mk (hI.a11 hb5_ hb11_)
           have HNB := Aside0.mk (hI.cn hb13_)
           have HG := Aside0.mk hI.r0
           rw [hb14_] at HNB
           clear hI hall hb1_ hb2_ hb4_ hb5_ hb7_ hb8_ hb10_ hb11_ hb12_ hb13_ hb14_ h12 h13
           have hnb := HNB.out.1.1
           have hnc := HNB.out.1.2.1
           have hnb' := hnb.symm
           have hnc' := hnc.symm
           have hcz0 : wq.cell? ⟨gn, 0, none⟩ = some (.slice A5 n5 c5) := (blk_cell HNB.out.2 0).trans rfl
           have hcz1 : wq.cell? ⟨gn, 1, none⟩ = some (.slice A11 n11 c11) := (blk_cell HNB.out.2 1).trans rfl
           have hfz0 := blk_frozen HNB.out.2 0
           have hfz1 := blk_frozen HNB.out.2 1
           cases s3 with
           | true =>
            have H := Hs.out
            clear Hs
            rw [if_pos rfl] at H
            simp only [Option.some.injEq, Prod.mk.injEq] at H
            obtain ⟨rfl, rfl, rfl⟩ := H
            go_wp2_with (first | (go_at_call 21; obtain rfl := HL5.out; obtain rfl := HL11.out; (with_reducible refine (ih kj3 (by have := HJ1.out; have := HK2.out; have := HJ3.out; omega) _ _ l0 _ _ (t2 ++ [x32]) _ _ (t3 ++ [x10]) s1 s2 true _ ?s1 ?s2 ?s3 ?s4 ?s5 ?s6 A4.out).mono ?_); (case s1 => exact (q5e2_ HR0.out)); (case s2 => exact HC0.out); (case s3 => exact (q578_ HN5.out)); (case s4 => exact (Kd.R_reads' HN5.out).2.1); (case s5 => exact (q578_ HN11.out)); (case s6 => exact (Kd.R_reads' HN11.out).2.1); rintro e w8 ⟨x0, x1, rfl, hR⟩; have hB8 := hR.1; have hO8 := hR.own q13e_ (qf1e_ HN5.out) (qf1e_ HN11.out) HNA.out; obtain ⟨A8, c8, e8_⟩ := Kd.R_slice hO8.1; subst e8_; obtain ⟨A9, c9, e9_⟩ := Kd.R_slice hO8.2.1; subst e9_; have HO8 := Aside0.mk hO8; have hg_ := Aside0.mk (Rg0.next qc52_ hB8); clear HG hR hB8 hO8 HN5 HN11 HNA HNB hcz0 hcz1 hfz0 hfz1; have HG := hg_; clear hg_) | ((with_reducible refine gate_dst (N := 12) rfl ?_); refine box_event ?hg (N := 12) ?hd (cs := #[.slice none 0 0, .slice none 0 0]) (t := 27) ?hr ?_; (case hd => rfl); (case hg => rfl); (case hr => exact qfba_); intro go hgo w9 hbox hb; have HN8 := Aside0.mk (show g5 ≠ go ∧ g6 ≠ go ∧ w.heap.size ≤ go from ⟨by have h_ := blk_lt HG.out.h5; rw [hgo]; exact Nat.ne_of_lt h_, by have h_ := blk_lt HG.out.h6; rw [hgo]; exact Nat.ne_of_lt h_, by rw [hgo]; exact HG.out.below.size⟩); have BK8 := Aside0.mk hbox; have ho_ := Aside0.mk (And.intro (Kd.R_below HO8.out.1 hb) (And.intro (Kd.R_below HO8.out.2.1 hb) HO8.out.2.2)); have hg_ := Aside0.mk (Rg0.next qc52_ hb); clear HG HO8 hb hbox hgo; have HG := hg_; have HO8 := ho_; clear hg_ ho_; have hoz0 : w9.cell? ⟨go, 0, none⟩ = some (.slice none 0 0) := (blk_cell BK8.out 0).trans rfl; have hoz1 : w9.cell? ⟨go, 1, none⟩ = some (.slice none 0 0) := (blk_cell BK8.out 1).trans rfl; have hof0 := blk_frozen BK8.out 0; have hof1 := blk_frozen BK8.out 1; have hop0 := HN8.out.1; have hop1 := HN8.out.2.1; have hop2 := hop0.symm; have hop3 := hop1.symm; have hyz0 : w9.cell? ⟨g6, 0, none⟩ = some (.slice none 0 0) := (blk_cell HG.out.h6 0).trans rfl; have hyz1 : w9.cell? ⟨g6, 1, none⟩ = some (.slice none 0 0) := (blk_cell HG.out.h6 1).trans rfl; have hyf0 := blk_frozen HG.out.h6 0; have hyf1 := blk_frozen HG.out.h6 1))
            refine bodyPost_ret (results_ct rfl _ _ g6 27 #[.slice A8 s1.length c8, .slice A9 s2.length c9] (0, 0) _ rfl qc29_ Tryz.underlying27 rfl (by kernel_rfl)) rfl ?_
            exact ⟨_, _, q6e2_, ⟨q2d1_, .inr ⟨(by (with_reducible repeat (first | apply Kd.R_alloc | apply Kd.R_drewN | apply Kd.R_drew)); exact Kd.R_mono (Kd.R_far (p := ⟨g6, 1, none⟩) (Kd.R_far (p := ⟨g6, 0, none⟩) (Kd.R_far (p := ⟨go, 1, none⟩) (Kd.R_far (p := ⟨go, 0, none⟩) (Kd.R_types (Kd.R_types HO8.out.1 BK8.out (by decide)) HG.out.h6 (by decide)) (fun _ hk => hk.1.2) _) (fun _ hk => hk.1.2) _) (fun _ hk => hk.2) _) (fun _ hk => hk.2) _) (fun _ _ => trivial)), (by (with_reducible repeat (first | apply Kd.R_alloc | apply Kd.R_drewN | apply Kd.R_drew)); exact Kd.R_mono (Kd.R_far (p := ⟨g6, 1, none⟩) (Kd.R_far (p := ⟨g6, 0, none⟩) (Kd.R_far (p := ⟨go, 1, none⟩) (Kd.R_far (p := ⟨go, 0, none⟩) (Kd.R_types (Kd.R_types HO8.out.2.1 BK8.out (by decide)) HG.out.h6 (by decide)) (fun _ hk => hk.1.2) _) (fun _ hk => hk.1.2) _) (fun _ hk => hk.2) _) (fun _ hk => hk.2) _) (fun _ _ => trivial)), HO8.out.2.2⟩⟩⟩
           | false =>
            have H := Hs.out
            clear Hs
            rw [if_neg nf_] at H
            have H' := Aside0.mk H
            clear H
            go_wp2_with (first | (go_at_call 21; obtain rfl := HL5.out; obtain rfl := HL11.out; (with_reducible refine (ih kj3 (by have := HJ1.out; have := HK2.out; have := HJ3.out; omega) _ _ l0 _ _ (t2 ++ [x32]) _ _ (t3 ++ [x10]) s1 s2 false _ ?s1 ?s2 ?s3 ?s4 ?s5 ?s6 A4.out).mono ?_); (case s1 => exact (q5e2_ HR0.out)); (case s2 => exact HC0.out); (case s3 => exact (q578_ HN5.out)); (case s4 => exact (Kd.R_reads' HN5.out).2.1); (case s5 => exact (q578_ HN11.out)); (case s6 => exact (Kd.R_reads' HN11.out).2.1); rintro e w8 ⟨x0, x1, rfl, hR⟩; have hB8 := hR.1; have hO8 := hR.own q13e_ (qf1e_ HN5.out) (qf1e_ HN11.out) HNA.out; obtain ⟨A8, c8, e8_⟩ := Kd.R_slice hO8.1; subst e8_; obtain ⟨A9, c9, e9_⟩ := Kd.R_slice hO8.2.1; subst e9_; have HO8 := Aside0.mk hO8; have hg_ := Aside0.mk (Rg0.next qc52_ hB8); clear HG hR hB8 hO8 HN5 HN11 HNA HNB hcz0 hcz1 hfz0 hfz1; have HG := hg_; clear hg_) | ((with_reducible refine gate_dst (N := 12) rfl ?_); refine box_event ?hg (N := 12) ?hd (cs := #[.slice none 0 0, .slice none 0 0]) (t := 27) ?hr ?_; (case hd => rfl); (case hg => rfl); (case hr => exact qfba_); intro go hgo w9 hbox hb; have HN8 := Aside0.mk (show g5 ≠ go ∧ g6 ≠ go ∧ w.heap.size ≤ go from ⟨by have h_ := blk_lt HG.out.h5; rw [hgo]; exact Nat.ne_of_lt h_, by have h_ := blk_lt HG.out.h6; rw [hgo]; exact Nat.ne_of_lt h_, by rw [hgo]; exact HG.out.below.size⟩); have BK8 := Aside0.mk hbox; have ho_ := Aside0.mk (And.intro (Kd.R_below HO8.out.1 hb) (And.intro (Kd.R_below HO8.out.2.1 hb) HO8.out.2.2)); have hg_ := Aside0.mk (Rg0.next qc52_ hb); clear HG HO8 hb hbox hgo; have HG := hg_; have HO8 := ho_; clear hg_ ho_; have hoz0 : w9.cell? ⟨go, 0, none⟩ = some (.slice none 0 0) := (blk_cell BK8.out 0).trans rfl; have hoz1 : w9.cell? ⟨go, 1, none⟩ = some (.slice none 0 0) := (blk_cell BK8.out 1).trans rfl; have hof0 := blk_frozen BK8.out 0; have hof1 := blk_frozen BK8.out 1; have hop0 := HN8.out.1; have hop1 := HN8.out.2.1; have hop2 := hop0.symm; have hop3 := hop1.symm; have hyz0 : w9.cell? ⟨g6, 0, none⟩ = some (.slice none 0 0) := (blk_cell HG.out.h6 0).trans rfl; have hyz1 : w9.cell? ⟨g6, 1, none⟩ = some (.slice none 0 0) := (blk_cell HG.out.h6 1).trans rfl; have hyf0 := blk_frozen HG.out.h6 0; have hyf1 := blk_frozen HG.out.h6 1))
            go_roundg kj3
            case measure => have := HJ1.out; have := HK2.out; have := HJ3.out; omega
            case rel => exact ⟨(wrap64 (x32 + 1)), qc8f_, H', ⟨by have := HJ1.out; have := HK2.out; have := HJ3.out; omega⟩, ⟨q0c7_⟩⟩
          · rw [if_neg c48] at H; exact absurd H (by simp)
         · rw [if_neg c46] at H; exact absurd H (by simp)
        ·
         rw [if_neg c44] at H
         have c44b0 := beq_eq_false_iff_ne.mpr c44
         have c44b1 := bne_iff_ne.mpr c44
         have H' := Aside0.mk H
         clear H
         have hnb := HG.out.ne
         have hnc := HG.out.ne.symm
         have hcz0 : wc.cell? ⟨g5, 0, none⟩ = some (.slice B0 l1_0.length d0) := (blk_cell HG.out.h5 0).trans rfl
         have hcz1 : wc.cell? ⟨g5, 1, none⟩ = some (.slice B1 l1_1.length d1) := (blk_cell HG.out.h5 1).trans rfl
         have hfz0 := blk_frozen HG.out.h5 0
         have hfz1 := blk_frozen HG.out.h5 1
         go_wp2_with (first | ((with_reducible refine gate_callee (f := 30) rfl ?_); refine gl_ 60 Tryz.func30 #[.slice B0 l1_0.length d0, .int .i64 x10, .int .i64 x32] ?_; (with_reducible refine (impl_labelAt.calls _ _ l1_0 x10 x32 t4 _ ?s1 ?s2 A5.out).mono ?_); (case s1 => exact (q5e2_ HR1.out)); (case s2 => exact HC1.out); rintro e w6 ⟨rfl, hb⟩; refine ⟨_, rfl, ?_⟩; have hg_ := Aside0.mk (Rg0.next qc52_ hb); clear HG; have HG := hg_; clear hg_ hb))
         go_roundg kj3
         case measure => have := HJ1.out; have := HK2.out; have := HJ3.out; omega
         case rel => exact ⟨(wrap64 (x32 + 1)), qc8f_, H', ⟨by have := HJ1.out; have := HK2.out; have := HJ3.out; omega⟩, ⟨qc52_⟩⟩
     · rw [if_neg c25] at H; exact absurd H (by simp)
    ·
     rw [if_neg c24] at H
     have c24b0 := decide_eq_false c24
     clear c24
     simp only [Option.some.injEq, Prod.mk.injEq] at H
     obtain ⟨rfl, rfl, rfl⟩ := H
     have hnb := HG.out.ne
     have hnc := HG.out.ne.symm
     have hyz0 : wr.cell? ⟨g6, 0, none⟩ = some (.slice none 0 0) := (blk_cell HG.out.h6 0).trans rfl
     have hyz1 : wr.cell? ⟨g6, 1, none⟩ = some (.slice none 0 0) := (blk_cell HG.out.h6 1).trans rfl
     have hyf0 := blk_frozen HG.out.h6 0
     have hyf1 := blk_frozen HG.out.h6 1
     go_wp2
     refine bodyPost_ret (results_ct rfl _ _ g6 27 #[.slice none 0 0, .slice none 0 0] (0, 0) _ rfl q684_ Tryz.underlying27 rfl (by kernel_rfl)) rfl ?_
     exact ⟨_, _, q6e2_, ⟨q697_, .inr ⟨Kd.R_nil _ _ _ _ _, Kd.R_nil _ _ _ _ _, fun k_ h_ => by simp [Value.ownBlock] at h_⟩⟩⟩
theorem impl_regionOf.calls (k : Nat) : ∀ (A0 : Option Addr) (c0 : Nat) (l0 : List Int) (P0 : Nat → Prop) (u0 : Value) (l1_0 : List Int) (P1 : Nat → Prop) (u1 : Value) (l1_1 : List Int) (r1 : List Int) (r2 : List Int) (r3 : Bool) (w0 w : World) (hB : Below w0.heap.size w0 w) (hr0 : ∀ W_, Kept w W_ (fun k_ => P0 k_ ∨ P1 k_) → Kd.C (Kd.int .i64) W_ A0 l0.length l0) (hc0 : l0.length ≤ c0) (ho0 : Kd.R (Kd.int .i64) 3 w w0.heap.size P0 u0 l1_0) (hp0 : ∀ k_, P0 k_ → ¬ P1 k_) (ho1 : Kd.R (Kd.int .i64) 3 w w0.heap.size P1 u1 l1_1) (hp1 : ∀ k_, P1 k_ → ¬ P0 k_) (h : impl_regionOf.f k l0 l1_0 l1_1 = some (r1, r2, r3)),
  Calls Tryz.prog 21 #[.slice A0 l0.length c0, .agg #[u0, u1]] w fun e w' => ∃ v0_ v1_ : Value, e = .returned (.tuple #[.agg #[v0_, v1_], .bool r3]) ∧ Kd.R (Kd.int .i64) 3 w' w0.heap.size (fun k_ => ((P0 k_ ∨ P1 k_) ∨ w.heap.size ≤ k_) ∧ some k_ ≠ (v1_ : Value).ownBlock) v0_ r1 ∧ Kd.R (Kd.int .i64) 3 w' w0.heap.size (fun k_ => ((P0 k_ ∨ P1 k_) ∨ w.heap.size ≤ k_) ∧ some k_ ≠ (v0_ : Value).ownBlock) v1_ r2 ∧ Below w0.heap.size w0 w' ∧ Kept w w' (fun k_ => P0 k_ ∨ P1 k_) := by
 intro A0 c0 l0 P0 u0 l1_0 P1 u1 l1_1 r1 r2 r3 w0 w hB hr0 hc0 ho0 hp0 ho1 hp1 h
 obtain ⟨B0, d0, rfl⟩ := Kd.R_slice ho0
 obtain ⟨B1, d1, rfl⟩ := Kd.R_slice ho1
 refine (impl_regionOf.calls0 k A0 c0 l0 B0 d0 l1_0 B1 d1 l1_1 r1 r2 r3 w (hr0 w (Kept.refl w _)) hc0 (Kd.R_reads' ho0).2.2 (Kd.R_reads' ho0).2.1 (Kd.R_reads' ho1).2.2 (Kd.R_reads' ho1).2.1 h).mono ?_
 rintro e w' ⟨v0, v1, rfl, hb, hR⟩
 refine ⟨v0, v1, rfl, ?_, ?_, below_then hB hB.size hb, Kept.of_below hb _⟩
 ·
  rcases hR with ⟨rfl, rfl, rfl, rfl⟩ | ⟨h0, h1, ha⟩
  · exact R_okto (Kd.R_below ho0 hb) (fun k_ e_ => ⟨.inl (.inl (ho0.1 k_ e_)), fun e2 => hp0 k_ (ho0.1 k_ e_) (ho1.1 k_ e2.symm)⟩)
  · exact R_okto (Kd.R_lower h0 hB.size) (fun k_ e_ => ⟨.inr (Kd.R_base h0 k_ e_), fun e2 => ha k_ e_ e2.symm⟩)
 ·
  rcases hR with ⟨rfl, rfl, rfl, rfl⟩ | ⟨h0, h1, ha⟩
  · exact R_okto (Kd.R_below ho1 hb) (fun k_ e_ => ⟨.inl (.inr (ho1.1 k_ e_)), fun e2 => hp1 k_ (ho1.1 k_ e_) (ho0.1 k_ e2.symm)⟩)
  · exact R_okto (Kd.R_lower h1 hB.size) (fun k_ e_ => ⟨.inr (Kd.R_base h1 k_ e_), fun e2 => ha k_ e2.symm e_⟩)

/-! ### impl_RegionOfLabel: function 6 -/
def impl_RegionOfLabel.f (k : Nat) (l0 : List Int) : Option (List Int × List Int × Bool) := (impl_isParking.f k l0).bind fun t235 => (if t235 = true then ((impl_regionOf.f k l0 ([] : List Int) ([] : List Int)).bind fun bt236 => (some (bt236.1, bt236.2.1, bt236.2.2))) else (some (([] : List Int), ([] : List Int), false)))
theorem impl_RegionOfLabel.mono : ∀ a0 k, LeO (impl_RegionOfLabel.f k a0) (impl_RegionOfLabel.f (k + 1) a0) := by
 intro a0 k
 unfold impl_RegionOfLabel.f
 repeat' (with_reducible first | exact impl_isParking.mono _ _ | exact impl_regionOf.mono _ _ _ _ | exact LeO.refl _ | exact LeO.none _ | refine LeO.ite ?_ ?_ | refine LeO.bind ?_ (fun _ => ?_))
theorem impl_RegionOfLabel.calls (k : Nat) (A0 : Option Addr) (c0 : Nat) (l0 : List Int) (r1 : List Int) (r2 : List Int) (r3 : Bool) (w : World) (hr0 : Kd.C (Kd.int .i64) w A0 l0.length l0) (hc0 : l0.length ≤ c0) (h : impl_RegionOfLabel.f k l0 = some (r1, r2, r3)) :
  Calls Tryz.prog 6 #[.slice A0 l0.length c0] w fun e w' => ∃ v0_ v1_ : Value, e = .returned (.tuple #[.agg #[v0_, v1_], .bool r3]) ∧ Kd.R (Kd.int .i64) 3 w' w.heap.size (fun k_ => some k_ ≠ (v1_ : Value).ownBlock) v0_ r1 ∧ Kd.R (Kd.int .i64) 3 w' w.heap.size (fun k_ => some k_ ≠ (v0_ : Value).ownBlock) v1_ r2 ∧ Below w.heap.size w w' := by
 have hu27 := Tryz.underlying27
 have HR0 := Aside0.mk hr0
 have HC0 := Aside0.mk hc0
 clear hr0 hc0
 have HB := Aside0.mk (Below.refl w.heap.size w)
 unfold impl_RegionOfLabel.f at h
 have H := h; clear h
 obtain ⟨t235, A2, H⟩ := ob_ H
 by_cases c3 : t235 = true
 ·
  subst c3
  rw [if_pos rfl] at H
  obtain ⟨⟨t236, t239, t242⟩, A4, H⟩ := ob_ H
  dsimp only at H
  simp only [Option.some.injEq, Prod.mk.injEq] at H
  obtain ⟨rfl, rfl, rfl⟩ := H
  go_enter Tryz.func6, Tryz.ntmps6
  go_wp2_with (first | ((with_reducible refine gate_dst (N := 2) rfl ?_); refine box_event ?hg (N := 2) ?hd (cs := #[.slice none 0 0, .slice none 0 0]) (t := 27) ?hr ?_; (case hd => rfl); (case hg => rfl); (case hr => exact qfba_); intro gb234 hg w5 hbox hb; have n0_ := Aside0.mk (below_step q0c4_ hb); have n1_ := Aside0.mk (hbox); have n2_ := Aside0.mk ((by rw [hg]; exact (below_size q0c4_) : w.heap.size ≤ gb234)); have n3_ := Aside0.mk ((by rw [hg]; exact (below_size q0c4_) : w.heap.size ≤ gb234)); replace HB := n0_; have BK234 := n1_; have GW234 := n2_; have GE234 := n3_; clear n0_ n1_ n2_ n3_; clear hb hbox hg) | ((with_reducible refine gate_callee (f := 20) rfl ?_); refine gl_ 5 Tryz.func20 #[.slice A0 l0.length c0] ?_; (with_reducible refine (impl_isParking.calls k _ _ l0 true _ ?s1 ?s2 A2.out).mono ?_); (case s1 => exact qe02_ HR0.out); (case s2 => exact HC0.out); rintro e w6 ⟨rfl, hb⟩; refine ⟨_, rfl, ?_⟩; replace BK234 := Aside0.mk (blk_below (g := gb234) (o := .cells #[.slice none 0 0, .slice none 0 0] 27 (0, 0)) q192_ hb); replace HB := Aside0.mk (below_step q8bf_ hb); clear hb) | ((with_reducible refine gate_callee (f := 21) rfl ?_); refine gl_ 10 Tryz.func21 #[.slice A0 l0.length c0, .agg #[.slice none 0 0, .slice none 0 0]] ?_; (refine (impl_regionOf.calls k _ _ l0 (fun k_ => some k_ = (.slice none 0 0 : Value).ownBlock) (.slice none 0 0) ([] : List Int) (fun k_ => some k_ = (.slice none 0 0 : Value).ownBlock) (.slice none 0 0) ([] : List Int) t236 t239 t242 w _ ?s1 ?s2 ?s3 ?s4 ?s5 ?s6 ?s7 A4.out).mono ?_); (case s1 => exact q8bf_); (case s2 => exact Kd.C_kept_came (Kd.heap_int .i64) HR0.out q8bf_ (fun k_ hs_ => Or.elim hs_ (fun e_ => (fun e_ => by simp [Value.ownBlock] at e_) e_) (fun e_ => (fun e_ => by simp [Value.ownBlock] at e_) e_))); (case s3 => exact HC0.out); (case s4 => exact Kd.R_nil _ _ _ _ _); (case s5 => intro k_ e_ e2_; simp [Value.ownBlock] at e_ e2_); (case s6 => exact Kd.R_nil _ _ _ _ _); (case s7 => intro k_ e_ e2_; simp [Value.ownBlock] at e_ e2_); rintro e w7 ⟨v237, v240, rfl, ho0, ho1, hb, hkp⟩; refine ⟨_, rfl, ?_⟩; replace BK234 := Aside0.mk (blk_kept q192_ hkp (fun hs_ => Or.elim hs_ (fun e_ => (fun e_ => by simp [Value.ownBlock] at e_) e_) (fun e_ => (fun e_ => by simp [Value.ownBlock] at e_) e_))); have HO238 := Aside0.mk (Kd.R_mono (ok' := fun k_ => some k_ ≠ (v240 : Value).ownBlock) ho0 (fun k_ hk_ => hk_.2)); have HO241 := Aside0.mk (Kd.R_mono (ok' := fun k_ => some k_ ≠ (v237 : Value).ownBlock) ho1 (fun k_ hk_ => hk_.2)); replace HB := Aside0.mk (hb); clear hb; (try clear hkp); clear ho0 ho1; obtain ⟨Ao8, co8, eo8⟩ := Kd.R_slice HO238.out; subst eo8; have hcz9_0 : w7.cell? ⟨gb234, 0, none⟩ = some (.slice none 0 0) := (blk_cell BK234.out 0).trans rfl; have hcz9_1 : w7.cell? ⟨gb234, 1, none⟩ = some (.slice none 0 0) := (blk_cell BK234.out 1).trans rfl; have hfz9_0 := blk_frozen BK234.out 0; have hfz9_1 := blk_frozen BK234.out 1; obtain ⟨Ao10, co10, eo10⟩ := Kd.R_slice HO241.out; subst eo10))
  refine bodyPost_ret (results_ct rfl _ _ gb234 27 #[.slice Ao8 t236.length co8, .slice Ao10 t239.length co10] (0, 0) _ rfl (by (with_reducible repeat (first | refine blk_drewN ?_ _ | refine blk_drew ?_ | refine blk_alloc ?_ _)); refine blk_put (cs := #[.slice Ao8 t236.length co8, .slice none 0 0]) ?_ 1 _ rfl; (with_reducible repeat (first | refine blk_drewN ?_ _ | refine blk_drew ?_ | refine blk_alloc ?_ _)); refine blk_put (cs := #[.slice none 0 0, .slice none 0 0]) ?_ 0 _ rfl; (with_reducible repeat (first | refine blk_drewN ?_ _ | refine blk_drew ?_ | refine blk_alloc ?_ _)); exact BK234.out) Tryz.underlying27 rfl (by kernel_rfl)) rfl ?_
  exact ⟨_, _, qce7_, by (with_reducible repeat (first | apply Kd.R_alloc | apply Kd.R_drewN | apply Kd.R_drew)); exact Kd.R_mono (Kd.R_far (p := ⟨gb234, 1, none⟩) (Kd.R_far (p := ⟨gb234, 0, none⟩) (Kd.R_types HO238.out BK234.out (by decide)) (fun _ hk => hk.2) (.slice Ao8 t236.length co8)) (fun _ hk => hk.2) (.slice Ao10 t239.length co10)) (fun _ hk => hk.1), by (with_reducible repeat (first | apply Kd.R_alloc | apply Kd.R_drewN | apply Kd.R_drew)); exact Kd.R_mono (Kd.R_far (p := ⟨gb234, 1, none⟩) (Kd.R_far (p := ⟨gb234, 0, none⟩) (Kd.R_types HO241.out BK234.out (by decide)) (fun _ hk => hk.2) (.slice Ao8 t236.length co8)) (fun _ hk => hk.2) (.slice Ao10 t239.length co10)) (fun _ hk => hk.1), q8bf_⟩
 ·
  replace c3 := Bool.eq_false_iff.mpr c3
  subst c3
  rw [if_neg nf_] at H
  simp only [Option.some.injEq, Prod.mk.injEq] at H
  obtain ⟨rfl, rfl, rfl⟩ := H
  go_enter Tryz.func6, Tryz.ntmps6
  go_wp2_with (first | ((with_reducible refine gate_dst (N := 2) rfl ?_); refine box_event ?hg (N := 2) ?hd (cs := #[.slice none 0 0, .slice none 0 0]) (t := 27) ?hr ?_; (case hd => rfl); (case hg => rfl); (case hr => exact qfba_); intro gb234 hg w11 hbox hb; have n0_ := Aside0.mk (below_step q0c4_ hb); have n1_ := Aside0.mk (hbox); have n2_ := Aside0.mk ((by rw [hg]; exact (below_size q0c4_) : w.heap.size ≤ gb234)); have n3_ := Aside0.mk ((by rw [hg]; exact (below_size q0c4_) : w.heap.size ≤ gb234)); replace HB := n0_; have BK234 := n1_; have GW234 := n2_; have GE234 := n3_; clear n0_ n1_ n2_ n3_; clear hb hbox hg) | ((with_reducible refine gate_callee (f := 20) rfl ?_); refine gl_ 5 Tryz.func20 #[.slice A0 l0.length c0] ?_; (with_reducible refine (impl_isParking.calls k _ _ l0 false _ ?s1 ?s2 A2.out).mono ?_); (case s1 => exact qe02_ HR0.out); (case s2 => exact HC0.out); rintro e w12 ⟨rfl, hb⟩; refine ⟨_, rfl, ?_⟩; replace BK234 := Aside0.mk (blk_below (g := gb234) (o := .cells #[.slice none 0 0, .slice none 0 0] 27 (0, 0)) q192_ hb); replace HB := Aside0.mk (below_step q8bf_ hb); clear hb; have hcz13_0 : w12.cell? ⟨gb234, 0, none⟩ = some (.slice none 0 0) := (blk_cell BK234.out 0).trans rfl; have hcz13_1 : w12.cell? ⟨gb234, 1, none⟩ = some (.slice none 0 0) := (blk_cell BK234.out 1).trans rfl; have hfz13_0 := blk_frozen BK234.out 0; have hfz13_1 := blk_frozen BK234.out 1))
  refine bodyPost_ret (results_ct rfl _ _ gb234 27 #[.slice none 0 0, .slice none 0 0] (0, 0) _ rfl (by (with_reducible repeat (first | refine blk_drewN ?_ _ | refine blk_drew ?_ | refine blk_alloc ?_ _)); refine blk_put (cs := #[.slice none 0 0, .slice none 0 0]) ?_ 1 _ rfl; (with_reducible repeat (first | refine blk_drewN ?_ _ | refine blk_drew ?_ | refine blk_alloc ?_ _)); refine blk_put (cs := #[.slice none 0 0, .slice none 0 0]) ?_ 0 _ rfl; (with_reducible repeat (first | refine blk_drewN ?_ _ | refine blk_drew ?_ | refine blk_alloc ?_ _)); exact BK234.out) Tryz.underlying27 rfl (by kernel_rfl)) rfl ?_
  exact ⟨_, _, qce7_, qf62_, qf62_, q8bf_⟩

/-! ### spec_l1In: function 50 -/
def spec_l1In.f (a0 : Int) (a1 : Int) (a2 : Int) : Option (Bool) := if a0 ≥ a1 then (some (decide (a0 ≤ a2))) else (some false)
theorem spec_l1In.calls (a0 : Int) (a1 : Int) (a2 : Int) (r : Bool) (w : World) (h : spec_l1In.f a0 a1 a2 = some r) :
  Calls Tryz.prog 50 #[.int .i64 a0, .int .i64 a1, .int .i64 a2] w fun e w' => e = .returned (.bool r) ∧ Drawn0 w w' := by
 unfold spec_l1In.f at h
 have H := h; clear h
 by_cases c4 : a0 ≥ a1
 ·
  rw [if_pos c4] at H
  have c4b0 := decide_eq_true c4
  clear c4
  obtain rfl := Option.some.inj H
  go_enter Tryz.func50, Tryz.ntmps50
  go_wp2
  go_ret
  exact ⟨qc8f_, qffa_⟩
 ·
  rw [if_neg c4] at H
  have c4b0 := decide_eq_false c4
  clear c4
  obtain rfl := Option.some.inj H
  go_enter Tryz.func50, Tryz.ntmps50
  go_wp2
  go_ret
  exact ⟨qc8f_, qffa_⟩

/-! ### spec_l1All: function 42 -/
def spec_l1All.l0 : Nat → Int → Int → List Int → Int → Int → Option (Bool)
 | 0, _, _, _, _, _ => none
 | k + 1, x1, x2, x9, x10, x11 => if x11 < x10 then (if 0 ≤ x11 then (if x11 < (x9.length : Int) then ((spec_l1In.f (rd x9 x11) x1 x2).bind fun t244 => (if t244 = true then (spec_l1All.l0 k x1 x2 x9 x10 (wrap64 (x11 + 1))) else (some false))) else (none)) else (none)) else (some true)
def spec_l1All.f (k : Nat) (l0 : List Int) (a1 : Int) (a2 : Int) : Option (Bool) := spec_l1All.l0 k a1 a2 l0 (l0.length : Int) 0
theorem spec_l1All.mono_l : ∀ k, (∀ y0 y1 y2 y3 y4, LeO (spec_l1All.l0 k y0 y1 y2 y3 y4) (spec_l1All.l0 (k + 1) y0 y1 y2 y3 y4))
 | 0 => fun _ _ _ _ _ r h => by simp [spec_l1All.l0] at h
 | k + 1 => by
  have ih0 := spec_l1All.mono_l k
  ·
   intro y0 y1 y2 y3 y4
   unfold spec_l1All.l0
   repeat' (with_reducible first | exact ih0 _ _ _ _ _ | exact LeO.refl _ | exact LeO.none _ | refine LeO.ite ?_ ?_ | refine LeO.bind ?_ (fun _ => ?_))
theorem spec_l1All.mono : ∀ a0 a1 a2 k, LeO (spec_l1All.f k a0 a1 a2) (spec_l1All.f (k + 1) a0 a1 a2) := by
 intro a0 a1 a2 k
 have ih0 := spec_l1All.mono_l k
 unfold spec_l1All.f
 repeat' (with_reducible first | exact ih0 _ _ _ _ _ | exact LeO.refl _ | exact LeO.none _ | refine LeO.ite ?_ ?_ | refine LeO.bind ?_ (fun _ => ?_))
theorem spec_l1All.calls (k : Nat) (A0 : Option Addr) (c0 : Nat) (l0 : List Int) (a1 : Int) (a2 : Int) (r : Bool) (w : World) (hr0 : Kd.C (Kd.int .i64) w A0 l0.length l0) (hc0 : l0.length ≤ c0) (h : spec_l1All.f k l0 a1 a2 = some r) :
  Calls Tryz.prog 42 #[.slice A0 l0.length c0, .int .i64 a1, .int .i64 a2] w fun e w' => e = .returned (.bool r) ∧ Drawn0 w w' := by
 have HR0 := Aside0.mk hr0
 have HC0 := Aside0.mk hc0
 clear hr0 hc0
 unfold spec_l1All.f at h
 have H := h; clear h
 have H' := Aside0.mk H
 clear H
 go_enter Tryz.func42, Tryz.ntmps42
 go_wp2
 go_loopg [11] k (fun kq v11 w' => ∃ (x11_1 : Int), v11 = .int .i64 x11_1 ∧ Aside0 (spec_l1All.l0 kq a1 a2 l0 (l0.length : Int) x11_1 = some r) ∧ Aside0 (kq ≤ k) ∧ Drawn0 w w')
 case atStart => exact ⟨(0), qc8f_, H', ⟨Nat.le_refl _⟩, qffa_⟩
 case round =>
  clear H'; try clear p2
  obtain ⟨x11_1, rfl, HA, HK1, ⟨m1, rfl⟩⟩ := hrel
  cases gk with
  | zero => exact absurd HA.out (by simp [spec_l1All.l0])
  | succ k1 =>
   have H := HA.out
   clear HA
   simp only [spec_l1All.l0] at H
   by_cases c4 : x11_1 < (l0.length : Int)
   ·
    rw [if_pos c4] at H
    have c4b0 := decide_eq_true c4
    clear c4
    by_cases c5 : 0 ≤ x11_1
    ·
     rw [if_pos c5] at H
     have c5b0 := decide_eq_true c5
     clear c5
     by_cases c6 : x11_1 < (l0.length : Int)
     ·
      rw [if_pos c6] at H
      have c6b0 := decide_eq_true c6
      clear c6
      obtain ⟨t244, A7, H⟩ := ob_ H
      by_cases c8 : t244 = true
      ·
       subst c8
       rw [if_pos rfl] at H
       have H' := Aside0.mk H
       clear H
       have p243 : 0 ≤ (x11_1 : Int) := of_decide_eq_true qe84_
       have q243 : x11_1 < (l0.length : Int) := of_decide_eq_true qe84_
       obtain ⟨ad243, e243, hx243_0⟩ := Kd.at_int HR0.out x11_1 p243 q243
       cases e243
       replace p243 := eq_true p243
       replace q243 := eq_true q243
       go_wp2_with (first | ((with_reducible refine gate_callee (f := 50) rfl ?_); refine gl_ 18 Tryz.func50 #[.int .i64 (rd l0 x11_1), .int .i64 a1, .int .i64 a2] ?_; (with_reducible refine (spec_l1In.calls (rd l0 x11_1) a1 a2 true _ A7.out).mono ?_); rintro e w' ⟨rfl, ⟨nd, rfl⟩⟩; refine ⟨_, rfl, ?_⟩))
       go_roundg k1
       case measure => have := HK1.out; omega
       case rel => exact ⟨(wrap64 (x11_1 + 1)), qc8f_, H', ⟨by have := HK1.out; omega⟩, qffa_⟩
      ·
       replace c8 := Bool.eq_false_iff.mpr c8
       subst c8
       rw [if_neg nf_] at H
       obtain rfl := Option.some.inj H
       have p243 : 0 ≤ (x11_1 : Int) := of_decide_eq_true qe84_
       have q243 : x11_1 < (l0.length : Int) := of_decide_eq_true qe84_
       obtain ⟨ad243, e243, hx243_0⟩ := Kd.at_int HR0.out x11_1 p243 q243
       cases e243
       replace p243 := eq_true p243
       replace q243 := eq_true q243
       go_wp2_with (first | ((with_reducible refine gate_callee (f := 50) rfl ?_); refine gl_ 18 Tryz.func50 #[.int .i64 (rd l0 x11_1), .int .i64 a1, .int .i64 a2] ?_; (with_reducible refine (spec_l1In.calls (rd l0 x11_1) a1 a2 false _ A7.out).mono ?_); rintro e w' ⟨rfl, ⟨nd, rfl⟩⟩; refine ⟨_, rfl, ?_⟩))
       go_ret
       exact ⟨qc8f_, qffa_⟩
     ·
      rw [if_neg c6] at H
      exact absurd H (by simp)
    ·
     rw [if_neg c5] at H
     exact absurd H (by simp)
   ·
    rw [if_neg c4] at H
    have c4b0 := decide_eq_false c4
    clear c4
    obtain rfl := Option.some.inj H
    go_wp2
    go_ret
    exact ⟨qc8f_, qffa_⟩

/-! ### spec_l1Has: function 44 -/
def spec_l1Has.l0 : Nat → Int → List Int → Int → Int → Option (Bool)
 | 0, _, _, _, _ => none
 | k + 1, x1, x7, x8, x9 => if x9 < x8 then (if 0 ≤ x9 then (if x9 < (x7.length : Int) then (if (rd x7 x9) = x1 then (some true) else (spec_l1Has.l0 k x1 x7 x8 (wrap64 (x9 + 1)))) else (none)) else (none)) else (some false)
def spec_l1Has.f (k : Nat) (l0 : List Int) (a1 : Int) : Option (Bool) := spec_l1Has.l0 k a1 l0 (l0.length : Int) 0
theorem spec_l1Has.mono_l : ∀ k, (∀ y0 y1 y2 y3, LeO (spec_l1Has.l0 k y0 y1 y2 y3) (spec_l1Has.l0 (k + 1) y0 y1 y2 y3))
 | 0 => fun _ _ _ _ r h => by simp [spec_l1Has.l0] at h
 | k + 1 => by
  have ih0 := spec_l1Has.mono_l k
  ·
   intro y0 y1 y2 y3
   unfold spec_l1Has.l0
   repeat' (with_reducible first | exact ih0 _ _ _ _ | exact LeO.refl _ | exact LeO.none _ | refine LeO.ite ?_ ?_ | refine LeO.bind ?_ (fun _ => ?_))
theorem spec_l1Has.mono : ∀ a0 a1 k, LeO (spec_l1Has.f k a0 a1) (spec_l1Has.f (k + 1) a0 a1) := by
 intro a0 a1 k
 have ih0 := spec_l1Has.mono_l k
 unfold spec_l1Has.f
 repeat' (with_reducible first | exact ih0 _ _ _ _ | exact LeO.refl _ | exact LeO.none _ | refine LeO.ite ?_ ?_ | refine LeO.bind ?_ (fun _ => ?_))
theorem spec_l1Has.calls (k : Nat) (A0 : Option Addr) (c0 : Nat) (l0 : List Int) (a1 : Int) (r : Bool) (w : World) (hr0 : Kd.C (Kd.int .i64) w A0 l0.length l0) (hc0 : l0.length ≤ c0) (h : spec_l1Has.f k l0 a1 = some r) :
  Calls Tryz.prog 44 #[.slice A0 l0.length c0, .int .i64 a1] w fun e w' => e = .returned (.bool r) ∧ Drawn0 w w' := by
 have HR0 := Aside0.mk hr0
 have HC0 := Aside0.mk hc0
 clear hr0 hc0
 unfold spec_l1Has.f at h
 have H := h; clear h
 have H' := Aside0.mk H
 clear H
 go_enter Tryz.func44, Tryz.ntmps44
 go_wp2
 go_loopg [9] k (fun kq v9 w' => ∃ (x9_1 : Int), v9 = .int .i64 x9_1 ∧ Aside0 (spec_l1Has.l0 kq a1 l0 (l0.length : Int) x9_1 = some r) ∧ Aside0 (kq ≤ k) ∧ Drawn0 w w')
 case atStart => exact ⟨(0), qc8f_, H', ⟨Nat.le_refl _⟩, qffa_⟩
 case round =>
  clear H'; try clear p2
  obtain ⟨x9_1, rfl, HA, HK1, ⟨m1, rfl⟩⟩ := hrel
  cases gk with
  | zero => exact absurd HA.out (by simp [spec_l1Has.l0])
  | succ k1 =>
   have H := HA.out
   clear HA
   simp only [spec_l1Has.l0] at H
   by_cases c3 : x9_1 < (l0.length : Int)
   ·
    rw [if_pos c3] at H
    have c3b0 := decide_eq_true c3
    clear c3
    by_cases c4 : 0 ≤ x9_1
    ·
     rw [if_pos c4] at H
     have c4b0 := decide_eq_true c4
     clear c4
     by_cases c5 : x9_1 < (l0.length : Int)
     ·
      rw [if_pos c5] at H
      have c5b0 := decide_eq_true c5
      clear c5
      by_cases c6 : (rd l0 x9_1) = a1
      ·
       rw [if_pos c6] at H
       have c6b0 := beq_iff_eq.mpr c6
       have c6b1 := bne_eq_false_iff_eq.mpr c6
       clear c6
       obtain rfl := Option.some.inj H
       have p245 : 0 ≤ (x9_1 : Int) := of_decide_eq_true qe84_
       have q245 : x9_1 < (l0.length : Int) := of_decide_eq_true qe84_
       obtain ⟨ad245, e245, hx245_0⟩ := Kd.at_int HR0.out x9_1 p245 q245
       cases e245
       replace p245 := eq_true p245
       replace q245 := eq_true q245
       go_wp2
       go_ret
       exact ⟨qc8f_, qffa_⟩
      ·
       rw [if_neg c6] at H
       have c6b0 := beq_eq_false_iff_ne.mpr c6
       have c6b1 := bne_iff_ne.mpr c6
       have H' := Aside0.mk H
       clear H
       have p245 : 0 ≤ (x9_1 : Int) := of_decide_eq_true qe84_
       have q245 : x9_1 < (l0.length : Int) := of_decide_eq_true qe84_
       obtain ⟨ad245, e245, hx245_0⟩ := Kd.at_int HR0.out x9_1 p245 q245
       cases e245
       replace p245 := eq_true p245
       replace q245 := eq_true q245
       go_wp2
       go_roundg k1
       case measure => have := HK1.out; omega
       case rel => exact ⟨(wrap64 (x9_1 + 1)), qc8f_, H', ⟨by have := HK1.out; omega⟩, qffa_⟩
     ·
      rw [if_neg c5] at H
      exact absurd H (by simp)
    ·
     rw [if_neg c4] at H
     exact absurd H (by simp)
   ·
    rw [if_neg c3] at H
    have c3b0 := decide_eq_false c3
    clear c3
    obtain rfl := Option.some.inj H
    go_wp2
    go_ret
    exact ⟨qc8f_, qffa_⟩

/-! ### spec_paDrive: function 61 -/
mutual
def spec_paDrive.l0 : Nat → Int → List Int → List Int → Int → Int → Option (List Int)
 | 0, _, _, _, _, _ => none
 | k + 1, x1, x5, x8, x9, x10 => if x10 < x9 then (if 0 ≤ x10 then (if x10 < (x8.length : Int) then (spec_paDrive.l1 k x1 x5 (rd x8 x10) x8 x9 x10) else (none)) else (none)) else (some x5)
def spec_paDrive.l1 : Nat → Int → List Int → Int → List Int → Int → Int → Option (List Int)
 | 0, _, _, _, _, _, _ => none
 | k + 1, x1, x5, x7, x8, x9, x10 => if x7 < x1 then ((spec_l1Has.f k x5 x7).bind fun t247 => (if t247 = true then (spec_paDrive.l1 k x1 x5 (wrap64 (x7 + 1)) x8 x9 x10) else (if x7 ≥ x1 then (if x5.length < 17592186044416 then (spec_paDrive.l0 k x1 (x5 ++ [(-1)]) x8 x9 (wrap64 (x10 + 1))) else (none)) else (if x5.length < 17592186044416 then (spec_paDrive.l0 k x1 (x5 ++ [x7]) x8 x9 (wrap64 (x10 + 1))) else (none))))) else (if x7 ≥ x1 then (if x5.length < 17592186044416 then (spec_paDrive.l0 k x1 (x5 ++ [(-1)]) x8 x9 (wrap64 (x10 + 1))) else (none)) else (if x5.length < 17592186044416 then (spec_paDrive.l0 k x1 (x5 ++ [x7]) x8 x9 (wrap64 (x10 + 1))) else (none)))
end
def spec_paDrive.f (k : Nat) (l0 : List Int) (a1 : Int) : Option (List Int) := spec_paDrive.l0 k a1 ([] : List Int) l0 (l0.length : Int) 0
theorem spec_paDrive.mono_l : ∀ k, (∀ y0 y1 y2 y3 y4, LeO (spec_paDrive.l0 k y0 y1 y2 y3 y4) (spec_paDrive.l0 (k + 1) y0 y1 y2 y3 y4)) ∧ (∀ y0 y1 y2 y3 y4 y5, LeO (spec_paDrive.l1 k y0 y1 y2 y3 y4 y5) (spec_paDrive.l1 (k + 1) y0 y1 y2 y3 y4 y5))
 | 0 => ⟨fun _ _ _ _ _ r h => by simp [spec_paDrive.l0] at h, fun _ _ _ _ _ _ r h => by simp [spec_paDrive.l1] at h⟩
 | k + 1 => by
  obtain ⟨ih0, ih1⟩ := spec_paDrive.mono_l k
  refine ⟨?_, ?_⟩
  ·
   intro y0 y1 y2 y3 y4
   unfold spec_paDrive.l0
   repeat' (with_reducible first | exact ih0 _ _ _ _ _ | exact ih1 _ _ _ _ _ _ | exact spec_l1Has.mono _ _ _ | exact LeO.refl _ | exact LeO.none _ | refine LeO.ite ?_ ?_ | refine LeO.bind ?_ (fun _ => ?_))
  ·
   intro y0 y1 y2 y3 y4 y5
   unfold spec_paDrive.l1
   repeat' (with_reducible first | exact ih0 _ _ _ _ _ | exact ih1 _ _ _ _ _ _ | exact spec_l1Has.mono _ _ _ | exact LeO.refl _ | exact LeO.none _ | refine LeO.ite ?_ ?_ | refine LeO.bind ?_ (fun _ => ?_))
theorem spec_paDrive.mono : ∀ a0 a1 k, LeO (spec_paDrive.f k a0 a1) (spec_paDrive.f (k + 1) a0 a1) := by
 intro a0 a1 k
 obtain ⟨ih0, ih1⟩ := spec_paDrive.mono_l k
 unfold spec_paDrive.f
 repeat' (with_reducible first | exact ih0 _ _ _ _ _ | exact ih1 _ _ _ _ _ _ | exact spec_l1Has.mono _ _ _ | exact LeO.refl _ | exact LeO.none _ | refine LeO.ite ?_ ?_ | refine LeO.bind ?_ (fun _ => ?_))
theorem spec_paDrive.calls (k : Nat) (A0 : Option Addr) (c0 : Nat) (l0 : List Int) (a1 : Int) (r : List Int) (w : World) (hr0 : Kd.C (Kd.int .i64) w A0 l0.length l0) (hc0 : l0.length ≤ c0) (h : spec_paDrive.f k l0 a1 = some r) :
  Calls Tryz.prog 61 #[.slice A0 l0.length c0, .int .i64 a1] w fun e w' => ∃ v0_ : Value, e = .returned (v0_) ∧ Kd.R (Kd.int .i64) 3 w' w.heap.size (fun _ => True) v0_ r ∧ Below w.heap.size w w' := by
 have HR0 := Aside0.mk hr0
 have HC0 := Aside0.mk hc0
 clear hr0 hc0
 have HB := Aside0.mk (Below.refl w.heap.size w)
 unfold spec_paDrive.f at h
 have H := h; clear h
 have H' := Aside0.mk H
 clear H
 go_enter Tryz.func61, Tryz.ntmps61
 go_wp2
 go_loopg [5, 10] k (fun kq v5 v10 w' => ∃ (x5_1 : List Int) (x10_1 : Int), v10 = .int .i64 x10_1 ∧ Aside0 (spec_paDrive.l0 kq a1 x5_1 l0 (l0.length : Int) x10_1 = some r) ∧ Aside0 (kq ≤ k) ∧ Aside0 (Kd.R (Kd.int .i64) 3 w' w.heap.size (fun _ => True) v5 x5_1) ∧ Aside0 (Below w.heap.size w w'))
 case atStart => exact ⟨(([] : List Int)), (0), qc8f_, H', ⟨Nat.le_refl _⟩, ⟨qf62_⟩, ⟨q0c4_⟩⟩
 case round =>
  clear H'; try clear p2
  obtain ⟨x5_1, x10_1, rfl, HA, HK1, HO_5, HB⟩ := hrel
  cases gk with
  | zero => exact absurd HA.out (by simp [spec_paDrive.l0])
  | succ k1 =>
   have H := HA.out
   clear HA
   simp only [spec_paDrive.l0] at H
   by_cases c3 : x10_1 < (l0.length : Int)
   ·
    rw [if_pos c3] at H
    have c3b0 := decide_eq_true c3
    clear c3
    by_cases c4 : 0 ≤ x10_1
    ·
     rw [if_pos c4] at H
     have c4b0 := decide_eq_true c4
     clear c4
     by_cases c5 : x10_1 < (l0.length : Int)
     ·
      rw [if_pos c5] at H
      have c5b0 := decide_eq_true c5
      clear c5
      have H' := Aside0.mk H
      clear H
      have p246 : 0 ≤ (x10_1 : Int) := of_decide_eq_true qe84_
      have q246 : x10_1 < (l0.length : Int) := of_decide_eq_true qe84_
      obtain ⟨ad246, e246, hx246_0⟩ := Kd.at_int HR0.out x10_1 p246 q246
      cases e246
      (try (replace hx246_0 := (HB.out.cell (World.block_lt_of_cell? w _ hx246_0)).trans hx246_0))
      replace p246 := eq_true p246
      replace q246 := eq_true q246
      go_wp2
      go_loopg [7] k1 (fun kq v7 w' => ∃ (x7_2 : Int), v7 = .int .i64 x7_2 ∧ Aside0 (spec_paDrive.l1 kq a1 x5_1 x7_2 l0 (l0.length : Int) x10_1 = some r) ∧ Aside0 (kq ≤ k1) ∧ Aside0 (Kd.R (Kd.int .i64) 3 w' w.heap.size (fun _ => True) u5 x5_1) ∧ Aside0 (Below w.heap.size w w'))
      case atStart => exact ⟨(rd l0 x10_1), qc8f_, H', ⟨Nat.le_refl _⟩, ⟨q9d5_ HO_5.out⟩, ⟨q0c4_⟩⟩
      case round =>
       clear H'; try clear p2; try clear q2; try clear hx2; try clear c3; try clear c3b0; try clear c4; try clear c4b0; try clear c5; try clear c5b0; try clear hx246_0; try clear p2; try clear p246; try clear q246
       obtain ⟨x7_2, rfl, HA, HK2, HO_5, HB⟩ := hrel
       cases gk with
       | zero => exact absurd HA.out (by simp [spec_paDrive.l1])
       | succ k2 =>
        have H := HA.out
        clear HA
        simp only [spec_paDrive.l1] at H
        by_cases c6 : x7_2 < a1
        ·
         rw [if_pos c6] at H
         have c6b0 := decide_eq_true c6
         clear c6
         obtain ⟨t247, A7, H⟩ := ob_ H
         by_cases c8 : t247 = true
         ·
          subst c8
          rw [if_pos rfl] at H
          have H' := Aside0.mk H
          clear H
          obtain ⟨Ao9, co9, eo9⟩ := Kd.R_slice HO_5.out
          subst eo9
          go_wp2_with (first | (go_at_call 44; (with_reducible refine (spec_l1Has.calls k2 _ _ x5_1 x7_2 true _ ?s1 ?s2 A7.out).mono ?_); (case s1 => exact q5a8_ HO_5.out); (case s2 => exact (Kd.R_reads' HO_5.out).2.1); rintro e w' ⟨rfl, ⟨nd, rfl⟩⟩))
          go_roundg k2
          case measure => have := HK1.out; have := HK2.out; omega
          case rel => exact ⟨(wrap64 (x7_2 + 1)), qc8f_, H', ⟨q37b_ HK1.out HK2.out⟩, ⟨q9d5_ HO_5.out⟩, ⟨q0c4_⟩⟩
         ·
          replace c8 := Bool.eq_false_iff.mpr c8
          subst c8
          rw [if_neg nf_] at H
          by_cases c10 : x7_2 ≥ a1
          ·
           rw [if_pos c10] at H
           have c10b0 := decide_eq_true c10
           clear c10
           by_cases c11 : x5_1.length < 17592186044416
           ·
            rw [if_pos c11] at H
            have LMc11 := Aside0.mk c11
            clear c11
            obtain ⟨y248, hy248⟩ : ∃ y_ : List Int, y_ = (x5_1 ++ [(-1)]) := ⟨_, rfl⟩
            replace H : (spec_paDrive.l0 k2 a1 y248 l0 (l0.length : Int) (wrap64 (x10_1 + 1))) = some r := by first | (rw [hy248]; with_reducible exact H) | (have H2_ := (Option.bind_some _ _).symm.trans H; rw [hy248]; with_reducible exact H2_) | (have H2_ := (Option.bind_some _ _).symm.trans H; with_reducible exact H2_) | with_reducible exact H | (rw [hy248]; exact H) | exact H
            have Ny248 := Aside0.mk hy248
            clear hy248
            have H' := Aside0.mk H
            clear H
            obtain ⟨Ao12, co12, eo12⟩ := Kd.R_slice HO_5.out
            subst eo12
            go_wp2_with (first | (go_at_call 44; (with_reducible refine (spec_l1Has.calls k2 _ _ x5_1 x7_2 false _ ?s1 ?s2 A7.out).mono ?_); (case s1 => exact q5a8_ HO_5.out); (case s2 => exact (Kd.R_reads' HO_5.out).2.1); rintro e w' ⟨rfl, ⟨nd, rfl⟩⟩) | ((with_reducible refine gate_builtin (b := .append) (xs := #[.tmp 27, .tmp 29]) rfl ?_); at_builtin; refine Kd.R_append (Kd.int .i64) (w0 := w) w.heap.size rfl (.tmp 27) (.tmp 29) 24 3 (.int .i64 0) 8 rfl Tryz.underlying24 info3 rfl (by decide) (by omega) (.slice Ao12 x5_1.length co12) x5_1 (-1) [.int .i64 (-1)] (fun _ => True) (fun _ => False) rfl rfl ?aP (fun _ hk => hk.elim) ?aF ?aO ?aB ?aS ?aL ?_; (case aP => exact rfl); (case aB => exact q0c4_); (case aF => exact (fun _ _ => trivial)); (case aO => exact (q9d5_ HO_5.out)); (case aS => exact (below_size q0c4_)); (case aL => have := LMc11.out; omega); intro v249 w13 ho hb hg hat; rw [← Ny248.out] at ho; have n0_ := Aside0.mk (hb); have n1_ := Aside0.mk (ho); replace HB := n0_; have HO250 := n1_; clear n0_ n1_; clear ho hb hg hat))
            go_roundg k2
            case measure => have := HK1.out; have := HK2.out; omega
            case rel => exact ⟨(y248), (wrap64 (x10_1 + 1)), qc8f_, H', ⟨q37b_ HK1.out HK2.out⟩, ⟨q9d5_ HO250.out⟩, ⟨q0c4_⟩⟩
           ·
            rw [if_neg c11] at H
            exact absurd H (by simp)
          ·
           rw [if_neg c10] at H
           have c10b0 := decide_eq_false c10
           clear c10
           by_cases c14 : x5_1.length < 17592186044416
           ·
            rw [if_pos c14] at H
            have LMc14 := Aside0.mk c14
            clear c14
            obtain ⟨y251, hy251⟩ : ∃ y_ : List Int, y_ = (x5_1 ++ [x7_2]) := ⟨_, rfl⟩
            replace H : (spec_paDrive.l0 k2 a1 y251 l0 (l0.length : Int) (wrap64 (x10_1 + 1))) = some r := by first | (rw [hy251]; with_reducible exact H) | (have H2_ := (Option.bind_some _ _).symm.trans H; rw [hy251]; with_reducible exact H2_) | (have H2_ := (Option.bind_some _ _).symm.trans H; with_reducible exact H2_) | with_reducible exact H | (rw [hy251]; exact H) | exact H
            have Ny251 := Aside0.mk hy251
            clear hy251
            have H' := Aside0.mk H
            clear H
            obtain ⟨Ao15, co15, eo15⟩ := Kd.R_slice HO_5.out
            subst eo15
            go_wp2_with (first | (go_at_call 44; (with_reducible refine (spec_l1Has.calls k2 _ _ x5_1 x7_2 false _ ?s1 ?s2 A7.out).mono ?_); (case s1 => exact q5a8_ HO_5.out); (case s2 => exact (Kd.R_reads' HO_5.out).2.1); rintro e w' ⟨rfl, ⟨nd, rfl⟩⟩) | ((with_reducible refine gate_builtin (b := .append) (xs := #[.tmp 27, .tmp 29]) rfl ?_); at_builtin; refine Kd.R_append (Kd.int .i64) (w0 := w) w.heap.size rfl (.tmp 27) (.tmp 29) 24 3 (.int .i64 0) 8 rfl Tryz.underlying24 info3 rfl (by decide) (by omega) (.slice Ao15 x5_1.length co15) x5_1 x7_2 [.int .i64 x7_2] (fun _ => True) (fun _ => False) rfl rfl ?aP (fun _ hk => hk.elim) ?aF ?aO ?aB ?aS ?aL ?_; (case aP => exact rfl); (case aB => exact q0c4_); (case aF => exact (fun _ _ => trivial)); (case aO => exact (q9d5_ HO_5.out)); (case aS => exact (below_size q0c4_)); (case aL => have := LMc14.out; omega); intro v252 w16 ho hb hg hat; rw [← Ny251.out] at ho; have n0_ := Aside0.mk (hb); have n1_ := Aside0.mk (ho); replace HB := n0_; have HO253 := n1_; clear n0_ n1_; clear ho hb hg hat))
            go_roundg k2
            case measure => have := HK1.out; have := HK2.out; omega
            case rel => exact ⟨(y251), (wrap64 (x10_1 + 1)), qc8f_, H', ⟨q37b_ HK1.out HK2.out⟩, ⟨q9d5_ HO253.out⟩, ⟨q0c4_⟩⟩
           ·
            rw [if_neg c14] at H
            exact absurd H (by simp)
        ·
         rw [if_neg c6] at H
         have c6b0 := decide_eq_false c6
         clear c6
         by_cases c17 : x7_2 ≥ a1
         ·
          rw [if_pos c17] at H
          have c17b0 := decide_eq_true c17
          clear c17
          by_cases c18 : x5_1.length < 17592186044416
          ·
           rw [if_pos c18] at H
           have LMc18 := Aside0.mk c18
           clear c18
           obtain ⟨y254, hy254⟩ : ∃ y_ : List Int, y_ = (x5_1 ++ [(-1)]) := ⟨_, rfl⟩
           replace H : (spec_paDrive.l0 k2 a1 y254 l0 (l0.length : Int) (wrap64 (x10_1 + 1))) = some r := by first | (rw [hy254]; with_reducible exact H) | (have H2_ := (Option.bind_some _ _).symm.trans H; rw [hy254]; with_reducible exact H2_) | (have H2_ := (Option.bind_some _ _).symm.trans H; with_reducible exact H2_) | with_reducible exact H | (rw [hy254]; exact H) | exact H
           have Ny254 := Aside0.mk hy254
           clear hy254
           have H' := Aside0.mk H
           clear H
           go_wp2_with (first | ((with_reducible refine gate_builtin (b := .append) (xs := #[.tmp 27, .tmp 29]) rfl ?_); at_builtin; refine Kd.R_append (Kd.int .i64) (w0 := w) w.heap.size rfl (.tmp 27) (.tmp 29) 24 3 (.int .i64 0) 8 rfl Tryz.underlying24 info3 rfl (by decide) (by omega) u5 x5_1 (-1) [.int .i64 (-1)] (fun _ => True) (fun _ => False) rfl rfl ?aP (fun _ hk => hk.elim) ?aF ?aO ?aB ?aS ?aL ?_; (case aP => exact rfl); (case aB => exact q0c4_); (case aF => exact (fun _ _ => trivial)); (case aO => exact (q9d5_ HO_5.out)); (case aS => exact (below_size q0c4_)); (case aL => have := LMc18.out; omega); intro v255 w19 ho hb hg hat; rw [← Ny254.out] at ho; have n0_ := Aside0.mk (hb); have n1_ := Aside0.mk (ho); replace HB := n0_; have HO256 := n1_; clear n0_ n1_; clear ho hb hg hat))
           go_roundg k2
           case measure => have := HK1.out; have := HK2.out; omega
           case rel => exact ⟨(y254), (wrap64 (x10_1 + 1)), qc8f_, H', ⟨q37b_ HK1.out HK2.out⟩, ⟨q9d5_ HO256.out⟩, ⟨q0c4_⟩⟩
          ·
           rw [if_neg c18] at H
           exact absurd H (by simp)
         ·
          rw [if_neg c17] at H
          have c17b0 := decide_eq_false c17
          clear c17
          by_cases c20 : x5_1.length < 17592186044416
          ·
           rw [if_pos c20] at H
           have LMc20 := Aside0.mk c20
           clear c20
           obtain ⟨y257, hy257⟩ : ∃ y_ : List Int, y_ = (x5_1 ++ [x7_2]) := ⟨_, rfl⟩
           replace H : (spec_paDrive.l0 k2 a1 y257 l0 (l0.length : Int) (wrap64 (x10_1 + 1))) = some r := by first | (rw [hy257]; with_reducible exact H) | (have H2_ := (Option.bind_some _ _).symm.trans H; rw [hy257]; with_reducible exact H2_) | (have H2_ := (Option.bind_some _ _).symm.trans H; with_reducible exact H2_) | with_reducible exact H | (rw [hy257]; exact H) | exact H
           have Ny257 := Aside0.mk hy257
           clear hy257
           have H' := Aside0.mk H
           clear H
           go_wp2_with (first | ((with_reducible refine gate_builtin (b := .append) (xs := #[.tmp 27, .tmp 29]) rfl ?_); at_builtin; refine Kd.R_append (Kd.int .i64) (w0 := w) w.heap.size rfl (.tmp 27) (.tmp 29) 24 3 (.int .i64 0) 8 rfl Tryz.underlying24 info3 rfl (by decide) (by omega) u5 x5_1 x7_2 [.int .i64 x7_2] (fun _ => True) (fun _ => False) rfl rfl ?aP (fun _ hk => hk.elim) ?aF ?aO ?aB ?aS ?aL ?_; (case aP => exact rfl); (case aB => exact q0c4_); (case aF => exact (fun _ _ => trivial)); (case aO => exact (q9d5_ HO_5.out)); (case aS => exact (below_size q0c4_)); (case aL => have := LMc20.out; omega); intro v258 w21 ho hb hg hat; rw [← Ny257.out] at ho; have n0_ := Aside0.mk (hb); have n1_ := Aside0.mk (ho); replace HB := n0_; have HO259 := n1_; clear n0_ n1_; clear ho hb hg hat))
           go_roundg k2
           case measure => have := HK1.out; have := HK2.out; omega
           case rel => exact ⟨(y257), (wrap64 (x10_1 + 1)), qc8f_, H', ⟨q37b_ HK1.out HK2.out⟩, ⟨q9d5_ HO259.out⟩, ⟨q0c4_⟩⟩
          ·
           rw [if_neg c20] at H
           exact absurd H (by simp)
     ·
      rw [if_neg c5] at H
      exact absurd H (by simp)
    ·
     rw [if_neg c4] at H
     exact absurd H (by simp)
   ·
    rw [if_neg c3] at H
    have c3b0 := decide_eq_false c3
    clear c3
    obtain rfl := Option.some.inj H
    go_wp2
    go_ret
    exact ⟨_, qce7_, q9d5_ HO_5.out, q0c4_⟩

/-! ### spec_paAll: function 43 -/
def spec_paAll.f (k : Nat) (l0 : List Int) (a1 : Int) : Option (Bool) := (spec_paDrive.f k l0 a1).bind fun t260 => ((spec_l1Has.f k t260 (-1)).bind fun t263 => (some (!t263)))
theorem spec_paAll.mono : ∀ a0 a1 k, LeO (spec_paAll.f k a0 a1) (spec_paAll.f (k + 1) a0 a1) := by
 intro a0 a1 k
 unfold spec_paAll.f
 repeat' (with_reducible first | exact spec_l1Has.mono _ _ _ | exact spec_paDrive.mono _ _ _ | exact LeO.refl _ | exact LeO.none _ | refine LeO.ite ?_ ?_ | refine LeO.bind ?_ (fun _ => ?_))
theorem spec_paAll.calls (k : Nat) (A0 : Option Addr) (c0 : Nat) (l0 : List Int) (a1 : Int) (r : Bool) (w : World) (hr0 : Kd.C (Kd.int .i64) w A0 l0.length l0) (hc0 : l0.length ≤ c0) (h : spec_paAll.f k l0 a1 = some r) :
  Calls Tryz.prog 43 #[.slice A0 l0.length c0, .int .i64 a1] w fun e w' => e = .returned (.bool r) ∧ Below w.heap.size w w' := by
 have HR0 := Aside0.mk hr0
 have HC0 := Aside0.mk hc0
 clear hr0 hc0
 have HB := Aside0.mk (Below.refl w.heap.size w)
 unfold spec_paAll.f at h
 have H := h; clear h
 obtain ⟨t260, A3, H⟩ := ob_ H
 obtain ⟨t263, A4, H⟩ := ob_ H
 obtain rfl := Option.some.inj H
 go_enter Tryz.func43, Tryz.ntmps43
 go_wp2_with (first | ((with_reducible refine gate_callee (f := 61) rfl ?_); refine gl_ 7 Tryz.func61 #[.slice A0 l0.length c0, .int .i64 a1] ?_; (with_reducible refine (spec_paDrive.calls k _ _ l0 a1 t260 _ ?s1 ?s2 A3.out).mono ?_); (case s1 => exact q201_ HR0.out); (case s2 => exact HC0.out); rintro e w5 ⟨v261, rfl, ho0, hb⟩; refine ⟨_, rfl, ?_⟩; have HO262 := Aside0.mk (Kd.R_lower ho0 (below_size q0c4_)); replace HB := Aside0.mk (below_step q0c4_ hb); clear hb ho0; obtain ⟨Ao6, co6, eo6⟩ := Kd.R_slice HO262.out; subst eo6) | ((with_reducible refine gate_callee (f := 44) rfl ?_); refine gl_ 8 Tryz.func44 #[.slice Ao6 t260.length co6, .int .i64 (-1)] ?_; (with_reducible refine (spec_l1Has.calls k _ _ t260 (-1) t263 _ ?s1 ?s2 A4.out).mono ?_); (case s1 => exact q5a8_ HO262.out); (case s2 => exact (Kd.R_reads' HO262.out).2.1); rintro e w' ⟨rfl, ⟨nd, rfl⟩⟩; refine ⟨_, rfl, ?_⟩))
 go_ret
 exact ⟨qce7_, q0c4_⟩

/-! ### spec_paParking: function 22 -/
def spec_paParking.f (k : Nat) (l0 : List Int) : Option (Bool) := if (l0.length : Int) ≤ 8 then ((spec_l1All.f k l0 0 (wrap64 ((l0.length : Int) - 1))).bind fun t264 => (if t264 = true then ((spec_paAll.f k l0 (l0.length : Int)).bind fun t265 => (some t265)) else (some false))) else (some false)
theorem spec_paParking.mono : ∀ a0 k, LeO (spec_paParking.f k a0) (spec_paParking.f (k + 1) a0) := by
 intro a0 k
 unfold spec_paParking.f
 repeat' (with_reducible first | exact spec_l1All.mono _ _ _ _ | exact spec_paAll.mono _ _ _ | exact LeO.refl _ | exact LeO.none _ | refine LeO.ite ?_ ?_ | refine LeO.bind ?_ (fun _ => ?_))
theorem spec_paParking.calls (k : Nat) (A0 : Option Addr) (c0 : Nat) (l0 : List Int) (r : Bool) (w : World) (hr0 : Kd.C (Kd.int .i64) w A0 l0.length l0) (hc0 : l0.length ≤ c0) (h : spec_paParking.f k l0 = some r) :
  Calls Tryz.prog 22 #[.slice A0 l0.length c0] w fun e w' => e = .returned (.bool r) ∧ Below w.heap.size w w' := by
 have HR0 := Aside0.mk hr0
 have HC0 := Aside0.mk hc0
 clear hr0 hc0
 have HB := Aside0.mk (Below.refl w.heap.size w)
 unfold spec_paParking.f at h
 have H := h; clear h
 by_cases c2 : (l0.length : Int) ≤ 8
 ·
  rw [if_pos c2] at H
  have c2b0 := decide_eq_true c2
  have c2b1 : decide (l0.length ≤ 8) = true := decide_eq_true (by omega)
  clear c2
  obtain ⟨t264, A3, H⟩ := ob_ H
  by_cases c4 : t264 = true
  ·
   subst c4
   rw [if_pos rfl] at H
   obtain ⟨t265, A5, H⟩ := ob_ H
   obtain rfl := Option.some.inj H
   go_enter Tryz.func22, Tryz.ntmps22
   go_wp2_with (first | (go_at_call 42; (with_reducible refine (spec_l1All.calls k _ _ l0 0 (wrap64 ((l0.length : Int) - 1)) true _ ?s1 ?s2 A3.out).mono ?_); (case s1 => exact q201_ HR0.out); (case s2 => exact HC0.out); rintro e w' ⟨rfl, ⟨nd, rfl⟩⟩) | (go_at_call 43; (with_reducible refine (spec_paAll.calls k _ _ l0 (l0.length : Int) t265 _ ?s1 ?s2 A5.out).mono ?_); (case s1 => exact q201_ HR0.out); (case s2 => exact HC0.out); rintro e w6 ⟨rfl, hb⟩; replace HB := Aside0.mk (below_step q0c4_ hb); clear hb))
   go_ret
   exact ⟨qce7_, q0c4_⟩
  ·
   replace c4 := Bool.eq_false_iff.mpr c4
   subst c4
   rw [if_neg nf_] at H
   obtain rfl := Option.some.inj H
   go_enter Tryz.func22, Tryz.ntmps22
   go_wp2_with (first | (go_at_call 42; (with_reducible refine (spec_l1All.calls k _ _ l0 0 (wrap64 ((l0.length : Int) - 1)) false _ ?s1 ?s2 A3.out).mono ?_); (case s1 => exact q201_ HR0.out); (case s2 => exact HC0.out); rintro e w' ⟨rfl, ⟨nd, rfl⟩⟩))
   go_ret
   exact ⟨qce7_, q0c4_⟩
 ·
  rw [if_neg c2] at H
  have c2b0 := decide_eq_false c2
  have c2b1 : decide (l0.length ≤ 8) = false := decide_eq_false (by omega)
  clear c2
  obtain rfl := Option.some.inj H
  go_enter Tryz.func22, Tryz.ntmps22
  go_wp2
  go_ret
  exact ⟨qce7_, q0c4_⟩

end Go.Proofs.YtgfcnfbbiaeboaaGreat.PAll
