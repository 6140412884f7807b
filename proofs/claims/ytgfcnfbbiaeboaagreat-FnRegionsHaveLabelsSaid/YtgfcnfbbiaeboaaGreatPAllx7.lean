-- written by a program of this session (wip/gen/xpatch.py over the translation); Lean checks it
import Derived.Test.YtgfcnfbbiaeboaaGreatPAllx0
import Derived.Test.YtgfcnfbbiaeboaaGreatPAllx1
import Derived.Test.YtgfcnfbbiaeboaaGreatPAllx4
import Derived.Test.YtgfcnfbbiaeboaaGreatPAllx6
namespace Go.Proofs.YtgfcnfbbiaeboaaGreat.PAll
open Go.RowKit Go.Proofs.YtgfcnfbbiaeboaaGreat.Hand Go.Proofs.YtgfcnfbbiaeboaaGreatW.PrintWords Go.Proofs.YtgfcnfbbiaeboaaGreatW.PrintLast Go.Proofs.YtgfcnfbbiaeboaaGreatW.PrintMore
attribute [local go_sem] max2_int min2_int max_two min_two max_three min_three max_four min_four   -- for this text's walks alone
set_option maxHeartbeats 8000000
set_option maxRecDepth 100000
set_option linter.unusedVariables false
set_option linter.unusedSimpArgs false

/-! ### spec_reDepths: function 51 -/
mutual
def spec_reDepths.l0 : Nat → List Int → Bool → List Int → List Int → Option (List Int)
 | 0, _, _, _, _ => none
 | k + 1, x3, x4, x487000, x487001 => if x4 = true then (spec_reDepths.l1 k x3 false x487001 (x487001.length : Int) 0 x487000 x487001) else (some x3)
def spec_reDepths.l1 : Nat → List Int → Bool → List Int → Int → Int → List Int → List Int → Option (List Int)
 | 0, _, _, _, _, _, _, _ => none
 | k + 1, x3, x4, x14, x15, x16, x487000, x487001 => if x16 < x15 then (if 0 ≤ x16 then (if x16 < (x14.length : Int) then (if x16 > 0 then (if 0 ≤ (wrap64 (x16 - 1)) then (if (wrap64 (x16 - 1)) < (x3.length : Int) then (spec_reDepths.j2 k x3 x4 x16 (rd x14 x16) (wrap64 ((rd x3 (wrap64 (x16 - 1))) + 1)) x14 x15 x16 x487000 x487001) else (none)) else (none)) else (spec_reDepths.j2 k x3 x4 x16 (rd x14 x16) 0 x14 x15 x16 x487000 x487001)) else (none)) else (none)) else (spec_reDepths.l0 k x3 x4 x487000 x487001)
def spec_reDepths.j2 : Nat → List Int → Bool → Int → Int → Int → List Int → Int → Int → List Int → List Int → Option (List Int)
 | 0, _, _, _, _, _, _, _, _, _, _ => none
 | k + 1, x3, x4, x5, x6, x7, x14, x15, x16, x487000, x487001 => if x6 > 0 then (if 0 ≤ (wrap64 (x6 - 1)) then (if (wrap64 (x6 - 1)) < (x3.length : Int) then ((spec_l1Most.f x7 (wrap64 ((wrap64 ((rd x3 (wrap64 (x6 - 1))) + 100)) + 1))).bind fun t493 => (spec_reDepths.j3 k x3 x4 x5 x6 t493 x14 x15 x16 x487000 x487001)) else (none)) else (none)) else (spec_reDepths.j3 k x3 x4 x5 x6 x7 x14 x15 x16 x487000 x487001)
def spec_reDepths.j3 : Nat → List Int → Bool → Int → Int → Int → List Int → Int → Int → List Int → List Int → Option (List Int)
 | 0, _, _, _, _, _, _, _, _, _, _ => none
 | k + 1, x3, x4, x5, x6, x7, x14, x15, x16, x487000, x487001 => if 0 ≤ x5 then (if x5 < (x3.length : Int) then (if x7 > (rd x3 x5) then ((some (x3.set (x5 : Int).toNat x7 : List Int)).bind fun y495 => (if x6 < x5 then (if 0 ≤ x6 then (if x6 < (x3.length : Int) then (if (rd y495 x6) < (wrap64 ((wrap64 ((rd y495 x5) - 100)) + 1)) then (spec_reDepths.l1 k (y495.set (x6 : Int).toNat (wrap64 ((wrap64 ((rd y495 x5) - 100)) + 1))) true x14 x15 (wrap64 (x16 + 1)) x487000 x487001) else (spec_reDepths.l1 k y495 true x14 x15 (wrap64 (x16 + 1)) x487000 x487001)) else (none)) else (none)) else (spec_reDepths.l1 k y495 true x14 x15 (wrap64 (x16 + 1)) x487000 x487001))) else (if x6 < x5 then (if 0 ≤ x6 then (if x6 < (x3.length : Int) then (if (rd x3 x6) < (wrap64 ((wrap64 ((rd x3 x5) - 100)) + 1)) then (spec_reDepths.l1 k (x3.set (x6 : Int).toNat (wrap64 ((wrap64 ((rd x3 x5) - 100)) + 1))) true x14 x15 (wrap64 (x16 + 1)) x487000 x487001) else (spec_reDepths.l1 k x3 x4 x14 x15 (wrap64 (x16 + 1)) x487000 x487001)) else (none)) else (none)) else (spec_reDepths.l1 k x3 x4 x14 x15 (wrap64 (x16 + 1)) x487000 x487001))) else (none)) else (none)
end
def spec_reDepths.f (k : Nat) (l0_0 : List Int) (l0_1 : List Int) : Option (List Int) := if 0 ≤ (l0_0.length : Int) then (if ((l0_0.length : Int) : Int).toNat ≤ 35184372088832 then (spec_reDepths.l0 k (List.replicate ((l0_0.length : Int) : Int).toNat 0) true l0_0 l0_1) else (none)) else (none)
theorem spec_reDepths.mono_l : ∀ k, (∀ y0 y1 y2 y3, LeO (spec_reDepths.l0 k y0 y1 y2 y3) (spec_reDepths.l0 (k + 1) y0 y1 y2 y3)) ∧ (∀ y0 y1 y2 y3 y4 y5 y6, LeO (spec_reDepths.l1 k y0 y1 y2 y3 y4 y5 y6) (spec_reDepths.l1 (k + 1) y0 y1 y2 y3 y4 y5 y6)) ∧ (∀ y0 y1 y2 y3 y4 y5 y6 y7 y8 y9, LeO (spec_reDepths.j2 k y0 y1 y2 y3 y4 y5 y6 y7 y8 y9) (spec_reDepths.j2 (k + 1) y0 y1 y2 y3 y4 y5 y6 y7 y8 y9)) ∧ (∀ y0 y1 y2 y3 y4 y5 y6 y7 y8 y9, LeO (spec_reDepths.j3 k y0 y1 y2 y3 y4 y5 y6 y7 y8 y9) (spec_reDepths.j3 (k + 1) y0 y1 y2 y3 y4 y5 y6 y7 y8 y9))
 | 0 => ⟨fun _ _ _ _ r h => by simp [spec_reDepths.l0] at h, fun _ _ _ _ _ _ _ r h => by simp [spec_reDepths.l1] at h, fun _ _ _ _ _ _ _ _ _ _ r h => by simp [spec_reDepths.j2] at h, fun _ _ _ _ _ _ _ _ _ _ r h => by simp [spec_reDepths.j3] at h⟩
 | k + 1 => by
  obtain ⟨ih0, ih1, ih2, ih3⟩ := spec_reDepths.mono_l k
  refine ⟨?_, ?_, ?_, ?_⟩
  ·
   intro y0 y1 y2 y3
   unfold spec_reDepths.l0
   repeat' (with_reducible first | exact ih0 _ _ _ _ | exact ih1 _ _ _ _ _ _ _ | exact ih2 _ _ _ _ _ _ _ _ _ _ | exact ih3 _ _ _ _ _ _ _ _ _ _ | exact LeO.refl _ | exact LeO.none _ | refine LeO.ite ?_ ?_ | refine LeO.bind ?_ (fun _ => ?_))
  ·
   intro y0 y1 y2 y3 y4 y5 y6
   unfold spec_reDepths.l1
   repeat' (with_reducible first | exact ih0 _ _ _ _ | exact ih1 _ _ _ _ _ _ _ | exact ih2 _ _ _ _ _ _ _ _ _ _ | exact ih3 _ _ _ _ _ _ _ _ _ _ | exact LeO.refl _ | exact LeO.none _ | refine LeO.ite ?_ ?_ | refine LeO.bind ?_ (fun _ => ?_))
  ·
   intro y0 y1 y2 y3 y4 y5 y6 y7 y8 y9
   unfold spec_reDepths.j2
   repeat' (with_reducible first | exact ih0 _ _ _ _ | exact ih1 _ _ _ _ _ _ _ | exact ih2 _ _ _ _ _ _ _ _ _ _ | exact ih3 _ _ _ _ _ _ _ _ _ _ | exact LeO.refl _ | exact LeO.none _ | refine LeO.ite ?_ ?_ | refine LeO.bind ?_ (fun _ => ?_))
  ·
   intro y0 y1 y2 y3 y4 y5 y6 y7 y8 y9
   unfold spec_reDepths.j3
   repeat' (with_reducible first | exact ih0 _ _ _ _ | exact ih1 _ _ _ _ _ _ _ | exact ih2 _ _ _ _ _ _ _ _ _ _ | exact ih3 _ _ _ _ _ _ _ _ _ _ | exact LeO.refl _ | exact LeO.none _ | refine LeO.ite ?_ ?_ | refine LeO.bind ?_ (fun _ => ?_))
theorem spec_reDepths.mono : ∀ a0 a1 k, LeO (spec_reDepths.f k a0 a1) (spec_reDepths.f (k + 1) a0 a1) := by
 intro a0 a1 k
 obtain ⟨ih0, ih1, ih2, ih3⟩ := spec_reDepths.mono_l k
 unfold spec_reDepths.f
 repeat' (with_reducible first | exact ih0 _ _ _ _ | exact ih1 _ _ _ _ _ _ _ | exact ih2 _ _ _ _ _ _ _ _ _ _ | exact ih3 _ _ _ _ _ _ _ _ _ _ | exact LeO.refl _ | exact LeO.none _ | refine LeO.ite ?_ ?_ | refine LeO.bind ?_ (fun _ => ?_))
theorem spec_reDepths.calls (k : Nat) (A0_0 : Option Addr) (c0_0 : Nat) (l0_0 : List Int) (A0_1 : Option Addr) (c0_1 : Nat) (l0_1 : List Int) (r : List Int) (w : World) (hr0_0 : Kd.C (Kd.int .i64) w A0_0 l0_0.length l0_0) (hc0_0 : l0_0.length ≤ c0_0) (hr0_1 : Kd.C (Kd.int .i64) w A0_1 l0_1.length l0_1) (hc0_1 : l0_1.length ≤ c0_1) (h : spec_reDepths.f k l0_0 l0_1 = some r) :
  Calls Tryz.prog 51 #[.agg #[.slice A0_0 l0_0.length c0_0, .slice A0_1 l0_1.length c0_1]] w fun e w' => ∃ v0_ : Value, e = .returned (v0_) ∧ Kd.R (Kd.int .i64) 3 w' w.heap.size (fun _ => True) v0_ r ∧ Below w.heap.size w w' := by
 have hu27 := Tryz.underlying27
 have HR0_0 := Aside0.mk hr0_0
 have HC0_0 := Aside0.mk hc0_0
 clear hr0_0 hc0_0
 have HR0_1 := Aside0.mk hr0_1
 have HC0_1 := Aside0.mk hc0_1
 clear hr0_1 hc0_1
 have HB := Aside0.mk (Below.refl w.heap.size w)
 unfold spec_reDepths.f at h
 have H := h; clear h
 by_cases c2 : 0 ≤ (l0_0.length : Int)
 ·
  rw [if_pos c2] at H
  have c2b0 := eq_true c2
  have c2b1 := decide_eq_true c2
  clear c2
  by_cases c3 : ((l0_0.length : Int) : Int).toNat ≤ 35184372088832
  ·
   rw [if_pos c3] at H
   have c3b0 := eq_true c3
   have c3b1 := decide_eq_true c3
   clear c3
   obtain ⟨y487, hy487⟩ : ∃ y_ : List Int, y_ = (List.replicate ((l0_0.length : Int) : Int).toNat 0) := ⟨_, rfl⟩
   replace H : (spec_reDepths.l0 k y487 true l0_0 l0_1) = some r := by first | (rw [hy487]; with_reducible exact H) | (have H2_ := (Option.bind_some _ _).symm.trans H; rw [hy487]; with_reducible exact H2_) | (have H2_ := (Option.bind_some _ _).symm.trans H; with_reducible exact H2_) | with_reducible exact H | (rw [hy487]; exact H) | exact H
   have Ny487 := Aside0.mk hy487
   clear hy487
   have H' := Aside0.mk H
   clear H
   go_enter Tryz.func51, Tryz.ntmps51
   have zz_ := trivial
   repeat (clear zz_; go_wp2_with (first | ((with_reducible refine gate_dst (N := 1) rfl ?_); refine box_event ?hg (N := 1) ?hd (cs := #[.slice A0_0 l0_0.length c0_0, .slice A0_1 l0_1.length c0_1]) (t := 27) ?hr ?_; (case hd => rfl); (case hg => rfl); (case hr => exact qfba_); intro gb486 hg w4 hbox hb; have n0_ := Aside0.mk (below_step q0c4_ hb); have n1_ := Aside0.mk (hbox); have n2_ := Aside0.mk ((by rw [hg]; exact (below_size q0c4_) : w.heap.size ≤ gb486)); have n3_ := Aside0.mk ((by rw [hg]; exact (below_size q0c4_) : w.heap.size ≤ gb486)); replace HB := n0_; have BK486 := n1_; have GW486 := n2_; have GE486 := n3_; clear n0_ n1_ n2_ n3_; clear hb hbox hg; have hcz5_0 : w4.cell? ⟨gb486, 0, none⟩ = some (.slice A0_0 l0_0.length c0_0) := (blk_cell BK486.out 0).trans rfl; have hcz5_1 : w4.cell? ⟨gb486, 1, none⟩ = some (.slice A0_1 l0_1.length c0_1) := (blk_cell BK486.out 1).trans rfl; have hfz5_0 := blk_frozen BK486.out 0; have hfz5_1 := blk_frozen BK486.out 1) | ((with_reducible refine gate_dst (N := 11) rfl ?_); refine Kd.R_make (Kd.int .i64) _ 3 rfl (N := 11) rfl 24 _ _ rfl (l0_0.length : Int) rfl rfl Tryz.underlying24 (.int .i64 0) 8 info3 rfl (by decide) (by omega) 0 (ok := fun _ => True) (okp := fun _ => True) rfl (fun _ hk => hk) trivial (of_decide_eq_true qe84_) (Nat.le_trans (Nat.mul_le_mul_right _ (of_decide_eq_true qe84_ : (l0_0.length : Int).toNat ≤ 35184372088832)) (by omega)) (Below.refl _ _) (Nat.le_refl _) ?_; intro v488 w6 ho7 hb hg_ hnew_; clear hg_ hnew_; (first | rw [← Ny487.out] at ho7 | (simp only [Int.reduceToNat] at ho7; rw [← Ny487.out] at ho7)); have HO489 := Aside0.mk (Kd.R_lower ho7 (below_size q926_)); replace BK486 := Aside0.mk (blk_below (g := gb486) (o := .cells #[.slice A0_0 l0_0.length c0_0, .slice A0_1 l0_1.length c0_1] 27 (0, 0)) q592_ hb); replace HB := Aside0.mk (below_step q926_ hb); clear hb ho7)); try (go_quiet (fail); have zz_ := trivial))
   go_loopg [4] k (fun kq v4 w' => ∃ (x3_1 : List Int) (x4_1 : Bool), v4 = .bool x4_1 ∧ Aside0 (spec_reDepths.l0 kq x3_1 x4_1 l0_0 l0_1 = some r) ∧ Aside0 (kq ≤ k) ∧ Aside0 (Kd.R (Kd.int .i64) 3 w' w.heap.size (fun _ => True) v488 x3_1) ∧ Aside0 (w'.heap[gb486]? = some (.cells #[(.slice A0_0 l0_0.length c0_0), (.slice A0_1 l0_1.length c0_1)] 27 (0, 0))) ∧ Aside0 (Below w.heap.size w w'))
   case atStart => exact ⟨(y487), (true), qc8f_, H', ⟨Nat.le_refl _⟩, ⟨q9d5_ HO489.out⟩, ⟨q592_⟩, ⟨q926_⟩⟩
   case round =>
    clear H'; try clear c2; try clear c2b0; try clear c2b1; try clear p2; try clear c3; try clear c3b0; try clear c3b1; try clear c5; try clear hcz5_0; try clear hcz5_1; try clear hfz5_0; try clear hfz5_1
    obtain ⟨x3_1, x4_1, rfl, HA, HK1, HO_3, BK486, HB⟩ := hrel
    cases gk with
    | zero => exact absurd HA.out (by simp [spec_reDepths.l0])
    | succ k1 =>
     have H := HA.out
     clear HA
     simp only [spec_reDepths.l0] at H
     by_cases c8 : x4_1 = true
     ·
      subst c8
      rw [if_pos rfl] at H
      have H' := Aside0.mk H
      clear H
      have hcz9_0 : wr.cell? ⟨gb486, 0, none⟩ = some (.slice A0_0 l0_0.length c0_0) := (blk_cell BK486.out 0).trans rfl
      have hcz9_1 : wr.cell? ⟨gb486, 1, none⟩ = some (.slice A0_1 l0_1.length c0_1) := (blk_cell BK486.out 1).trans rfl
      have hfz9_0 := blk_frozen BK486.out 0
      have hfz9_1 := blk_frozen BK486.out 1
      go_wp2
      repeat (go_quiet (fail); try go_wp2)
      go_loopg [4, 16] k1 (fun kq v4 v16 w' => ∃ (x3_2 : List Int) (x4_2 : Bool) (x16_2 : Int), v4 = .bool x4_2 ∧ v16 = .int .i64 x16_2 ∧ Aside0 (spec_reDepths.l1 kq x3_2 x4_2 l0_1 (l0_1.length : Int) x16_2 l0_0 l0_1 = some r) ∧ Aside0 (kq ≤ k1) ∧ Aside0 (Kd.R (Kd.int .i64) 3 w' w.heap.size (fun _ => True) v488 x3_2) ∧ Aside0 (w'.heap[gb486]? = some (.cells #[(.slice A0_0 l0_0.length c0_0), (.slice A0_1 l0_1.length c0_1)] 27 (0, 0))) ∧ Aside0 (Below w.heap.size w w'))
      case atStart => exact ⟨(x3_1), (false), (0), qc8f_, qc8f_, H', ⟨Nat.le_refl _⟩, ⟨q9d5_ HO_3.out⟩, ⟨q592_⟩, ⟨q926_⟩⟩
      case round =>
       clear H'; try clear c2; try clear c2b0; try clear c2b1; try clear p2; try clear c3; try clear c3b0; try clear c3b1; try clear c5; try clear c8; try clear hcz5_0; try clear hcz5_1; try clear hcz9_0; try clear hcz9_1; try clear hfz5_0; try clear hfz5_1; try clear hfz9_0; try clear hfz9_1; try clear p2
       obtain ⟨x3_2, x4_2, x16_2, rfl, rfl, HA, HK2, HO_3, BK486, HB⟩ := hrel
       cases gk with
       | zero => exact absurd HA.out (by simp [spec_reDepths.l1])
       | succ k2 =>
        have H := HA.out
        clear HA
        simp only [spec_reDepths.l1] at H
        by_cases c10 : x16_2 < (l0_1.length : Int)
        ·
         rw [if_pos c10] at H
         have c10b0 := decide_eq_true c10
         clear c10
         by_cases c11 : 0 ≤ x16_2
         ·
          rw [if_pos c11] at H
          have c11b0 := decide_eq_true c11
          clear c11
          by_cases c12 : x16_2 < (l0_1.length : Int)
          ·
           rw [if_pos c12] at H
           have c12b0 := decide_eq_true c12
           clear c12
           have HC13 := Aside0.mk H
           clear H
           have p490 : 0 ≤ (x16_2 : Int) := of_decide_eq_true qe84_
           have q490 : x16_2 < (l0_1.length : Int) := of_decide_eq_true qe84_
           obtain ⟨ad490, e490, hx490_0⟩ := Kd.at_int HR0_1.out x16_2 p490 q490
           cases e490
           (try (replace hx490_0 := (HB.out.cell (World.block_lt_of_cell? w _ hx490_0)).trans hx490_0))
           replace p490 := eq_true p490
           replace q490 := eq_true q490
           go_upto_if 22 with (fail)
           repeat (go_quiet (fail); try go_upto_if 22 with (fail))
           go_cut [7] (fun v7 wc => ∃ (kq : Nat) (x7_12 : Int), v7 = .int .i64 x7_12 ∧ Aside0 (spec_reDepths.j2 kq x3_2 x4_2 x16_2 (rd l0_1 x16_2) x7_12 l0_1 (l0_1.length : Int) x16_2 l0_0 l0_1 = some r) ∧ Aside0 (kq ≤ k2) ∧ Aside0 (Kd.R (Kd.int .i64) 3 wc w.heap.size (fun _ => True) v488 x3_2) ∧ Aside0 (wc.heap[gb486]? = some (.cells #[(.slice A0_0 l0_0.length c0_0), (.slice (some ad490) l0_1.length c0_1)] 27 (0, 0))) ∧ Aside0 (Below w.heap.size w wc))
           case first =>
            have H := HC13.out
            clear HC13
            by_cases c14 : x16_2 > 0
            ·
             rw [if_pos c14] at H
             have c14b0 := decide_eq_true c14
             clear c14
             (first | rw [c14b0] | (simp only [i64_w, i32_w]; rw [c14b0]) | skip)
             obtain ⟨ji15, hji15⟩ : ∃ j_ : Int, (wrap64 (x16_2 - 1)) = j_ := ⟨_, rfl⟩
             replace H : (if 0 ≤ (ji15) then (if (ji15) < (x3_2.length : Int) then (spec_reDepths.j2 k2 x3_2 x4_2 x16_2 (rd l0_1 x16_2) (wrap64 ((rd x3_2 (ji15)) + 1)) l0_1 (l0_1.length : Int) x16_2 l0_0 l0_1) else (none)) else (none)) = some r := by first | (rw [hji15] at H; exact H) | (simp only [hji15] at H ⊢; exact H)
             have hji15w : (IntKind.i64.wrap (x16_2 - 1)) = ji15 := (i64_w _).trans hji15
             by_cases c16 : 0 ≤ (ji15)
             ·
              rw [if_pos c16] at H
              have c16b0 := decide_eq_true c16
              clear c16
              by_cases c17 : (ji15) < (x3_2.length : Int)
              ·
               rw [if_pos c17] at H
               have c17b0 := decide_eq_true c17
               clear c17
               have H' := Aside0.mk H
               clear H
               obtain ⟨Ao18, co18, eo18⟩ := Kd.R_slice HO_3.out
               subst eo18
               have p491 : 0 ≤ ((ji15) : Int) := of_decide_eq_true qe84_
               have q491 : (ji15) < (x3_2.length : Int) := of_decide_eq_true qe84_
               obtain ⟨ad491, e491, hx491_0⟩ := Kd.at_int (Kd.R_reads' HO_3.out).2.2 (ji15) p491 q491
               cases e491
               replace p491 := eq_true p491
               replace q491 := eq_true q491
               go_wp2
               repeat (go_quiet (fail); try go_wp2)
               go_meet
               case rel => exact ⟨_, (wrap64 ((rd x3_2 (ji15)) + 1)), (by first | rfl | (simp; done) | (simp only [← hji15] <;> (first | rfl | simp)) | (simp [*]; done)), H', ⟨by have := HK1.out; have := HK2.out; first | omega | exact Nat.le_refl _⟩, ⟨q9d5_ HO_3.out⟩, ⟨q592_⟩, ⟨q926_⟩⟩
              ·
               rw [if_neg c17] at H
               exact absurd H (by simp)
             ·
              rw [if_neg c16] at H
              exact absurd H (by simp)
            ·
             rw [if_neg c14] at H
             have c14b0 := decide_eq_false c14
             clear c14
             (first | rw [c14b0] | (simp only [i64_w, i32_w]; rw [c14b0]) | skip)
             have H' := Aside0.mk H
             clear H
             go_wp2
             repeat (go_quiet (fail); try go_wp2)
             go_meet
             case rel => exact ⟨_, (0), qc8f_, H', ⟨by have := HK1.out; have := HK2.out; first | omega | exact Nat.le_refl _⟩, ⟨q9d5_ HO_3.out⟩, ⟨q592_⟩, ⟨q926_⟩⟩
           case rest =>
            clear HC13; try clear c1; try clear c2; try clear c2b0; try clear c2b1; try clear p2; try clear c3; try clear c3b0; try clear c3b1; try clear p4; try clear q4; try clear hx4; try clear c5; try clear p6; try clear c8; try clear c10; try clear c10b0; try clear c11; try clear c11b0; try clear c12; try clear c12b0; try clear c14; try clear c14b0; try clear c16; try clear c16b0; try clear c17; try clear c17b0; try clear hcz5_0; try clear hcz5_1; try clear hcz9_0; try clear hcz9_1; try clear hfz5_0; try clear hfz5_1; try clear hfz9_0; try clear hfz9_1; try clear hx490_0; try clear hx491_0; try clear p2; try clear p490; try clear p491; try clear q490; try clear q491
            obtain ⟨kq, x7_12, rfl, HA, HJ12, HO_3, BK486, HB⟩ := hcut
            cases kq with
            | zero => exact absurd HA.out (by simp [spec_reDepths.j2])
            | succ kj12 =>
             have H := HA.out
             clear HA
             simp only [spec_reDepths.j2] at H
             have HC19 := Aside0.mk H
             clear H
             go_upto_if 30 with (fail)
             repeat (go_quiet (fail); try go_upto_if 30 with (fail))
             go_cut [7] (fun v7 wc => ∃ (kq : Nat) (x7_18 : Int), v7 = .int .i64 x7_18 ∧ Aside0 (spec_reDepths.j3 kq x3_2 x4_2 x16_2 (rd l0_1 x16_2) x7_18 l0_1 (l0_1.length : Int) x16_2 l0_0 l0_1 = some r) ∧ Aside0 (kq ≤ kj12) ∧ Aside0 (Kd.R (Kd.int .i64) 3 wc w.heap.size (fun _ => True) v488 x3_2) ∧ Aside0 (wc.heap[gb486]? = some (.cells #[(.slice A0_0 l0_0.length c0_0), (.slice (some ad490) l0_1.length c0_1)] 27 (0, 0))) ∧ Aside0 (Below w.heap.size w wc))
             case first =>
              have H := HC19.out
              clear HC19
              by_cases c20 : (rd l0_1 x16_2) > 0
              ·
               rw [if_pos c20] at H
               have c20b0 := decide_eq_true c20
               clear c20
               (first | rw [c20b0] | (simp only [i64_w, i32_w]; rw [c20b0]) | skip)
               obtain ⟨ji21, hji21⟩ : ∃ j_ : Int, (wrap64 ((rd l0_1 x16_2) - 1)) = j_ := ⟨_, rfl⟩
               replace H : (if 0 ≤ (ji21) then (if (ji21) < (x3_2.length : Int) then ((spec_l1Most.f x7_12 (wrap64 ((wrap64 ((rd x3_2 (ji21)) + 100)) + 1))).bind fun t493 => (spec_reDepths.j3 kj12 x3_2 x4_2 x16_2 (rd l0_1 x16_2) t493 l0_1 (l0_1.length : Int) x16_2 l0_0 l0_1)) else (none)) else (none)) = some r := by first | (rw [hji21] at H; exact H) | (simp only [hji21] at H ⊢; exact H)
               have hji21w : (IntKind.i64.wrap ((rd l0_1 x16_2) - 1)) = ji21 := (i64_w _).trans hji21
               by_cases c22 : 0 ≤ (ji21)
               ·
                rw [if_pos c22] at H
                have c22b0 := decide_eq_true c22
                clear c22
                by_cases c23 : (ji21) < (x3_2.length : Int)
                ·
                 rw [if_pos c23] at H
                 have c23b0 := decide_eq_true c23
                 clear c23
                 obtain ⟨t493, A24, H⟩ := ob_ H
                 have H' := Aside0.mk H
                 clear H
                 obtain ⟨Ao25, co25, eo25⟩ := Kd.R_slice HO_3.out
                 subst eo25
                 have p492 : 0 ≤ ((ji21) : Int) := of_decide_eq_true qe84_
                 have q492 : (ji21) < (x3_2.length : Int) := of_decide_eq_true qe84_
                 obtain ⟨ad492, e492, hx492_0⟩ := Kd.at_int (Kd.R_reads' HO_3.out).2.2 (ji21) p492 q492
                 cases e492
                 replace p492 := eq_true p492
                 replace q492 := eq_true q492
                 have zz_ := trivial
                 repeat (clear zz_; go_wp2_with (first | (go_at_call 63; (with_reducible refine (spec_l1Most.calls x7_12 (wrap64 ((wrap64 ((rd x3_2 (ji21)) + 100)) + 1)) t493 _ A24.out).mono ?_); rintro e w' ⟨rfl, ⟨nd, rfl⟩⟩; (try exact q447_))); try (go_quiet ((go_at_call 63; (with_reducible refine (spec_l1Most.calls x7_12 (wrap64 ((wrap64 ((rd x3_2 (ji21)) + 100)) + 1)) t493 _ A24.out).mono ?_); rintro e w' ⟨rfl, ⟨nd, rfl⟩⟩; (try exact q447_))); have zz_ := trivial))
                 go_meet
                 case rel => exact ⟨_, (t493), qc8f_, H', ⟨q0d4_ HK1.out HK2.out HJ12.out⟩, ⟨q9d5_ HO_3.out⟩, ⟨q592_⟩, ⟨q926_⟩⟩
                ·
                 rw [if_neg c23] at H
                 exact absurd H (by simp)
               ·
                rw [if_neg c22] at H
                exact absurd H (by simp)
              ·
               rw [if_neg c20] at H
               have c20b0 := decide_eq_false c20
               clear c20
               (first | rw [c20b0] | (simp only [i64_w, i32_w]; rw [c20b0]) | skip)
               have H' := Aside0.mk H
               clear H
               go_wp2
               repeat (go_quiet (fail); try go_wp2)
               go_meet
               case rel => exact ⟨_, (x7_12), qc8f_, H', ⟨q0d4_ HK1.out HK2.out HJ12.out⟩, ⟨q9d5_ HO_3.out⟩, ⟨q592_⟩, ⟨q926_⟩⟩
             case rest =>
              clear HC19; try clear c1; try clear c2; try clear c2b0; try clear c2b1; try clear p2; try clear c3; try clear c3b0; try clear c3b1; try clear p4; try clear q4; try clear hx4; try clear c5; try clear p6; try clear c8; try clear c10; try clear c10b0; try clear c11; try clear c11b0; try clear c12; try clear c12b0; try clear c14; try clear c14b0; try clear c16; try clear c16b0; try clear c17; try clear c17b0; try clear c20; try clear c20b0; try clear c22; try clear c22b0; try clear c23; try clear c23b0; try clear hcz5_0; try clear hcz5_1; try clear hcz9_0; try clear hcz9_1; try clear hfz5_0; try clear hfz5_1; try clear hfz9_0; try clear hfz9_1; try clear hx490_0; try clear hx491_0; try clear hx492_0; try clear p2; try clear p4; try clear p490; try clear p491; try clear p492; try clear p6; try clear q4; try clear q490; try clear q491; try clear q492
              obtain ⟨kq, x7_18, rfl, HA, HJ18, HO_3, BK486, HB⟩ := hcut
              cases kq with
              | zero => exact absurd HA.out (by simp [spec_reDepths.j3])
              | succ kj18 =>
               have H := HA.out
               clear HA
               simp only [spec_reDepths.j3] at H
               by_cases c26 : 0 ≤ x16_2
               ·
                rw [if_pos c26] at H
                have c26b0 := decide_eq_true c26
                clear c26
                by_cases c27 : x16_2 < (x3_2.length : Int)
                ·
                 rw [if_pos c27] at H
                 have c27b0 := decide_eq_true c27
                 clear c27
                 by_cases c28 : x7_18 > (rd x3_2 x16_2)
                 ·
                  rw [if_pos c28] at H
                  have c28b0 := decide_eq_true c28
                  clear c28
                  obtain ⟨y495, hy495⟩ : ∃ y_ : List Int, y_ = (x3_2.set (x16_2 : Int).toNat x7_18) := ⟨_, rfl⟩
                  replace H : (if (rd l0_1 x16_2) < x16_2 then (if 0 ≤ (rd l0_1 x16_2) then (if (rd l0_1 x16_2) < (x3_2.length : Int) then (if (rd y495 (rd l0_1 x16_2)) < (wrap64 ((wrap64 ((rd y495 x16_2) - 100)) + 1)) then (spec_reDepths.l1 kj18 (y495.set ((rd l0_1 x16_2) : Int).toNat (wrap64 ((wrap64 ((rd y495 x16_2) - 100)) + 1))) true l0_1 (l0_1.length : Int) (wrap64 (x16_2 + 1)) l0_0 l0_1) else (spec_reDepths.l1 kj18 y495 true l0_1 (l0_1.length : Int) (wrap64 (x16_2 + 1)) l0_0 l0_1)) else (none)) else (none)) else (spec_reDepths.l1 kj18 y495 true l0_1 (l0_1.length : Int) (wrap64 (x16_2 + 1)) l0_0 l0_1)) = some r := by first | (rw [hy495]; with_reducible exact H) | (have H2_ := (Option.bind_some _ _).symm.trans H; rw [hy495]; with_reducible exact H2_) | (have H2_ := (Option.bind_some _ _).symm.trans H; with_reducible exact H2_) | with_reducible exact H | (rw [hy495]; exact H) | exact H
                  have Ny495 := Aside0.mk hy495
                  clear hy495
                  by_cases c30 : (rd l0_1 x16_2) < x16_2
                  ·
                   rw [if_pos c30] at H
                   have c30b0 := decide_eq_true c30
                   clear c30
                   by_cases c31 : 0 ≤ (rd l0_1 x16_2)
                   ·
                    rw [if_pos c31] at H
                    have c31b0 := decide_eq_true c31
                    clear c31
                    by_cases c32 : (rd l0_1 x16_2) < (x3_2.length : Int)
                    ·
                     rw [if_pos c32] at H
                     have c32b0 := decide_eq_true c32
                     clear c32
                     by_cases c33 : (rd y495 (rd l0_1 x16_2)) < (wrap64 ((wrap64 ((rd y495 x16_2) - 100)) + 1))
                     ·
                      rw [if_pos c33] at H
                      have c33b0 := decide_eq_true c33
                      clear c33
                      obtain ⟨y499, hy499⟩ : ∃ y_ : List Int, y_ = (y495.set ((rd l0_1 x16_2) : Int).toNat (wrap64 ((wrap64 ((rd y495 x16_2) - 100)) + 1))) := ⟨_, rfl⟩
                      replace H : (spec_reDepths.l1 kj18 y499 true l0_1 (l0_1.length : Int) (wrap64 (x16_2 + 1)) l0_0 l0_1) = some r := by first | (rw [hy499]; with_reducible exact H) | (have H2_ := (Option.bind_some _ _).symm.trans H; rw [hy499]; with_reducible exact H2_) | (have H2_ := (Option.bind_some _ _).symm.trans H; with_reducible exact H2_) | with_reducible exact H | (rw [hy499]; exact H) | exact H
                      have Ny499 := Aside0.mk hy499
                      clear hy499
                      have H' := Aside0.mk H
                      clear H
                      obtain ⟨Ao35, co35, eo35⟩ := Kd.R_slice HO_3.out
                      subst eo35
                      have p494 : 0 ≤ (x16_2 : Int) := of_decide_eq_true qe84_
                      have q494 : x16_2 < (x3_2.length : Int) := of_decide_eq_true qe84_
                      obtain ⟨ad494, e494, hx494_0⟩ := Kd.at_int (Kd.R_reads' HO_3.out).2.2 x16_2 p494 q494
                      cases e494
                      replace p494 := eq_true p494
                      replace q494 := eq_true q494
                      have p29 : 0 ≤ (x16_2 : Int) := of_decide_eq_true qe84_
                      have q29 : (x16_2 : Int) < ((x3_2.length : Int) : Int) := of_decide_eq_true qe84_
                      obtain ⟨go29, co29, eo29, gb29, gl29, cl29, HG29⟩ := Kd.R_form HO_3.out (by omega)
                      (first | cases eo29 | (injection eo29 with ea_ en_ ec_; (first | subst ea_ | (injection ea_ with ea_; subst ea_)); subst ec_; clear en_))
                      have GB29 := Aside0.mk gb29
                      have GG29 := Aside0.mk HG29
                      clear gb29 gl29 HG29
                      (first | simp only [add_plain] at hx494_0 | skip)
                      obtain ⟨hx29_0, hf29_0⟩ := Kd.R_celln 0 HO_3.out (x16_2 : Int) p29 q29
                      replace p29 := eq_true p29
                      replace q29 := eq_true q29
                      have HP36 := Kd.R_putg HO_3.out (x16_2 : Int) x7_18
                      have zz_ := trivial
                      repeat (clear zz_; go_wp2_with (first | ((with_reducible refine gate_store (t := 3) (p := 49) rfl ?_); (try (rw [drewN_self wc]; generalize hq_ : World.drewN wc _ = wc; have n0_ := Aside0.mk (Kd.R_at hq_ HO_3.out); have n1_ := Aside0.mk (blk_at hq_ BK486.out); have n2_ := Aside0.mk (below_at hq_ HB.out); clear hq_ HO_3 BK486 HB; have HO_3 := n0_; have BK486 := n1_; have HB := n2_; clear n0_ n1_ n2_; (try (have HP36 := Kd.R_putg HO_3.out (x16_2 : Int) x7_18)))); refine store_event (t := 3) (p := 49) (v := ?vo_w37) (w1 := (wc.setCell ⟨go29, (x16_2 : Int).toNat, none⟩ (.int .i64 x7_18))) ?hg ?ho ?hn ?hr ?_; (case ho => rfl); (case hg => rfl); (case hn => rfl); (case hr => exact qfba_); intro w37 hw; have hg : wc.grownBy w37 (some go29) := (by rw [hw]; exact HP36.2); have hp_ : Kd.R (Kd.int .i64) 3 w37 w.heap.size (fun _ => True) (.slice (some ⟨go29, 0, none⟩) x3_2.length co35) y495 := (by rw [hw, Ny495.out]; exact HP36.1); clear HP36; have n0_ := Aside0.mk (hp_); have n1_ := Aside0.mk (blk_grown (g := gb486) (o := .cells #[.slice A0_0 l0_0.length c0_0, .slice (some ad490) l0_1.length c0_1] 27 (0, 0)) q592_ hg (Kd.R_ne HO_3.out BK486.out (by decide))); have n2_ := Aside0.mk ((by rw [hw]; exact below_set (HB.out) GB29.out : Below w.heap.size w w37)); replace HO_3 := n0_; replace BK486 := n1_; replace HB := n2_; clear n0_ n1_ n2_; clear hg hw hp_; have p496 : 0 ≤ ((rd l0_1 x16_2) : Int) := of_decide_eq_true qe84_; have q496 : (rd l0_1 x16_2) < (y495.length : Int) := (by have h_ : ((rd l0_1 x16_2) : Int) < ((x3_2.length : Int) : Int) := of_decide_eq_true qe84_; first | (have e_ := (Kd.R_reads' HO_3.out).1; omega) | simpa only [Ny495.out, List.length_set] using h_); have ql496 : (((rd l0_1 x16_2) : Int) < ((x3_2.length : Int) : Int)) = True := eq_true (of_decide_eq_true qe84_); obtain ⟨ad496, e496, hx496_0⟩ := Kd.at_int (Kd.R_reads' HO_3.out).2.2 (rd l0_1 x16_2) p496 q496; obtain rfl : (⟨go29, 0, none⟩ : Addr) = ad496 := (by injection e496); (first | simp only [add_plain] at hx496_0 | simp only [add_at] at hx496_0 | simp only [Addr.add, Nat.zero_add] at hx496_0 | skip); replace p496 := eq_true p496; replace q496 := eq_true q496; have p497 : 0 ≤ (x16_2 : Int) := of_decide_eq_true qe84_; have q497 : x16_2 < (y495.length : Int) := (by have h_ : (x16_2 : Int) < ((x3_2.length : Int) : Int) := of_decide_eq_true qe84_; first | (have e_ := (Kd.R_reads' HO_3.out).1; omega) | simpa only [Ny495.out, List.length_set] using h_); have ql497 : ((x16_2 : Int) < ((x3_2.length : Int) : Int)) = True := eq_true (of_decide_eq_true qe84_); obtain ⟨ad497, e497, hx497_0⟩ := Kd.at_int (Kd.R_reads' HO_3.out).2.2 x16_2 p497 q497; obtain rfl : (⟨go29, 0, none⟩ : Addr) = ad497 := (by injection e497); (first | simp only [add_plain] at hx497_0 | simp only [add_at] at hx497_0 | simp only [Addr.add, Nat.zero_add] at hx497_0 | skip); replace p497 := eq_true p497; replace q497 := eq_true q497; have p498 : 0 ≤ (x16_2 : Int) := of_decide_eq_true qe84_; have q498 : x16_2 < (y495.length : Int) := (by have h_ : (x16_2 : Int) < ((x3_2.length : Int) : Int) := of_decide_eq_true qe84_; first | (have e_ := (Kd.R_reads' HO_3.out).1; omega) | simpa only [Ny495.out, List.length_set] using h_); have ql498 : ((x16_2 : Int) < ((x3_2.length : Int) : Int)) = True := eq_true (of_decide_eq_true qe84_); obtain ⟨ad498, e498, hx498_0⟩ := Kd.at_int (Kd.R_reads' HO_3.out).2.2 x16_2 p498 q498; obtain rfl : (⟨go29, 0, none⟩ : Addr) = ad498 := (by injection e498); (first | simp only [add_plain] at hx498_0 | simp only [add_at] at hx498_0 | simp only [Addr.add, Nat.zero_add] at hx498_0 | skip); replace p498 := eq_true p498; replace q498 := eq_true q498; have p34 : 0 ≤ ((rd l0_1 x16_2) : Int) := of_decide_eq_true qe84_; have q34 : ((rd l0_1 x16_2) : Int) < ((x3_2.length : Int) : Int) := of_decide_eq_true qe84_; obtain ⟨hx34_0, hf34_0⟩ := Kd.R_celln 0 HO_3.out ((rd l0_1 x16_2) : Int) p34 q34; replace p34 := eq_true p34; replace q34 := eq_true q34; obtain ⟨hy38_, hz38_⟩ := Kd.R_celln 0 HO_3.out ((rd l0_1 x16_2) : Int) (of_decide_eq_true qe84_) (of_decide_eq_true qe84_); have HP38 := Kd.R_putg HO_3.out ((rd l0_1 x16_2) : Int) (wrap64 ((wrap64 ((rd y495 x16_2) - 100)) + 1))) | ((with_reducible refine gate_store (t := 3) (p := 74) rfl ?_); (try (rw [drewN_self w37]; generalize hq_ : World.drewN w37 _ = w37; have n0_ := Aside0.mk (Kd.R_at hq_ HO_3.out); have n1_ := Aside0.mk (blk_at hq_ BK486.out); have n2_ := Aside0.mk (below_at hq_ HB.out); clear hq_ HO_3 BK486 HB; have HO_3 := n0_; have BK486 := n1_; have HB := n2_; clear n0_ n1_ n2_; (try (obtain ⟨hy38_, hz38_⟩ := Kd.R_celln 0 HO_3.out ((rd l0_1 x16_2) : Int) (of_decide_eq_true qe84_) (of_decide_eq_true qe84_))); (try (have HP38 := Kd.R_putg HO_3.out ((rd l0_1 x16_2) : Int) (wrap64 ((wrap64 ((rd y495 x16_2) - 100)) + 1)))))); refine store_event (t := 3) (p := 74) (v := ?vo_w39) (w1 := (w37.setCell ⟨go29, ((rd l0_1 x16_2) : Int).toNat, none⟩ (.int .i64 (wrap64 ((wrap64 ((rd y495 x16_2) - 100)) + 1))))) ?hg ?ho ?hn ?hr ?_; (case ho => rfl); (case hg => rfl); (case hn => rfl); (case hr => exact qfba_); intro w39 hw; have hg : w37.grownBy w39 (some go29) := (by rw [hw]; exact HP38.2); have hp_ : Kd.R (Kd.int .i64) 3 w39 w.heap.size (fun _ => True) (.slice (some ⟨go29, 0, none⟩) x3_2.length co35) y499 := (by rw [hw, Ny499.out]; exact HP38.1); clear HP38; have n0_ := Aside0.mk (hp_); have n1_ := Aside0.mk (blk_grown (g := gb486) (o := .cells #[.slice A0_0 l0_0.length c0_0, .slice (some ad490) l0_1.length c0_1] 27 (0, 0)) q592_ hg (Kd.R_ne HO_3.out BK486.out (by decide))); have n2_ := Aside0.mk ((by rw [hw]; exact below_set (HB.out) GB29.out : Below w.heap.size w w39)); replace HO_3 := n0_; replace BK486 := n1_; replace HB := n2_; clear n0_ n1_ n2_; clear hg hw hp_)); try (go_quiet (fail); have zz_ := trivial))
                      go_roundg kj18
                      case measure => have := HK1.out; have := HK2.out; have := HJ12.out; have := HJ18.out; omega
                      case rel => first | exact ⟨(y499), (true), (wrap64 (x16_2 + 1)), qc8f_, qc8f_, H', ⟨q3e9_ HK1.out HK2.out HJ12.out HJ18.out⟩, ⟨q9d5_ HO_3.out⟩, ⟨q592_⟩, ⟨q926_⟩⟩ | exact ⟨(y499), (true), (wrap64 (x16_2 + 1)), qc8f_, qc8f_, H', ⟨q3e9_ HK1.out HK2.out HJ12.out HJ18.out⟩, ⟨by rw [Ny499.out]; exact (Kd.R_putg (Kd.R_drewN HO_3.out _) _ _).1⟩, ⟨by exact blk_grown (blk_drewN BK486.out _) (Kd.R_putg (Kd.R_drewN HO_3.out _) _ _).2 (Kd.R_ne HO_3.out BK486.out (by decide))⟩, ⟨by exact Below.grown (pw_below_drewN HB.out _) (Kd.R_putg (Kd.R_drewN HO_3.out _) _ _).2 (Below.size (pw_below_drewN HB.out _)) (fun j hj => by cases hj; exact Kd.R_base HO_3.out _ rfl)⟩⟩
                     ·
                      rw [if_neg c33] at H
                      have c33b0 := decide_eq_false c33
                      clear c33
                      have H' := Aside0.mk H
                      clear H
                      obtain ⟨Ao40, co40, eo40⟩ := Kd.R_slice HO_3.out
                      subst eo40
                      have p494 : 0 ≤ (x16_2 : Int) := of_decide_eq_true qe84_
                      have q494 : x16_2 < (x3_2.length : Int) := of_decide_eq_true qe84_
                      obtain ⟨ad494, e494, hx494_0⟩ := Kd.at_int (Kd.R_reads' HO_3.out).2.2 x16_2 p494 q494
                      cases e494
                      replace p494 := eq_true p494
                      replace q494 := eq_true q494
                      have p29 : 0 ≤ (x16_2 : Int) := of_decide_eq_true qe84_
                      have q29 : (x16_2 : Int) < ((x3_2.length : Int) : Int) := of_decide_eq_true qe84_
                      obtain ⟨go29, co29, eo29, gb29, gl29, cl29, HG29⟩ := Kd.R_form HO_3.out (by omega)
                      (first | cases eo29 | (injection eo29 with ea_ en_ ec_; (first | subst ea_ | (injection ea_ with ea_; subst ea_)); subst ec_; clear en_))
                      have GB29 := Aside0.mk gb29
                      have GG29 := Aside0.mk HG29
                      clear gb29 gl29 HG29
                      (first | simp only [add_plain] at hx494_0 | skip)
                      obtain ⟨hx29_0, hf29_0⟩ := Kd.R_celln 0 HO_3.out (x16_2 : Int) p29 q29
                      replace p29 := eq_true p29
                      replace q29 := eq_true q29
                      have HP41 := Kd.R_putg HO_3.out (x16_2 : Int) x7_18
                      have zz_ := trivial
                      repeat (clear zz_; go_wp2_with (first | ((with_reducible refine gate_store (t := 3) (p := 49) rfl ?_); (try (rw [drewN_self wc]; generalize hq_ : World.drewN wc _ = wc; have n0_ := Aside0.mk (Kd.R_at hq_ HO_3.out); have n1_ := Aside0.mk (blk_at hq_ BK486.out); have n2_ := Aside0.mk (below_at hq_ HB.out); clear hq_ HO_3 BK486 HB; have HO_3 := n0_; have BK486 := n1_; have HB := n2_; clear n0_ n1_ n2_; (try (have HP41 := Kd.R_putg HO_3.out (x16_2 : Int) x7_18)))); refine store_event (t := 3) (p := 49) (v := ?vo_w42) (w1 := (wc.setCell ⟨go29, (x16_2 : Int).toNat, none⟩ (.int .i64 x7_18))) ?hg ?ho ?hn ?hr ?_; (case ho => rfl); (case hg => rfl); (case hn => rfl); (case hr => exact qfba_); intro w42 hw; have hg : wc.grownBy w42 (some go29) := (by rw [hw]; exact HP41.2); have hp_ : Kd.R (Kd.int .i64) 3 w42 w.heap.size (fun _ => True) (.slice (some ⟨go29, 0, none⟩) x3_2.length co40) y495 := (by rw [hw, Ny495.out]; exact HP41.1); clear HP41; have n0_ := Aside0.mk (hp_); have n1_ := Aside0.mk (blk_grown (g := gb486) (o := .cells #[.slice A0_0 l0_0.length c0_0, .slice (some ad490) l0_1.length c0_1] 27 (0, 0)) q592_ hg (Kd.R_ne HO_3.out BK486.out (by decide))); have n2_ := Aside0.mk ((by rw [hw]; exact below_set (HB.out) GB29.out : Below w.heap.size w w42)); replace HO_3 := n0_; replace BK486 := n1_; replace HB := n2_; clear n0_ n1_ n2_; clear hg hw hp_; have p496 : 0 ≤ ((rd l0_1 x16_2) : Int) := of_decide_eq_true qe84_; have q496 : (rd l0_1 x16_2) < (y495.length : Int) := (by have h_ : ((rd l0_1 x16_2) : Int) < ((x3_2.length : Int) : Int) := of_decide_eq_true qe84_; first | (have e_ := (Kd.R_reads' HO_3.out).1; omega) | simpa only [Ny495.out, List.length_set] using h_); have ql496 : (((rd l0_1 x16_2) : Int) < ((x3_2.length : Int) : Int)) = True := eq_true (of_decide_eq_true qe84_); obtain ⟨ad496, e496, hx496_0⟩ := Kd.at_int (Kd.R_reads' HO_3.out).2.2 (rd l0_1 x16_2) p496 q496; obtain rfl : (⟨go29, 0, none⟩ : Addr) = ad496 := (by injection e496); (first | simp only [add_plain] at hx496_0 | simp only [add_at] at hx496_0 | simp only [Addr.add, Nat.zero_add] at hx496_0 | skip); replace p496 := eq_true p496; replace q496 := eq_true q496; have p497 : 0 ≤ (x16_2 : Int) := of_decide_eq_true qe84_; have q497 : x16_2 < (y495.length : Int) := (by have h_ : (x16_2 : Int) < ((x3_2.length : Int) : Int) := of_decide_eq_true qe84_; first | (have e_ := (Kd.R_reads' HO_3.out).1; omega) | simpa only [Ny495.out, List.length_set] using h_); have ql497 : ((x16_2 : Int) < ((x3_2.length : Int) : Int)) = True := eq_true (of_decide_eq_true qe84_); obtain ⟨ad497, e497, hx497_0⟩ := Kd.at_int (Kd.R_reads' HO_3.out).2.2 x16_2 p497 q497; obtain rfl : (⟨go29, 0, none⟩ : Addr) = ad497 := (by injection e497); (first | simp only [add_plain] at hx497_0 | simp only [add_at] at hx497_0 | simp only [Addr.add, Nat.zero_add] at hx497_0 | skip); replace p497 := eq_true p497; replace q497 := eq_true q497)); try (go_quiet (fail); have zz_ := trivial))
                      go_roundg kj18
                      case measure => have := HK1.out; have := HK2.out; have := HJ12.out; have := HJ18.out; omega
                      case rel => first | exact ⟨(y495), (true), (wrap64 (x16_2 + 1)), qc8f_, qc8f_, H', ⟨q3e9_ HK1.out HK2.out HJ12.out HJ18.out⟩, ⟨q9d5_ HO_3.out⟩, ⟨q592_⟩, ⟨q926_⟩⟩ | exact ⟨(y495), (true), (wrap64 (x16_2 + 1)), qc8f_, qc8f_, H', ⟨q3e9_ HK1.out HK2.out HJ12.out HJ18.out⟩, ⟨by rw [Ny495.out]; exact (Kd.R_putg (Kd.R_drewN HO_3.out _) _ _).1⟩, ⟨by exact blk_grown (blk_drewN BK486.out _) (Kd.R_putg (Kd.R_drewN HO_3.out _) _ _).2 (Kd.R_ne HO_3.out BK486.out (by decide))⟩, ⟨by exact Below.grown (pw_below_drewN HB.out _) (Kd.R_putg (Kd.R_drewN HO_3.out _) _ _).2 (Below.size (pw_below_drewN HB.out _)) (fun j hj => by cases hj; exact Kd.R_base HO_3.out _ rfl)⟩⟩
                    ·
                     rw [if_neg c32] at H
                     exact absurd H (by simp)
                   ·
                    rw [if_neg c31] at H
                    exact absurd H (by simp)
                  ·
                   rw [if_neg c30] at H
                   have c30b0 := decide_eq_false c30
                   clear c30
                   have H' := Aside0.mk H
                   clear H
                   obtain ⟨Ao43, co43, eo43⟩ := Kd.R_slice HO_3.out
                   subst eo43
                   have p494 : 0 ≤ (x16_2 : Int) := of_decide_eq_true qe84_
                   have q494 : x16_2 < (x3_2.length : Int) := of_decide_eq_true qe84_
                   obtain ⟨ad494, e494, hx494_0⟩ := Kd.at_int (Kd.R_reads' HO_3.out).2.2 x16_2 p494 q494
                   cases e494
                   replace p494 := eq_true p494
                   replace q494 := eq_true q494
                   have p29 : 0 ≤ (x16_2 : Int) := of_decide_eq_true qe84_
                   have q29 : (x16_2 : Int) < ((x3_2.length : Int) : Int) := of_decide_eq_true qe84_
                   obtain ⟨go29, co29, eo29, gb29, gl29, cl29, HG29⟩ := Kd.R_form HO_3.out (by omega)
                   (first | cases eo29 | (injection eo29 with ea_ en_ ec_; (first | subst ea_ | (injection ea_ with ea_; subst ea_)); subst ec_; clear en_))
                   have GB29 := Aside0.mk gb29
                   have GG29 := Aside0.mk HG29
                   clear gb29 gl29 HG29
                   (first | simp only [add_plain] at hx494_0 | skip)
                   obtain ⟨hx29_0, hf29_0⟩ := Kd.R_celln 0 HO_3.out (x16_2 : Int) p29 q29
                   replace p29 := eq_true p29
                   replace q29 := eq_true q29
                   have HP44 := Kd.R_putg HO_3.out (x16_2 : Int) x7_18
                   have zz_ := trivial
                   repeat (clear zz_; go_wp2_with (first | ((with_reducible refine gate_store (t := 3) (p := 49) rfl ?_); (try (rw [drewN_self wc]; generalize hq_ : World.drewN wc _ = wc; have n0_ := Aside0.mk (Kd.R_at hq_ HO_3.out); have n1_ := Aside0.mk (blk_at hq_ BK486.out); have n2_ := Aside0.mk (below_at hq_ HB.out); clear hq_ HO_3 BK486 HB; have HO_3 := n0_; have BK486 := n1_; have HB := n2_; clear n0_ n1_ n2_; (try (have HP44 := Kd.R_putg HO_3.out (x16_2 : Int) x7_18)))); refine store_event (t := 3) (p := 49) (v := ?vo_w45) (w1 := (wc.setCell ⟨go29, (x16_2 : Int).toNat, none⟩ (.int .i64 x7_18))) ?hg ?ho ?hn ?hr ?_; (case ho => rfl); (case hg => rfl); (case hn => rfl); (case hr => exact qfba_); intro w45 hw; have hg : wc.grownBy w45 (some go29) := (by rw [hw]; exact HP44.2); have hp_ : Kd.R (Kd.int .i64) 3 w45 w.heap.size (fun _ => True) (.slice (some ⟨go29, 0, none⟩) x3_2.length co43) y495 := (by rw [hw, Ny495.out]; exact HP44.1); clear HP44; have n0_ := Aside0.mk (hp_); have n1_ := Aside0.mk (blk_grown (g := gb486) (o := .cells #[.slice A0_0 l0_0.length c0_0, .slice (some ad490) l0_1.length c0_1] 27 (0, 0)) q592_ hg (Kd.R_ne HO_3.out BK486.out (by decide))); have n2_ := Aside0.mk ((by rw [hw]; exact below_set (HB.out) GB29.out : Below w.heap.size w w45)); replace HO_3 := n0_; replace BK486 := n1_; replace HB := n2_; clear n0_ n1_ n2_; clear hg hw hp_)); try (go_quiet (fail); have zz_ := trivial))
                   go_roundg kj18
                   case measure => have := HK1.out; have := HK2.out; have := HJ12.out; have := HJ18.out; omega
                   case rel => first | exact ⟨(y495), (true), (wrap64 (x16_2 + 1)), qc8f_, qc8f_, H', ⟨q3e9_ HK1.out HK2.out HJ12.out HJ18.out⟩, ⟨q9d5_ HO_3.out⟩, ⟨q592_⟩, ⟨q926_⟩⟩ | exact ⟨(y495), (true), (wrap64 (x16_2 + 1)), qc8f_, qc8f_, H', ⟨q3e9_ HK1.out HK2.out HJ12.out HJ18.out⟩, ⟨by rw [Ny495.out]; exact (Kd.R_putg (Kd.R_drewN HO_3.out _) _ _).1⟩, ⟨by exact blk_grown (blk_drewN BK486.out _) (Kd.R_putg (Kd.R_drewN HO_3.out _) _ _).2 (Kd.R_ne HO_3.out BK486.out (by decide))⟩, ⟨by exact Below.grown (pw_below_drewN HB.out _) (Kd.R_putg (Kd.R_drewN HO_3.out _) _ _).2 (Below.size (pw_below_drewN HB.out _)) (fun j hj => by cases hj; exact Kd.R_base HO_3.out _ rfl)⟩⟩
                 ·
                  rw [if_neg c28] at H
                  have c28b0 := decide_eq_false c28
                  clear c28
                  by_cases c46 : (rd l0_1 x16_2) < x16_2
                  ·
                   rw [if_pos c46] at H
                   have c46b0 := decide_eq_true c46
                   clear c46
                   by_cases c47 : 0 ≤ (rd l0_1 x16_2)
                   ·
                    rw [if_pos c47] at H
                    have c47b0 := decide_eq_true c47
                    clear c47
                    by_cases c48 : (rd l0_1 x16_2) < (x3_2.length : Int)
                    ·
                     rw [if_pos c48] at H
                     have c48b0 := decide_eq_true c48
                     clear c48
                     by_cases c49 : (rd x3_2 (rd l0_1 x16_2)) < (wrap64 ((wrap64 ((rd x3_2 x16_2) - 100)) + 1))
                     ·
                      rw [if_pos c49] at H
                      have c49b0 := decide_eq_true c49
                      clear c49
                      obtain ⟨y503, hy503⟩ : ∃ y_ : List Int, y_ = (x3_2.set ((rd l0_1 x16_2) : Int).toNat (wrap64 ((wrap64 ((rd x3_2 x16_2) - 100)) + 1))) := ⟨_, rfl⟩
                      replace H : (spec_reDepths.l1 kj18 y503 true l0_1 (l0_1.length : Int) (wrap64 (x16_2 + 1)) l0_0 l0_1) = some r := by first | (rw [hy503]; with_reducible exact H) | (have H2_ := (Option.bind_some _ _).symm.trans H; rw [hy503]; with_reducible exact H2_) | (have H2_ := (Option.bind_some _ _).symm.trans H; with_reducible exact H2_) | with_reducible exact H | (rw [hy503]; exact H) | exact H
                      have Ny503 := Aside0.mk hy503
                      clear hy503
                      have H' := Aside0.mk H
                      clear H
                      obtain ⟨Ao51, co51, eo51⟩ := Kd.R_slice HO_3.out
                      subst eo51
                      have p494 : 0 ≤ (x16_2 : Int) := of_decide_eq_true qe84_
                      have q494 : x16_2 < (x3_2.length : Int) := of_decide_eq_true qe84_
                      obtain ⟨ad494, e494, hx494_0⟩ := Kd.at_int (Kd.R_reads' HO_3.out).2.2 x16_2 p494 q494
                      cases e494
                      replace p494 := eq_true p494
                      replace q494 := eq_true q494
                      have p500 : 0 ≤ ((rd l0_1 x16_2) : Int) := of_decide_eq_true qe84_
                      have q500 : (rd l0_1 x16_2) < (x3_2.length : Int) := of_decide_eq_true qe84_
                      obtain ⟨ad500, e500, hx500_0⟩ := Kd.at_int (Kd.R_reads' HO_3.out).2.2 (rd l0_1 x16_2) p500 q500
                      obtain rfl : ad494 = ad500 := (by injection e500)
                      replace p500 := eq_true p500
                      replace q500 := eq_true q500
                      have p501 : 0 ≤ (x16_2 : Int) := of_decide_eq_true qe84_
                      have q501 : x16_2 < (x3_2.length : Int) := of_decide_eq_true qe84_
                      obtain ⟨ad501, e501, hx501_0⟩ := Kd.at_int (Kd.R_reads' HO_3.out).2.2 x16_2 p501 q501
                      obtain rfl : ad494 = ad501 := (by injection e501)
                      replace p501 := eq_true p501
                      replace q501 := eq_true q501
                      have p502 : 0 ≤ (x16_2 : Int) := of_decide_eq_true qe84_
                      have q502 : x16_2 < (x3_2.length : Int) := of_decide_eq_true qe84_
                      obtain ⟨ad502, e502, hx502_0⟩ := Kd.at_int (Kd.R_reads' HO_3.out).2.2 x16_2 p502 q502
                      obtain rfl : ad494 = ad502 := (by injection e502)
                      replace p502 := eq_true p502
                      replace q502 := eq_true q502
                      have p50 : 0 ≤ ((rd l0_1 x16_2) : Int) := of_decide_eq_true qe84_
                      have q50 : ((rd l0_1 x16_2) : Int) < ((x3_2.length : Int) : Int) := of_decide_eq_true qe84_
                      obtain ⟨go50, co50, eo50, gb50, gl50, cl50, HG50⟩ := Kd.R_form HO_3.out (by omega)
                      (first | cases eo50 | (injection eo50 with ea_ en_ ec_; (first | subst ea_ | (injection ea_ with ea_; subst ea_)); subst ec_; clear en_))
                      have GB50 := Aside0.mk gb50
                      have GG50 := Aside0.mk HG50
                      clear gb50 gl50 HG50
                      (first | simp only [add_plain] at hx494_0 | skip)
                      (first | simp only [add_plain] at hx500_0 | skip)
                      (first | simp only [add_plain] at hx501_0 | skip)
                      (first | simp only [add_plain] at hx502_0 | skip)
                      obtain ⟨hx50_0, hf50_0⟩ := Kd.R_celln 0 HO_3.out ((rd l0_1 x16_2) : Int) p50 q50
                      replace p50 := eq_true p50
                      replace q50 := eq_true q50
                      have HP52 := Kd.R_putg HO_3.out ((rd l0_1 x16_2) : Int) (wrap64 ((wrap64 ((rd x3_2 x16_2) - 100)) + 1))
                      have zz_ := trivial
                      repeat (clear zz_; go_wp2_with (first | ((with_reducible refine gate_store (t := 3) (p := 74) rfl ?_); (try (rw [drewN_self wc]; generalize hq_ : World.drewN wc _ = wc; have n0_ := Aside0.mk (Kd.R_at hq_ HO_3.out); have n1_ := Aside0.mk (blk_at hq_ BK486.out); have n2_ := Aside0.mk (below_at hq_ HB.out); clear hq_ HO_3 BK486 HB; have HO_3 := n0_; have BK486 := n1_; have HB := n2_; clear n0_ n1_ n2_; (try (have HP52 := Kd.R_putg HO_3.out ((rd l0_1 x16_2) : Int) (wrap64 ((wrap64 ((rd x3_2 x16_2) - 100)) + 1)))))); refine store_event (t := 3) (p := 74) (v := ?vo_w53) (w1 := (wc.setCell ⟨go50, ((rd l0_1 x16_2) : Int).toNat, none⟩ (.int .i64 (wrap64 ((wrap64 ((rd x3_2 x16_2) - 100)) + 1))))) ?hg ?ho ?hn ?hr ?_; (case ho => rfl); (case hg => rfl); (case hn => rfl); (case hr => exact qfba_); intro w53 hw; have hg : wc.grownBy w53 (some go50) := (by rw [hw]; exact HP52.2); have hp_ : Kd.R (Kd.int .i64) 3 w53 w.heap.size (fun _ => True) (.slice (some ⟨go50, 0, none⟩) x3_2.length co51) y503 := (by rw [hw, Ny503.out]; exact HP52.1); clear HP52; have n0_ := Aside0.mk (hp_); have n1_ := Aside0.mk (blk_grown (g := gb486) (o := .cells #[.slice A0_0 l0_0.length c0_0, .slice (some ad490) l0_1.length c0_1] 27 (0, 0)) q592_ hg (Kd.R_ne HO_3.out BK486.out (by decide))); have n2_ := Aside0.mk ((by rw [hw]; exact below_set (HB.out) GB50.out : Below w.heap.size w w53)); replace HO_3 := n0_; replace BK486 := n1_; replace HB := n2_; clear n0_ n1_ n2_; clear hg hw hp_)); try (go_quiet (fail); have zz_ := trivial))
                      go_roundg kj18
                      case measure => have := HK1.out; have := HK2.out; have := HJ12.out; have := HJ18.out; omega
                      case rel => first | exact ⟨(y503), (true), (wrap64 (x16_2 + 1)), qc8f_, qc8f_, H', ⟨q3e9_ HK1.out HK2.out HJ12.out HJ18.out⟩, ⟨q9d5_ HO_3.out⟩, ⟨q592_⟩, ⟨q926_⟩⟩ | exact ⟨(y503), (true), (wrap64 (x16_2 + 1)), qc8f_, qc8f_, H', ⟨q3e9_ HK1.out HK2.out HJ12.out HJ18.out⟩, ⟨by rw [Ny503.out]; exact (Kd.R_putg (Kd.R_drewN HO_3.out _) _ _).1⟩, ⟨by exact blk_grown (blk_drewN BK486.out _) (Kd.R_putg (Kd.R_drewN HO_3.out _) _ _).2 (Kd.R_ne HO_3.out BK486.out (by decide))⟩, ⟨by exact Below.grown (pw_below_drewN HB.out _) (Kd.R_putg (Kd.R_drewN HO_3.out _) _ _).2 (Below.size (pw_below_drewN HB.out _)) (fun j hj => by cases hj; exact Kd.R_base HO_3.out _ rfl)⟩⟩
                     ·
                      rw [if_neg c49] at H
                      have c49b0 := decide_eq_false c49
                      clear c49
                      have H' := Aside0.mk H
                      clear H
                      obtain ⟨Ao54, co54, eo54⟩ := Kd.R_slice HO_3.out
                      subst eo54
                      have p494 : 0 ≤ (x16_2 : Int) := of_decide_eq_true qe84_
                      have q494 : x16_2 < (x3_2.length : Int) := of_decide_eq_true qe84_
                      obtain ⟨ad494, e494, hx494_0⟩ := Kd.at_int (Kd.R_reads' HO_3.out).2.2 x16_2 p494 q494
                      cases e494
                      replace p494 := eq_true p494
                      replace q494 := eq_true q494
                      have p500 : 0 ≤ ((rd l0_1 x16_2) : Int) := of_decide_eq_true qe84_
                      have q500 : (rd l0_1 x16_2) < (x3_2.length : Int) := of_decide_eq_true qe84_
                      obtain ⟨ad500, e500, hx500_0⟩ := Kd.at_int (Kd.R_reads' HO_3.out).2.2 (rd l0_1 x16_2) p500 q500
                      obtain rfl : ad494 = ad500 := (by injection e500)
                      replace p500 := eq_true p500
                      replace q500 := eq_true q500
                      have p501 : 0 ≤ (x16_2 : Int) := of_decide_eq_true qe84_
                      have q501 : x16_2 < (x3_2.length : Int) := of_decide_eq_true qe84_
                      obtain ⟨ad501, e501, hx501_0⟩ := Kd.at_int (Kd.R_reads' HO_3.out).2.2 x16_2 p501 q501
                      obtain rfl : ad494 = ad501 := (by injection e501)
                      replace p501 := eq_true p501
                      replace q501 := eq_true q501
                      go_wp2
                      repeat (go_quiet (fail); try go_wp2)
                      go_roundg kj18
                      case measure => have := HK1.out; have := HK2.out; have := HJ12.out; have := HJ18.out; omega
                      case rel => exact ⟨(x3_2), (x4_2), (wrap64 (x16_2 + 1)), qc8f_, qc8f_, H', ⟨q3e9_ HK1.out HK2.out HJ12.out HJ18.out⟩, ⟨q9d5_ HO_3.out⟩, ⟨q592_⟩, ⟨q926_⟩⟩
                    ·
                     rw [if_neg c48] at H
                     exact absurd H (by simp)
                   ·
                    rw [if_neg c47] at H
                    exact absurd H (by simp)
                  ·
                   rw [if_neg c46] at H
                   have c46b0 := decide_eq_false c46
                   clear c46
                   have H' := Aside0.mk H
                   clear H
                   obtain ⟨Ao55, co55, eo55⟩ := Kd.R_slice HO_3.out
                   subst eo55
                   have p494 : 0 ≤ (x16_2 : Int) := of_decide_eq_true qe84_
                   have q494 : x16_2 < (x3_2.length : Int) := of_decide_eq_true qe84_
                   obtain ⟨ad494, e494, hx494_0⟩ := Kd.at_int (Kd.R_reads' HO_3.out).2.2 x16_2 p494 q494
                   cases e494
                   replace p494 := eq_true p494
                   replace q494 := eq_true q494
                   go_wp2
                   repeat (go_quiet (fail); try go_wp2)
                   go_roundg kj18
                   case measure => have := HK1.out; have := HK2.out; have := HJ12.out; have := HJ18.out; omega
                   case rel => exact ⟨(x3_2), (x4_2), (wrap64 (x16_2 + 1)), qc8f_, qc8f_, H', ⟨q3e9_ HK1.out HK2.out HJ12.out HJ18.out⟩, ⟨q9d5_ HO_3.out⟩, ⟨q592_⟩, ⟨q926_⟩⟩
                ·
                 rw [if_neg c27] at H
                 exact absurd H (by simp)
               ·
                rw [if_neg c26] at H
                exact absurd H (by simp)
          ·
           rw [if_neg c12] at H
           exact absurd H (by simp)
         ·
          rw [if_neg c11] at H
          exact absurd H (by simp)
        ·
         rw [if_neg c10] at H
         have c10b0 := decide_eq_false c10
         clear c10
         have H' := Aside0.mk H
         clear H
         go_wp2
         repeat (go_quiet (fail); try go_wp2)
         go_roundg k2
         case measure => have := HK1.out; have := HK2.out; omega
         case rel => exact ⟨(x3_2), (x4_2), qc8f_, H', ⟨q37b_ HK1.out HK2.out⟩, ⟨q9d5_ HO_3.out⟩, ⟨q592_⟩, ⟨q926_⟩⟩
     ·
      replace c8 := Bool.eq_false_iff.mpr c8
      subst c8
      rw [if_neg nf_] at H
      obtain rfl := Option.some.inj H
      go_wp2
      repeat (go_quiet (fail); try go_wp2)
      go_ret
      exact ⟨_, qce7_, q9d5_ HO_3.out, q926_⟩
  ·
   rw [if_neg c3] at H
   exact absurd H (by simp)
 ·
  rw [if_neg c2] at H
  exact absurd H (by simp)

/-! ### spec_rePointOf: function 29 -/
def spec_rePointOf.l0 : Nat → List Int → List Int → Int → Int → List Int → List Int → Option (List Int)
 | 0, _, _, _, _, _, _ => none
 | k + 1, x3, x11, x12, x13, x505000, x505001 => if x13 < x12 then (if 0 ≤ x13 then (if x13 < (x11.length : Int) then (if x13 < (x505000.length : Int) then (if 0 ≤ (rd x505000 x13) then (if (rd x505000 x13) < (x3.length : Int) then (spec_rePointOf.l0 k (x3.set ((rd x505000 x13) : Int).toNat (wrap64 (-(rd x11 x13)))) x11 x12 (wrap64 (x13 + 1)) x505000 x505001) else (none)) else (none)) else (none)) else (none)) else (none)) else (some x3)
def spec_rePointOf.f (k : Nat) (l0_0 : List Int) (l0_1 : List Int) : Option (List Int) := if 0 ≤ (l0_0.length : Int) then (if ((l0_0.length : Int) : Int).toNat ≤ 35184372088832 then ((spec_reDepths.f k l0_0 l0_1).bind fun t508 => (spec_rePointOf.l0 k (List.replicate ((l0_0.length : Int) : Int).toNat 0) t508 (t508.length : Int) 0 l0_0 l0_1)) else (none)) else (none)
theorem spec_rePointOf.mono_l : ∀ k, (∀ y0 y1 y2 y3 y4 y5, LeO (spec_rePointOf.l0 k y0 y1 y2 y3 y4 y5) (spec_rePointOf.l0 (k + 1) y0 y1 y2 y3 y4 y5))
 | 0 => fun _ _ _ _ _ _ r h => by simp [spec_rePointOf.l0] at h
 | k + 1 => by
  have ih0 := spec_rePointOf.mono_l k
  ·
   intro y0 y1 y2 y3 y4 y5
   unfold spec_rePointOf.l0
   repeat' (with_reducible first | exact ih0 _ _ _ _ _ _ | exact spec_reDepths.mono _ _ _ | exact LeO.refl _ | exact LeO.none _ | refine LeO.ite ?_ ?_ | refine LeO.bind ?_ (fun _ => ?_))
theorem spec_rePointOf.mono : ∀ a0 a1 k, LeO (spec_rePointOf.f k a0 a1) (spec_rePointOf.f (k + 1) a0 a1) := by
 intro a0 a1 k
 have ih0 := spec_rePointOf.mono_l k
 unfold spec_rePointOf.f
 repeat' (with_reducible first | exact ih0 _ _ _ _ _ _ | exact spec_reDepths.mono _ _ _ | exact LeO.refl _ | exact LeO.none _ | refine LeO.ite ?_ ?_ | refine LeO.bind ?_ (fun _ => ?_))
theorem spec_rePointOf.calls (k : Nat) (A0_0 : Option Addr) (c0_0 : Nat) (l0_0 : List Int) (A0_1 : Option Addr) (c0_1 : Nat) (l0_1 : List Int) (r : List Int) (w : World) (hr0_0 : Kd.C (Kd.int .i64) w A0_0 l0_0.length l0_0) (hc0_0 : l0_0.length ≤ c0_0) (hr0_1 : Kd.C (Kd.int .i64) w A0_1 l0_1.length l0_1) (hc0_1 : l0_1.length ≤ c0_1) (h : spec_rePointOf.f k l0_0 l0_1 = some r) :
  Calls Tryz.prog 29 #[.agg #[.slice A0_0 l0_0.length c0_0, .slice A0_1 l0_1.length c0_1]] w fun e w' => ∃ v0_ : Value, e = .returned (v0_) ∧ Kd.R (Kd.int .i64) 3 w' w.heap.size (fun _ => True) v0_ r ∧ Below w.heap.size w w' := by
 have hu27 := Tryz.underlying27
 have HR0_0 := Aside0.mk hr0_0
 have HC0_0 := Aside0.mk hc0_0
 clear hr0_0 hc0_0
 have HR0_1 := Aside0.mk hr0_1
 have HC0_1 := Aside0.mk hc0_1
 clear hr0_1 hc0_1
 have HB := Aside0.mk (Below.refl w.heap.size w)
 unfold spec_rePointOf.f at h
 have H := h; clear h
 by_cases c2 : 0 ≤ (l0_0.length : Int)
 ·
  rw [if_pos c2] at H
  have c2b0 := eq_true c2
  have c2b1 := decide_eq_true c2
  clear c2
  by_cases c3 : ((l0_0.length : Int) : Int).toNat ≤ 35184372088832
  ·
   rw [if_pos c3] at H
   have c3b0 := eq_true c3
   have c3b1 := decide_eq_true c3
   clear c3
   obtain ⟨y505, hy505⟩ : ∃ y_ : List Int, y_ = (List.replicate ((l0_0.length : Int) : Int).toNat 0) := ⟨_, rfl⟩
   replace H : ((spec_reDepths.f k l0_0 l0_1).bind fun t508 => (spec_rePointOf.l0 k y505 t508 (t508.length : Int) 0 l0_0 l0_1)) = some r := by first | (rw [hy505]; with_reducible exact H) | (have H2_ := (Option.bind_some _ _).symm.trans H; rw [hy505]; with_reducible exact H2_) | (have H2_ := (Option.bind_some _ _).symm.trans H; with_reducible exact H2_) | with_reducible exact H | (rw [hy505]; exact H) | exact H
   have Ny505 := Aside0.mk hy505
   clear hy505
   obtain ⟨t508, A4, H⟩ := ob_ H
   have H' := Aside0.mk H
   clear H
   go_enter Tryz.func29, Tryz.ntmps29
   go_wp2_with (first | ((with_reducible refine gate_dst (N := 1) rfl ?_); refine box_event ?hg (N := 1) ?hd (cs := #[.slice A0_0 l0_0.length c0_0, .slice A0_1 l0_1.length c0_1]) (t := 27) ?hr ?_; (case hd => rfl); (case hg => rfl); (case hr => exact qfba_); intro gb504 hg w5 hbox hb; have n0_ := Aside0.mk (below_step q0c4_ hb); have n1_ := Aside0.mk (hbox); have n2_ := Aside0.mk ((by rw [hg]; exact (below_size q0c4_) : w.heap.size ≤ gb504)); have n3_ := Aside0.mk ((by rw [hg]; exact (below_size q0c4_) : w.heap.size ≤ gb504)); replace HB := n0_; have BK504 := n1_; have GW504 := n2_; have GE504 := n3_; clear n0_ n1_ n2_ n3_; clear hb hbox hg; have hcz6_0 : w5.cell? ⟨gb504, 0, none⟩ = some (.slice A0_0 l0_0.length c0_0) := (blk_cell BK504.out 0).trans rfl; have hcz6_1 : w5.cell? ⟨gb504, 1, none⟩ = some (.slice A0_1 l0_1.length c0_1) := (blk_cell BK504.out 1).trans rfl; have hfz6_0 := blk_frozen BK504.out 0; have hfz6_1 := blk_frozen BK504.out 1) | ((with_reducible refine gate_dst (N := 9) rfl ?_); refine Kd.R_make (Kd.int .i64) _ 3 rfl (N := 9) rfl 24 _ _ rfl (l0_0.length : Int) rfl rfl Tryz.underlying24 (.int .i64 0) 8 info3 rfl (by decide) (by omega) 0 (ok := fun _ => True) (okp := fun _ => True) rfl (fun _ hk => hk) trivial (of_decide_eq_true qe84_) (Nat.le_trans (Nat.mul_le_mul_right _ (of_decide_eq_true qe84_ : (l0_0.length : Int).toNat ≤ 35184372088832)) (by omega)) (Below.refl _ _) (Nat.le_refl _) ?_; intro v506 w7 ho8 hb hg_ hnew_; clear hg_ hnew_; (first | rw [← Ny505.out] at ho8 | (simp only [Int.reduceToNat] at ho8; rw [← Ny505.out] at ho8)); have HO507 := Aside0.mk (Kd.R_lower ho8 (below_size qa32_)); replace BK504 := Aside0.mk (blk_below (g := gb504) (o := .cells #[.slice A0_0 l0_0.length c0_0, .slice A0_1 l0_1.length c0_1] 27 (0, 0)) qebf_ hb); replace HB := Aside0.mk (below_step qa32_ hb); clear hb ho8; have hcz9_0 : w7.cell? ⟨gb504, 0, none⟩ = some (.slice A0_0 l0_0.length c0_0) := (blk_cell BK504.out 0).trans rfl; have hcz9_1 : w7.cell? ⟨gb504, 1, none⟩ = some (.slice A0_1 l0_1.length c0_1) := (blk_cell BK504.out 1).trans rfl; have hfz9_0 := blk_frozen BK504.out 0; have hfz9_1 := blk_frozen BK504.out 1) | ((with_reducible refine gate_callee (f := 51) rfl ?_); refine gl_ 11 Tryz.func51 #[.agg #[.slice A0_0 l0_0.length c0_0, .slice A0_1 l0_1.length c0_1]] ?_; (with_reducible refine (spec_reDepths.calls k _ _ l0_0 _ _ l0_1 t508 _ ?s1 ?s2 ?s3 ?s4 A4.out).mono ?_); (case s1 => exact qe02_ HR0_0.out); (case s2 => exact HC0_0.out); (case s3 => exact qe02_ HR0_1.out); (case s4 => exact HC0_1.out); rintro e w10 ⟨v509, rfl, ho0, hb⟩; refine ⟨_, rfl, ?_⟩; have n0_ := Aside0.mk (Kd.R_elder' (q9d5_ HO507.out) (Kd.R_base ho0) hb); have n1_ := Aside0.mk (Kd.R_lower (Kd.R_new' ho0 (Kd.R_lt (q9d5_ HO507.out))) (below_size qa32_)); have n2_ := Aside0.mk (blk_below (g := gb504) (o := .cells #[.slice A0_0 l0_0.length c0_0, .slice A0_1 l0_1.length c0_1] 27 (0, 0)) qebf_ hb); have n3_ := Aside0.mk (below_step qa32_ hb); replace HO507 := n0_; have HO510 := n1_; replace BK504 := n2_; replace HB := n3_; clear n0_ n1_ n2_ n3_; clear hb ho0; obtain ⟨Ao11, co11, eo11⟩ := Kd.R_slice HO510.out; subst eo11))
   go_loopg [13] k (fun kq v13 w' => ∃ (x3_1 : List Int) (x13_1 : Int), v13 = .int .i64 x13_1 ∧ Aside0 (spec_rePointOf.l0 kq x3_1 t508 (t508.length : Int) x13_1 l0_0 l0_1 = some r) ∧ Aside0 (kq ≤ k) ∧ Aside0 (Kd.R (Kd.int .i64) 3 w' w.heap.size (fun k_ => some k_ ≠ ((.slice Ao11 t508.length co11) : Value).ownBlock) v506 x3_1) ∧ Aside0 (Kd.R (Kd.int .i64) 3 w' w.heap.size (fun k_ => some k_ ≠ (v506 : Value).ownBlock) (.slice Ao11 t508.length co11) t508) ∧ Aside0 (w'.heap[gb504]? = some (.cells #[(.slice A0_0 l0_0.length c0_0), (.slice A0_1 l0_1.length c0_1)] 27 (0, 0))) ∧ Aside0 (Below w.heap.size w w'))
   case atStart => exact ⟨(y505), (0), qc8f_, H', ⟨Nat.le_refl _⟩, ⟨qe0f_ HO507.out⟩, ⟨qe0f_ HO510.out⟩, ⟨qebf_⟩, ⟨qa32_⟩⟩
   case round =>
    clear H'; try clear c2; try clear c2b0; try clear c2b1; try clear p2; try clear c3; try clear c3b0; try clear c3b1; try clear c5; try clear hcz6_0; try clear hcz6_1; try clear hcz9_0; try clear hcz9_1; try clear hfz6_0; try clear hfz6_1; try clear hfz9_0; try clear hfz9_1
    obtain ⟨x3_1, x13_1, rfl, HA, HK1, HO_3, HO_11, BK504, HB⟩ := hrel
    cases gk with
    | zero => exact absurd HA.out (by simp [spec_rePointOf.l0])
    | succ k1 =>
     have H := HA.out
     clear HA
     simp only [spec_rePointOf.l0] at H
     by_cases c12 : x13_1 < (t508.length : Int)
     ·
      rw [if_pos c12] at H
      have c12b0 := decide_eq_true c12
      clear c12
      by_cases c13 : 0 ≤ x13_1
      ·
       rw [if_pos c13] at H
       have c13b0 := decide_eq_true c13
       clear c13
       by_cases c14 : x13_1 < (t508.length : Int)
       ·
        rw [if_pos c14] at H
        have c14b0 := decide_eq_true c14
        clear c14
        by_cases c15 : x13_1 < (l0_0.length : Int)
        ·
         rw [if_pos c15] at H
         have c15b0 := decide_eq_true c15
         clear c15
         by_cases c16 : 0 ≤ (rd l0_0 x13_1)
         ·
          rw [if_pos c16] at H
          have c16b0 := decide_eq_true c16
          clear c16
          by_cases c17 : (rd l0_0 x13_1) < (x3_1.length : Int)
          ·
           rw [if_pos c17] at H
           have c17b0 := decide_eq_true c17
           clear c17
           obtain ⟨y513, hy513⟩ : ∃ y_ : List Int, y_ = (x3_1.set ((rd l0_0 x13_1) : Int).toNat (wrap64 (-(rd t508 x13_1)))) := ⟨_, rfl⟩
           replace H : (spec_rePointOf.l0 k1 y513 t508 (t508.length : Int) (wrap64 (x13_1 + 1)) l0_0 l0_1) = some r := by first | (rw [hy513]; with_reducible exact H) | (have H2_ := (Option.bind_some _ _).symm.trans H; rw [hy513]; with_reducible exact H2_) | (have H2_ := (Option.bind_some _ _).symm.trans H; with_reducible exact H2_) | with_reducible exact H | (rw [hy513]; exact H) | exact H
           have Ny513 := Aside0.mk hy513
           clear hy513
           have H' := Aside0.mk H
           clear H
           have p511 : 0 ≤ (x13_1 : Int) := of_decide_eq_true qe84_
           have q511 : x13_1 < (t508.length : Int) := of_decide_eq_true qe84_
           obtain ⟨ad511, e511, hx511_0⟩ := Kd.at_int (Kd.R_reads' HO_11.out).2.2 x13_1 p511 q511
           cases e511
           replace p511 := eq_true p511
           replace q511 := eq_true q511
           have hcz19_0 : wr.cell? ⟨gb504, 0, none⟩ = some (.slice A0_0 l0_0.length c0_0) := (blk_cell BK504.out 0).trans rfl
           have hcz19_1 : wr.cell? ⟨gb504, 1, none⟩ = some (.slice A0_1 l0_1.length c0_1) := (blk_cell BK504.out 1).trans rfl
           have hfz19_0 := blk_frozen BK504.out 0
           have hfz19_1 := blk_frozen BK504.out 1
           have p512 : 0 ≤ (x13_1 : Int) := of_decide_eq_true qe84_
           have q512 : x13_1 < (l0_0.length : Int) := of_decide_eq_true qe84_
           obtain ⟨ad512, e512, hx512_0⟩ := Kd.at_int HR0_0.out x13_1 p512 q512
           cases e512
           (try (replace hx512_0 := (HB.out.cell (World.block_lt_of_cell? w _ hx512_0)).trans hx512_0))
           replace p512 := eq_true p512
           replace q512 := eq_true q512
           have p18 : 0 ≤ ((rd l0_0 x13_1) : Int) := of_decide_eq_true qe84_
           have q18 : ((rd l0_0 x13_1) : Int) < ((x3_1.length : Int) : Int) := of_decide_eq_true qe84_
           obtain ⟨go18, co18, eo18, gb18, gl18, cl18, HG18⟩ := Kd.R_form HO_3.out (by omega)
           (first | cases eo18 | (injection eo18 with ea_ en_ ec_; (first | subst ea_ | (injection ea_ with ea_; subst ea_)); subst ec_; clear en_))
           have GB18 := Aside0.mk gb18
           have GG18 := Aside0.mk HG18
           clear gb18 gl18 HG18
           obtain ⟨hx18_0, hf18_0⟩ := Kd.R_celln 0 HO_3.out ((rd l0_0 x13_1) : Int) p18 q18
           replace p18 := eq_true p18
           replace q18 := eq_true q18
           have HP20 := Kd.R_putg HO_3.out ((rd l0_0 x13_1) : Int) (wrap64 (-(rd t508 x13_1)))
           go_wp2_with (first | ((with_reducible refine gate_store (t := 3) (p := 26) rfl ?_); refine store_event (t := 3) (p := 26) (v := ?vo_w21) (w1 := (wr.setCell ⟨go18, ((rd l0_0 x13_1) : Int).toNat, none⟩ (.int .i64 (wrap64 (-(rd t508 x13_1)))))) ?hg ?ho ?hn ?hr ?_; (case ho => rfl); (case hg => rfl); (case hn => rfl); (case hr => exact qfba_); intro w21 hw; have hg : wr.grownBy w21 (some go18) := (by rw [hw]; exact HP20.2); have hp_ : Kd.R (Kd.int .i64) 3 w21 w.heap.size (fun k_ => some k_ ≠ (.slice (some ad511) t508.length co11 : Value).ownBlock) (.slice (some ⟨go18, 0, none⟩) x3_1.length co18) y513 := (by rw [hw, Ny513.out]; exact HP20.1); clear HP20; have n0_ := Aside0.mk (hp_); have n1_ := Aside0.mk (Kd.R_after (v := (.slice (some ⟨go18, 0, none⟩) x3_1.length co18)) (v1 := (.slice (some ⟨go18, 0, none⟩) x3_1.length co18)) (ok := (fun _ => True)) (q0ef_ HO_11.out) hg (.inl rfl)); have n2_ := Aside0.mk (blk_grown (g := gb504) (o := .cells #[.slice (some ad512) l0_0.length c0_0, .slice A0_1 l0_1.length c0_1] 27 (0, 0)) qebf_ hg (Kd.R_ne HO_3.out BK504.out (by decide))); have n3_ := Aside0.mk ((by rw [hw]; exact below_set (HB.out) GB18.out : Below w.heap.size w w21)); replace HO_3 := n0_; replace HO_11 := n1_; replace BK504 := n2_; replace HB := n3_; clear n0_ n1_ n2_ n3_; clear hg hw hp_))
           go_roundg k1
           case measure => have := HK1.out; omega
           case rel => exact ⟨(y513), (wrap64 (x13_1 + 1)), qc8f_, H', ⟨by have := HK1.out; omega⟩, ⟨q9d5_ HO_3.out⟩, ⟨qe0f_ HO_11.out⟩, ⟨qebf_⟩, ⟨qa32_⟩⟩
          ·
           rw [if_neg c17] at H
           exact absurd H (by simp)
         ·
          rw [if_neg c16] at H
          exact absurd H (by simp)
        ·
         rw [if_neg c15] at H
         exact absurd H (by simp)
       ·
        rw [if_neg c14] at H
        exact absurd H (by simp)
      ·
       rw [if_neg c13] at H
       exact absurd H (by simp)
     ·
      rw [if_neg c12] at H
      have c12b0 := decide_eq_false c12
      clear c12
      obtain rfl := Option.some.inj H
      go_wp2
      go_ret
      exact ⟨_, qce7_, q7d9_ HO_3.out, qa32_⟩
  ·
   rw [if_neg c3] at H
   exact absurd H (by simp)
 ·
  rw [if_neg c2] at H
  exact absurd H (by simp)

/-! ### spec_PointOfRegion: function 12 -/
def spec_PointOfRegion.f (k : Nat) (l0_0 : List Int) (l0_1 : List Int) : Option (List Int × Bool) := (spec_reGood.f k l0_0 l0_1).bind fun t515 => (if t515 = true then ((spec_rePointOf.f k l0_0 l0_1).bind fun t516 => (some (t516, true))) else (some (([] : List Int), false)))
theorem spec_PointOfRegion.mono : ∀ a0 a1 k, LeO (spec_PointOfRegion.f k a0 a1) (spec_PointOfRegion.f (k + 1) a0 a1) := by
 intro a0 a1 k
 unfold spec_PointOfRegion.f
 repeat' (with_reducible first | exact spec_reGood.mono _ _ _ | exact spec_rePointOf.mono _ _ _ | exact LeO.refl _ | exact LeO.none _ | refine LeO.ite ?_ ?_ | refine LeO.bind ?_ (fun _ => ?_))
theorem spec_PointOfRegion.calls (k : Nat) (A0_0 : Option Addr) (c0_0 : Nat) (l0_0 : List Int) (A0_1 : Option Addr) (c0_1 : Nat) (l0_1 : List Int) (r1 : List Int) (r2 : Bool) (w : World) (hr0_0 : Kd.C (Kd.int .i64) w A0_0 l0_0.length l0_0) (hc0_0 : l0_0.length ≤ c0_0) (hr0_1 : Kd.C (Kd.int .i64) w A0_1 l0_1.length l0_1) (hc0_1 : l0_1.length ≤ c0_1) (h : spec_PointOfRegion.f k l0_0 l0_1 = some (r1, r2)) :
  Calls Tryz.prog 12 #[.agg #[.slice A0_0 l0_0.length c0_0, .slice A0_1 l0_1.length c0_1]] w fun e w' => ∃ v0_ : Value, e = .returned (.tuple #[v0_, .bool r2]) ∧ Kd.R (Kd.int .i64) 3 w' w.heap.size (fun _ => True) v0_ r1 ∧ Below w.heap.size w w' := by
 have hu27 := Tryz.underlying27
 have HR0_0 := Aside0.mk hr0_0
 have HC0_0 := Aside0.mk hc0_0
 clear hr0_0 hc0_0
 have HR0_1 := Aside0.mk hr0_1
 have HC0_1 := Aside0.mk hc0_1
 clear hr0_1 hc0_1
 have HB := Aside0.mk (Below.refl w.heap.size w)
 unfold spec_PointOfRegion.f at h
 have H := h; clear h
 obtain ⟨t515, A2, H⟩ := ob_ H
 by_cases c3 : t515 = true
 ·
  subst c3
  rw [if_pos rfl] at H
  obtain ⟨t516, A4, H⟩ := ob_ H
  simp only [Option.some.injEq, Prod.mk.injEq] at H
  obtain ⟨rfl, rfl⟩ := H
  go_enter Tryz.func12, Tryz.ntmps12
  go_wp2_with (first | ((with_reducible refine gate_dst (N := 1) rfl ?_); refine box_event ?hg (N := 1) ?hd (cs := #[.slice A0_0 l0_0.length c0_0, .slice A0_1 l0_1.length c0_1]) (t := 27) ?hr ?_; (case hd => rfl); (case hg => rfl); (case hr => exact qfba_); intro gb514 hg w5 hbox hb; have n0_ := Aside0.mk (below_step q0c4_ hb); have n1_ := Aside0.mk (hbox); have n2_ := Aside0.mk ((by rw [hg]; exact (below_size q0c4_) : w.heap.size ≤ gb514)); have n3_ := Aside0.mk ((by rw [hg]; exact (below_size q0c4_) : w.heap.size ≤ gb514)); replace HB := n0_; have BK514 := n1_; have GW514 := n2_; have GE514 := n3_; clear n0_ n1_ n2_ n3_; clear hb hbox hg; have hcz6_0 : w5.cell? ⟨gb514, 0, none⟩ = some (.slice A0_0 l0_0.length c0_0) := (blk_cell BK514.out 0).trans rfl; have hcz6_1 : w5.cell? ⟨gb514, 1, none⟩ = some (.slice A0_1 l0_1.length c0_1) := (blk_cell BK514.out 1).trans rfl; have hfz6_0 := blk_frozen BK514.out 0; have hfz6_1 := blk_frozen BK514.out 1) | ((with_reducible refine gate_callee (f := 28) rfl ?_); refine gl_ 5 Tryz.func28 #[.agg #[.slice A0_0 l0_0.length c0_0, .slice A0_1 l0_1.length c0_1]] ?_; (with_reducible refine (spec_reGood.calls k _ _ l0_0 _ _ l0_1 true _ ?s1 ?s2 ?s3 ?s4 A2.out).mono ?_); (case s1 => exact qe02_ HR0_0.out); (case s2 => exact HC0_0.out); (case s3 => exact qe02_ HR0_1.out); (case s4 => exact HC0_1.out); rintro e w7 ⟨rfl, hb⟩; refine ⟨_, rfl, ?_⟩; replace BK514 := Aside0.mk (blk_below (g := gb514) (o := .cells #[.slice A0_0 l0_0.length c0_0, .slice A0_1 l0_1.length c0_1] 27 (0, 0)) q9ae_ hb); replace HB := Aside0.mk (below_step q036_ hb); clear hb; have hcz8_0 : w7.cell? ⟨gb514, 0, none⟩ = some (.slice A0_0 l0_0.length c0_0) := (blk_cell BK514.out 0).trans rfl; have hcz8_1 : w7.cell? ⟨gb514, 1, none⟩ = some (.slice A0_1 l0_1.length c0_1) := (blk_cell BK514.out 1).trans rfl; have hfz8_0 := blk_frozen BK514.out 0; have hfz8_1 := blk_frozen BK514.out 1) | ((with_reducible refine gate_callee (f := 29) rfl ?_); refine gl_ 8 Tryz.func29 #[.agg #[.slice A0_0 l0_0.length c0_0, .slice A0_1 l0_1.length c0_1]] ?_; (with_reducible refine (spec_rePointOf.calls k _ _ l0_0 _ _ l0_1 t516 _ ?s1 ?s2 ?s3 ?s4 A4.out).mono ?_); (case s1 => exact qe02_ HR0_0.out); (case s2 => exact HC0_0.out); (case s3 => exact qe02_ HR0_1.out); (case s4 => exact HC0_1.out); rintro e w9 ⟨v517, rfl, ho0, hb⟩; refine ⟨_, rfl, ?_⟩; have HO518 := Aside0.mk (Kd.R_lower ho0 (below_size q036_)); replace BK514 := Aside0.mk (blk_below (g := gb514) (o := .cells #[.slice A0_0 l0_0.length c0_0, .slice A0_1 l0_1.length c0_1] 27 (0, 0)) q9ae_ hb); replace HB := Aside0.mk (below_step q036_ hb); clear hb ho0))
  go_ret2
  exact ⟨_, qce7_, q9d5_ HO518.out, q036_⟩
 ·
  replace c3 := Bool.eq_false_iff.mpr c3
  subst c3
  rw [if_neg nf_] at H
  simp only [Option.some.injEq, Prod.mk.injEq] at H
  obtain ⟨rfl, rfl⟩ := H
  go_enter Tryz.func12, Tryz.ntmps12
  go_wp2_with (first | ((with_reducible refine gate_dst (N := 1) rfl ?_); refine box_event ?hg (N := 1) ?hd (cs := #[.slice A0_0 l0_0.length c0_0, .slice A0_1 l0_1.length c0_1]) (t := 27) ?hr ?_; (case hd => rfl); (case hg => rfl); (case hr => exact qfba_); intro gb514 hg w10 hbox hb; have n0_ := Aside0.mk (below_step q0c4_ hb); have n1_ := Aside0.mk (hbox); have n2_ := Aside0.mk ((by rw [hg]; exact (below_size q0c4_) : w.heap.size ≤ gb514)); have n3_ := Aside0.mk ((by rw [hg]; exact (below_size q0c4_) : w.heap.size ≤ gb514)); replace HB := n0_; have BK514 := n1_; have GW514 := n2_; have GE514 := n3_; clear n0_ n1_ n2_ n3_; clear hb hbox hg; have hcz11_0 : w10.cell? ⟨gb514, 0, none⟩ = some (.slice A0_0 l0_0.length c0_0) := (blk_cell BK514.out 0).trans rfl; have hcz11_1 : w10.cell? ⟨gb514, 1, none⟩ = some (.slice A0_1 l0_1.length c0_1) := (blk_cell BK514.out 1).trans rfl; have hfz11_0 := blk_frozen BK514.out 0; have hfz11_1 := blk_frozen BK514.out 1) | ((with_reducible refine gate_callee (f := 28) rfl ?_); refine gl_ 5 Tryz.func28 #[.agg #[.slice A0_0 l0_0.length c0_0, .slice A0_1 l0_1.length c0_1]] ?_; (with_reducible refine (spec_reGood.calls k _ _ l0_0 _ _ l0_1 false _ ?s1 ?s2 ?s3 ?s4 A2.out).mono ?_); (case s1 => exact qe02_ HR0_0.out); (case s2 => exact HC0_0.out); (case s3 => exact qe02_ HR0_1.out); (case s4 => exact HC0_1.out); rintro e w12 ⟨rfl, hb⟩; refine ⟨_, rfl, ?_⟩; replace BK514 := Aside0.mk (blk_below (g := gb514) (o := .cells #[.slice A0_0 l0_0.length c0_0, .slice A0_1 l0_1.length c0_1] 27 (0, 0)) q9ae_ hb); replace HB := Aside0.mk (below_step q036_ hb); clear hb))
  go_ret2
  exact ⟨_, qce7_, qf62_, q036_⟩

/-! ### impl_LabelOfRegion: function 13 -/
def impl_LabelOfRegion.l0 : Nat → List Int → List Int → Int → Int → List Int → List Int → Option (List Int × Bool)
 | 0, _, _, _, _, _, _ => none
 | k + 1, x4, x15, x16, x17, x520000, x520001 => if x17 < x16 then (if 0 ≤ x17 then (if x17 < (x15.length : Int) then (if x17 ≤ (x520000.length : Int) then (if x17 < (x520001.length : Int) then ((impl_labelAt.f (x520000.take (x17 : Int).toNat) (rd x520001 x17) (rd x15 x17)).bind fun t527 => (if 0 ≤ (rd x15 x17) then (if (rd x15 x17) < (x4.length : Int) then (impl_LabelOfRegion.l0 k (x4.set ((rd x15 x17) : Int).toNat t527) x15 x16 (wrap64 (x17 + 1)) x520000 x520001) else (none)) else (none))) else (none)) else (none)) else (none)) else (none)) else (some (x4, true))
def impl_LabelOfRegion.f (k : Nat) (l0_0 : List Int) (l0_1 : List Int) : Option (List Int × Bool) := (impl_isRegion.f k l0_0 l0_1).bind fun t520 => (if t520 = true then (if 0 ≤ (l0_0.length : Int) then (if ((l0_0.length : Int) : Int).toNat ≤ 35184372088832 then (impl_LabelOfRegion.l0 k (List.replicate ((l0_0.length : Int) : Int).toNat 0) l0_0 (l0_0.length : Int) 0 l0_0 l0_1) else (none)) else (none)) else (some (([] : List Int), false)))
theorem impl_LabelOfRegion.mono_l : ∀ k, (∀ y0 y1 y2 y3 y4 y5, LeO (impl_LabelOfRegion.l0 k y0 y1 y2 y3 y4 y5) (impl_LabelOfRegion.l0 (k + 1) y0 y1 y2 y3 y4 y5))
 | 0 => fun _ _ _ _ _ _ r h => by simp [impl_LabelOfRegion.l0] at h
 | k + 1 => by
  have ih0 := impl_LabelOfRegion.mono_l k
  ·
   intro y0 y1 y2 y3 y4 y5
   unfold impl_LabelOfRegion.l0
   repeat' (with_reducible first | exact ih0 _ _ _ _ _ _ | exact impl_isRegion.mono _ _ _ | exact LeO.refl _ | exact LeO.none _ | refine LeO.ite ?_ ?_ | refine LeO.bind ?_ (fun _ => ?_))
theorem impl_LabelOfRegion.mono : ∀ a0 a1 k, LeO (impl_LabelOfRegion.f k a0 a1) (impl_LabelOfRegion.f (k + 1) a0 a1) := by
 intro a0 a1 k
 have ih0 := impl_LabelOfRegion.mono_l k
 unfold impl_LabelOfRegion.f
 repeat' (with_reducible first | exact ih0 _ _ _ _ _ _ | exact impl_isRegion.mono _ _ _ | exact LeO.refl _ | exact LeO.none _ | refine LeO.ite ?_ ?_ | refine LeO.bind ?_ (fun _ => ?_))
def impl_LabelOfRegion.T7 : Bool × List (List Nat × List Nat) := (true, [([], []), ([], []), ([], []), ([2], [2]), ([], []), ([3, 4], [3, 4]), ([], []), ([6], [6]), ([], []), ([7, 8], [7, 8]), ([9], [9]), ([], []), ([5, 10, 11], [5, 10, 11]), ([0, 1, 0, 1, 2, 3, 4, 5, 6, 7, 8, 9, 10, 11, 12], [0, 1]), ([13, 12, 12, 0, 1, 2, 3, 4, 5, 6, 7, 8, 9, 10, 11, 12], [12, 13])])
def impl_LabelOfRegion.B7 : List Nat := [0, 0, 0, 4, 0, 28, 0, 64, 0, 448, 960, 0, 4092, 8191, 16383]
theorem impl_LabelOfRegion.tab7 : rtab .any (opsOf Tryz.f13 7) = impl_LabelOfRegion.T7 := by kernel_rfl
theorem impl_LabelOfRegion.bits7 : waitsOk impl_LabelOfRegion.T7.2 impl_LabelOfRegion.B7 = true := by kernel_rfl
theorem impl_LabelOfRegion.calls (k : Nat) (A0_0 : Option Addr) (c0_0 : Nat) (l0_0 : List Int) (A0_1 : Option Addr) (c0_1 : Nat) (l0_1 : List Int) (r1 : List Int) (r2 : Bool) (w : World) (hr0_0 : Kd.C (Kd.int .i64) w A0_0 l0_0.length l0_0) (hc0_0 : l0_0.length ≤ c0_0) (hr0_1 : Kd.C (Kd.int .i64) w A0_1 l0_1.length l0_1) (hc0_1 : l0_1.length ≤ c0_1) (h : impl_LabelOfRegion.f k l0_0 l0_1 = some (r1, r2)) :
  Calls Tryz.prog 13 #[.agg #[.slice A0_0 l0_0.length c0_0, .slice A0_1 l0_1.length c0_1]] w fun e w' => ∃ v0_ : Value, e = .returned (.tuple #[v0_, .bool r2]) ∧ Kd.R (Kd.int .i64) 3 w' w.heap.size (fun _ => True) v0_ r1 ∧ Below w.heap.size w w' := by
 have hu27 := Tryz.underlying27
 have HR0_0 := Aside0.mk hr0_0
 have HC0_0 := Aside0.mk hc0_0
 clear hr0_0 hc0_0
 have HR0_1 := Aside0.mk hr0_1
 have HC0_1 := Aside0.mk hc0_1
 clear hr0_1 hc0_1
 have HB := Aside0.mk (Below.refl w.heap.size w)
 unfold impl_LabelOfRegion.f at h
 have H := h; clear h
 obtain ⟨t520, A2, H⟩ := ob_ H
 by_cases c3 : t520 = true
 ·
  subst c3
  rw [if_pos rfl] at H
  by_cases c4 : 0 ≤ (l0_0.length : Int)
  ·
   rw [if_pos c4] at H
   have c4b0 := eq_true c4
   have c4b1 := decide_eq_true c4
   clear c4
   by_cases c5 : ((l0_0.length : Int) : Int).toNat ≤ 35184372088832
   ·
    rw [if_pos c5] at H
    have c5b0 := eq_true c5
    have c5b1 := decide_eq_true c5
    clear c5
    obtain ⟨y521, hy521⟩ : ∃ y_ : List Int, y_ = (List.replicate ((l0_0.length : Int) : Int).toNat 0) := ⟨_, rfl⟩
    replace H : (impl_LabelOfRegion.l0 k y521 l0_0 (l0_0.length : Int) 0 l0_0 l0_1) = some (r1, r2) := by first | (rw [hy521]; with_reducible exact H) | (have H2_ := (Option.bind_some _ _).symm.trans H; rw [hy521]; with_reducible exact H2_) | (have H2_ := (Option.bind_some _ _).symm.trans H; with_reducible exact H2_) | with_reducible exact H | (rw [hy521]; exact H) | exact H
    have Ny521 := Aside0.mk hy521
    clear hy521
    have H' := Aside0.mk H
    clear H
    go_enter Tryz.func13, Tryz.ntmps13
    go_wp2_with (first | ((with_reducible refine gate_dst (N := 1) rfl ?_); refine box_event ?hg (N := 1) ?hd (cs := #[.slice A0_0 l0_0.length c0_0, .slice A0_1 l0_1.length c0_1]) (t := 27) ?hr ?_; (case hd => rfl); (case hg => rfl); (case hr => exact qfba_); intro gb519 hg w6 hbox hb; have n0_ := Aside0.mk (below_step q0c4_ hb); have n1_ := Aside0.mk (hbox); have n2_ := Aside0.mk ((by rw [hg]; exact (below_size q0c4_) : w.heap.size ≤ gb519)); have n3_ := Aside0.mk ((by rw [hg]; exact (below_size q0c4_) : w.heap.size ≤ gb519)); replace HB := n0_; have BK519 := n1_; have GW519 := n2_; have GE519 := n3_; clear n0_ n1_ n2_ n3_; clear hb hbox hg; have hcz7_0 : w6.cell? ⟨gb519, 0, none⟩ = some (.slice A0_0 l0_0.length c0_0) := (blk_cell BK519.out 0).trans rfl; have hcz7_1 : w6.cell? ⟨gb519, 1, none⟩ = some (.slice A0_1 l0_1.length c0_1) := (blk_cell BK519.out 1).trans rfl; have hfz7_0 := blk_frozen BK519.out 0; have hfz7_1 := blk_frozen BK519.out 1) | ((with_reducible refine gate_callee (f := 26) rfl ?_); refine gl_ 8 Tryz.func26 #[.agg #[.slice A0_0 l0_0.length c0_0, .slice A0_1 l0_1.length c0_1]] ?_; (with_reducible refine (impl_isRegion.calls k _ _ l0_0 _ _ l0_1 true _ ?s1 ?s2 ?s3 ?s4 A2.out).mono ?_); (case s1 => exact qe02_ HR0_0.out); (case s2 => exact HC0_0.out); (case s3 => exact qe02_ HR0_1.out); (case s4 => exact HC0_1.out); rintro e w8 ⟨rfl, hb⟩; refine ⟨_, rfl, ?_⟩; replace BK519 := Aside0.mk (blk_below (g := gb519) (o := .cells #[.slice A0_0 l0_0.length c0_0, .slice A0_1 l0_1.length c0_1] 27 (0, 0)) q813_ hb); replace HB := Aside0.mk (below_step q086_ hb); clear hb; have hcz9_0 : w8.cell? ⟨gb519, 0, none⟩ = some (.slice A0_0 l0_0.length c0_0) := (blk_cell BK519.out 0).trans rfl; have hcz9_1 : w8.cell? ⟨gb519, 1, none⟩ = some (.slice A0_1 l0_1.length c0_1) := (blk_cell BK519.out 1).trans rfl; have hfz9_0 := blk_frozen BK519.out 0; have hfz9_1 := blk_frozen BK519.out 1) | ((with_reducible refine gate_dst (N := 13) rfl ?_); refine Kd.R_make (Kd.int .i64) _ 3 rfl (N := 13) rfl 24 _ _ rfl (l0_0.length : Int) rfl rfl Tryz.underlying24 (.int .i64 0) 8 info3 rfl (by decide) (by omega) 0 (ok := fun _ => True) (okp := fun _ => True) rfl (fun _ hk => hk) trivial (of_decide_eq_true qe84_) (Nat.le_trans (Nat.mul_le_mul_right _ (of_decide_eq_true qe84_ : (l0_0.length : Int).toNat ≤ 35184372088832)) (by omega)) (Below.refl _ _) (Nat.le_refl _) ?_; intro v522 w10 ho11 hb hg_ hnew_; clear hg_ hnew_; (first | rw [← Ny521.out] at ho11 | (simp only [Int.reduceToNat] at ho11; rw [← Ny521.out] at ho11)); have HO523 := Aside0.mk (Kd.R_lower ho11 (below_size q086_)); replace BK519 := Aside0.mk (blk_below (g := gb519) (o := .cells #[.slice A0_0 l0_0.length c0_0, .slice A0_1 l0_1.length c0_1] 27 (0, 0)) q813_ hb); replace HB := Aside0.mk (below_step q086_ hb); clear hb ho11; have hcz12_0 : w10.cell? ⟨gb519, 0, none⟩ = some (.slice A0_0 l0_0.length c0_0) := (blk_cell BK519.out 0).trans rfl; have hcz12_1 : w10.cell? ⟨gb519, 1, none⟩ = some (.slice A0_1 l0_1.length c0_1) := (blk_cell BK519.out 1).trans rfl; have hfz12_0 := blk_frozen BK519.out 0; have hfz12_1 := blk_frozen BK519.out 1))
    go_loopg [17] k (fun kq v17 w' => ∃ (x4_1 : List Int) (x17_1 : Int), v17 = .int .i64 x17_1 ∧ Aside0 (impl_LabelOfRegion.l0 kq x4_1 l0_0 (l0_0.length : Int) x17_1 l0_0 l0_1 = some (r1, r2)) ∧ Aside0 (kq ≤ k) ∧ Aside0 (Kd.R (Kd.int .i64) 3 w' w.heap.size (fun _ => True) v522 x4_1) ∧ Aside0 (w'.heap[gb519]? = some (.cells #[(.slice A0_0 l0_0.length c0_0), (.slice A0_1 l0_1.length c0_1)] 27 (0, 0))) ∧ Aside0 (Below w.heap.size w w'))
    case atStart => exact ⟨(y521), (0), qc8f_, H', ⟨Nat.le_refl _⟩, ⟨q9d5_ HO523.out⟩, ⟨q813_⟩, ⟨q086_⟩⟩
    case round =>
     clear H'; try clear c1; try clear c2; try clear p2; try clear c3; try clear c4; try clear c4b0; try clear c4b1; try clear c5; try clear c5b0; try clear c5b1; try clear hcz12_0; try clear hcz12_1; try clear hcz7_0; try clear hcz7_1; try clear hcz9_0; try clear hcz9_1; try clear hfz12_0; try clear hfz12_1; try clear hfz7_0; try clear hfz7_1; try clear hfz9_0; try clear hfz9_1
     obtain ⟨x4_1, x17_1, rfl, HA, HK1, HO_4, BK519, HB⟩ := hrel
     cases gk with
     | zero => exact absurd HA.out (by simp [impl_LabelOfRegion.l0])
     | succ k1 =>
      have H := HA.out
      clear HA
      simp only [impl_LabelOfRegion.l0] at H
      by_cases c13 : x17_1 < (l0_0.length : Int)
      ·
       rw [if_pos c13] at H
       have c13b0 := decide_eq_true c13
       clear c13
       by_cases c14 : 0 ≤ x17_1
       ·
        rw [if_pos c14] at H
        have c14b0 := decide_eq_true c14
        clear c14
        by_cases c15 : x17_1 < (l0_0.length : Int)
        ·
         rw [if_pos c15] at H
         have c15b0 := decide_eq_true c15
         clear c15
         have c16b0 := eq_true (of_decide_eq_true qe84_ : 0 ≤ x17_1)
         by_cases c17 : x17_1 ≤ (l0_0.length : Int)
         ·
          rw [if_pos c17] at H
          have c17b0 := eq_true c17
          have c17b1 := decide_eq_true c17
          clear c17
          by_cases c18 : x17_1 < (l0_1.length : Int)
          ·
           rw [if_pos c18] at H
           have c18b0 := decide_eq_true c18
           clear c18
           obtain ⟨t527, A19, H⟩ := ob_ H
           by_cases c20 : 0 ≤ (rd l0_0 x17_1)
           ·
            rw [if_pos c20] at H
            have c20b0 := decide_eq_true c20
            clear c20
            by_cases c21 : (rd l0_0 x17_1) < (x4_1.length : Int)
            ·
             rw [if_pos c21] at H
             have c21b0 := decide_eq_true c21
             clear c21
             obtain ⟨y528, hy528⟩ : ∃ y_ : List Int, y_ = (x4_1.set ((rd l0_0 x17_1) : Int).toNat t527) := ⟨_, rfl⟩
             replace H : (impl_LabelOfRegion.l0 k1 y528 l0_0 (l0_0.length : Int) (wrap64 (x17_1 + 1)) l0_0 l0_1) = some (r1, r2) := by first | (rw [hy528]; with_reducible exact H) | (have H2_ := (Option.bind_some _ _).symm.trans H; rw [hy528]; with_reducible exact H2_) | (have H2_ := (Option.bind_some _ _).symm.trans H; with_reducible exact H2_) | with_reducible exact H | (rw [hy528]; exact H) | exact H
             have Ny528 := Aside0.mk hy528
             clear hy528
             have H' := Aside0.mk H
             clear H
             have p524 : 0 ≤ (x17_1 : Int) := of_decide_eq_true qe84_
             have q524 : x17_1 < (l0_0.length : Int) := of_decide_eq_true qe84_
             obtain ⟨ad524, e524, hx524_0⟩ := Kd.at_int HR0_0.out x17_1 p524 q524
             cases e524
             (try (replace hx524_0 := (HB.out.cell (World.block_lt_of_cell? w _ hx524_0)).trans hx524_0))
             replace p524 := eq_true p524
             replace q524 := eq_true q524
             try go_wp2
             have n0_ := Aside0.mk (Kd.R_drew HO_4.out)
             have n1_ := Aside0.mk (blk_drew BK519.out)
             have n2_ := Aside0.mk (below_drew1 HB.out)
             clear HO_4 BK519 HB; have HO_4 := n0_; have BK519 := n1_; have HB := n2_; clear n0_ n1_ n2_
             obtain ⟨i024, hi024, _, hsz24, _⟩ := info_parts info3
             obtain ⟨hcut24, hA24, hC24⟩ := print_take_of (P := Tryz.prog) (Value.int .i64) 0 24 3 .i64 Tryz.underlying24 hi024 hsz24 (some ad524) c0_0 l0_0 x17_1 (of_decide_eq_true qe84_) (of_decide_eq_true qe84_) HC0_0.out
             have HR525 := Aside0.mk (Kd.C_of_reads (h1 := fun _ => rfl) (hA24 _ (Kd.reads_of_C HR0_0.out)))
             have HC525 := Aside0.mk hC24
             clear hA24 hC24 hi024 hsz24
             have p526 : 0 ≤ (x17_1 : Int) := of_decide_eq_true qe84_
             have q526 : x17_1 < (l0_1.length : Int) := of_decide_eq_true qe84_
             obtain ⟨ad526, e526, hx526_0⟩ := Kd.at_int HR0_1.out x17_1 p526 q526
             have hw526_0 := hx526_0
             cases e526
             (try (replace hx526_0 := (HB.out.cell (World.block_lt_of_cell? w _ hx526_0)).trans hx526_0))
             replace p526 := eq_true p526
             replace q526 := eq_true q526
             refine start_ (n := 15) (S := fun w' => w'.cell? ⟨gb519, 0, none⟩ = some (.slice (some ad524) l0_0.length c0_0) ∧ w'.cell? ⟨gb519, 1, none⟩ = some (.slice (some ad526) l0_1.length c0_1) ∧ w'.cell? (ad526.add (x17_1).toNat) = some (.int .i64 (rd l0_1 x17_1))) (ds := [14]) #[false, false, false, false, false, false, false, false, false, false, false, false, false, false, false] (by kernel_rfl) rfl rfl ⟨(blk_cell BK519.out 0).trans rfl, (blk_cell BK519.out 1).trans rfl, ((HB.out.cell (World.block_lt_of_cell? w _ hw526_0)).trans hw526_0)⟩ (fun hHeld => ?_); refine with_tabW impl_LabelOfRegion.tab7 impl_LabelOfRegion.bits7 (fun HT_ HW_ => ?_)
             generalize wr.drew = w23 at HO_4 BK519 HB HR525 hx526_0 hHeld ⊢
             refine pure_ (i := 0) (N := some 22) (v := ?_) (a' := ?_) #[true, false, false, false, false, false, false, false, false, false, false, false, false, false, false] rfl rfl (any_of HT_.out (by kernel_rfl)) (fun _ _ _ h => h) (Or.inl ⟨by rfl, ?_⟩) ?_ ?_
             rotate_left
             ·
              intro w'
              go_simp
              with_reducible rfl
             rotate_left
             ·
              simp only [Act.put, List.setIfInBounds_toArray, List.set_cons_zero, List.set_cons_succ, i64_w, i32_w]
              rfl
             refine pure_ (i := 1) (N := some 23) (v := ?_) (a' := ?_) #[true, true, false, false, false, false, false, false, false, false, false, false, false, false, false] rfl rfl (any_of HT_.out (by kernel_rfl)) (fun _ _ _ h => h) (Or.inl ⟨by rfl, ?_⟩) ?_ ?_
             rotate_left
             ·
              intro w'
              go_simp
              with_reducible rfl
             rotate_left
             ·
              simp only [Act.put, List.setIfInBounds_toArray, List.set_cons_zero, List.set_cons_succ, i64_w, i32_w]
              rfl
             refine pure_ (i := 2) (N := some 24) (v := ?_) (a' := ?_) #[true, true, true, false, false, false, false, false, false, false, false, false, false, false, false] rfl rfl (any_of HT_.out (by kernel_rfl)) (fun _ _ _ h => h) (Or.inl ⟨by rfl, ?_⟩) ?_ ?_
             rotate_left
             ·
              intro w'
              go_simp
              with_reducible rfl
             rotate_left
             ·
              simp only [Act.put, List.setIfInBounds_toArray, List.set_cons_zero, List.set_cons_succ, i64_w, i32_w]
              rfl
             refine pure_ (i := 4) (N := some 26) (v := ?_) (a' := ?_) #[true, true, true, false, true, false, false, false, false, false, false, false, false, false, false] rfl rfl (any_of HT_.out (by kernel_rfl)) (fun _ _ _ h => h) (Or.inl ⟨by rfl, ?_⟩) ?_ ?_
             rotate_left
             ·
              intro w'
              go_simp
              with_reducible rfl
             rotate_left
             ·
              simp only [Act.put, List.setIfInBounds_toArray, List.set_cons_zero, List.set_cons_succ, i64_w, i32_w]
              rfl
             refine pure_ (i := 6) (N := some 28) (v := ?_) (a' := ?_) #[true, true, true, false, true, false, true, false, false, false, false, false, false, false, false] rfl rfl (any_of HT_.out (by kernel_rfl)) (fun _ _ _ h => h) (Or.inl ⟨by rfl, ?_⟩) ?_ ?_
             rotate_left
             ·
              intro w'
              go_simp
              with_reducible rfl
             rotate_left
             ·
              simp only [Act.put, List.setIfInBounds_toArray, List.set_cons_zero, List.set_cons_succ, i64_w, i32_w]
              rfl
             refine pure_ (i := 8) (N := some 30) (v := ?_) (a' := ?_) #[true, true, true, false, true, false, true, false, true, false, false, false, false, false, false] rfl rfl (any_of HT_.out (by kernel_rfl)) (fun _ _ _ h => h) (Or.inl ⟨by rfl, ?_⟩) ?_ ?_
             rotate_left
             ·
              intro w'
              go_simp
              with_reducible rfl
             rotate_left
             ·
              simp only [Act.put, List.setIfInBounds_toArray, List.set_cons_zero, List.set_cons_succ, i64_w, i32_w]
              rfl
             refine pure_ (i := 11) (N := some 33) (v := ?_) (a' := ?_) #[true, true, true, false, true, false, true, false, true, false, false, true, false, false, false] rfl rfl (any_of HT_.out (by kernel_rfl)) (fun _ _ _ h => h) (Or.inl ⟨by rfl, ?_⟩) ?_ ?_
             rotate_left
             ·
              intro w'
              go_simp
              with_reducible rfl
             rotate_left
             ·
              simp only [Act.put, List.setIfInBounds_toArray, List.set_cons_zero, List.set_cons_succ, i64_w, i32_w]
              rfl
             refine take_ (i := 3) (N := some 25) (v := ?_) (a' := ?_) #[true, true, true, true, true, false, true, false, true, false, false, true, false, false, false] rfl rfl (take_ofW HT_.out HW_.out (by kernel_rfl)) (fun _ _ _ h => h) (Or.inl ⟨by rfl, ?_⟩) hHeld ?_ ?_
             rotate_left
             ·
              rintro w' ⟨s0, s1, s2⟩
              go_simp
              with_reducible rfl
             rotate_left
             ·
              simp only [Act.put, List.setIfInBounds_toArray, List.set_cons_zero, List.set_cons_succ, i64_w, i32_w]
              rfl
             refine pure_ (i := 5) (N := some 27) (v := ?_) (a' := ?_) #[true, true, true, true, true, true, true, false, true, false, false, true, false, false, false] rfl rfl (any_of HT_.out (by kernel_rfl)) (fun _ _ _ h => h) (Or.inl ⟨by rfl, ?_⟩) ?_ ?_
             rotate_left
             ·
              intro w'
              go_simp
              with_reducible rfl
             rotate_left
             ·
              simp only [Act.put, List.setIfInBounds_toArray, List.set_cons_zero, List.set_cons_succ, i64_w, i32_w]
              rfl
             refine take_ (i := 7) (N := some 29) (v := ?_) (a' := ?_) #[true, true, true, true, true, true, true, true, true, false, false, true, false, false, false] rfl rfl (take_ofW HT_.out HW_.out (by kernel_rfl)) (fun _ _ _ h => h) (Or.inl ⟨by rfl, ?_⟩) hHeld ?_ ?_
             rotate_left
             ·
              rintro w' ⟨s0, s1, s2⟩
              go_simp
              with_reducible rfl
             rotate_left
             ·
              simp only [Act.put, List.setIfInBounds_toArray, List.set_cons_zero, List.set_cons_succ, i64_w, i32_w]
              rfl
             refine pure_ (i := 9) (N := some 31) (v := ?_) (a' := ?_) #[true, true, true, true, true, true, true, true, true, true, false, true, false, false, false] rfl rfl (any_of HT_.out (by kernel_rfl)) (fun _ _ _ h => h) (Or.inl ⟨by rfl, ?_⟩) ?_ ?_
             rotate_left
             ·
              intro w'
              go_simp
              with_reducible rfl
             rotate_left
             ·
              simp only [Act.put, List.setIfInBounds_toArray, List.set_cons_zero, List.set_cons_succ, i64_w, i32_w]
              rfl
             refine take_ (i := 10) (N := some 32) (v := ?_) (a' := ?_) #[true, true, true, true, true, true, true, true, true, true, true, true, false, false, false] rfl rfl (take_ofW HT_.out HW_.out (by kernel_rfl)) (fun _ _ _ h => h) (Or.inl ⟨by rfl, ?_⟩) hHeld ?_ ?_
             rotate_left
             ·
              rintro w' ⟨s0, s1, s2⟩
              go_simp
              with_reducible rfl
             rotate_left
             ·
              simp only [Act.put, List.setIfInBounds_toArray, List.set_cons_zero, List.set_cons_succ, i64_w, i32_w]
              rfl
             refine one_ (i := 12) (N := some 34) #[true, true, true, true, true, true, true, true, true, true, true, true, true, false, false] rfl rfl (one_of HT_.out (by kernel_rfl)) (by decide) (fun K hK => ?_)
             refine goes_ Tryz.func30 (by kernel_rfl) rfl #[.slice (some ad524) (l0_0.take (x17_1 : Int).toNat).length c0_0, .int .i64 (rd l0_1 x17_1), .int .i64 (rd l0_0 x17_1)] (by rfl) rfl rfl (by (try simp only [List.map_toArray, List.map_cons, List.map_nil]); first | done | (rw [show (l0_0.take (x17_1 : Int).toNat).length = x17_1.toNat from (by rw [List.length_take]; have h_ : (x17_1 : Int) ≤ (l0_0.length : Int) := of_decide_eq_true qe84_; omega)] <;> rfl) | rfl | (simp only [List.length_drop, List.length_take]; rfl)) ?_
             with_reducible refine (impl_labelAt.calls _ _ (l0_0.take (x17_1 : Int).toNat) (rd l0_1 x17_1) (rd l0_0 x17_1) t527 _ ?s1 ?s2 A19.out).mono ?_
             (case s1 => exact qe02_ HR525.out)
             (case s2 => exact HC525.out)
             rintro e w25 ⟨rfl, hb⟩
             refine ⟨_, rfl, ?_⟩
             have n0_ := Aside0.mk (Kd.R_below (q9d5_ HO_4.out) hb)
             have n1_ := Aside0.mk (blk_below (g := gb519) (o := .cells #[.slice (some ad524) l0_0.length c0_0, .slice (some ad526) l0_1.length c0_1] 27 (0, 0)) q813_ hb)
             have n2_ := Aside0.mk (below_step q086_ hb)
             clear HO_4 BK519 HB; have HO_4 := n0_; have BK519 := n1_; have HB := n2_; clear n0_ n1_ n2_
             (try clear hb)
             (try clear hb2)
             (try clear hk)
             (try clear hi)
             have p22 : 0 ≤ ((rd l0_0 x17_1) : Int) := of_decide_eq_true qe84_
             have q22 : ((rd l0_0 x17_1) : Int) < ((x4_1.length : Int) : Int) := of_decide_eq_true qe84_
             obtain ⟨go22, co22, eo22, gb22, gl22, cl22, HG22⟩ := Kd.R_form HO_4.out (by omega)
             (first | cases eo22 | (injection eo22 with ea_ en_ ec_; (first | subst ea_ | (injection ea_ with ea_; subst ea_)); subst ec_; clear en_))
             have GB22 := Aside0.mk gb22
             have GG22 := Aside0.mk HG22
             clear gb22 gl22 HG22
             obtain ⟨hx22_0, hf22_0⟩ := Kd.R_celln 0 HO_4.out ((rd l0_0 x17_1) : Int) p22 q22
             replace p22 := eq_true p22
             replace q22 := eq_true q22
             have HP26 := Kd.R_putn HO_4.out ((rd l0_0 x17_1) : Int) t527
             rw [← Ny528.out] at HP26
             have HQ26 := Aside0.mk HP26
             clear HP26
             refine hK.out _ _ ⟨(blk_cell BK519.out 0).trans rfl, (blk_cell BK519.out 1).trans rfl, ((HB.out.cell (World.block_lt_of_cell? w _ hw526_0)).trans hw526_0)⟩ (fun hHeld => ?_)
             clear hK K
             refine norm_ (a' := ?_) ?_ ?_
             rotate_left
             ·
              show Act.put _ (some 34) _ = _
              simp only [Act.put, List.setIfInBounds_toArray, List.set_cons_zero, List.set_cons_succ, i64_w, i32_w]
              rfl
             refine pure_ (i := 13) (N := some 35) (v := ?_) (a' := ?_) #[true, true, true, true, true, true, true, true, true, true, true, true, true, true, false] rfl rfl (any_of HT_.out (by kernel_rfl)) (fun _ _ _ h => h) (Or.inl ⟨by rfl, ?_⟩) ?_ ?_
             rotate_left
             ·
              intro w'
              go_simp
              with_reducible rfl
             rotate_left
             ·
              simp only [Act.put, List.setIfInBounds_toArray, List.set_cons_zero, List.set_cons_succ, i64_w, i32_w]
              rfl
             refine last_ (i := 14) (N := none) #[true, true, true, true, true, true, true, true, true, true, true, true, true, true, true] rfl rfl (one_of HT_.out (by kernel_rfl)) (by decide) (fun K hK => ?_)
             refine skip_ (w1 := ?_) (by rfl) rfl ?_ ?_
             rotate_left
             ·
              go_simp
              rfl
             refine hK.out _ _ ?_
             clear hK K
             refine done_ (done_of HT_.out (by kernel_rfl)) ?_
             try go_wp2
             go_roundg k1
             case measure => have := HK1.out; omega
             case rel => exact ⟨(y528), (wrap64 (x17_1 + 1)), qc8f_, H', ⟨by have := HK1.out; omega⟩, ⟨q9d5_ HQ26.out⟩, ⟨by (with_reducible repeat (first | refine blk_drewN ?_ _ | refine blk_drew ?_ | refine blk_alloc ?_ _)); refine blk_far ?_ (by have h_ := Kd.R_ne HO_4.out BK519.out (by decide); intro e_; exact h_ (by rw [e_]; rfl)) _; (with_reducible repeat (first | refine blk_drewN ?_ _ | refine blk_drew ?_ | refine blk_alloc ?_ _)); exact BK519.out⟩, ⟨by repeat (first | (with_reducible first | exact HB.out | apply below_alloc | apply pw_below_drewN | apply below_drew1 | refine below_set ?_ GB22.out | refine below_set ?_ GE519.out) | exact HB.out)⟩⟩
            ·
             rw [if_neg c21] at H
             exact absurd H (by simp)
           ·
            rw [if_neg c20] at H
            exact absurd H (by simp)
          ·
           rw [if_neg c18] at H
           exact absurd H (by simp)
         ·
          rw [if_neg c17] at H
          exact absurd H (by simp)
        ·
         rw [if_neg c15] at H
         exact absurd H (by simp)
       ·
        rw [if_neg c14] at H
        exact absurd H (by simp)
      ·
       rw [if_neg c13] at H
       have c13b0 := decide_eq_false c13
       clear c13
       simp only [Option.some.injEq, Prod.mk.injEq] at H
       obtain ⟨rfl, rfl⟩ := H
       go_wp2
       go_ret2
       exact ⟨_, qce7_, q9d5_ HO_4.out, q086_⟩
   ·
    rw [if_neg c5] at H
    exact absurd H (by simp)
  ·
   rw [if_neg c4] at H
   exact absurd H (by simp)
 ·
  replace c3 := Bool.eq_false_iff.mpr c3
  subst c3
  rw [if_neg nf_] at H
  simp only [Option.some.injEq, Prod.mk.injEq] at H
  obtain ⟨rfl, rfl⟩ := H
  go_enter Tryz.func13, Tryz.ntmps13
  go_wp2_with (first | ((with_reducible refine gate_dst (N := 1) rfl ?_); refine box_event ?hg (N := 1) ?hd (cs := #[.slice A0_0 l0_0.length c0_0, .slice A0_1 l0_1.length c0_1]) (t := 27) ?hr ?_; (case hd => rfl); (case hg => rfl); (case hr => exact qfba_); intro gb519 hg w27 hbox hb; have n0_ := Aside0.mk (below_step q0c4_ hb); have n1_ := Aside0.mk (hbox); have n2_ := Aside0.mk ((by rw [hg]; exact (below_size q0c4_) : w.heap.size ≤ gb519)); have n3_ := Aside0.mk ((by rw [hg]; exact (below_size q0c4_) : w.heap.size ≤ gb519)); replace HB := n0_; have BK519 := n1_; have GW519 := n2_; have GE519 := n3_; clear n0_ n1_ n2_ n3_; clear hb hbox hg; have hcz28_0 : w27.cell? ⟨gb519, 0, none⟩ = some (.slice A0_0 l0_0.length c0_0) := (blk_cell BK519.out 0).trans rfl; have hcz28_1 : w27.cell? ⟨gb519, 1, none⟩ = some (.slice A0_1 l0_1.length c0_1) := (blk_cell BK519.out 1).trans rfl; have hfz28_0 := blk_frozen BK519.out 0; have hfz28_1 := blk_frozen BK519.out 1) | ((with_reducible refine gate_callee (f := 26) rfl ?_); refine gl_ 8 Tryz.func26 #[.agg #[.slice A0_0 l0_0.length c0_0, .slice A0_1 l0_1.length c0_1]] ?_; (with_reducible refine (impl_isRegion.calls k _ _ l0_0 _ _ l0_1 false _ ?s1 ?s2 ?s3 ?s4 A2.out).mono ?_); (case s1 => exact qe02_ HR0_0.out); (case s2 => exact HC0_0.out); (case s3 => exact qe02_ HR0_1.out); (case s4 => exact HC0_1.out); rintro e w29 ⟨rfl, hb⟩; refine ⟨_, rfl, ?_⟩; replace BK519 := Aside0.mk (blk_below (g := gb519) (o := .cells #[.slice A0_0 l0_0.length c0_0, .slice A0_1 l0_1.length c0_1] 27 (0, 0)) q813_ hb); replace HB := Aside0.mk (below_step q086_ hb); clear hb))
  go_ret2
  exact ⟨_, qce7_, qf62_, q086_⟩

end Go.Proofs.YtgfcnfbbiaeboaaGreat.PAll
