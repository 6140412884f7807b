-- written by a program of this session (wip/gen/xpatch.py over the translation); Lean checks it
import Derived.Test.YtgfcnfbbiaeboaaGreatPAllx0
import Derived.Test.YtgfcnfbbiaeboaaGreatPAllx1
namespace Go.Proofs.YtgfcnfbbiaeboaaGreat.PAll
open Go.RowKit Go.Proofs.YtgfcnfbbiaeboaaGreat.Hand Go.Proofs.YtgfcnfbbiaeboaaGreatW.PrintWords Go.Proofs.YtgfcnfbbiaeboaaGreatW.PrintLast Go.Proofs.YtgfcnfbbiaeboaaGreatW.PrintMore
attribute [local go_sem] max2_int min2_int max_two min_two max_three min_three max_four min_four   -- for this text's walks alone
set_option maxHeartbeats 8000000
set_option maxRecDepth 100000
set_option linter.unusedVariables false
set_option linter.unusedSimpArgs false

/-! ### spec_reSorted: function 62 -/
mutual
def spec_reSorted.l0 : Nat → List Int → List Int → Int → Int → Option (List Int)
 | 0, _, _, _, _ => none
 | k + 1, x0, x3, x8, x9 => if x9 < x8 then (spec_reSorted.l1 k x0 x3 x9 0 x8 x9) else (some x3)
def spec_reSorted.l1 : Nat → List Int → List Int → Int → Int → Int → Int → Option (List Int)
 | 0, _, _, _, _, _, _ => none
 | k + 1, x0, x3, x4, x5, x8, x9 => if x5 < (x3.length : Int) then (if 0 ≤ x5 then (if 0 ≤ (rd x3 x5) then (if (rd x3 x5) < (x0.length : Int) then (if 0 ≤ x4 then (if x4 < (x0.length : Int) then (if (rd x0 (rd x3 x5)) > (rd x0 x4) then (spec_reSorted.l1 k x0 x3 x4 (wrap64 (x5 + 1)) x8 x9) else (if x5 ≤ (x3.length : Int) then ((spec_l1Own.f (x3.take (x5 : Int).toNat)).bind fun t328 => (if t328.length < 17592186044416 then ((some (t328 ++ [x4] : List Int)).bind fun y331 => ((some (x3.drop (x5 : Int).toNat : List Int)).bind fun y334 => (if y331.length + y334.length < 17592186044416 then (spec_reSorted.l0 k x0 (y331 ++ y334) x8 (wrap64 (x9 + 1))) else (none)))) else (none))) else (none))) else (none)) else (none)) else (none)) else (none)) else (none)) else (if 0 ≤ x5 then (if x5 ≤ (x3.length : Int) then ((spec_l1Own.f (x3.take (x5 : Int).toNat)).bind fun t345 => (if t345.length < 17592186044416 then ((some (t345 ++ [x4] : List Int)).bind fun y348 => ((some (x3.drop (x5 : Int).toNat : List Int)).bind fun y351 => (if y348.length + y351.length < 17592186044416 then (spec_reSorted.l0 k x0 (y348 ++ y351) x8 (wrap64 (x9 + 1))) else (none)))) else (none))) else (none)) else (none))
end
def spec_reSorted.f (k : Nat) (l0 : List Int) : Option (List Int) := spec_reSorted.l0 k l0 ([] : List Int) (l0.length : Int) 0
theorem spec_reSorted.mono_l : ∀ k, (∀ y0 y1 y2 y3, LeO (spec_reSorted.l0 k y0 y1 y2 y3) (spec_reSorted.l0 (k + 1) y0 y1 y2 y3)) ∧ (∀ y0 y1 y2 y3 y4 y5, LeO (spec_reSorted.l1 k y0 y1 y2 y3 y4 y5) (spec_reSorted.l1 (k + 1) y0 y1 y2 y3 y4 y5))
 | 0 => ⟨fun _ _ _ _ r h => by simp [spec_reSorted.l0] at h, fun _ _ _ _ _ _ r h => by simp [spec_reSorted.l1] at h⟩
 | k + 1 => by
  obtain ⟨ih0, ih1⟩ := spec_reSorted.mono_l k
  refine ⟨?_, ?_⟩
  ·
   intro y0 y1 y2 y3
   unfold spec_reSorted.l0
   repeat' (with_reducible first | exact ih0 _ _ _ _ | exact ih1 _ _ _ _ _ _ | exact LeO.refl _ | exact LeO.none _ | refine LeO.ite ?_ ?_ | refine LeO.bind ?_ (fun _ => ?_))
  ·
   intro y0 y1 y2 y3 y4 y5
   unfold spec_reSorted.l1
   repeat' (with_reducible first | exact ih0 _ _ _ _ | exact ih1 _ _ _ _ _ _ | exact LeO.refl _ | exact LeO.none _ | refine LeO.ite ?_ ?_ | refine LeO.bind ?_ (fun _ => ?_))
theorem spec_reSorted.mono : ∀ a0 k, LeO (spec_reSorted.f k a0) (spec_reSorted.f (k + 1) a0) := by
 intro a0 k
 obtain ⟨ih0, ih1⟩ := spec_reSorted.mono_l k
 unfold spec_reSorted.f
 repeat' (with_reducible first | exact ih0 _ _ _ _ | exact ih1 _ _ _ _ _ _ | exact LeO.refl _ | exact LeO.none _ | refine LeO.ite ?_ ?_ | refine LeO.bind ?_ (fun _ => ?_))
theorem spec_reSorted.calls (k : Nat) (A0 : Option Addr) (c0 : Nat) (l0 : List Int) (r : List Int) (w : World) (hr0 : Kd.C (Kd.int .i64) w A0 l0.length l0) (hc0 : l0.length ≤ c0) (h : spec_reSorted.f k l0 = some r) :
  Calls Tryz.prog 62 #[.slice A0 l0.length c0] w fun e w' => ∃ v0_ : Value, e = .returned (v0_) ∧ Kd.R (Kd.int .i64) 3 w' w.heap.size (fun _ => True) v0_ r ∧ Below w.heap.size w w' := by
 have HR0 := Aside0.mk hr0
 have HC0 := Aside0.mk hc0
 clear hr0 hc0
 have HB := Aside0.mk (Below.refl w.heap.size w)
 unfold spec_reSorted.f at h
 have H := h; clear h
 have H' := Aside0.mk H
 clear H
 go_enter Tryz.func62, Tryz.ntmps62
 go_wp2
 repeat (go_quiet (fail); try go_wp2)
 go_loopg [3, 9] k (fun kq v3 v9 w' => ∃ (x3_1 : List Int) (x9_1 : Int), v9 = .int .i64 x9_1 ∧ Aside0 (spec_reSorted.l0 kq l0 x3_1 (l0.length : Int) x9_1 = some r) ∧ Aside0 (kq ≤ k) ∧ Aside0 (Kd.R (Kd.int .i64) 3 w' w.heap.size (fun _ => True) v3 x3_1) ∧ Aside0 (Below w.heap.size w w'))
 case atStart => exact ⟨(([] : List Int)), (0), qc8f_, H', ⟨Nat.le_refl _⟩, ⟨qf62_⟩, ⟨q0c4_⟩⟩
 case round =>
  clear H'
  obtain ⟨x3_1, x9_1, rfl, HA, HK1, HO_3, HB⟩ := hrel
  cases gk with
  | zero => exact absurd HA.out (by simp [spec_reSorted.l0])
  | succ k1 =>
   have H := HA.out
   clear HA
   simp only [spec_reSorted.l0] at H
   by_cases c2 : x9_1 < (l0.length : Int)
   ·
    rw [if_pos c2] at H
    have c2b0 := decide_eq_true c2
    clear c2
    have H' := Aside0.mk H
    clear H
    go_wp2
    repeat (go_quiet (fail); try go_wp2)
    go_loopg [5] k1 (fun kq v5 w' => ∃ (x5_2 : Int), v5 = .int .i64 x5_2 ∧ Aside0 (spec_reSorted.l1 kq l0 x3_1 x9_1 x5_2 (l0.length : Int) x9_1 = some r) ∧ Aside0 (kq ≤ k1) ∧ Aside0 (Kd.R (Kd.int .i64) 3 w' w.heap.size (fun _ => True) u3 x3_1) ∧ Aside0 (Below w.heap.size w w'))
    case atStart => exact ⟨(0), qc8f_, H', ⟨Nat.le_refl _⟩, ⟨q9d5_ HO_3.out⟩, ⟨q0c4_⟩⟩
    case round =>
     clear H'; try clear c2; try clear c2b0; try clear p2
     obtain ⟨x5_2, rfl, HA, HK2, HO_3, HB⟩ := hrel
     cases gk with
     | zero => exact absurd HA.out (by simp [spec_reSorted.l1])
     | succ k2 =>
      have H := HA.out
      clear HA
      simp only [spec_reSorted.l1] at H
      by_cases c3 : x5_2 < (x3_1.length : Int)
      ·
       rw [if_pos c3] at H
       have c3b0 := decide_eq_true c3
       clear c3
       by_cases c4 : 0 ≤ x5_2
       ·
        rw [if_pos c4] at H
        have c4b0 := decide_eq_true c4
        clear c4
        by_cases c5 : 0 ≤ (rd x3_1 x5_2)
        ·
         rw [if_pos c5] at H
         have c5b0 := decide_eq_true c5
         clear c5
         by_cases c6 : (rd x3_1 x5_2) < (l0.length : Int)
         ·
          rw [if_pos c6] at H
          have c6b0 := decide_eq_true c6
          clear c6
          by_cases c7 : 0 ≤ x9_1
          ·
           rw [if_pos c7] at H
           have c7b0 := decide_eq_true c7
           clear c7
           by_cases c8 : x9_1 < (l0.length : Int)
           ·
            rw [if_pos c8] at H
            have c8b0 := decide_eq_true c8
            clear c8
            by_cases c9 : (rd l0 (rd x3_1 x5_2)) > (rd l0 x9_1)
            ·
             rw [if_pos c9] at H
             have c9b0 := decide_eq_true c9
             clear c9
             have H' := Aside0.mk H
             clear H
             obtain ⟨Ao10, co10, eo10⟩ := Kd.R_slice HO_3.out
             subst eo10
             have p321 : 0 ≤ (x5_2 : Int) := of_decide_eq_true qe84_
             have q321 : x5_2 < (x3_1.length : Int) := of_decide_eq_true qe84_
             obtain ⟨ad321, e321, hx321_0⟩ := Kd.at_int (Kd.R_reads' HO_3.out).2.2 x5_2 p321 q321
             cases e321
             replace p321 := eq_true p321
             replace q321 := eq_true q321
             have p322 : 0 ≤ ((rd x3_1 x5_2) : Int) := of_decide_eq_true qe84_
             have q322 : (rd x3_1 x5_2) < (l0.length : Int) := of_decide_eq_true qe84_
             obtain ⟨ad322, e322, hx322_0⟩ := Kd.at_int HR0.out (rd x3_1 x5_2) p322 q322
             cases e322
             (try (replace hx322_0 := (HB.out.cell (World.block_lt_of_cell? w _ hx322_0)).trans hx322_0))
             replace p322 := eq_true p322
             replace q322 := eq_true q322
             have p323 : 0 ≤ (x9_1 : Int) := of_decide_eq_true qe84_
             have q323 : x9_1 < (l0.length : Int) := of_decide_eq_true qe84_
             obtain ⟨ad323, e323, hx323_0⟩ := Kd.at_int HR0.out x9_1 p323 q323
             obtain rfl : ad322 = ad323 := (by injection e323)
             (try (replace hx323_0 := (HB.out.cell (World.block_lt_of_cell? w _ hx323_0)).trans hx323_0))
             replace p323 := eq_true p323
             replace q323 := eq_true q323
             go_wp2
             repeat (go_quiet (fail); try go_wp2)
             go_roundg k2
             case measure => have := HK1.out; have := HK2.out; omega
             case rel => exact ⟨(wrap64 (x5_2 + 1)), qc8f_, H', ⟨q37b_ HK1.out HK2.out⟩, ⟨q9d5_ HO_3.out⟩, ⟨q0c4_⟩⟩
            ·
             rw [if_neg c9] at H
             have c9b0 := decide_eq_false c9
             clear c9
             have c11b0 := eq_true (of_decide_eq_true qe84_ : 0 ≤ x5_2)
             by_cases c12 : x5_2 ≤ (x3_1.length : Int)
             ·
              rw [if_pos c12] at H
              have c12b0 := eq_true c12
              have c12b1 := decide_eq_true c12
              clear c12
              obtain ⟨y324, hy324⟩ : ∃ y_ : List Int, y_ = (x3_1.take (x5_2 : Int).toNat) := ⟨_, rfl⟩
              replace H : ((spec_l1Own.f y324).bind fun t328 => (if t328.length < 17592186044416 then ((some (t328 ++ [x9_1] : List Int)).bind fun y331 => ((some (x3_1.drop (x5_2 : Int).toNat : List Int)).bind fun y334 => (if y331.length + y334.length < 17592186044416 then (spec_reSorted.l0 k2 l0 (y331 ++ y334) (l0.length : Int) (wrap64 (x9_1 + 1))) else (none)))) else (none))) = some r := by first | (rw [hy324]; with_reducible exact H) | (have H2_ := (Option.bind_some _ _).symm.trans H; rw [hy324]; with_reducible exact H2_) | (have H2_ := (Option.bind_some _ _).symm.trans H; with_reducible exact H2_) | with_reducible exact H | (rw [hy324]; exact H) | exact H
              have Ny324 := Aside0.mk hy324
              clear hy324
              obtain ⟨t328, A13, H⟩ := ob_ H
              by_cases c14 : t328.length < 17592186044416
              ·
               rw [if_pos c14] at H
               have LMc14 := Aside0.mk c14
               clear c14
               obtain ⟨y331, hy331⟩ : ∃ y_ : List Int, y_ = (t328 ++ [x9_1]) := ⟨_, rfl⟩
               replace H : ((some (x3_1.drop (x5_2 : Int).toNat : List Int)).bind fun y334 => (if y331.length + y334.length < 17592186044416 then (spec_reSorted.l0 k2 l0 (y331 ++ y334) (l0.length : Int) (wrap64 (x9_1 + 1))) else (none))) = some r := by first | (rw [hy331]; with_reducible exact H) | (have H2_ := (Option.bind_some _ _).symm.trans H; rw [hy331]; with_reducible exact H2_) | (have H2_ := (Option.bind_some _ _).symm.trans H; with_reducible exact H2_) | with_reducible exact H | (rw [hy331]; exact H) | exact H
               have Ny331 := Aside0.mk hy331
               clear hy331
               have c15b0 := eq_true (of_decide_eq_true qe84_ : 0 ≤ x5_2)
               have c16b0 := eq_true (of_decide_eq_true qe84_ : x5_2 ≤ (x3_1.length : Int))
               obtain ⟨y334, hy334⟩ : ∃ y_ : List Int, y_ = (x3_1.drop (x5_2 : Int).toNat) := ⟨_, rfl⟩
               replace H : (if y331.length + y334.length < 17592186044416 then (spec_reSorted.l0 k2 l0 (y331 ++ y334) (l0.length : Int) (wrap64 (x9_1 + 1))) else (none)) = some r := by first | (rw [hy334]; with_reducible exact H) | (have H2_ := (Option.bind_some _ _).symm.trans H; rw [hy334]; with_reducible exact H2_) | (have H2_ := (Option.bind_some _ _).symm.trans H; with_reducible exact H2_) | with_reducible exact H | (rw [hy334]; exact H) | exact H
               have Ny334 := Aside0.mk hy334
               clear hy334
               by_cases c17 : y331.length + y334.length < 17592186044416
               ·
                rw [if_pos c17] at H
                have LMc17 := Aside0.mk c17
                clear c17
                obtain ⟨y338, hy338⟩ : ∃ y_ : List Int, y_ = (y331 ++ y334) := ⟨_, rfl⟩
                replace H : (spec_reSorted.l0 k2 l0 y338 (l0.length : Int) (wrap64 (x9_1 + 1))) = some r := by first | (rw [hy338]; with_reducible exact H) | (have H2_ := (Option.bind_some _ _).symm.trans H; rw [hy338]; with_reducible exact H2_) | (have H2_ := (Option.bind_some _ _).symm.trans H; with_reducible exact H2_) | with_reducible exact H | (rw [hy338]; exact H) | exact H
                have Ny338 := Aside0.mk hy338
                clear hy338
                have H' := Aside0.mk H
                clear H
                obtain ⟨Ao18, co18, eo18⟩ := Kd.R_slice HO_3.out
                subst eo18
                have p321 : 0 ≤ (x5_2 : Int) := of_decide_eq_true qe84_
                have q321 : x5_2 < (x3_1.length : Int) := of_decide_eq_true qe84_
                obtain ⟨ad321, e321, hx321_0⟩ := Kd.at_int (Kd.R_reads' HO_3.out).2.2 x5_2 p321 q321
                cases e321
                replace p321 := eq_true p321
                replace q321 := eq_true q321
                have p322 : 0 ≤ ((rd x3_1 x5_2) : Int) := of_decide_eq_true qe84_
                have q322 : (rd x3_1 x5_2) < (l0.length : Int) := of_decide_eq_true qe84_
                obtain ⟨ad322, e322, hx322_0⟩ := Kd.at_int HR0.out (rd x3_1 x5_2) p322 q322
                cases e322
                (try (replace hx322_0 := (HB.out.cell (World.block_lt_of_cell? w _ hx322_0)).trans hx322_0))
                replace p322 := eq_true p322
                replace q322 := eq_true q322
                have p323 : 0 ≤ (x9_1 : Int) := of_decide_eq_true qe84_
                have q323 : x9_1 < (l0.length : Int) := of_decide_eq_true qe84_
                obtain ⟨ad323, e323, hx323_0⟩ := Kd.at_int HR0.out x9_1 p323 q323
                obtain rfl : ad322 = ad323 := (by injection e323)
                (try (replace hx323_0 := (HB.out.cell (World.block_lt_of_cell? w _ hx323_0)).trans hx323_0))
                replace p323 := eq_true p323
                replace q323 := eq_true q323
                have q19 : (x5_2 : Int) ≤ ((x3_1.length : Int) : Int) := of_decide_eq_true qe84_
                obtain ⟨i019, hi019, _, hsz19, _⟩ := info_parts info3
                have hroom19 : x3_1.length ≤ co18 := (Kd.R_reads' HO_3.out).2.1
                have hC19 : Kd.C (Kd.int .i64) _ (some ad321) x3_1.length x3_1 := (Kd.R_reads' HO_3.out).2.2
                have hcut19 := cut_to (P := Tryz.prog) 24 3 .i64 Tryz.underlying24 hi019 (some ad321) x3_1.length co18 x5_2 (of_decide_eq_true qe84_) q19 hroom19
                have hr19 := Kd.C_take (m := (x5_2 : Int).toNat) hC19 (by omega)
                have hy19 : y324.length = (x5_2 : Int).toNat := (by rw [Ny324.out, List.length_take]; omega)
                rw [← Ny324.out] at hr19
                rw [← hy19] at hcut19
                have HR327 := Aside0.mk hr19
                have HC327 := Aside0.mk (show y324.length ≤ co18 from by omega)
                clear hr19 hC19 hroom19 hi019 hsz19
                have KY19 := Aside0.mk hy19
                clear hy19
                have KL19 := Aside0.mk (show (x5_2 : Int).toNat ≤ x3_1.length from by omega)
                replace q19 := eq_true q19
                have zz_ := trivial
                repeat (clear zz_; go_wp2_with (first | (go_at_call 36; (with_reducible refine (spec_l1Own.calls _ _ y324 t328 _ ?s1 ?s2 A13.out).mono ?_); (case s1 => exact qe8c_ HR327.out); (case s2 => exact HC327.out); rintro e w20 ⟨v329, rfl, ho0, hb⟩; have n0_ := Aside0.mk (Kd.R_elder' (q9d5_ HO_3.out) (Kd.R_base ho0) hb); have n1_ := Aside0.mk (Kd.R_lower (Kd.R_new' ho0 (Kd.R_lt (q9d5_ HO_3.out))) (below_size q0c4_)); have n2_ := Aside0.mk (Kd.C_below (q75a_ HR327.out) hb); have n3_ := Aside0.mk (below_step q0c4_ hb); replace HO_3 := n0_; have HO330 := n1_; replace HR327 := n2_; replace HB := n3_; clear n0_ n1_ n2_ n3_; clear hb ho0) | ((with_reducible refine gate_builtin (b := .append) (xs := #[.tmp 35, .tmp 37]) rfl ?_); at_builtin; refine Kd.R_append (Kd.int .i64) (w0 := w) w.heap.size rfl (.tmp 35) (.tmp 37) 24 3 (.int .i64 0) 8 rfl Tryz.underlying24 info3 rfl (by decide) (by omega) v329 t328 x9_1 [.int .i64 x9_1] (fun k_ => some k_ ≠ (.slice (some ad321) x3_1.length co18 : Value).ownBlock) (fun _ => False) rfl rfl ?aP (fun _ hk => hk.elim) ?aF ?aO ?aB ?aS ?aL ?_; (case aP => exact rfl); (case aB => exact q0c4_); (case aF => exact (fun k_ hk => Kd.fresh' (Kd.R_lt (q9d5_ HO_3.out)) k_ hk)); (case aO => exact (qe0f_ HO330.out)); (case aS => exact (below_size q0c4_)); (case aL => have := LMc14.out; omega); intro v332 w21 ho hb hg hat; rw [← Ny331.out] at ho; have n0_ := Aside0.mk (Kd.R_after (ok := (fun _ => True)) (q9d5_ HO_3.out) hg hat); have n1_ := Aside0.mk (hb); have n2_ := Aside0.mk ((show Kd.C (Kd.int .i64) w21 (some ad321) y324.length y324 from qb32_ HO_3.out)); have n3_ := Aside0.mk (ho); replace HO_3 := n0_; replace HB := n1_; replace HR327 := n2_; have HO333 := n3_; clear n0_ n1_ n2_ n3_; clear ho hb hg hat; have q22 : (x5_2 : Int) ≤ ((x3_1.length : Int) : Int) := of_decide_eq_true qe84_; obtain ⟨i022, hi022, _, hsz22, _⟩ := info_parts info3; have hroom22 : x3_1.length ≤ co18 := (Kd.R_reads' HO_3.out).2.1; have hC22 : Kd.C (Kd.int .i64) _ (some ad321) x3_1.length x3_1 := (Kd.R_reads' HO_3.out).2.2; have q022 : (0 : Int) ≤ (x5_2 : Int) := of_decide_eq_true qe84_; have hcut22 := cut_from (P := Tryz.prog) 24 3 .i64 Tryz.underlying24 hi022 1 hsz22 (some ad321) x3_1.length co18 x5_2 q022 q22; have hr22 := Kd.C_drop (m := (x5_2 : Int).toNat) (c := co18) hC22 (by omega) hroom22; obtain ⟨A22, hA22⟩ : ∃ A1, A1 = (if co18 = (x5_2 : Int).toNat then (some ad321) else ((some ad321) : Option Addr).map (·.add ((x5_2 : Int).toNat * 1))) := ⟨_, rfl⟩; obtain ⟨c22, hc22⟩ : ∃ c1, c1 = co18 - (x5_2 : Int).toNat := ⟨_, rfl⟩; have hy22 : y334.length = x3_1.length - (x5_2 : Int).toNat := (by rw [Ny334.out, List.length_drop] <;> omega); rw [show (x3_1).drop (x5_2 : Int).toNat = y334 from Ny334.out.symm] at hr22; replace hr22 : Kd.C (Kd.int .i64) _ A22 y334.length y334 := (by rw [hA22]; exact hr22); rw [← hy22, ← hA22, ← hc22] at hcut22; have HR337 := Aside0.mk hr22; have HC337 := Aside0.mk (show y334.length ≤ c22 from by rw [hy22, hc22]; exact Nat.sub_le_sub_right hroom22 _); clear hr22 hC22 hroom22 hi022 hsz22 hc22; have KY22 := Aside0.mk hy22; have KA22 := Aside0.mk hA22; clear hy22 hA22; have KL22 := Aside0.mk (show (x5_2 : Int).toNat ≤ x3_1.length from by omega); replace q22 := eq_true q22) | ((with_reducible refine gate_builtin (b := .append) (xs := #[.tmp 39, .tmp 42]) rfl ?_); at_builtin; refine Kd.R_append_rows (Kd.int .i64) (w0 := w) w.heap.size rfl (.tmp 39) (.tmp 42) 24 3 (.int .i64 0) 8 rfl Tryz.underlying24 info3 rfl (by decide) (by omega) v332 y331 y334 _ _ _ (fun k_ => some k_ ≠ (.slice (some ad321) x3_1.length co18 : Value).ownBlock) (fun _ => False) rfl rfl ?aO ?aR (fun _ _ h => h) (fun _ h => h.elim) ?aF ?aB ?aS ?aL ?_; (case aR => exact qe8c_ HR337.out); (case aB => exact q0c4_); (case aF => exact (fun k_ hk => Kd.fresh' (Kd.R_lt (q9d5_ HO_3.out)) k_ hk)); (case aO => exact (q9d5_ HO333.out)); (case aS => exact (below_size q0c4_)); (case aL => have := LMc17.out; omega); intro v339 w23 ho hb hg hat; rw [← Ny338.out] at ho; have n0_ := Aside0.mk (Kd.R_after (ok := (fun _ => True)) (q9d5_ HO_3.out) hg hat); have n1_ := Aside0.mk (hb); have n2_ := Aside0.mk ((show Kd.C (Kd.int .i64) w23 (some ad321) y324.length y324 from qb32_ HO_3.out)); have n3_ := Aside0.mk ((show Kd.C (Kd.int .i64) w23 A22 y334.length y334 from by rw [Ny334.out, KA22.out]; exact Kd.C_drop (m := (x5_2 : Int).toNat) (c := co18) ((Kd.R_reads' (Kd.R_after (ok := (fun _ => True)) (q9d5_ HO_3.out) hg hat)).2.2) KL22.out ((Kd.R_reads' (Kd.R_after (ok := (fun _ => True)) (q9d5_ HO_3.out) hg hat)).2.1))); have n4_ := Aside0.mk (ho); replace HO_3 := n0_; replace HB := n1_; replace HR327 := n2_; replace HR337 := n3_; have HO340 := n4_; clear n0_ n1_ n2_ n3_ n4_; clear ho hb hg hat)); try (go_quiet (fail); have zz_ := trivial))
                go_roundg k2
                case measure => have := HK1.out; have := HK2.out; omega
                case rel => exact ⟨(y338), (wrap64 (x9_1 + 1)), qc8f_, H', ⟨q37b_ HK1.out HK2.out⟩, ⟨q7d9_ HO340.out⟩, ⟨q0c4_⟩⟩
               ·
                rw [if_neg c17] at H
                exact absurd H (by simp)
              ·
               rw [if_neg c14] at H
               exact absurd H (by simp)
             ·
              rw [if_neg c12] at H
              exact absurd H (by simp)
           ·
            rw [if_neg c8] at H
            exact absurd H (by simp)
          ·
           rw [if_neg c7] at H
           exact absurd H (by simp)
         ·
          rw [if_neg c6] at H
          exact absurd H (by simp)
        ·
         rw [if_neg c5] at H
         exact absurd H (by simp)
       ·
        rw [if_neg c4] at H
        exact absurd H (by simp)
      ·
       rw [if_neg c3] at H
       have c3b0 := decide_eq_false c3
       clear c3
       by_cases c24 : 0 ≤ x5_2
       ·
        rw [if_pos c24] at H
        have c24b0 := eq_true c24
        have c24b1 := decide_eq_true c24
        clear c24
        by_cases c25 : x5_2 ≤ (x3_1.length : Int)
        ·
         rw [if_pos c25] at H
         have c25b0 := eq_true c25
         have c25b1 := decide_eq_true c25
         clear c25
         obtain ⟨y341, hy341⟩ : ∃ y_ : List Int, y_ = (x3_1.take (x5_2 : Int).toNat) := ⟨_, rfl⟩
         replace H : ((spec_l1Own.f y341).bind fun t345 => (if t345.length < 17592186044416 then ((some (t345 ++ [x9_1] : List Int)).bind fun y348 => ((some (x3_1.drop (x5_2 : Int).toNat : List Int)).bind fun y351 => (if y348.length + y351.length < 17592186044416 then (spec_reSorted.l0 k2 l0 (y348 ++ y351) (l0.length : Int) (wrap64 (x9_1 + 1))) else (none)))) else (none))) = some r := by first | (rw [hy341]; with_reducible exact H) | (have H2_ := (Option.bind_some _ _).symm.trans H; rw [hy341]; with_reducible exact H2_) | (have H2_ := (Option.bind_some _ _).symm.trans H; with_reducible exact H2_) | with_reducible exact H | (rw [hy341]; exact H) | exact H
         have Ny341 := Aside0.mk hy341
         clear hy341
         obtain ⟨t345, A26, H⟩ := ob_ H
         by_cases c27 : t345.length < 17592186044416
         ·
          rw [if_pos c27] at H
          have LMc27 := Aside0.mk c27
          clear c27
          obtain ⟨y348, hy348⟩ : ∃ y_ : List Int, y_ = (t345 ++ [x9_1]) := ⟨_, rfl⟩
          replace H : ((some (x3_1.drop (x5_2 : Int).toNat : List Int)).bind fun y351 => (if y348.length + y351.length < 17592186044416 then (spec_reSorted.l0 k2 l0 (y348 ++ y351) (l0.length : Int) (wrap64 (x9_1 + 1))) else (none))) = some r := by first | (rw [hy348]; with_reducible exact H) | (have H2_ := (Option.bind_some _ _).symm.trans H; rw [hy348]; with_reducible exact H2_) | (have H2_ := (Option.bind_some _ _).symm.trans H; with_reducible exact H2_) | with_reducible exact H | (rw [hy348]; exact H) | exact H
          have Ny348 := Aside0.mk hy348
          clear hy348
          have c28b0 := eq_true (of_decide_eq_true qe84_ : 0 ≤ x5_2)
          have c29b0 := eq_true (of_decide_eq_true qe84_ : x5_2 ≤ (x3_1.length : Int))
          obtain ⟨y351, hy351⟩ : ∃ y_ : List Int, y_ = (x3_1.drop (x5_2 : Int).toNat) := ⟨_, rfl⟩
          replace H : (if y348.length + y351.length < 17592186044416 then (spec_reSorted.l0 k2 l0 (y348 ++ y351) (l0.length : Int) (wrap64 (x9_1 + 1))) else (none)) = some r := by first | (rw [hy351]; with_reducible exact H) | (have H2_ := (Option.bind_some _ _).symm.trans H; rw [hy351]; with_reducible exact H2_) | (have H2_ := (Option.bind_some _ _).symm.trans H; with_reducible exact H2_) | with_reducible exact H | (rw [hy351]; exact H) | exact H
          have Ny351 := Aside0.mk hy351
          clear hy351
          by_cases c30 : y348.length + y351.length < 17592186044416
          ·
           rw [if_pos c30] at H
           have LMc30 := Aside0.mk c30
           clear c30
           obtain ⟨y355, hy355⟩ : ∃ y_ : List Int, y_ = (y348 ++ y351) := ⟨_, rfl⟩
           replace H : (spec_reSorted.l0 k2 l0 y355 (l0.length : Int) (wrap64 (x9_1 + 1))) = some r := by first | (rw [hy355]; with_reducible exact H) | (have H2_ := (Option.bind_some _ _).symm.trans H; rw [hy355]; with_reducible exact H2_) | (have H2_ := (Option.bind_some _ _).symm.trans H; with_reducible exact H2_) | with_reducible exact H | (rw [hy355]; exact H) | exact H
           have Ny355 := Aside0.mk hy355
           clear hy355
           have H' := Aside0.mk H
           clear H
           obtain ⟨Ao31, co31, eo31⟩ := Kd.R_slice HO_3.out
           subst eo31
           have q32 : (x5_2 : Int) ≤ ((x3_1.length : Int) : Int) := of_decide_eq_true qe84_
           obtain ⟨i032, hi032, _, hsz32, _⟩ := info_parts info3
           have hroom32 : x3_1.length ≤ co31 := (Kd.R_reads' HO_3.out).2.1
           have hC32 : Kd.C (Kd.int .i64) _ Ao31 x3_1.length x3_1 := (Kd.R_reads' HO_3.out).2.2
           have hcut32 := cut_to (P := Tryz.prog) 24 3 .i64 Tryz.underlying24 hi032 Ao31 x3_1.length co31 x5_2 (of_decide_eq_true qe84_) q32 hroom32
           have hr32 := Kd.C_take (m := (x5_2 : Int).toNat) hC32 (by omega)
           have hy32 : y341.length = (x5_2 : Int).toNat := (by rw [Ny341.out, List.length_take]; omega)
           rw [← Ny341.out] at hr32
           rw [← hy32] at hcut32
           have HR344 := Aside0.mk hr32
           have HC344 := Aside0.mk (show y341.length ≤ co31 from by omega)
           clear hr32 hC32 hroom32 hi032 hsz32
           have KY32 := Aside0.mk hy32
           clear hy32
           have KL32 := Aside0.mk (show (x5_2 : Int).toNat ≤ x3_1.length from by omega)
           replace q32 := eq_true q32
           have zz_ := trivial
           repeat (clear zz_; go_wp2_with (first | (go_at_call 36; (with_reducible refine (spec_l1Own.calls _ _ y341 t345 _ ?s1 ?s2 A26.out).mono ?_); (case s1 => exact qe8c_ HR344.out); (case s2 => exact HC344.out); rintro e w33 ⟨v346, rfl, ho0, hb⟩; have n0_ := Aside0.mk (Kd.R_elder' (q9d5_ HO_3.out) (Kd.R_base ho0) hb); have n1_ := Aside0.mk (Kd.R_lower (Kd.R_new' ho0 (Kd.R_lt (q9d5_ HO_3.out))) (below_size q0c4_)); have n2_ := Aside0.mk (Kd.C_below (q75a_ HR344.out) hb); have n3_ := Aside0.mk (below_step q0c4_ hb); replace HO_3 := n0_; have HO347 := n1_; replace HR344 := n2_; replace HB := n3_; clear n0_ n1_ n2_ n3_; clear hb ho0) | ((with_reducible refine gate_builtin (b := .append) (xs := #[.tmp 35, .tmp 37]) rfl ?_); at_builtin; refine Kd.R_append (Kd.int .i64) (w0 := w) w.heap.size rfl (.tmp 35) (.tmp 37) 24 3 (.int .i64 0) 8 rfl Tryz.underlying24 info3 rfl (by decide) (by omega) v346 t345 x9_1 [.int .i64 x9_1] (fun k_ => some k_ ≠ (.slice Ao31 x3_1.length co31 : Value).ownBlock) (fun _ => False) rfl rfl ?aP (fun _ hk => hk.elim) ?aF ?aO ?aB ?aS ?aL ?_; (case aP => exact rfl); (case aB => exact q0c4_); (case aF => exact (fun k_ hk => Kd.fresh' (Kd.R_lt (q9d5_ HO_3.out)) k_ hk)); (case aO => exact (qe0f_ HO347.out)); (case aS => exact (below_size q0c4_)); (case aL => have := LMc27.out; omega); intro v349 w34 ho hb hg hat; rw [← Ny348.out] at ho; have n0_ := Aside0.mk (Kd.R_after (ok := (fun _ => True)) (q9d5_ HO_3.out) hg hat); have n1_ := Aside0.mk (hb); have n2_ := Aside0.mk ((show Kd.C (Kd.int .i64) w34 Ao31 y341.length y341 from qcbe_ HO_3.out)); have n3_ := Aside0.mk (ho); replace HO_3 := n0_; replace HB := n1_; replace HR344 := n2_; have HO350 := n3_; clear n0_ n1_ n2_ n3_; clear ho hb hg hat; have q35 : (x5_2 : Int) ≤ ((x3_1.length : Int) : Int) := of_decide_eq_true qe84_; obtain ⟨i035, hi035, _, hsz35, _⟩ := info_parts info3; have hroom35 : x3_1.length ≤ co31 := (Kd.R_reads' HO_3.out).2.1; have hC35 : Kd.C (Kd.int .i64) _ Ao31 x3_1.length x3_1 := (Kd.R_reads' HO_3.out).2.2; have q035 : (0 : Int) ≤ (x5_2 : Int) := of_decide_eq_true qe84_; have hcut35 := cut_from (P := Tryz.prog) 24 3 .i64 Tryz.underlying24 hi035 1 hsz35 Ao31 x3_1.length co31 x5_2 q035 q35; have hr35 := Kd.C_drop (m := (x5_2 : Int).toNat) (c := co31) hC35 (by omega) hroom35; obtain ⟨A35, hA35⟩ : ∃ A1, A1 = (if co31 = (x5_2 : Int).toNat then Ao31 else (Ao31 : Option Addr).map (·.add ((x5_2 : Int).toNat * 1))) := ⟨_, rfl⟩; obtain ⟨c35, hc35⟩ : ∃ c1, c1 = co31 - (x5_2 : Int).toNat := ⟨_, rfl⟩; have hy35 : y351.length = x3_1.length - (x5_2 : Int).toNat := (by rw [Ny351.out, List.length_drop] <;> omega); rw [show (x3_1).drop (x5_2 : Int).toNat = y351 from Ny351.out.symm] at hr35; replace hr35 : Kd.C (Kd.int .i64) _ A35 y351.length y351 := (by rw [hA35]; exact hr35); rw [← hy35, ← hA35, ← hc35] at hcut35; have HR354 := Aside0.mk hr35; have HC354 := Aside0.mk (show y351.length ≤ c35 from by rw [hy35, hc35]; exact Nat.sub_le_sub_right hroom35 _); clear hr35 hC35 hroom35 hi035 hsz35 hc35; have KY35 := Aside0.mk hy35; have KA35 := Aside0.mk hA35; clear hy35 hA35; have KL35 := Aside0.mk (show (x5_2 : Int).toNat ≤ x3_1.length from by omega); replace q35 := eq_true q35) | ((with_reducible refine gate_builtin (b := .append) (xs := #[.tmp 39, .tmp 42]) rfl ?_); at_builtin; refine Kd.R_append_rows (Kd.int .i64) (w0 := w) w.heap.size rfl (.tmp 39) (.tmp 42) 24 3 (.int .i64 0) 8 rfl Tryz.underlying24 info3 rfl (by decide) (by omega) v349 y348 y351 _ _ _ (fun k_ => some k_ ≠ (.slice Ao31 x3_1.length co31 : Value).ownBlock) (fun _ => False) rfl rfl ?aO ?aR (fun _ _ h => h) (fun _ h => h.elim) ?aF ?aB ?aS ?aL ?_; (case aR => exact qe8c_ HR354.out); (case aB => exact q0c4_); (case aF => exact (fun k_ hk => Kd.fresh' (Kd.R_lt (q9d5_ HO_3.out)) k_ hk)); (case aO => exact (q9d5_ HO350.out)); (case aS => exact (below_size q0c4_)); (case aL => have := LMc30.out; omega); intro v356 w36 ho hb hg hat; rw [← Ny355.out] at ho; have n0_ := Aside0.mk (Kd.R_after (ok := (fun _ => True)) (q9d5_ HO_3.out) hg hat); have n1_ := Aside0.mk (hb); have n2_ := Aside0.mk ((show Kd.C (Kd.int .i64) w36 Ao31 y341.length y341 from qcbe_ HO_3.out)); have n3_ := Aside0.mk ((show Kd.C (Kd.int .i64) w36 A35 y351.length y351 from by rw [Ny351.out, KA35.out]; exact Kd.C_drop (m := (x5_2 : Int).toNat) (c := co31) ((Kd.R_reads' (Kd.R_after (ok := (fun _ => True)) (q9d5_ HO_3.out) hg hat)).2.2) KL35.out ((Kd.R_reads' (Kd.R_after (ok := (fun _ => True)) (q9d5_ HO_3.out) hg hat)).2.1))); have n4_ := Aside0.mk (ho); replace HO_3 := n0_; replace HB := n1_; replace HR344 := n2_; replace HR354 := n3_; have HO357 := n4_; clear n0_ n1_ n2_ n3_ n4_; clear ho hb hg hat)); try (go_quiet (fail); have zz_ := trivial))
           go_roundg k2
           case measure => have := HK1.out; have := HK2.out; omega
           case rel => exact ⟨(y355), (wrap64 (x9_1 + 1)), qc8f_, H', ⟨q37b_ HK1.out HK2.out⟩, ⟨q7d9_ HO357.out⟩, ⟨q0c4_⟩⟩
          ·
           rw [if_neg c30] at H
           exact absurd H (by simp)
         ·
          rw [if_neg c27] at H
          exact absurd H (by simp)
        ·
         rw [if_neg c25] at H
         exact absurd H (by simp)
       ·
        rw [if_neg c24] at H
        exact absurd H (by simp)
   ·
    rw [if_neg c2] at H
    have c2b0 := decide_eq_false c2
    clear c2
    obtain rfl := Option.some.inj H
    go_wp2
    repeat (go_quiet (fail); try go_wp2)
    go_ret
    exact ⟨_, qce7_, q9d5_ HO_3.out, q0c4_⟩

/-! ### spec_l1Most: function 63 -/
def spec_l1Most.f (a0 : Int) (a1 : Int) : Option (Int) := if a0 > a1 then (some a0) else (some a1)
theorem spec_l1Most.calls (a0 : Int) (a1 : Int) (r : Int) (w : World) (h : spec_l1Most.f a0 a1 = some r) :
  Calls Tryz.prog 63 #[.int .i64 a0, .int .i64 a1] w fun e w' => e = .returned (.int .i64 r) ∧ Drawn0 w w' := by
 unfold spec_l1Most.f at h
 have H := h; clear h
 by_cases c3 : a0 > a1
 ·
  rw [if_pos c3] at H
  have c3b0 := decide_eq_true c3
  clear c3
  obtain rfl := Option.some.inj H
  go_enter Tryz.func63, Tryz.ntmps63
  go_wp2
  go_ret
  exact ⟨qc8f_, qffa_⟩
 ·
  rw [if_neg c3] at H
  have c3b0 := decide_eq_false c3
  clear c3
  obtain rfl := Option.some.inj H
  go_enter Tryz.func63, Tryz.ntmps63
  go_wp2
  go_ret
  exact ⟨qc8f_, qffa_⟩

/-! ### spec_reOf: function 46 -/
mutual
def spec_reOf.l0 : Nat → List Int → Int → List Int → Int → Int → List Int → List Int → Option (List Int × List Int)
 | 0, _, _, _, _, _, _, _ => none
 | k + 1, x0, x4, x13, x14, x15, x363000, x363001 => if x15 < x14 then (if 0 ≤ x15 then (if x15 < (x13.length : Int) then (if x15 ≤ (x363000.length : Int) then ((some (x363000.take (x15 : Int).toNat : List Int)).bind fun y364 => (spec_reOf.l1 k x0 x4 (rd x13 x15) x13 x14 x15 y364 (y364.length : Int) 0 x363000 x363001)) else (none)) else (none)) else (none)) else (some (x363000, x363001))
def spec_reOf.l1 : Nat → List Int → Int → Int → List Int → Int → Int → List Int → Int → Int → List Int → List Int → Option (List Int × List Int)
 | 0, _, _, _, _, _, _, _, _, _, _, _ => none
 | k + 1, x0, x4, x6, x13, x14, x15, x23, x24, x25, x363000, x363001 => if x25 < x24 then (if 0 ≤ x25 then (if x25 < (x23.length : Int) then (if (rd x23 x25) < x6 then (if 0 ≤ (rd x23 x25) then (if (rd x23 x25) < (x0.length : Int) then (if 0 ≤ x6 then (if x6 < (x0.length : Int) then (if (wrap64 ((rd x0 (rd x23 x25)) - (rd x0 x6))) > 100 then ((spec_l1Most.f x4 (wrap64 (x25 + 1))).bind fun t371 => (spec_reOf.l1 k x0 t371 x6 x13 x14 x15 x23 x24 (wrap64 (x25 + 1)) x363000 x363001)) else (spec_reOf.l1 k x0 x4 x6 x13 x14 x15 x23 x24 (wrap64 (x25 + 1)) x363000 x363001)) else (none)) else (none)) else (none)) else (none)) else (spec_reOf.l1 k x0 x4 x6 x13 x14 x15 x23 x24 (wrap64 (x25 + 1)) x363000 x363001)) else (none)) else (none)) else (if x363001.length < 17592186044416 then (spec_reOf.l0 k x0 x4 x13 x14 (wrap64 (x15 + 1)) x363000 (x363001 ++ [x4])) else (none))
end
def spec_reOf.f (k : Nat) (l0 : List Int) : Option (List Int × List Int) := (spec_reSorted.f k l0).bind fun t359 => (spec_reOf.l0 k l0 0 t359 (t359.length : Int) 0 t359 ([] : List Int))
theorem spec_reOf.mono_l : ∀ k, (∀ y0 y1 y2 y3 y4 y5 y6, LeO (spec_reOf.l0 k y0 y1 y2 y3 y4 y5 y6) (spec_reOf.l0 (k + 1) y0 y1 y2 y3 y4 y5 y6)) ∧ (∀ y0 y1 y2 y3 y4 y5 y6 y7 y8 y9 y10, LeO (spec_reOf.l1 k y0 y1 y2 y3 y4 y5 y6 y7 y8 y9 y10) (spec_reOf.l1 (k + 1) y0 y1 y2 y3 y4 y5 y6 y7 y8 y9 y10))
 | 0 => ⟨fun _ _ _ _ _ _ _ r h => by simp [spec_reOf.l0] at h, fun _ _ _ _ _ _ _ _ _ _ _ r h => by simp [spec_reOf.l1] at h⟩
 | k + 1 => by
  obtain ⟨ih0, ih1⟩ := spec_reOf.mono_l k
  refine ⟨?_, ?_⟩
  ·
   intro y0 y1 y2 y3 y4 y5 y6
   unfold spec_reOf.l0
   repeat' (with_reducible first | exact ih0 _ _ _ _ _ _ _ | exact ih1 _ _ _ _ _ _ _ _ _ _ _ | exact spec_reSorted.mono _ _ | exact LeO.refl _ | exact LeO.none _ | refine LeO.ite ?_ ?_ | refine LeO.bind ?_ (fun _ => ?_))
  ·
   intro y0 y1 y2 y3 y4 y5 y6 y7 y8 y9 y10
   unfold spec_reOf.l1
   repeat' (with_reducible first | exact ih0 _ _ _ _ _ _ _ | exact ih1 _ _ _ _ _ _ _ _ _ _ _ | exact spec_reSorted.mono _ _ | exact LeO.refl _ | exact LeO.none _ | refine LeO.ite ?_ ?_ | refine LeO.bind ?_ (fun _ => ?_))
theorem spec_reOf.mono : ∀ a0 k, LeO (spec_reOf.f k a0) (spec_reOf.f (k + 1) a0) := by
 intro a0 k
 obtain ⟨ih0, ih1⟩ := spec_reOf.mono_l k
 unfold spec_reOf.f
 repeat' (with_reducible first | exact ih0 _ _ _ _ _ _ _ | exact ih1 _ _ _ _ _ _ _ _ _ _ _ | exact spec_reSorted.mono _ _ | exact LeO.refl _ | exact LeO.none _ | refine LeO.ite ?_ ?_ | refine LeO.bind ?_ (fun _ => ?_))
theorem spec_reOf.calls (k : Nat) (A0 : Option Addr) (c0 : Nat) (l0 : List Int) (r1 : List Int) (r2 : List Int) (w : World) (hr0 : Kd.C (Kd.int .i64) w A0 l0.length l0) (hc0 : l0.length ≤ c0) (h : spec_reOf.f k l0 = some (r1, r2)) :
  Calls Tryz.prog 46 #[.slice A0 l0.length c0] w fun e w' => ∃ v0_ v1_ : Value, e = .returned (.agg #[v0_, v1_]) ∧ Kd.R (Kd.int .i64) 3 w' w.heap.size (fun k_ => some k_ ≠ (v1_ : Value).ownBlock) v0_ r1 ∧ Kd.R (Kd.int .i64) 3 w' w.heap.size (fun k_ => some k_ ≠ (v0_ : Value).ownBlock) v1_ r2 ∧ Below w.heap.size w w' := by
 have hu27 := Tryz.underlying27
 have HR0 := Aside0.mk hr0
 have HC0 := Aside0.mk hc0
 clear hr0 hc0
 have HB := Aside0.mk (Below.refl w.heap.size w)
 unfold spec_reOf.f at h
 have H := h; clear h
 obtain ⟨t359, A2, H⟩ := ob_ H
 have H' := Aside0.mk H
 clear H
 go_enter Tryz.func46, Tryz.ntmps46
 have zz_ := trivial
 repeat (clear zz_; go_wp2_with (first | ((with_reducible refine gate_dst (N := 2) rfl ?_); refine box_event ?hg (N := 2) ?hd (cs := #[.slice none 0 0, .slice none 0 0]) (t := 27) ?hr ?_; (case hd => rfl); (case hg => rfl); (case hr => exact qfba_); intro gb358 hg w3 hbox hb; have n0_ := Aside0.mk (below_step q0c4_ hb); have n1_ := Aside0.mk (hbox); have n2_ := Aside0.mk ((by rw [hg]; exact (below_size q0c4_) : w.heap.size ≤ gb358)); have n3_ := Aside0.mk ((by rw [hg]; exact (below_size q0c4_) : w.heap.size ≤ gb358)); replace HB := n0_; have BK358 := n1_; have GW358 := n2_; have GE358 := n3_; clear n0_ n1_ n2_ n3_; clear hb hbox hg) | (go_at_call 62; (with_reducible refine (spec_reSorted.calls k _ _ l0 t359 _ ?s1 ?s2 A2.out).mono ?_); (case s1 => exact qe02_ HR0.out); (case s2 => exact HC0.out); rintro e w4 ⟨v360, rfl, ho0, hb⟩; have HO361 := Aside0.mk (Kd.R_lower ho0 (below_size q359_)); replace BK358 := Aside0.mk (blk_below (g := gb358) (o := .cells #[.slice none 0 0, .slice none 0 0] 27 (0, 0)) q298_ hb); replace HB := Aside0.mk (below_step q359_ hb); clear hb ho0; obtain ⟨Ao5, co5, eo5⟩ := Kd.R_slice HO361.out; subst eo5) | ((with_reducible refine gate_dst (N := 3) rfl ?_); refine box_event ?hg (N := 3) ?hd (cs := #[.slice none 0 0, .slice none 0 0]) (t := 27) ?hr ?_; (case hd => rfl); (case hg => rfl); (case hr => exact qfba_); intro gb362 hg w6 hbox hb; have n0_ := Aside0.mk (Kd.R_below (q9d5_ HO361.out) hb); have n1_ := Aside0.mk (blk_below (g := gb358) (o := .cells #[.slice none 0 0, .slice none 0 0] 27 (0, 0)) q298_ hb); have n2_ := Aside0.mk (below_step q359_ hb); have n3_ := Aside0.mk (hbox); have n4_ := Aside0.mk ((by rw [hg]; exact (below_size q359_) : w.heap.size ≤ gb362)); have n5_ := Aside0.mk ((by rw [hg]; exact (below_size q359_) : w.heap.size ≤ gb362)); have n6_ := Aside0.mk ((by rw [hg]; exact Nat.ne_of_lt (blk_lt (g := gb358) (o := .cells #[.slice none 0 0, .slice none 0 0] 27 (0, 0)) q298_) : gb358 ≠ gb362)); have n7_ := Aside0.mk ((by rw [hg]; exact Nat.ne_of_gt (blk_lt (g := gb358) (o := .cells #[.slice none 0 0, .slice none 0 0] 27 (0, 0)) q298_) : gb362 ≠ gb358)); replace HO361 := n0_; replace BK358 := n1_; replace HB := n2_; have BK362 := n3_; have GW362 := n4_; have GE362 := n5_; have NB358_362 := n6_; have NB362_358 := n7_; clear n0_ n1_ n2_ n3_ n4_ n5_ n6_ n7_; clear hb hbox hg; have hnb7 := NB362_358.out; have hnc7 := NB358_362.out; have hcz8_0 : w6.cell? ⟨gb362, 0, none⟩ = some (.slice none 0 0) := (blk_cell BK362.out 0).trans rfl; have hcz8_1 : w6.cell? ⟨gb362, 1, none⟩ = some (.slice none 0 0) := (blk_cell BK362.out 1).trans rfl; have hfz8_0 := blk_frozen BK362.out 0; have hfz8_1 := blk_frozen BK362.out 1)); try (go_quiet (fail); have zz_ := trivial))
 go_loopg [4, 15] k (fun kq v4 v15 w' => ∃ (x4_1 : Int) (x15_1 : Int) (x363001_1 : List Int) (u363001 : Value), v4 = .int .i64 x4_1 ∧ v15 = .int .i64 x15_1 ∧ Aside0 (spec_reOf.l0 kq l0 x4_1 t359 (t359.length : Int) x15_1 t359 x363001_1 = some (r1, r2)) ∧ Aside0 (kq ≤ k) ∧ Aside0 (Kd.R (Kd.int .i64) 3 w' w.heap.size (fun k_ => some k_ ≠ (u363001 : Value).ownBlock) (.slice Ao5 t359.length co5) t359) ∧ Aside0 (Kd.R (Kd.int .i64) 3 w' w.heap.size (fun k_ => some k_ ≠ (u363001 : Value).ownBlock) (.slice Ao5 t359.length co5) t359) ∧ Aside0 (Kd.R (Kd.int .i64) 3 w' w.heap.size (fun k_ => some k_ ≠ ((.slice Ao5 t359.length co5) : Value).ownBlock ∧ some k_ ≠ ((.slice Ao5 t359.length co5) : Value).ownBlock) u363001 x363001_1) ∧ Aside0 (w'.heap[gb358]? = some (.cells #[(.slice none 0 0), (.slice none 0 0)] 27 (0, 0))) ∧ Aside0 (w'.heap[gb362]? = some (.cells #[(.slice Ao5 t359.length co5), u363001] 27 (0, 0))) ∧ Aside0 (Below w.heap.size w w'))
 case atStart => exact ⟨(0), (0), (([] : List Int)), (.slice none 0 0), qc8f_, qc8f_, H', ⟨Nat.le_refl _⟩, ⟨by (with_reducible repeat (first | apply Kd.R_alloc | apply Kd.R_drewN | apply Kd.R_drew)); exact Kd.R_mono (Kd.R_far (p := ⟨gb362, 1, none⟩) (Kd.R_far (p := ⟨gb362, 0, none⟩) (Kd.R_types HO361.out BK362.out (by decide)) (fun _ hk => hk.2) (.slice Ao5 t359.length co5)) (fun _ hk => hk.2) (.slice none 0 0)) (fun _ hk => (by simp [Value.ownBlock]))⟩, ⟨by (with_reducible repeat (first | apply Kd.R_alloc | apply Kd.R_drewN | apply Kd.R_drew)); exact Kd.R_mono (Kd.R_far (p := ⟨gb362, 1, none⟩) (Kd.R_far (p := ⟨gb362, 0, none⟩) (Kd.R_types HO361.out BK362.out (by decide)) (fun _ hk => hk.2) (.slice Ao5 t359.length co5)) (fun _ hk => hk.2) (.slice none 0 0)) (fun _ hk => (by simp [Value.ownBlock]))⟩, ⟨qf62_⟩, ⟨by (with_reducible repeat (first | refine blk_drewN ?_ _ | refine blk_drew ?_ | refine blk_alloc ?_ _)); refine blk_far ?_ NB358_362.out _; (with_reducible repeat (first | refine blk_drewN ?_ _ | refine blk_drew ?_ | refine blk_alloc ?_ _)); refine blk_far ?_ NB358_362.out _; (with_reducible repeat (first | refine blk_drewN ?_ _ | refine blk_drew ?_ | refine blk_alloc ?_ _)); exact BK358.out⟩, ⟨by (with_reducible repeat (first | refine blk_drewN ?_ _ | refine blk_drew ?_ | refine blk_alloc ?_ _)); refine blk_put (cs := #[.slice Ao5 t359.length co5, .slice none 0 0]) ?_ 1 _ rfl; (with_reducible repeat (first | refine blk_drewN ?_ _ | refine blk_drew ?_ | refine blk_alloc ?_ _)); refine blk_put (cs := #[.slice none 0 0, .slice none 0 0]) ?_ 0 _ rfl; (with_reducible repeat (first | refine blk_drewN ?_ _ | refine blk_drew ?_ | refine blk_alloc ?_ _)); exact BK362.out⟩, ⟨q654_⟩⟩
 case round =>
  clear H'; try clear p2; try clear c4; try clear c7; try clear hcz8_0; try clear hcz8_1; try clear hfz8_0; try clear hfz8_1
  obtain ⟨x4_1, x15_1, x363001_1, u363001, rfl, rfl, HA, HK1, HO_13, HO_363000, HO_363001, BK358, BK362, HB⟩ := hrel
  cases gk with
  | zero => exact absurd HA.out (by simp [spec_reOf.l0])
  | succ k1 =>
   have H := HA.out
   clear HA
   simp only [spec_reOf.l0] at H
   by_cases c9 : x15_1 < (t359.length : Int)
   ·
    rw [if_pos c9] at H
    have c9b0 := decide_eq_true c9
    clear c9
    by_cases c10 : 0 ≤ x15_1
    ·
     rw [if_pos c10] at H
     have c10b0 := decide_eq_true c10
     clear c10
     by_cases c11 : x15_1 < (t359.length : Int)
     ·
      rw [if_pos c11] at H
      have c11b0 := decide_eq_true c11
      clear c11
      have c12b0 := eq_true (of_decide_eq_true qe84_ : 0 ≤ x15_1)
      by_cases c13 : x15_1 ≤ (t359.length : Int)
      ·
       rw [if_pos c13] at H
       have c13b0 := eq_true c13
       have c13b1 := decide_eq_true c13
       clear c13
       obtain ⟨y364, hy364⟩ : ∃ y_ : List Int, y_ = (t359.take (x15_1 : Int).toNat) := ⟨_, rfl⟩
       replace H : (spec_reOf.l1 k1 l0 x4_1 (rd t359 x15_1) t359 (t359.length : Int) x15_1 y364 (y364.length : Int) 0 t359 x363001_1) = some (r1, r2) := by first | (rw [hy364]; with_reducible exact H) | (have H2_ := (Option.bind_some _ _).symm.trans H; rw [hy364]; with_reducible exact H2_) | (have H2_ := (Option.bind_some _ _).symm.trans H; with_reducible exact H2_) | with_reducible exact H | (rw [hy364]; exact H) | exact H
       have Ny364 := Aside0.mk hy364
       clear hy364
       have H' := Aside0.mk H
       clear H
       have p363 : 0 ≤ (x15_1 : Int) := of_decide_eq_true qe84_
       have q363 : x15_1 < (t359.length : Int) := of_decide_eq_true qe84_
       obtain ⟨ad363, e363, hx363_0⟩ := Kd.at_int (Kd.R_reads' HO_13.out).2.2 x15_1 p363 q363
       cases e363
       replace p363 := eq_true p363
       replace q363 := eq_true q363
       have hnb14 := NB362_358.out
       have hnc14 := NB358_362.out
       have hcz15_0 : wr.cell? ⟨gb362, 0, none⟩ = some (.slice (some ad363) t359.length co5) := (blk_cell BK362.out 0).trans rfl
       have hcz15_1 : wr.cell? ⟨gb362, 1, none⟩ = some (u363001) := (blk_cell BK362.out 1).trans rfl
       have hfz15_0 := blk_frozen BK362.out 0
       have hfz15_1 := blk_frozen BK362.out 1
       have q16 : (x15_1 : Int) ≤ ((t359.length : Int) : Int) := of_decide_eq_true qe84_
       obtain ⟨i016, hi016, _, hsz16, _⟩ := info_parts info3
       have hroom16 : t359.length ≤ co5 := (Kd.R_reads' HO_363000.out).2.1
       have hC16 : Kd.C (Kd.int .i64) _ (some ad363) t359.length t359 := (Kd.R_reads' HO_363000.out).2.2
       have hcut16 := cut_to (P := Tryz.prog) 24 3 .i64 Tryz.underlying24 hi016 (some ad363) t359.length co5 x15_1 (of_decide_eq_true qe84_) q16 hroom16
       have hr16 := Kd.C_take (m := (x15_1 : Int).toNat) hC16 (by omega)
       have hy16 : y364.length = (x15_1 : Int).toNat := (by rw [Ny364.out, List.length_take]; omega)
       rw [← Ny364.out] at hr16
       rw [← hy16] at hcut16
       have HR367 := Aside0.mk hr16
       have HC367 := Aside0.mk (show y364.length ≤ co5 from by omega)
       clear hr16 hC16 hroom16 hi016 hsz16
       have KY16 := Aside0.mk hy16
       clear hy16
       have KL16 := Aside0.mk (show (x15_1 : Int).toNat ≤ t359.length from by omega)
       replace q16 := eq_true q16
       go_wp2
       repeat (go_quiet (fail); try go_wp2)
       go_loopg [4, 25] k1 (fun kq v4 v25 w' => ∃ (x4_2 : Int) (x25_2 : Int), v4 = .int .i64 x4_2 ∧ v25 = .int .i64 x25_2 ∧ Aside0 (spec_reOf.l1 kq l0 x4_2 (rd t359 x15_1) t359 (t359.length : Int) x15_1 y364 (y364.length : Int) x25_2 t359 x363001_1 = some (r1, r2)) ∧ Aside0 (kq ≤ k1) ∧ Aside0 (Kd.R (Kd.int .i64) 3 w' w.heap.size (fun k_ => some k_ ≠ (u363001 : Value).ownBlock) (.slice (some ad363) t359.length co5) t359) ∧ Aside0 (Kd.R (Kd.int .i64) 3 w' w.heap.size (fun k_ => some k_ ≠ (u363001 : Value).ownBlock) (.slice (some ad363) t359.length co5) t359) ∧ Aside0 (Kd.R (Kd.int .i64) 3 w' w.heap.size (fun k_ => some k_ ≠ ((.slice (some ad363) t359.length co5) : Value).ownBlock ∧ some k_ ≠ ((.slice (some ad363) t359.length co5) : Value).ownBlock) u363001 x363001_1) ∧ Aside0 (w'.heap[gb358]? = some (.cells #[(.slice none 0 0), (.slice none 0 0)] 27 (0, 0))) ∧ Aside0 (w'.heap[gb362]? = some (.cells #[(.slice (some ad363) t359.length co5), u363001] 27 (0, 0))) ∧ Aside0 (Kd.C (Kd.int .i64) w' (some ad363) y364.length y364) ∧ Aside0 (Below w.heap.size w w'))
       case atStart => exact ⟨(x4_1), (0), qc8f_, qc8f_, H', ⟨Nat.le_refl _⟩, ⟨q9d5_ HO_13.out⟩, ⟨q9d5_ HO_363000.out⟩, ⟨q9d5_ HO_363001.out⟩, ⟨q298_⟩, ⟨q108_⟩, ⟨q75a_ HR367.out⟩, ⟨q654_⟩⟩
       case round =>
        clear H'; try clear c1; try clear q1; try clear p2; try clear p3; try clear q3; try clear hx3; try clear c4; try clear c7; try clear c9; try clear c9b0; try clear c10; try clear c10b0; try clear c11; try clear c11b0; try clear c12; try clear c12b0; try clear c13; try clear c13b0; try clear c13b1; try clear c14; try clear q16; try clear hcz15_0; try clear hcz15_1; try clear hcz8_0; try clear hcz8_1; try clear hfz15_0; try clear hfz15_1; try clear hfz8_0; try clear hfz8_1; try clear hx363_0; try clear p2; try clear p363; try clear q16; try clear q363
        obtain ⟨x4_2, x25_2, rfl, rfl, HA, HK2, HO_13, HO_363000, HO_363001, BK358, BK362, HR367, HB⟩ := hrel
        cases gk with
        | zero => exact absurd HA.out (by simp [spec_reOf.l1])
        | succ k2 =>
         have H := HA.out
         clear HA
         simp only [spec_reOf.l1] at H
         by_cases c17 : x25_2 < (y364.length : Int)
         ·
          rw [if_pos c17] at H
          have c17b0 := decide_eq_true c17
          clear c17
          by_cases c18 : 0 ≤ x25_2
          ·
           rw [if_pos c18] at H
           have c18b0 := decide_eq_true c18
           clear c18
           by_cases c19 : x25_2 < (y364.length : Int)
           ·
            rw [if_pos c19] at H
            have c19b0 := decide_eq_true c19
            clear c19
            by_cases c20 : (rd y364 x25_2) < (rd t359 x15_1)
            ·
             rw [if_pos c20] at H
             have c20b0 := decide_eq_true c20
             clear c20
             by_cases c21 : 0 ≤ (rd y364 x25_2)
             ·
              rw [if_pos c21] at H
              have c21b0 := decide_eq_true c21
              clear c21
              by_cases c22 : (rd y364 x25_2) < (l0.length : Int)
              ·
               rw [if_pos c22] at H
               have c22b0 := decide_eq_true c22
               clear c22
               by_cases c23 : 0 ≤ (rd t359 x15_1)
               ·
                rw [if_pos c23] at H
                have c23b0 := decide_eq_true c23
                clear c23
                by_cases c24 : (rd t359 x15_1) < (l0.length : Int)
                ·
                 rw [if_pos c24] at H
                 have c24b0 := decide_eq_true c24
                 clear c24
                 by_cases c25 : (wrap64 ((rd l0 (rd y364 x25_2)) - (rd l0 (rd t359 x15_1)))) > 100
                 ·
                  rw [if_pos c25] at H
                  have c25b0 := decide_eq_true c25
                  clear c25
                  obtain ⟨t371, A26, H⟩ := ob_ H
                  have H' := Aside0.mk H
                  clear H
                  have p368 : 0 ≤ (x25_2 : Int) := of_decide_eq_true qe84_
                  have q368 : x25_2 < (y364.length : Int) := of_decide_eq_true qe84_
                  obtain ⟨ad368, e368, hx368_0⟩ := Kd.at_int HR367.out x25_2 p368 q368
                  obtain rfl : ad363 = ad368 := (by injection e368)
                  (try (replace hx368_0 := (HB.out.cell (World.block_lt_of_cell? w _ hx368_0)).trans hx368_0))
                  replace p368 := eq_true p368
                  replace q368 := eq_true q368
                  have p369 : 0 ≤ ((rd y364 x25_2) : Int) := of_decide_eq_true qe84_
                  have q369 : (rd y364 x25_2) < (l0.length : Int) := of_decide_eq_true qe84_
                  obtain ⟨ad369, e369, hx369_0⟩ := Kd.at_int HR0.out (rd y364 x25_2) p369 q369
                  cases e369
                  (try (replace hx369_0 := (HB.out.cell (World.block_lt_of_cell? w _ hx369_0)).trans hx369_0))
                  replace p369 := eq_true p369
                  replace q369 := eq_true q369
                  have p370 : 0 ≤ ((rd t359 x15_1) : Int) := of_decide_eq_true qe84_
                  have q370 : (rd t359 x15_1) < (l0.length : Int) := of_decide_eq_true qe84_
                  obtain ⟨ad370, e370, hx370_0⟩ := Kd.at_int HR0.out (rd t359 x15_1) p370 q370
                  obtain rfl : ad369 = ad370 := (by injection e370)
                  (try (replace hx370_0 := (HB.out.cell (World.block_lt_of_cell? w _ hx370_0)).trans hx370_0))
                  replace p370 := eq_true p370
                  replace q370 := eq_true q370
                  have zz_ := trivial
                  repeat (clear zz_; go_wp2_with (first | (go_at_call 63; (with_reducible refine (spec_l1Most.calls x4_2 (wrap64 (x25_2 + 1)) t371 _ A26.out).mono ?_); rintro e w' ⟨rfl, ⟨nd, rfl⟩⟩; (try exact q447_))); try (go_quiet ((go_at_call 63; (with_reducible refine (spec_l1Most.calls x4_2 (wrap64 (x25_2 + 1)) t371 _ A26.out).mono ?_); rintro e w' ⟨rfl, ⟨nd, rfl⟩⟩; (try exact q447_))); have zz_ := trivial))
                  go_roundg k2
                  case measure => have := HK1.out; have := HK2.out; omega
                  case rel => exact ⟨(t371), (wrap64 (x25_2 + 1)), qc8f_, qc8f_, H', ⟨q37b_ HK1.out HK2.out⟩, ⟨q9d5_ HO_13.out⟩, ⟨q9d5_ HO_363000.out⟩, ⟨q9d5_ HO_363001.out⟩, ⟨q298_⟩, ⟨q108_⟩, ⟨q75a_ HR367.out⟩, ⟨q654_⟩⟩
                 ·
                  rw [if_neg c25] at H
                  have c25b0 := decide_eq_false c25
                  clear c25
                  have H' := Aside0.mk H
                  clear H
                  have p368 : 0 ≤ (x25_2 : Int) := of_decide_eq_true qe84_
                  have q368 : x25_2 < (y364.length : Int) := of_decide_eq_true qe84_
                  obtain ⟨ad368, e368, hx368_0⟩ := Kd.at_int HR367.out x25_2 p368 q368
                  obtain rfl : ad363 = ad368 := (by injection e368)
                  (try (replace hx368_0 := (HB.out.cell (World.block_lt_of_cell? w _ hx368_0)).trans hx368_0))
                  replace p368 := eq_true p368
                  replace q368 := eq_true q368
                  have p369 : 0 ≤ ((rd y364 x25_2) : Int) := of_decide_eq_true qe84_
                  have q369 : (rd y364 x25_2) < (l0.length : Int) := of_decide_eq_true qe84_
                  obtain ⟨ad369, e369, hx369_0⟩ := Kd.at_int HR0.out (rd y364 x25_2) p369 q369
                  cases e369
                  (try (replace hx369_0 := (HB.out.cell (World.block_lt_of_cell? w _ hx369_0)).trans hx369_0))
                  replace p369 := eq_true p369
                  replace q369 := eq_true q369
                  have p370 : 0 ≤ ((rd t359 x15_1) : Int) := of_decide_eq_true qe84_
                  have q370 : (rd t359 x15_1) < (l0.length : Int) := of_decide_eq_true qe84_
                  obtain ⟨ad370, e370, hx370_0⟩ := Kd.at_int HR0.out (rd t359 x15_1) p370 q370
                  obtain rfl : ad369 = ad370 := (by injection e370)
                  (try (replace hx370_0 := (HB.out.cell (World.block_lt_of_cell? w _ hx370_0)).trans hx370_0))
                  replace p370 := eq_true p370
                  replace q370 := eq_true q370
                  go_wp2
                  repeat (go_quiet (fail); try go_wp2)
                  go_roundg k2
                  case measure => have := HK1.out; have := HK2.out; omega
                  case rel => exact ⟨(x4_2), (wrap64 (x25_2 + 1)), qc8f_, qc8f_, H', ⟨q37b_ HK1.out HK2.out⟩, ⟨q9d5_ HO_13.out⟩, ⟨q9d5_ HO_363000.out⟩, ⟨q9d5_ HO_363001.out⟩, ⟨q298_⟩, ⟨q108_⟩, ⟨q75a_ HR367.out⟩, ⟨q654_⟩⟩
                ·
                 rw [if_neg c24] at H
                 exact absurd H (by simp)
               ·
                rw [if_neg c23] at H
                exact absurd H (by simp)
              ·
               rw [if_neg c22] at H
               exact absurd H (by simp)
             ·
              rw [if_neg c21] at H
              exact absurd H (by simp)
            ·
             rw [if_neg c20] at H
             have c20b0 := decide_eq_false c20
             clear c20
             have H' := Aside0.mk H
             clear H
             have p368 : 0 ≤ (x25_2 : Int) := of_decide_eq_true qe84_
             have q368 : x25_2 < (y364.length : Int) := of_decide_eq_true qe84_
             obtain ⟨ad368, e368, hx368_0⟩ := Kd.at_int HR367.out x25_2 p368 q368
             obtain rfl : ad363 = ad368 := (by injection e368)
             (try (replace hx368_0 := (HB.out.cell (World.block_lt_of_cell? w _ hx368_0)).trans hx368_0))
             replace p368 := eq_true p368
             replace q368 := eq_true q368
             go_wp2
             repeat (go_quiet (fail); try go_wp2)
             go_roundg k2
             case measure => have := HK1.out; have := HK2.out; omega
             case rel => exact ⟨(x4_2), (wrap64 (x25_2 + 1)), qc8f_, qc8f_, H', ⟨q37b_ HK1.out HK2.out⟩, ⟨q9d5_ HO_13.out⟩, ⟨q9d5_ HO_363000.out⟩, ⟨q9d5_ HO_363001.out⟩, ⟨q298_⟩, ⟨q108_⟩, ⟨q75a_ HR367.out⟩, ⟨q654_⟩⟩
           ·
            rw [if_neg c19] at H
            exact absurd H (by simp)
          ·
           rw [if_neg c18] at H
           exact absurd H (by simp)
         ·
          rw [if_neg c17] at H
          have c17b0 := decide_eq_false c17
          clear c17
          by_cases c27 : x363001_1.length < 17592186044416
          ·
           rw [if_pos c27] at H
           have LMc27 := Aside0.mk c27
           clear c27
           obtain ⟨y372, hy372⟩ : ∃ y_ : List Int, y_ = (x363001_1 ++ [x4_2]) := ⟨_, rfl⟩
           replace H : (spec_reOf.l0 k2 l0 x4_2 t359 (t359.length : Int) (wrap64 (x15_1 + 1)) t359 y372) = some (r1, r2) := by first | (rw [hy372]; with_reducible exact H) | (have H2_ := (Option.bind_some _ _).symm.trans H; rw [hy372]; with_reducible exact H2_) | (have H2_ := (Option.bind_some _ _).symm.trans H; with_reducible exact H2_) | with_reducible exact H | (rw [hy372]; exact H) | exact H
           have Ny372 := Aside0.mk hy372
           clear hy372
           have H' := Aside0.mk H
           clear H
           have hnb28 := NB362_358.out
           have hnc28 := NB358_362.out
           have hcz29_0 : wr.cell? ⟨gb362, 0, none⟩ = some (.slice (some ad363) t359.length co5) := (blk_cell BK362.out 0).trans rfl
           have hcz29_1 : wr.cell? ⟨gb362, 1, none⟩ = some (u363001) := (blk_cell BK362.out 1).trans rfl
           have hfz29_0 := blk_frozen BK362.out 0
           have hfz29_1 := blk_frozen BK362.out 1
           have zz_ := trivial
           repeat (clear zz_; go_wp2_with (first | ((with_reducible refine gate_builtin (b := .append) (xs := #[.tmp 51, .tmp 53]) rfl ?_); at_builtin; refine Kd.R_append (Kd.int .i64) (w0 := w) w.heap.size rfl (.tmp 51) (.tmp 53) 24 3 (.int .i64 0) 8 rfl Tryz.underlying24 info3 rfl (by decide) (by omega) u363001 x363001_1 x4_2 [.int .i64 x4_2] (fun k_ => some k_ ≠ (.slice (some ad363) t359.length co5 : Value).ownBlock ∧ some k_ ≠ (.slice (some ad363) t359.length co5 : Value).ownBlock) (fun _ => False) rfl rfl ?aP (fun _ hk => hk.elim) ?aF ?aO ?aB ?aS ?aL ?_; (case aP => exact rfl); (case aB => exact q654_); (case aF => exact (fun k_ hk => ⟨Kd.fresh' (Kd.R_lt (q9d5_ HO_13.out)) k_ hk, Kd.fresh' (Kd.R_lt (q9d5_ HO_363000.out)) k_ hk⟩)); (case aO => exact (q9d5_ HO_363001.out)); (case aS => exact (below_size q654_)); (case aL => have := LMc27.out; omega); intro v373 w30 ho hb hg hat; rw [← Ny372.out] at ho; have n0_ := Aside0.mk (Kd.R_after (ok := (fun _ => True)) (q0ef_ HO_13.out) hg hat); have n1_ := Aside0.mk (Kd.R_after (ok := (fun _ => True)) (q0ef_ HO_363000.out) hg hat); have n2_ := Aside0.mk (blk_grown (g := gb358) (o := .cells #[.slice none 0 0, .slice none 0 0] 27 (0, 0)) q298_ hg (Kd.R_ne HO_363001.out BK358.out (by decide))); have n3_ := Aside0.mk (blk_grown (g := gb362) (o := .cells #[.slice (some ad363) t359.length co5, u363001] 27 (0, 0)) q108_ hg (Kd.R_ne HO_363001.out BK362.out (by decide))); have n4_ := Aside0.mk (hb); have n5_ := Aside0.mk ((show Kd.C (Kd.int .i64) w30 (some ad363) y364.length y364 from by rw [Ny364.out]; exact Kd.C_take (m := (x15_1 : Int).toNat) ((Kd.R_reads' (Kd.R_after (ok := (fun _ => True)) (q0ef_ HO_363000.out) hg hat)).2.2) KL16.out)); have n6_ := Aside0.mk (ho); replace HO_13 := n0_; replace HO_363000 := n1_; replace BK358 := n2_; replace BK362 := n3_; replace HB := n4_; replace HR367 := n5_; have HO374 := n6_; clear n0_ n1_ n2_ n3_ n4_ n5_ n6_; clear ho hb hg hat; obtain ⟨Ao31, co31, eo31⟩ := Kd.R_slice HO374.out; subst eo31; have hcz32_0 : w30.cell? ⟨gb362, 0, none⟩ = some (.slice (some ad363) t359.length co5) := (blk_cell BK362.out 0).trans rfl; have hcz32_1 : w30.cell? ⟨gb362, 1, none⟩ = some (u363001) := (blk_cell BK362.out 1).trans rfl; have hfz32_0 := blk_frozen BK362.out 0; have hfz32_1 := blk_frozen BK362.out 1)); try (go_quiet (fail); have zz_ := trivial))
           go_roundg k2
           case measure => have := HK1.out; have := HK2.out; omega
           case rel => exact ⟨(x4_2), (wrap64 (x15_1 + 1)), (y372), (.slice Ao31 y372.length co31), qc8f_, qc8f_, H', ⟨q37b_ HK1.out HK2.out⟩, ⟨by (with_reducible repeat (first | apply Kd.R_alloc | apply Kd.R_drewN | apply Kd.R_drew)); exact Kd.R_mono (Kd.R_far (p := ⟨gb362, 1, none⟩) (Kd.R_types HO_13.out BK362.out (by decide)) (fun _ hk => hk.2) (.slice Ao31 y372.length co31)) (fun _ hk => hk.1.2)⟩, ⟨by (with_reducible repeat (first | apply Kd.R_alloc | apply Kd.R_drewN | apply Kd.R_drew)); exact Kd.R_mono (Kd.R_far (p := ⟨gb362, 1, none⟩) (Kd.R_types HO_363000.out BK362.out (by decide)) (fun _ hk => hk.2) (.slice Ao31 y372.length co31)) (fun _ hk => hk.1.2)⟩, ⟨by (with_reducible repeat (first | apply Kd.R_alloc | apply Kd.R_drewN | apply Kd.R_drew)); exact Kd.R_mono (Kd.R_far (p := ⟨gb362, 1, none⟩) (Kd.R_types HO374.out BK362.out (by decide)) (fun _ hk => hk.2) (.slice Ao31 y372.length co31)) (fun _ hk => ⟨hk.1.1, hk.1.2⟩)⟩, ⟨by (with_reducible repeat (first | refine blk_drewN ?_ _ | refine blk_drew ?_ | refine blk_alloc ?_ _)); refine blk_far ?_ NB358_362.out _; (with_reducible repeat (first | refine blk_drewN ?_ _ | refine blk_drew ?_ | refine blk_alloc ?_ _)); exact BK358.out⟩, ⟨by (with_reducible repeat (first | refine blk_drewN ?_ _ | refine blk_drew ?_ | refine blk_alloc ?_ _)); refine blk_put (cs := #[.slice (some ad363) t359.length co5, u363001]) ?_ 1 _ rfl; (with_reducible repeat (first | refine blk_drewN ?_ _ | refine blk_drew ?_ | refine blk_alloc ?_ _)); exact BK362.out⟩, ⟨q654_⟩⟩
          ·
           rw [if_neg c27] at H
           exact absurd H (by simp)
      ·
       rw [if_neg c13] at H
       exact absurd H (by simp)
     ·
      rw [if_neg c11] at H
      exact absurd H (by simp)
    ·
     rw [if_neg c10] at H
     exact absurd H (by simp)
   ·
    rw [if_neg c9] at H
    have c9b0 := decide_eq_false c9
    clear c9
    simp only [Option.some.injEq, Prod.mk.injEq] at H
    obtain ⟨rfl, rfl⟩ := H
    have hnb33 := NB362_358.out
    have hnc33 := NB358_362.out
    have hcz34_0 : wr.cell? ⟨gb362, 0, none⟩ = some (.slice Ao5 t359.length co5) := (blk_cell BK362.out 0).trans rfl
    have hcz34_1 : wr.cell? ⟨gb362, 1, none⟩ = some (u363001) := (blk_cell BK362.out 1).trans rfl
    have hfz34_0 := blk_frozen BK362.out 0
    have hfz34_1 := blk_frozen BK362.out 1
    have hcz35_0 : wr.cell? ⟨gb358, 0, none⟩ = some (.slice none 0 0) := (blk_cell BK358.out 0).trans rfl
    have hcz35_1 : wr.cell? ⟨gb358, 1, none⟩ = some (.slice none 0 0) := (blk_cell BK358.out 1).trans rfl
    have hfz35_0 := blk_frozen BK358.out 0
    have hfz35_1 := blk_frozen BK358.out 1
    obtain ⟨Ao36, co36, eo36⟩ := Kd.R_slice HO_363001.out
    subst eo36
    go_wp2
    repeat (go_quiet (fail); try go_wp2)
    refine bodyPost_ret (results_cell_row rfl _ _ gb358 27 #[.slice Ao5 t359.length co5, .slice Ao36 x363001_1.length co36] (0, 0) _ rfl (by (with_reducible repeat (first | refine blk_drewN ?_ _ | refine blk_drew ?_ | refine blk_alloc ?_ _)); refine blk_put (cs := #[.slice Ao5 t359.length co5, .slice none 0 0]) ?_ 1 _ rfl; (with_reducible repeat (first | refine blk_drewN ?_ _ | refine blk_drew ?_ | refine blk_alloc ?_ _)); refine blk_put (cs := #[.slice none 0 0, .slice none 0 0]) ?_ 0 _ rfl; (with_reducible repeat (first | refine blk_drewN ?_ _ | refine blk_drew ?_ | refine blk_alloc ?_ _)); exact BK358.out) Tryz.underlying27 rfl (by kernel_rfl)) rfl ?_
    exact ⟨_, _, qce7_, by (with_reducible repeat (first | apply Kd.R_alloc | apply Kd.R_drewN | apply Kd.R_drew)); exact Kd.R_mono (Kd.R_far (p := ⟨gb358, 1, none⟩) (Kd.R_far (p := ⟨gb358, 0, none⟩) (Kd.R_types HO_363000.out BK358.out (by decide)) (fun _ hk => hk.2) (.slice Ao5 t359.length co5)) (fun _ hk => hk.2) (.slice Ao36 x363001_1.length co36)) (fun _ hk => hk.1), by (with_reducible repeat (first | apply Kd.R_alloc | apply Kd.R_drewN | apply Kd.R_drew)); exact Kd.R_mono (Kd.R_far (p := ⟨gb358, 1, none⟩) (Kd.R_far (p := ⟨gb358, 0, none⟩) (Kd.R_types HO_363001.out BK358.out (by decide)) (fun _ hk => hk.2) (.slice Ao5 t359.length co5)) (fun _ hk => hk.2) (.slice Ao36 x363001_1.length co36)) (fun _ hk => hk.1.2), q654_⟩

/-! ### spec_l1Cur_one: function 64 -/
def spec_l1Cur_one.f (s0_0 : List Int) (s0_1 : Int) (s0_2 : Int) (a1 : Int) : Option (Bool × Int × Int) := (spec_l1Cur_pick.f s0_0 s0_1 s0_2 a1).bind fun bt375 => (some ((bt375.1 == 0), bt375.2.1, bt375.2.2))
theorem spec_l1Cur_one.calls (g : Nat) (s0_0 : List Int) (s0_1 : Int) (s0_2 : Int) (a1 : Int) (r1 : Bool) (r2 : Int) (r3 : Int) (w0 w : World) (hI : IsS41 w0 w g s0_0 s0_1 s0_2) (hB : Below w0.heap.size w0 w) (h : spec_l1Cur_one.f s0_0 s0_1 s0_2 a1 = some (r1, r2, r3)) :
  Calls Tryz.prog 64 #[.pointer (some ⟨g, 0, none⟩), .int .i64 a1] w fun e w' => e = .returned (.bool r1) ∧ IsS41 w0 w' g s0_0 r2 r3 ∧ Below w0.heap.size w0 w' ∧ KeepBut w w' g none := by
 have HI0 := Aside0.mk hI
 have HK := Aside0.mk (KeepBut.refl w g none)
 have HL := Aside0.mk hB.size
 clear hI
 have HW0 := Aside0.mk hB.size
 have HB := Aside0.mk hB
 clear hB
 unfold spec_l1Cur_one.f at h
 have H := h; clear h
 obtain ⟨⟨t375, t376, t377⟩, A3, H⟩ := ob_ H
 dsimp only at H
 simp only [Option.some.injEq, Prod.mk.injEq] at H
 obtain ⟨rfl, rfl, rfl⟩ := H
 go_enter Tryz.func64, Tryz.ntmps64
 go_wp2_with (first | ((with_reducible refine gate_callee (f := 35) rfl ?_); refine gl_ 7 Tryz.func35 #[.pointer (some ⟨g, 0, none⟩), .int .i64 a1] ?_; (with_reducible refine (spec_l1Cur_pick.calls g s0_0 s0_1 s0_2 a1 t375 t376 t377 w0 _ ?s1 ?s2 A3.out).mono ?_); (case s1 => exact q940_ HI0.out); (case s2 => exact q1dd_ HI0.out); rintro e w4 ⟨rfl, hi, hb, hk⟩; refine ⟨_, rfl, ?_⟩; replace HK := Aside0.mk (KeepBut.trans q1d6_ hk (.inl rfl)); replace HB := Aside0.mk (hb); replace HI0 := Aside0.mk (hi); clear hb hk hi))
 go_ret
 exact ⟨qce7_, q940_ HI0.out, q1dd_ HI0.out, q1d6_⟩

end Go.Proofs.YtgfcnfbbiaeboaaGreat.PAll
