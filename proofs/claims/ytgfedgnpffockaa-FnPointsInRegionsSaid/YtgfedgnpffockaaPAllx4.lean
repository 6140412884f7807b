-- written by a program of this session (wip/gen/xpatch.py over the translation); Lean checks it
import Derived.Test.YtgfedgnpffockaaPAllx0
import Derived.Test.YtgfedgnpffockaaPAllx2
namespace Go.Proofs.Ytgfedgnpffockaa.PAll
open Go.RowKit Go.Proofs.Ytgfedgnpffockaa.Hand Go.Proofs.YtgfedgnpffockaaW.PrintWords Go.Proofs.YtgfedgnpffockaaW.PrintLast Go.Proofs.YtgfedgnpffockaaW.PrintMore
attribute [local go_sem] max2_int min2_int max_two min_two max_three min_three max_four min_four   -- for this text's walks alone
set_option maxHeartbeats 8000000
set_option maxRecDepth 100000
set_option linter.unusedVariables false
set_option linter.unusedSimpArgs false

/-! ### spec_reLabel: function 23 -/
mutual
def spec_reLabel.l0 : Nat → List Int → List Int → Int → Int → Option (List Int)
 | 0, _, _, _, _ => none
 | k + 1, x0, x3, x10, x11 => if x11 < x10 then (spec_reLabel.l1 k x0 x3 x11 x10 x11 (x0.length : Int) 0) else (some x3)
def spec_reLabel.l1 : Nat → List Int → List Int → Int → Int → Int → Int → Int → Option (List Int)
 | 0, _, _, _, _, _, _, _ => none
 | k + 1, x0, x3, x4, x10, x11, x15, x16 => if x16 < x15 then (if x16 < x4 then (if 0 ≤ x16 then (if x16 < (x0.length : Int) then (if 0 ≤ x4 then (if x4 < (x0.length : Int) then (if (wrap64 ((rd x0 x16) - (rd x0 x4))) > 100 then (if x4 < (x3.length : Int) then (spec_reLabel.l1 k x0 (x3.set (x4 : Int).toNat (wrap64 ((rd x3 x4) + 1))) x4 x10 x11 x15 (wrap64 (x16 + 1))) else (none)) else (if x16 > x4 then (if (rd x0 x16) > (rd x0 x4) then (if x4 < (x3.length : Int) then (spec_reLabel.l1 k x0 (x3.set (x4 : Int).toNat (wrap64 ((rd x3 x4) + 1))) x4 x10 x11 x15 (wrap64 (x16 + 1))) else (none)) else (spec_reLabel.l1 k x0 x3 x4 x10 x11 x15 (wrap64 (x16 + 1)))) else (spec_reLabel.l1 k x0 x3 x4 x10 x11 x15 (wrap64 (x16 + 1))))) else (none)) else (none)) else (none)) else (none)) else (if x16 > x4 then (if 0 ≤ x16 then (if x16 < (x0.length : Int) then (if 0 ≤ x4 then (if x4 < (x0.length : Int) then (if (rd x0 x16) > (rd x0 x4) then (if x4 < (x3.length : Int) then (spec_reLabel.l1 k x0 (x3.set (x4 : Int).toNat (wrap64 ((rd x3 x4) + 1))) x4 x10 x11 x15 (wrap64 (x16 + 1))) else (none)) else (spec_reLabel.l1 k x0 x3 x4 x10 x11 x15 (wrap64 (x16 + 1)))) else (none)) else (none)) else (none)) else (none)) else (spec_reLabel.l1 k x0 x3 x4 x10 x11 x15 (wrap64 (x16 + 1))))) else (spec_reLabel.l0 k x0 x3 x10 (wrap64 (x11 + 1)))
end
def spec_reLabel.f (k : Nat) (l0 : List Int) : Option (List Int) := if 0 ≤ (l0.length : Int) then (if ((l0.length : Int) : Int).toNat ≤ 35184372088832 then (spec_reLabel.l0 k l0 (List.replicate ((l0.length : Int) : Int).toNat 0) (l0.length : Int) 0) else (none)) else (none)
theorem spec_reLabel.mono_l : ∀ k, (∀ y0 y1 y2 y3, LeO (spec_reLabel.l0 k y0 y1 y2 y3) (spec_reLabel.l0 (k + 1) y0 y1 y2 y3)) ∧ (∀ y0 y1 y2 y3 y4 y5 y6, LeO (spec_reLabel.l1 k y0 y1 y2 y3 y4 y5 y6) (spec_reLabel.l1 (k + 1) y0 y1 y2 y3 y4 y5 y6))
 | 0 => ⟨fun _ _ _ _ r h => by simp [spec_reLabel.l0] at h, fun _ _ _ _ _ _ _ r h => by simp [spec_reLabel.l1] at h⟩
 | k + 1 => by
  obtain ⟨ih0, ih1⟩ := spec_reLabel.mono_l k
  refine ⟨?_, ?_⟩
  ·
   intro y0 y1 y2 y3
   unfold spec_reLabel.l0
   repeat' (with_reducible first | exact ih0 _ _ _ _ | exact ih1 _ _ _ _ _ _ _ | exact LeO.refl _ | exact LeO.none _ | refine LeO.ite ?_ ?_ | refine LeO.bind ?_ (fun _ => ?_))
  ·
   intro y0 y1 y2 y3 y4 y5 y6
   unfold spec_reLabel.l1
   repeat' (with_reducible first | exact ih0 _ _ _ _ | exact ih1 _ _ _ _ _ _ _ | exact LeO.refl _ | exact LeO.none _ | refine LeO.ite ?_ ?_ | refine LeO.bind ?_ (fun _ => ?_))
theorem spec_reLabel.mono : ∀ a0 k, LeO (spec_reLabel.f k a0) (spec_reLabel.f (k + 1) a0) := by
 intro a0 k
 obtain ⟨ih0, ih1⟩ := spec_reLabel.mono_l k
 unfold spec_reLabel.f
 repeat' (with_reducible first | exact ih0 _ _ _ _ | exact ih1 _ _ _ _ _ _ _ | exact LeO.refl _ | exact LeO.none _ | refine LeO.ite ?_ ?_ | refine LeO.bind ?_ (fun _ => ?_))
theorem spec_reLabel.calls (k : Nat) (A0 : Option Addr) (c0 : Nat) (l0 : List Int) (r : List Int) (w : World) (hr0 : Kd.C (Kd.int .i64) w A0 l0.length l0) (hc0 : l0.length ≤ c0) (h : spec_reLabel.f k l0 = some r) :
  Calls Try.prog 23 #[.slice A0 l0.length c0] w fun e w' => ∃ v0_ : Value, e = .returned (v0_) ∧ Kd.R (Kd.int .i64) 3 w' w.heap.size (fun _ => True) v0_ r ∧ Below w.heap.size w w' := by
 have HR0 := Aside0.mk hr0
 have HC0 := Aside0.mk hc0
 clear hr0 hc0
 have HB := Aside0.mk (Below.refl w.heap.size w)
 unfold spec_reLabel.f at h
 have H := h; clear h
 by_cases c2 : 0 ≤ (l0.length : Int)
 ·
  rw [if_pos c2] at H
  have c2b0 := eq_true c2
  have c2b1 := decide_eq_true c2
  clear c2
  by_cases c3 : ((l0.length : Int) : Int).toNat ≤ 35184372088832
  ·
   rw [if_pos c3] at H
   have c3b0 := eq_true c3
   have c3b1 := decide_eq_true c3
   clear c3
   obtain ⟨y231, hy231⟩ : ∃ y_ : List Int, y_ = (List.replicate ((l0.length : Int) : Int).toNat 0) := ⟨_, rfl⟩
   replace H : (spec_reLabel.l0 k l0 y231 (l0.length : Int) 0) = some r := by first | (rw [hy231]; with_reducible exact H) | (have H2_ := (Option.bind_some _ _).symm.trans H; rw [hy231]; with_reducible exact H2_) | (have H2_ := (Option.bind_some _ _).symm.trans H; with_reducible exact H2_) | with_reducible exact H | (rw [hy231]; exact H) | exact H
   have Ny231 := Aside0.mk hy231
   clear hy231
   have H' := Aside0.mk H
   clear H
   go_enter Try.func23, Try.ntmps23
   have zz_ := trivial
   repeat (clear zz_; go_wp2_with (first | ((with_reducible refine gate_dst (N := 8) rfl ?_); refine Kd.R_make (Kd.int .i64) _ 3 rfl (N := 8) rfl 24 _ _ rfl (l0.length : Int) rfl rfl Try.underlying24 (.int .i64 0) 8 info3 rfl (by decide) (by omega) 0 (ok := fun _ => True) (okp := fun _ => True) rfl (fun _ hk => hk) trivial (of_decide_eq_true qe84_) (Nat.le_trans (Nat.mul_le_mul_right _ (of_decide_eq_true qe84_ : (l0.length : Int).toNat ≤ 35184372088832)) (by omega)) (Below.refl _ _) (Nat.le_refl _) ?_; intro v232 w4 ho5 hb hg_ hnew_; clear hg_ hnew_; (first | rw [← Ny231.out] at ho5 | (simp only [Int.reduceToNat] at ho5; rw [← Ny231.out] at ho5)); have HO233 := Aside0.mk (Kd.R_lower ho5 (below_size q0c4_)); replace HB := Aside0.mk (below_step q0c4_ hb); clear hb ho5)); try (go_quiet (fail); have zz_ := trivial))
   go_loopg [11] k (fun kq v11 w' => ∃ (x3_1 : List Int) (x11_1 : Int), v11 = .int .i64 x11_1 ∧ Aside0 (spec_reLabel.l0 kq l0 x3_1 (l0.length : Int) x11_1 = some r) ∧ Aside0 (kq ≤ k) ∧ Aside0 (Kd.R (Kd.int .i64) 3 w' w.heap.size (fun _ => True) v232 x3_1) ∧ Aside0 (Below w.heap.size w w'))
   case atStart => exact ⟨(y231), (0), qc8f_, H', ⟨Nat.le_refl _⟩, ⟨q9d5_ HO233.out⟩, ⟨q0c4_⟩⟩
   case round =>
    clear H'; try clear c2; try clear c2b0; try clear c2b1; try clear p2; try clear c3; try clear c3b0; try clear c3b1
    obtain ⟨x3_1, x11_1, rfl, HA, HK1, HO_3, HB⟩ := hrel
    cases gk with
    | zero => exact absurd HA.out (by simp [spec_reLabel.l0])
    | succ k1 =>
     have H := HA.out
     clear HA
     simp only [spec_reLabel.l0] at H
     by_cases c6 : x11_1 < (l0.length : Int)
     ·
      rw [if_pos c6] at H
      have c6b0 := decide_eq_true c6
      clear c6
      have H' := Aside0.mk H
      clear H
      go_wp2
      repeat (go_quiet (fail); try go_wp2)
      go_loopg [16] k1 (fun kq v16 w' => ∃ (x3_2 : List Int) (x16_2 : Int), v16 = .int .i64 x16_2 ∧ Aside0 (spec_reLabel.l1 kq l0 x3_2 x11_1 (l0.length : Int) x11_1 (l0.length : Int) x16_2 = some r) ∧ Aside0 (kq ≤ k1) ∧ Aside0 (Kd.R (Kd.int .i64) 3 w' w.heap.size (fun _ => True) v232 x3_2) ∧ Aside0 (Below w.heap.size w w'))
      case atStart => exact ⟨(x3_1), (0), qc8f_, H', ⟨Nat.le_refl _⟩, ⟨q9d5_ HO_3.out⟩, ⟨q0c4_⟩⟩
      case round =>
       clear H'; try clear c2; try clear c2b0; try clear c2b1; try clear p2; try clear c3; try clear c3b0; try clear c3b1; try clear c6; try clear c6b0; try clear p2
       obtain ⟨x3_2, x16_2, rfl, HA, HK2, HO_3, HB⟩ := hrel
       cases gk with
       | zero => exact absurd HA.out (by simp [spec_reLabel.l1])
       | succ k2 =>
        have H := HA.out
        clear HA
        simp only [spec_reLabel.l1] at H
        by_cases c7 : x16_2 < (l0.length : Int)
        ·
         rw [if_pos c7] at H
         have c7b0 := decide_eq_true c7
         clear c7
         by_cases c8 : x16_2 < x11_1
         ·
          rw [if_pos c8] at H
          have c8b0 := decide_eq_true c8
          clear c8
          by_cases c9 : 0 ≤ x16_2
          ·
           rw [if_pos c9] at H
           have c9b0 := decide_eq_true c9
           clear c9
           by_cases c10 : x16_2 < (l0.length : Int)
           ·
            rw [if_pos c10] at H
            have c10b0 := decide_eq_true c10
            clear c10
            by_cases c11 : 0 ≤ x11_1
            ·
             rw [if_pos c11] at H
             have c11b0 := decide_eq_true c11
             clear c11
             by_cases c12 : x11_1 < (l0.length : Int)
             ·
              rw [if_pos c12] at H
              have c12b0 := decide_eq_true c12
              clear c12
              by_cases c13 : (wrap64 ((rd l0 x16_2) - (rd l0 x11_1))) > 100
              ·
               rw [if_pos c13] at H
               have c13b0 := decide_eq_true c13
               clear c13
               by_cases c14 : x11_1 < (x3_2.length : Int)
               ·
                rw [if_pos c14] at H
                have c14b0 := decide_eq_true c14
                clear c14
                obtain ⟨y237, hy237⟩ : ∃ y_ : List Int, y_ = (x3_2.set (x11_1 : Int).toNat (wrap64 ((rd x3_2 x11_1) + 1))) := ⟨_, rfl⟩
                replace H : (spec_reLabel.l1 k2 l0 y237 x11_1 (l0.length : Int) x11_1 (l0.length : Int) (wrap64 (x16_2 + 1))) = some r := by first | (rw [hy237]; with_reducible exact H) | (have H2_ := (Option.bind_some _ _).symm.trans H; rw [hy237]; with_reducible exact H2_) | (have H2_ := (Option.bind_some _ _).symm.trans H; with_reducible exact H2_) | with_reducible exact H | (rw [hy237]; exact H) | exact H
                have Ny237 := Aside0.mk hy237
                clear hy237
                have H' := Aside0.mk H
                clear H
                have p234 : 0 ≤ (x16_2 : Int) := of_decide_eq_true qe84_
                have q234 : x16_2 < (l0.length : Int) := of_decide_eq_true qe84_
                obtain ⟨ad234, e234, hx234_0⟩ := Kd.at_int HR0.out x16_2 p234 q234
                cases e234
                (try (replace hx234_0 := (HB.out.cell (World.block_lt_of_cell? w _ hx234_0)).trans hx234_0))
                replace p234 := eq_true p234
                replace q234 := eq_true q234
                have p235 : 0 ≤ (x11_1 : Int) := of_decide_eq_true qe84_
                have q235 : x11_1 < (l0.length : Int) := of_decide_eq_true qe84_
                obtain ⟨ad235, e235, hx235_0⟩ := Kd.at_int HR0.out x11_1 p235 q235
                obtain rfl : ad234 = ad235 := (by injection e235)
                (try (replace hx235_0 := (HB.out.cell (World.block_lt_of_cell? w _ hx235_0)).trans hx235_0))
                replace p235 := eq_true p235
                replace q235 := eq_true q235
                obtain ⟨Ao16, co16, eo16⟩ := Kd.R_slice HO_3.out
                subst eo16
                have p236 : 0 ≤ (x11_1 : Int) := of_decide_eq_true qe84_
                have q236 : x11_1 < (x3_2.length : Int) := of_decide_eq_true qe84_
                obtain ⟨ad236, e236, hx236_0⟩ := Kd.at_int (Kd.R_reads' HO_3.out).2.2 x11_1 p236 q236
                cases e236
                replace p236 := eq_true p236
                replace q236 := eq_true q236
                have p15 : 0 ≤ (x11_1 : Int) := of_decide_eq_true qe84_
                have q15 : (x11_1 : Int) < ((x3_2.length : Int) : Int) := of_decide_eq_true qe84_
                obtain ⟨go15, co15, eo15, gb15, gl15, cl15, HG15⟩ := Kd.R_form HO_3.out (by omega)
                (first | cases eo15 | (injection eo15 with ea_ en_ ec_; (first | subst ea_ | (injection ea_ with ea_; subst ea_)); subst ec_; clear en_))
                have GB15 := Aside0.mk gb15
                have GG15 := Aside0.mk HG15
                clear gb15 gl15 HG15
                (first | simp only [add_plain] at hx236_0 | skip)
                obtain ⟨hx15_0, hf15_0⟩ := Kd.R_celln 0 HO_3.out (x11_1 : Int) p15 q15
                replace p15 := eq_true p15
                replace q15 := eq_true q15
                have HP17 := Kd.R_putg HO_3.out (x11_1 : Int) (wrap64 ((rd x3_2 x11_1) + 1))
                have zz_ := trivial
                repeat (clear zz_; go_wp2_with (first | ((with_reducible refine gate_store (t := 3) (p := 55) rfl ?_); (try (rw [drewN_self wr]; generalize hq_ : World.drewN wr _ = wr; have n0_ := Aside0.mk (Kd.R_at hq_ HO_3.out); have n1_ := Aside0.mk (below_at hq_ HB.out); clear hq_ HO_3 HB; have HO_3 := n0_; have HB := n1_; clear n0_ n1_; (try (have HP17 := Kd.R_putg HO_3.out (x11_1 : Int) (wrap64 ((rd x3_2 x11_1) + 1)))))); refine store_event (t := 3) (p := 55) (v := ?vo_w18) (w1 := (wr.setCell ⟨go15, (x11_1 : Int).toNat, none⟩ (.int .i64 (wrap64 ((rd x3_2 x11_1) + 1))))) ?hg ?ho ?hn ?hr ?_; (case ho => rfl); (case hg => rfl); (case hn => rfl); (case hr => exact qfba_); intro w18 hw; have hg : wr.grownBy w18 (some go15) := (by rw [hw]; exact HP17.2); have hp_ : Kd.R (Kd.int .i64) 3 w18 w.heap.size (fun _ => True) (.slice (some ⟨go15, 0, none⟩) x3_2.length co16) y237 := (by rw [hw, Ny237.out]; exact HP17.1); clear HP17; replace HO_3 := Aside0.mk (hp_); replace HB := Aside0.mk ((by rw [hw]; exact below_set (HB.out) GB15.out : Below w.heap.size w w18)); clear hg hw hp_)); try (go_quiet (fail); have zz_ := trivial))
                go_roundg k2
                case measure => have := HK1.out; have := HK2.out; omega
                case rel => first | exact ⟨(y237), (wrap64 (x16_2 + 1)), qc8f_, H', ⟨q37b_ HK1.out HK2.out⟩, ⟨q9d5_ HO_3.out⟩, ⟨q0c4_⟩⟩ | exact ⟨(y237), (wrap64 (x16_2 + 1)), qc8f_, H', ⟨q37b_ HK1.out HK2.out⟩, ⟨by rw [Ny237.out]; exact (Kd.R_putg (Kd.R_drewN HO_3.out _) _ _).1⟩, ⟨by exact Below.grown (pw_below_drewN HB.out _) (Kd.R_putg (Kd.R_drewN HO_3.out _) _ _).2 (Below.size (pw_below_drewN HB.out _)) (fun j hj => by cases hj; exact Kd.R_base HO_3.out _ rfl)⟩⟩
               ·
                rw [if_neg c14] at H
                exact absurd H (by simp)
              ·
               rw [if_neg c13] at H
               have c13b0 := decide_eq_false c13
               clear c13
               by_cases c19 : x16_2 > x11_1
               ·
                rw [if_pos c19] at H
                have c19b0 := decide_eq_true c19
                clear c19
                by_cases c20 : (rd l0 x16_2) > (rd l0 x11_1)
                ·
                 rw [if_pos c20] at H
                 have c20b0 := decide_eq_true c20
                 clear c20
                 by_cases c21 : x11_1 < (x3_2.length : Int)
                 ·
                  rw [if_pos c21] at H
                  have c21b0 := decide_eq_true c21
                  clear c21
                  obtain ⟨y241, hy241⟩ : ∃ y_ : List Int, y_ = (x3_2.set (x11_1 : Int).toNat (wrap64 ((rd x3_2 x11_1) + 1))) := ⟨_, rfl⟩
                  replace H : (spec_reLabel.l1 k2 l0 y241 x11_1 (l0.length : Int) x11_1 (l0.length : Int) (wrap64 (x16_2 + 1))) = some r := by first | (rw [hy241]; with_reducible exact H) | (have H2_ := (Option.bind_some _ _).symm.trans H; rw [hy241]; with_reducible exact H2_) | (have H2_ := (Option.bind_some _ _).symm.trans H; with_reducible exact H2_) | with_reducible exact H | (rw [hy241]; exact H) | exact H
                  have Ny241 := Aside0.mk hy241
                  clear hy241
                  have H' := Aside0.mk H
                  clear H
                  have p234 : 0 ≤ (x16_2 : Int) := of_decide_eq_true qe84_
                  have q234 : x16_2 < (l0.length : Int) := of_decide_eq_true qe84_
                  obtain ⟨ad234, e234, hx234_0⟩ := Kd.at_int HR0.out x16_2 p234 q234
                  cases e234
                  (try (replace hx234_0 := (HB.out.cell (World.block_lt_of_cell? w _ hx234_0)).trans hx234_0))
                  replace p234 := eq_true p234
                  replace q234 := eq_true q234
                  have p235 : 0 ≤ (x11_1 : Int) := of_decide_eq_true qe84_
                  have q235 : x11_1 < (l0.length : Int) := of_decide_eq_true qe84_
                  obtain ⟨ad235, e235, hx235_0⟩ := Kd.at_int HR0.out x11_1 p235 q235
                  obtain rfl : ad234 = ad235 := (by injection e235)
                  (try (replace hx235_0 := (HB.out.cell (World.block_lt_of_cell? w _ hx235_0)).trans hx235_0))
                  replace p235 := eq_true p235
                  replace q235 := eq_true q235
                  have p238 : 0 ≤ (x16_2 : Int) := of_decide_eq_true qe84_
                  have q238 : x16_2 < (l0.length : Int) := of_decide_eq_true qe84_
                  obtain ⟨ad238, e238, hx238_0⟩ := Kd.at_int HR0.out x16_2 p238 q238
                  obtain rfl : ad234 = ad238 := (by injection e238)
                  (try (replace hx238_0 := (HB.out.cell (World.block_lt_of_cell? w _ hx238_0)).trans hx238_0))
                  replace p238 := eq_true p238
                  replace q238 := eq_true q238
                  have p239 : 0 ≤ (x11_1 : Int) := of_decide_eq_true qe84_
                  have q239 : x11_1 < (l0.length : Int) := of_decide_eq_true qe84_
                  obtain ⟨ad239, e239, hx239_0⟩ := Kd.at_int HR0.out x11_1 p239 q239
                  obtain rfl : ad234 = ad239 := (by injection e239)
                  (try (replace hx239_0 := (HB.out.cell (World.block_lt_of_cell? w _ hx239_0)).trans hx239_0))
                  replace p239 := eq_true p239
                  replace q239 := eq_true q239
                  obtain ⟨Ao23, co23, eo23⟩ := Kd.R_slice HO_3.out
                  subst eo23
                  have p240 : 0 ≤ (x11_1 : Int) := of_decide_eq_true qe84_
                  have q240 : x11_1 < (x3_2.length : Int) := of_decide_eq_true qe84_
                  obtain ⟨ad240, e240, hx240_0⟩ := Kd.at_int (Kd.R_reads' HO_3.out).2.2 x11_1 p240 q240
                  cases e240
                  replace p240 := eq_true p240
                  replace q240 := eq_true q240
                  have p22 : 0 ≤ (x11_1 : Int) := of_decide_eq_true qe84_
                  have q22 : (x11_1 : Int) < ((x3_2.length : Int) : Int) := of_decide_eq_true qe84_
                  obtain ⟨go22, co22, eo22, gb22, gl22, cl22, HG22⟩ := Kd.R_form HO_3.out (by omega)
                  (first | cases eo22 | (injection eo22 with ea_ en_ ec_; (first | subst ea_ | (injection ea_ with ea_; subst ea_)); subst ec_; clear en_))
                  have GB22 := Aside0.mk gb22
                  have GG22 := Aside0.mk HG22
                  clear gb22 gl22 HG22
                  (first | simp only [add_plain] at hx240_0 | skip)
                  obtain ⟨hx22_0, hf22_0⟩ := Kd.R_celln 0 HO_3.out (x11_1 : Int) p22 q22
                  replace p22 := eq_true p22
                  replace q22 := eq_true q22
                  have HP24 := Kd.R_putg HO_3.out (x11_1 : Int) (wrap64 ((rd x3_2 x11_1) + 1))
                  have zz_ := trivial
                  repeat (clear zz_; go_wp2_with (first | ((with_reducible refine gate_store (t := 3) (p := 55) rfl ?_); (try (rw [drewN_self wr]; generalize hq_ : World.drewN wr _ = wr; have n0_ := Aside0.mk (Kd.R_at hq_ HO_3.out); have n1_ := Aside0.mk (below_at hq_ HB.out); clear hq_ HO_3 HB; have HO_3 := n0_; have HB := n1_; clear n0_ n1_; (try (have HP24 := Kd.R_putg HO_3.out (x11_1 : Int) (wrap64 ((rd x3_2 x11_1) + 1)))))); refine store_event (t := 3) (p := 55) (v := ?vo_w25) (w1 := (wr.setCell ⟨go22, (x11_1 : Int).toNat, none⟩ (.int .i64 (wrap64 ((rd x3_2 x11_1) + 1))))) ?hg ?ho ?hn ?hr ?_; (case ho => rfl); (case hg => rfl); (case hn => rfl); (case hr => exact qfba_); intro w25 hw; have hg : wr.grownBy w25 (some go22) := (by rw [hw]; exact HP24.2); have hp_ : Kd.R (Kd.int .i64) 3 w25 w.heap.size (fun _ => True) (.slice (some ⟨go22, 0, none⟩) x3_2.length co23) y241 := (by rw [hw, Ny241.out]; exact HP24.1); clear HP24; replace HO_3 := Aside0.mk (hp_); replace HB := Aside0.mk ((by rw [hw]; exact below_set (HB.out) GB22.out : Below w.heap.size w w25)); clear hg hw hp_)); try (go_quiet (fail); have zz_ := trivial))
                  go_roundg k2
                  case measure => have := HK1.out; have := HK2.out; omega
                  case rel => first | exact ⟨(y241), (wrap64 (x16_2 + 1)), qc8f_, H', ⟨q37b_ HK1.out HK2.out⟩, ⟨q9d5_ HO_3.out⟩, ⟨q0c4_⟩⟩ | exact ⟨(y241), (wrap64 (x16_2 + 1)), qc8f_, H', ⟨q37b_ HK1.out HK2.out⟩, ⟨by rw [Ny241.out]; exact (Kd.R_putg (Kd.R_drewN HO_3.out _) _ _).1⟩, ⟨by exact Below.grown (pw_below_drewN HB.out _) (Kd.R_putg (Kd.R_drewN HO_3.out _) _ _).2 (Below.size (pw_below_drewN HB.out _)) (fun j hj => by cases hj; exact Kd.R_base HO_3.out _ rfl)⟩⟩
                 ·
                  rw [if_neg c21] at H
                  exact absurd H (by simp)
                ·
                 rw [if_neg c20] at H
                 have c20b0 := decide_eq_false c20
                 clear c20
                 have H' := Aside0.mk H
                 clear H
                 have p234 : 0 ≤ (x16_2 : Int) := of_decide_eq_true qe84_
                 have q234 : x16_2 < (l0.length : Int) := of_decide_eq_true qe84_
                 obtain ⟨ad234, e234, hx234_0⟩ := Kd.at_int HR0.out x16_2 p234 q234
                 cases e234
                 (try (replace hx234_0 := (HB.out.cell (World.block_lt_of_cell? w _ hx234_0)).trans hx234_0))
                 replace p234 := eq_true p234
                 replace q234 := eq_true q234
                 have p235 : 0 ≤ (x11_1 : Int) := of_decide_eq_true qe84_
                 have q235 : x11_1 < (l0.length : Int) := of_decide_eq_true qe84_
                 obtain ⟨ad235, e235, hx235_0⟩ := Kd.at_int HR0.out x11_1 p235 q235
                 obtain rfl : ad234 = ad235 := (by injection e235)
                 (try (replace hx235_0 := (HB.out.cell (World.block_lt_of_cell? w _ hx235_0)).trans hx235_0))
                 replace p235 := eq_true p235
                 replace q235 := eq_true q235
                 have p238 : 0 ≤ (x16_2 : Int) := of_decide_eq_true qe84_
                 have q238 : x16_2 < (l0.length : Int) := of_decide_eq_true qe84_
                 obtain ⟨ad238, e238, hx238_0⟩ := Kd.at_int HR0.out x16_2 p238 q238
                 obtain rfl : ad234 = ad238 := (by injection e238)
                 (try (replace hx238_0 := (HB.out.cell (World.block_lt_of_cell? w _ hx238_0)).trans hx238_0))
                 replace p238 := eq_true p238
                 replace q238 := eq_true q238
                 have p239 : 0 ≤ (x11_1 : Int) := of_decide_eq_true qe84_
                 have q239 : x11_1 < (l0.length : Int) := of_decide_eq_true qe84_
                 obtain ⟨ad239, e239, hx239_0⟩ := Kd.at_int HR0.out x11_1 p239 q239
                 obtain rfl : ad234 = ad239 := (by injection e239)
                 (try (replace hx239_0 := (HB.out.cell (World.block_lt_of_cell? w _ hx239_0)).trans hx239_0))
                 replace p239 := eq_true p239
                 replace q239 := eq_true q239
                 go_wp2
                 repeat (go_quiet (fail); try go_wp2)
                 go_roundg k2
                 case measure => have := HK1.out; have := HK2.out; omega
                 case rel => exact ⟨(x3_2), (wrap64 (x16_2 + 1)), qc8f_, H', ⟨q37b_ HK1.out HK2.out⟩, ⟨q9d5_ HO_3.out⟩, ⟨q0c4_⟩⟩
               ·
                rw [if_neg c19] at H
                have c19b0 := decide_eq_false c19
                clear c19
                have H' := Aside0.mk H
                clear H
                have p234 : 0 ≤ (x16_2 : Int) := of_decide_eq_true qe84_
                have q234 : x16_2 < (l0.length : Int) := of_decide_eq_true qe84_
                obtain ⟨ad234, e234, hx234_0⟩ := Kd.at_int HR0.out x16_2 p234 q234
                cases e234
                (try (replace hx234_0 := (HB.out.cell (World.block_lt_of_cell? w _ hx234_0)).trans hx234_0))
                replace p234 := eq_true p234
                replace q234 := eq_true q234
                have p235 : 0 ≤ (x11_1 : Int) := of_decide_eq_true qe84_
                have q235 : x11_1 < (l0.length : Int) := of_decide_eq_true qe84_
                obtain ⟨ad235, e235, hx235_0⟩ := Kd.at_int HR0.out x11_1 p235 q235
                obtain rfl : ad234 = ad235 := (by injection e235)
                (try (replace hx235_0 := (HB.out.cell (World.block_lt_of_cell? w _ hx235_0)).trans hx235_0))
                replace p235 := eq_true p235
                replace q235 := eq_true q235
                go_wp2
                repeat (go_quiet (fail); try go_wp2)
                go_roundg k2
                case measure => have := HK1.out; have := HK2.out; omega
                case rel => exact ⟨(x3_2), (wrap64 (x16_2 + 1)), qc8f_, H', ⟨q37b_ HK1.out HK2.out⟩, ⟨q9d5_ HO_3.out⟩, ⟨q0c4_⟩⟩
             ·
              rw [if_neg c12] at H
              exact absurd H (by simp)
            ·
             rw [if_neg c11] at H
             exact absurd H (by simp)
           ·
            rw [if_neg c10] at H
            exact absurd H (by simp)
          ·
           rw [if_neg c9] at H
           exact absurd H (by simp)
         ·
          rw [if_neg c8] at H
          have c8b0 := decide_eq_false c8
          clear c8
          by_cases c26 : x16_2 > x11_1
          ·
           rw [if_pos c26] at H
           have c26b0 := decide_eq_true c26
           clear c26
           by_cases c27 : 0 ≤ x16_2
           ·
            rw [if_pos c27] at H
            have c27b0 := decide_eq_true c27
            clear c27
            by_cases c28 : x16_2 < (l0.length : Int)
            ·
             rw [if_pos c28] at H
             have c28b0 := decide_eq_true c28
             clear c28
             by_cases c29 : 0 ≤ x11_1
             ·
              rw [if_pos c29] at H
              have c29b0 := decide_eq_true c29
              clear c29
              by_cases c30 : x11_1 < (l0.length : Int)
              ·
               rw [if_pos c30] at H
               have c30b0 := decide_eq_true c30
               clear c30
               by_cases c31 : (rd l0 x16_2) > (rd l0 x11_1)
               ·
                rw [if_pos c31] at H
                have c31b0 := decide_eq_true c31
                clear c31
                by_cases c32 : x11_1 < (x3_2.length : Int)
                ·
                 rw [if_pos c32] at H
                 have c32b0 := decide_eq_true c32
                 clear c32
                 obtain ⟨y245, hy245⟩ : ∃ y_ : List Int, y_ = (x3_2.set (x11_1 : Int).toNat (wrap64 ((rd x3_2 x11_1) + 1))) := ⟨_, rfl⟩
                 replace H : (spec_reLabel.l1 k2 l0 y245 x11_1 (l0.length : Int) x11_1 (l0.length : Int) (wrap64 (x16_2 + 1))) = some r := by first | (rw [hy245]; with_reducible exact H) | (have H2_ := (Option.bind_some _ _).symm.trans H; rw [hy245]; with_reducible exact H2_) | (have H2_ := (Option.bind_some _ _).symm.trans H; with_reducible exact H2_) | with_reducible exact H | (rw [hy245]; exact H) | exact H
                 have Ny245 := Aside0.mk hy245
                 clear hy245
                 have H' := Aside0.mk H
                 clear H
                 have p242 : 0 ≤ (x16_2 : Int) := of_decide_eq_true qe84_
                 have q242 : x16_2 < (l0.length : Int) := of_decide_eq_true qe84_
                 obtain ⟨ad242, e242, hx242_0⟩ := Kd.at_int HR0.out x16_2 p242 q242
                 cases e242
                 (try (replace hx242_0 := (HB.out.cell (World.block_lt_of_cell? w _ hx242_0)).trans hx242_0))
                 replace p242 := eq_true p242
                 replace q242 := eq_true q242
                 have p243 : 0 ≤ (x11_1 : Int) := of_decide_eq_true qe84_
                 have q243 : x11_1 < (l0.length : Int) := of_decide_eq_true qe84_
                 obtain ⟨ad243, e243, hx243_0⟩ := Kd.at_int HR0.out x11_1 p243 q243
                 obtain rfl : ad242 = ad243 := (by injection e243)
                 (try (replace hx243_0 := (HB.out.cell (World.block_lt_of_cell? w _ hx243_0)).trans hx243_0))
                 replace p243 := eq_true p243
                 replace q243 := eq_true q243
                 obtain ⟨Ao34, co34, eo34⟩ := Kd.R_slice HO_3.out
                 subst eo34
                 have p244 : 0 ≤ (x11_1 : Int) := of_decide_eq_true qe84_
                 have q244 : x11_1 < (x3_2.length : Int) := of_decide_eq_true qe84_
                 obtain ⟨ad244, e244, hx244_0⟩ := Kd.at_int (Kd.R_reads' HO_3.out).2.2 x11_1 p244 q244
                 cases e244
                 replace p244 := eq_true p244
                 replace q244 := eq_true q244
                 have p33 : 0 ≤ (x11_1 : Int) := of_decide_eq_true qe84_
                 have q33 : (x11_1 : Int) < ((x3_2.length : Int) : Int) := of_decide_eq_true qe84_
                 obtain ⟨go33, co33, eo33, gb33, gl33, cl33, HG33⟩ := Kd.R_form HO_3.out (by omega)
                 (first | cases eo33 | (injection eo33 with ea_ en_ ec_; (first | subst ea_ | (injection ea_ with ea_; subst ea_)); subst ec_; clear en_))
                 have GB33 := Aside0.mk gb33
                 have GG33 := Aside0.mk HG33
                 clear gb33 gl33 HG33
                 (first | simp only [add_plain] at hx244_0 | skip)
                 obtain ⟨hx33_0, hf33_0⟩ := Kd.R_celln 0 HO_3.out (x11_1 : Int) p33 q33
                 replace p33 := eq_true p33
                 replace q33 := eq_true q33
                 have HP35 := Kd.R_putg HO_3.out (x11_1 : Int) (wrap64 ((rd x3_2 x11_1) + 1))
                 have zz_ := trivial
                 repeat (clear zz_; go_wp2_with (first | ((with_reducible refine gate_store (t := 3) (p := 55) rfl ?_); (try (rw [drewN_self wr]; generalize hq_ : World.drewN wr _ = wr; have n0_ := Aside0.mk (Kd.R_at hq_ HO_3.out); have n1_ := Aside0.mk (below_at hq_ HB.out); clear hq_ HO_3 HB; have HO_3 := n0_; have HB := n1_; clear n0_ n1_; (try (have HP35 := Kd.R_putg HO_3.out (x11_1 : Int) (wrap64 ((rd x3_2 x11_1) + 1)))))); refine store_event (t := 3) (p := 55) (v := ?vo_w36) (w1 := (wr.setCell ⟨go33, (x11_1 : Int).toNat, none⟩ (.int .i64 (wrap64 ((rd x3_2 x11_1) + 1))))) ?hg ?ho ?hn ?hr ?_; (case ho => rfl); (case hg => rfl); (case hn => rfl); (case hr => exact qfba_); intro w36 hw; have hg : wr.grownBy w36 (some go33) := (by rw [hw]; exact HP35.2); have hp_ : Kd.R (Kd.int .i64) 3 w36 w.heap.size (fun _ => True) (.slice (some ⟨go33, 0, none⟩) x3_2.length co34) y245 := (by rw [hw, Ny245.out]; exact HP35.1); clear HP35; replace HO_3 := Aside0.mk (hp_); replace HB := Aside0.mk ((by rw [hw]; exact below_set (HB.out) GB33.out : Below w.heap.size w w36)); clear hg hw hp_)); try (go_quiet (fail); have zz_ := trivial))
                 go_roundg k2
                 case measure => have := HK1.out; have := HK2.out; omega
                 case rel => first | exact ⟨(y245), (wrap64 (x16_2 + 1)), qc8f_, H', ⟨q37b_ HK1.out HK2.out⟩, ⟨q9d5_ HO_3.out⟩, ⟨q0c4_⟩⟩ | exact ⟨(y245), (wrap64 (x16_2 + 1)), qc8f_, H', ⟨q37b_ HK1.out HK2.out⟩, ⟨by rw [Ny245.out]; exact (Kd.R_putg (Kd.R_drewN HO_3.out _) _ _).1⟩, ⟨by exact Below.grown (pw_below_drewN HB.out _) (Kd.R_putg (Kd.R_drewN HO_3.out _) _ _).2 (Below.size (pw_below_drewN HB.out _)) (fun j hj => by cases hj; exact Kd.R_base HO_3.out _ rfl)⟩⟩
                ·
                 rw [if_neg c32] at H
                 exact absurd H (by simp)
               ·
                rw [if_neg c31] at H
                have c31b0 := decide_eq_false c31
                clear c31
                have H' := Aside0.mk H
                clear H
                have p242 : 0 ≤ (x16_2 : Int) := of_decide_eq_true qe84_
                have q242 : x16_2 < (l0.length : Int) := of_decide_eq_true qe84_
                obtain ⟨ad242, e242, hx242_0⟩ := Kd.at_int HR0.out x16_2 p242 q242
                cases e242
                (try (replace hx242_0 := (HB.out.cell (World.block_lt_of_cell? w _ hx242_0)).trans hx242_0))
                replace p242 := eq_true p242
                replace q242 := eq_true q242
                have p243 : 0 ≤ (x11_1 : Int) := of_decide_eq_true qe84_
                have q243 : x11_1 < (l0.length : Int) := of_decide_eq_true qe84_
                obtain ⟨ad243, e243, hx243_0⟩ := Kd.at_int HR0.out x11_1 p243 q243
                obtain rfl : ad242 = ad243 := (by injection e243)
                (try (replace hx243_0 := (HB.out.cell (World.block_lt_of_cell? w _ hx243_0)).trans hx243_0))
                replace p243 := eq_true p243
                replace q243 := eq_true q243
                go_wp2
                repeat (go_quiet (fail); try go_wp2)
                go_roundg k2
                case measure => have := HK1.out; have := HK2.out; omega
                case rel => exact ⟨(x3_2), (wrap64 (x16_2 + 1)), qc8f_, H', ⟨q37b_ HK1.out HK2.out⟩, ⟨q9d5_ HO_3.out⟩, ⟨q0c4_⟩⟩
              ·
               rw [if_neg c30] at H
               exact absurd H (by simp)
             ·
              rw [if_neg c29] at H
              exact absurd H (by simp)
            ·
             rw [if_neg c28] at H
             exact absurd H (by simp)
           ·
            rw [if_neg c27] at H
            exact absurd H (by simp)
          ·
           rw [if_neg c26] at H
           have c26b0 := decide_eq_false c26
           clear c26
           have H' := Aside0.mk H
           clear H
           go_wp2
           repeat (go_quiet (fail); try go_wp2)
           go_roundg k2
           case measure => have := HK1.out; have := HK2.out; omega
           case rel => exact ⟨(x3_2), (wrap64 (x16_2 + 1)), qc8f_, H', ⟨q37b_ HK1.out HK2.out⟩, ⟨q9d5_ HO_3.out⟩, ⟨q0c4_⟩⟩
        ·
         rw [if_neg c7] at H
         have c7b0 := decide_eq_false c7
         clear c7
         have H' := Aside0.mk H
         clear H
         go_wp2
         repeat (go_quiet (fail); try go_wp2)
         go_roundg k2
         case measure => have := HK1.out; have := HK2.out; omega
         case rel => exact ⟨(x3_2), (wrap64 (x11_1 + 1)), qc8f_, H', ⟨q37b_ HK1.out HK2.out⟩, ⟨q9d5_ HO_3.out⟩, ⟨q0c4_⟩⟩
     ·
      rw [if_neg c6] at H
      have c6b0 := decide_eq_false c6
      clear c6
      obtain rfl := Option.some.inj H
      go_wp2
      repeat (go_quiet (fail); try go_wp2)
      go_ret
      exact ⟨_, qce7_, q9d5_ HO_3.out, q0c4_⟩
  ·
   rw [if_neg c3] at H
   exact absurd H (by simp)
 ·
  rw [if_neg c2] at H
  exact absurd H (by simp)

/-! ### spec_LabelOfPoint: function 10 -/
def spec_LabelOfPoint.f (k : Nat) (l0 : List Int) : Option (List Int × Bool) := (spec_rePoint.f k l0).bind fun t246 => (if t246 = true then ((spec_reLabel.f k l0).bind fun t247 => (some (t247, true))) else (some (([] : List Int), false)))
theorem spec_LabelOfPoint.mono : ∀ a0 k, LeO (spec_LabelOfPoint.f k a0) (spec_LabelOfPoint.f (k + 1) a0) := by
 intro a0 k
 unfold spec_LabelOfPoint.f
 repeat' (with_reducible first | exact spec_reLabel.mono _ _ | exact spec_rePoint.mono _ _ | exact LeO.refl _ | exact LeO.none _ | refine LeO.ite ?_ ?_ | refine LeO.bind ?_ (fun _ => ?_))
theorem spec_LabelOfPoint.calls (k : Nat) (A0 : Option Addr) (c0 : Nat) (l0 : List Int) (r1 : List Int) (r2 : Bool) (w : World) (hr0 : Kd.C (Kd.int .i64) w A0 l0.length l0) (hc0 : l0.length ≤ c0) (h : spec_LabelOfPoint.f k l0 = some (r1, r2)) :
  Calls Try.prog 10 #[.slice A0 l0.length c0] w fun e w' => ∃ v0_ : Value, e = .returned (.tuple #[v0_, .bool r2]) ∧ Kd.R (Kd.int .i64) 3 w' w.heap.size (fun _ => True) v0_ r1 ∧ Below w.heap.size w w' := by
 have HR0 := Aside0.mk hr0
 have HC0 := Aside0.mk hc0
 clear hr0 hc0
 have HB := Aside0.mk (Below.refl w.heap.size w)
 unfold spec_LabelOfPoint.f at h
 have H := h; clear h
 obtain ⟨t246, A2, H⟩ := ob_ H
 by_cases c3 : t246 = true
 ·
  subst c3
  rw [if_pos rfl] at H
  obtain ⟨t247, A4, H⟩ := ob_ H
  simp only [Option.some.injEq, Prod.mk.injEq] at H
  obtain ⟨rfl, rfl⟩ := H
  go_enter Try.func10, Try.ntmps10
  go_wp2_with (first | ((with_reducible refine gate_callee (f := 22) rfl ?_); refine gl_ 5 Try.func22 #[.slice A0 l0.length c0] ?_; (with_reducible refine (spec_rePoint.calls k _ _ l0 true _ ?s1 ?s2 A2.out).mono ?_); (case s1 => exact q201_ HR0.out); (case s2 => exact HC0.out); rintro e w' ⟨rfl, ⟨nd, rfl⟩⟩; refine ⟨_, rfl, ?_⟩) | ((with_reducible refine gate_callee (f := 23) rfl ?_); refine gl_ 8 Try.func23 #[.slice A0 l0.length c0] ?_; (with_reducible refine (spec_reLabel.calls k _ _ l0 t247 _ ?s1 ?s2 A4.out).mono ?_); (case s1 => exact q201_ HR0.out); (case s2 => exact HC0.out); rintro e w5 ⟨v248, rfl, ho0, hb⟩; refine ⟨_, rfl, ?_⟩; have HO249 := Aside0.mk (Kd.R_lower ho0 (below_size q0c4_)); replace HB := Aside0.mk (below_step q0c4_ hb); clear hb ho0))
  go_ret2
  exact ⟨_, qce7_, q9d5_ HO249.out, q0c4_⟩
 ·
  replace c3 := Bool.eq_false_iff.mpr c3
  subst c3
  rw [if_neg nf_] at H
  simp only [Option.some.injEq, Prod.mk.injEq] at H
  obtain ⟨rfl, rfl⟩ := H
  go_enter Try.func10, Try.ntmps10
  go_wp2_with (first | ((with_reducible refine gate_callee (f := 22) rfl ?_); refine gl_ 5 Try.func22 #[.slice A0 l0.length c0] ?_; (with_reducible refine (spec_rePoint.calls k _ _ l0 false _ ?s1 ?s2 A2.out).mono ?_); (case s1 => exact q201_ HR0.out); (case s2 => exact HC0.out); rintro e w' ⟨rfl, ⟨nd, rfl⟩⟩; refine ⟨_, rfl, ?_⟩))
  go_ret2
  exact ⟨_, qce7_, qf62_, q0c4_⟩

/-! ### impl_RegionOfPoint: function 11 -/
theorem ropL_mem (l : List Int) : ∀ j ∈ ropL l, 0 ≤ j ∧ j < (l.length : Int) := by
 intro j hj
 unfold ropL ropA at hj
 split at hj
 ·
  simp only [Array.toList_map, List.mem_map] at hj
  obtain ⟨x, _, rfl⟩ := hj
  exact ⟨by omega, by have := x.2; omega⟩
 · simp at hj
theorem rd_range {l : List Int} {n : Nat} (h : ∀ j ∈ l, 0 ≤ j ∧ j < (n : Int)) (p : Nat) (hp : p < l.length) : 0 ≤ rd l (p : Int) ∧ rd l (p : Int) < (n : Int) := by
 refine h _ ?_
 unfold rd
 rw [Int.toNat_natCast, List.getD_eq_getElem?_getD, List.getElem?_eq_getElem hp]
 exact List.getElem_mem _
def impl_RegionOfPoint.f (k : Nat) (l0 : List Int) : Option (List Int × List Int × Bool) := (impl_isPoint.f k l0).bind fun t => (if t = true then (if l0.length ≤ 8 then (some (ropL l0, (ropOut l0 (ropL l0) l0.length).2, true)) else none) else (some (([] : List Int), ([] : List Int), false)))
theorem impl_RegionOfPoint.mono : ∀ a0 k, LeO (impl_RegionOfPoint.f k a0) (impl_RegionOfPoint.f (k + 1) a0) := by
 intro a0 k
 unfold impl_RegionOfPoint.f
 exact LeO.bind (impl_isPoint.mono a0 k) (fun _ => LeO.refl _)
theorem impl_RegionOfPoint.calls (k : Nat) (A0 : Option Addr) (c0 : Nat) (l0 : List Int) (r1 : List Int) (r2 : List Int) (r3 : Bool) (w : World) (hr0 : Kd.C (Kd.int .i64) w A0 l0.length l0) (hc0 : l0.length ≤ c0) (h : impl_RegionOfPoint.f k l0 = some (r1, r2, r3)) :
  Calls Try.prog 11 #[.slice A0 l0.length c0] w fun e w' => ∃ v0_ v1_ : Value, e = .returned (.tuple #[.agg #[v0_, v1_], .bool r3]) ∧ Kd.R (Kd.int .i64) 3 w' w.heap.size (fun k_ => some k_ ≠ (v1_ : Value).ownBlock) v0_ r1 ∧ Kd.R (Kd.int .i64) 3 w' w.heap.size (fun k_ => some k_ ≠ (v0_ : Value).ownBlock) v1_ r2 ∧ Below w.heap.size w w' := by
 have hu33 := Try.underlying33
 have HR0 := Aside0.mk hr0
 have HC0 := Aside0.mk hc0
 clear hr0 hc0
 unfold impl_RegionOfPoint.f at h
 obtain ⟨t, A1, h2⟩ := ob_ h
 clear h
 cases t with
 | false =>
  rw [if_neg nf_] at h2
  simp only [Option.some.injEq, Prod.mk.injEq] at h2
  obtain ⟨rfl, rfl, rfl⟩ := h2
  go_enter Try.func11, Try.ntmps11
  go_wp2_with (first | ((with_reducible refine gate_dst (N := 1) rfl ?_); refine box_event ?hg (N := 1) ?hd (cs := #[.slice A0 l0.length c0]) (t := 24) ?hr ?_; (case hd => rfl); (case hg => rfl); (case hr => exact qfba_); intro g1 hg w1 hbox hb; have HX1 := Aside0.mk (And.intro hbox (blk_lt hbox)); have HBW := Aside0.mk (below_step (Below.refl _ _) hb); have HG1 := Aside0.mk (Nat.le_of_eq hg.symm); clear hb hbox hg) | ((with_reducible refine gate_dst (N := 2) rfl ?_); refine box_event ?hg (N := 2) ?hd (cs := #[.slice none 0 0, .slice none 0 0]) (t := 33) ?hr ?_; (case hd => rfl); (case hg => rfl); (case hr => exact qfba_); intro g2 hg w2 hbox hb; have H2 := Aside0.mk hbox; have HB2 := Aside0.mk (below_step (Below.refl _ _) hb); have GE2 := Aside0.mk (Nat.le_of_eq hg.symm); clear hb hbox hg; have hcz1 : w2.cell? ⟨g1, 0, none⟩ = some (.slice A0 l0.length c0) := (blk_cell (blk_below HX1.out.1 HB2.out) 0).trans rfl) | (go_at_call 21; refine (impl_isPoint.calls k _ _ l0 false _ (by repeat (first | exact Kd.C_below (Kd.C_below HR0.out HBW.out) HB2.out | (with_reducible refine Kd.C_drewN ?_ _))) HC0.out A1.out).mono ?_; rintro e w3 ⟨rfl, hb⟩; have h2_ := Aside0.mk (blk_below (w1 := w3) (q66c_ H2.out) hb); have hb_ := Aside0.mk (below_step (w := w1) (by repeat (first | exact HB2.out | apply pw_below_drewN | apply below_drew1)) hb); clear H2 HB2 hcz1; have H2 := h2_; have HB3 := hb_; clear h2_ hb_ hb; have hcz1 : w3.cell? ⟨g1, 0, none⟩ = some (.slice A0 l0.length c0) := (blk_cell (blk_below HX1.out.1 HB3.out) 0).trans rfl; have hyz0 : w3.cell? ⟨g2, 0, none⟩ = some (.slice none 0 0) := (blk_cell H2.out 0).trans rfl; have hyz1 : w3.cell? ⟨g2, 1, none⟩ = some (.slice none 0 0) := (blk_cell H2.out 1).trans rfl; have hyf0 := blk_frozen H2.out 0; have hyf1 := blk_frozen H2.out 1))
  refine bodyPost_ret (results_ct rfl _ _ g2 33 #[.slice none 0 0, .slice none 0 0] (0, 0) _ rfl (by (with_reducible repeat (first | refine blk_drewN ?_ _ | refine blk_drew ?_ | refine blk_alloc ?_ _)); refine blk_put (cs := #[.slice none 0 0, .slice none 0 0]) ?_ 1 _ rfl; (with_reducible repeat (first | refine blk_drewN ?_ _ | refine blk_drew ?_ | refine blk_alloc ?_ _)); refine blk_put (cs := #[.slice none 0 0, .slice none 0 0]) ?_ 0 _ rfl; (with_reducible repeat (first | refine blk_drewN ?_ _ | refine blk_drew ?_ | refine blk_alloc ?_ _)); exact H2.out) Try.underlying33 rfl (by kernel_rfl)) rfl ?_
  have HB5 := Aside0.mk (show Below w.heap.size w w3 from below_then HBW.out HBW.out.size HB3.out)
  have GW2 := Aside0.mk (show w.heap.size ≤ g2 from by have h1_ := GE2.out; have h2_ := HBW.out.size; omega)
  exact ⟨_, _, q6e2_, Kd.R_nil _ _ _ _ _, Kd.R_nil _ _ _ _ _, q85a_ HB5.out⟩
 | true =>
  rw [if_pos rfl] at h2
  split at h2
  case isFalse => cases h2
  case isTrue h8 =>
  have H8 := Aside0.mk h8
  clear h8
  simp only [Option.some.injEq, Prod.mk.injEq] at h2
  obtain ⟨rfl, rfl, rfl⟩ := h2
  go_enter Try.func11, Try.ntmps11
  go_wp2_with (first | ((with_reducible refine gate_dst (N := 1) rfl ?_); refine box_event ?hg (N := 1) ?hd (cs := #[.slice A0 l0.length c0]) (t := 24) ?hr ?_; (case hd => rfl); (case hg => rfl); (case hr => exact qfba_); intro g1 hg w1 hbox hb; have HX1 := Aside0.mk (And.intro hbox (blk_lt hbox)); have HBW := Aside0.mk (below_step (Below.refl _ _) hb); have HG1 := Aside0.mk (Nat.le_of_eq hg.symm); clear hb hbox hg) | ((with_reducible refine gate_dst (N := 2) rfl ?_); refine box_event ?hg (N := 2) ?hd (cs := #[.slice none 0 0, .slice none 0 0]) (t := 33) ?hr ?_; (case hd => rfl); (case hg => rfl); (case hr => exact qfba_); intro g2 hg w2 hbox hb; have H2 := Aside0.mk hbox; have HB2 := Aside0.mk (below_step (Below.refl _ _) hb); have GE2 := Aside0.mk (Nat.le_of_eq hg.symm); clear hb hbox hg; have hcz1 : w2.cell? ⟨g1, 0, none⟩ = some (.slice A0 l0.length c0) := (blk_cell (blk_below HX1.out.1 HB2.out) 0).trans rfl) | (go_at_call 21; refine (impl_isPoint.calls k _ _ l0 true _ (by repeat (first | exact Kd.C_below (Kd.C_below HR0.out HBW.out) HB2.out | (with_reducible refine Kd.C_drewN ?_ _))) HC0.out A1.out).mono ?_; rintro e w3 ⟨rfl, hb⟩; have h2_ := Aside0.mk (blk_below (w1 := w3) (q66c_ H2.out) hb); have hb_ := Aside0.mk (below_step (w := w1) (by repeat (first | exact HB2.out | apply pw_below_drewN | apply below_drew1)) hb); clear H2 HB2 hcz1; have H2 := h2_; have HB3 := hb_; clear h2_ hb_ hb; have hcz1 : w3.cell? ⟨g1, 0, none⟩ = some (.slice A0 l0.length c0) := (blk_cell (blk_below HX1.out.1 HB3.out) 0).trans rfl; have hyz0 : w3.cell? ⟨g2, 0, none⟩ = some (.slice none 0 0) := (blk_cell H2.out 0).trans rfl; have hyz1 : w3.cell? ⟨g2, 1, none⟩ = some (.slice none 0 0) := (blk_cell H2.out 1).trans rfl; have hyf0 := blk_frozen H2.out 0; have hyf1 := blk_frozen H2.out 1) | ((with_reducible refine gate_dst (N := 4) rfl ?_); refine box_event ?hg (N := 4) ?hd (cs := #[.slice none 0 0, .slice none 0 0]) (t := 33) ?hr ?_; (case hd => rfl); (case hg => rfl); (case hr => exact qfba_); intro g4 hg w4 hbox hb; have h2_ := Aside0.mk (blk_below (w1 := w4) (q66c_ H2.out) hb); have hb_ := Aside0.mk (below_step (w := w1) (by repeat (first | exact HB3.out | apply pw_below_drewN | apply below_drew1)) hb); have H4 := Aside0.mk hbox; have NE := Aside0.mk (show g2 ≠ g4 from by rw [hg]; exact Nat.ne_of_lt (blk_lt H2.out)); have GE4 := Aside0.mk (show w1.heap.size ≤ g4 from by rw [hg]; exact HB3.out.size); clear H2 HB3 hcz1 hyz0 hyz1 hyf0 hyf1; have H2 := h2_; have HB4 := hb_; clear h2_ hb_ hb hbox hg; have hcz1 : w4.cell? ⟨g1, 0, none⟩ = some (.slice A0 l0.length c0) := (blk_cell (blk_below HX1.out.1 HB4.out) 0).trans rfl; have hxz0 : w4.cell? ⟨g4, 0, none⟩ = some (.slice none 0 0) := (blk_cell H4.out 0).trans rfl; have hxz1 : w4.cell? ⟨g4, 1, none⟩ = some (.slice none 0 0) := (blk_cell H4.out 1).trans rfl; have hxf0 := blk_frozen H4.out 0; have hxf1 := blk_frozen H4.out 1; have hn1 : g1 ≠ g4 := (by have h1_ := HX1.out.2; have h2_ := GE4.out; omega); have hn2 : g4 ≠ g1 := hn1.symm))
  have HI := Aside0.mk (show RpI w1 ((w4.setCell ⟨g4, 0, none⟩ (.slice none 0 0)).setCell ⟨g4, 1, none⟩ (.slice none 0 0)) g2 g4 (.slice none 0 0) (.slice none 0 0) (upN 0) [] from ⟨below_set (below_set HB4.out GE4.out) GE4.out, blk_far (blk_far H2.out (p := ⟨g4, 0, none⟩) NE.out _) (p := ⟨g4, 1, none⟩) NE.out _, blk_set (blk_set H4.out 0 _) 1 _, GE2.out, GE4.out, NE.out, Kd.R_nil _ _ _ _ _, Kd.R_nil _ _ _ _ _, fun k_ h_ => by simp [Value.ownBlock] at h_⟩)
  clear H2 H4 HB4 hcz1 hxz0 hxz1 hxf0 hxf1 A1
  go_loopg [18] l0.length (fun kq v18 w' => ∃ (i : Nat) (iz : Int) (vo : Value), v18 = .int .i64 iz ∧ Aside0 (iz = (i : Int)) ∧ Aside0 (i + kq = l0.length) ∧ Aside0 (RpI w1 w' g2 g4 vo (.slice none 0 0) (upN i) []))
  case atStart => exact ⟨0, 0, _, q6e2_, ⟨rfl⟩, ⟨by omega⟩, ⟨q98d_⟩⟩
  case round =>
   clear HI
   obtain ⟨i, iz, vo, rfl, NI, NK, HI⟩ := hrel
   cases gk with
   | succ d =>
    have hlt : i < l0.length := by have := NK.out; omega
    have q1 : decide (iz < (l0.length : Int)) = true := decide_eq_true (by have := NI.out; omega)
    obtain ⟨Ao, co, eo⟩ := Kd.R_slice HI.out.ro
    rw [upN_length] at eo
    subst eo
    have hoz0 : wr.cell? ⟨g4, 0, none⟩ = some (.slice Ao i co) := (blk_cell HI.out.h4 0).trans rfl
    have hoz1 : wr.cell? ⟨g4, 1, none⟩ = some (.slice none 0 0) := (blk_cell HI.out.h4 1).trans rfl
    have hof0 := blk_frozen HI.out.h4 0
    have hof1 := blk_frozen HI.out.h4 1
    obtain ⟨n8, hn8⟩ : ∃ n_, n_ = (upN i ++ [iz]).length := ⟨_, rfl⟩
    have HN8 := Aside0.mk hn8
    clear hn8
    go_wp2_with (first | ((with_reducible refine gate_builtin (b := .append) (xs := #[.tmp 22, .tmp 24]) rfl ?_); at_builtin; refine Kd.R_append (Kd.int .i64) (w0 := w1) w1.heap.size rfl (.tmp 22) (.tmp 24) 24 3 (.int .i64 0) 8 rfl Try.underlying24 info_int rfl (by decide) (by omega) (.slice Ao i co) (upN i) (iz) [.int .i64 (iz)] (fun _ => True) (fun _ => False) rfl rfl ?aP (fun _ hk => hk.elim) (fun _ _ => trivial) ?aO ?aB ?aS ?aL ?_; (case aP => exact rfl); (case aO => exact RpI.ro q98d_); (case aB => exact RpI.below q98d_); (case aS => exact (RpI.below q98d_).size); (case aL => rw [upN_length]; have := H8.out; omega); intro vn w8 hv hb hg hat; obtain ⟨An, cn, en⟩ := Kd.R_slice hv; rw [← HN8.out] at en; subst en; have HP := Aside0.mk (RpI.putO q98d_ hb hg hat hv); have B4 := Aside0.mk (blk_grown (RpI.h4 q98d_) hg (Kd.R_ne (RpI.ro q98d_) (RpI.h4 q98d_) (by decide))); clear hv hb hg hat HI hoz0 hoz1 hof0 hof1; have hoz0 : w8.cell? ⟨g4, 0, none⟩ = some (.slice Ao i co) := (blk_cell B4.out 0).trans rfl; have hoz1 : w8.cell? ⟨g4, 1, none⟩ = some (.slice none 0 0) := (blk_cell B4.out 1).trans rfl; have hof0 := blk_frozen B4.out 0; have hof1 := blk_frozen B4.out 1))
    go_roundg d
    case measure => omega
    case rel => exact ⟨i + 1, _, _, rfl, ⟨by rw [NI.out]; have := H8.out; rw [wrap64_in _ (by omega) (by omega)]; omega⟩, ⟨by have := NK.out; omega⟩, ⟨by rw [upN_succ, ← NI.out]; exact qa8d_⟩⟩
   | zero =>
    have hi : i = l0.length := by have := NK.out; omega
    have q1 : decide (iz < (l0.length : Int)) = false := decide_eq_false (by have := NI.out; omega)
    subst hi
    clear NK
    have HS := Aside0.mk (RpI.sorted HI.out HX1.out.2 HX1.out.1 (Kd.C_below HR0.out HBW.out) H8.out)
    obtain ⟨Ao, co, eo, hS⟩ := HS.out
    have HS := Aside0.mk hS
    clear hS
    subst eo
    have hoz0 : wr.cell? ⟨g4, 0, none⟩ = some (.slice Ao l0.length co) := (blk_cell HI.out.h4 0).trans rfl
    have hoz1 : wr.cell? ⟨g4, 1, none⟩ = some (.slice none 0 0) := (blk_cell HI.out.h4 1).trans rfl
    have hof0 := blk_frozen HI.out.h4 0
    have hof1 := blk_frozen HI.out.h4 1
    obtain ⟨o, ho⟩ : ∃ o, o = ropL l0 := ⟨_, rfl⟩
    rw [← ho] at HS
    have HOE := Aside0.mk ho
    have HM := Aside0.mk (show ∀ j ∈ o, 0 ≤ j ∧ j < (l0.length : Int) by rw [ho]; exact ropL_mem l0)
    have HL := Aside0.mk (show o.length = l0.length by rw [ho]; exact ropL_length l0)
    clear ho
    go_wp2_with (first | (go_at_call 24; refine HS.out.mono ?_; rintro e w5 ⟨rfl, hI⟩; have hi_ := Aside0.mk hI; clear hI HI HS hoz0 hoz1 hof0 hof1; have HI := hi_; clear hi_; have hoz0 : w5.cell? ⟨g4, 0, none⟩ = some (.slice Ao l0.length co) := (blk_cell HI.out.h4 0).trans rfl; have hoz1 : w5.cell? ⟨g4, 1, none⟩ = some (.slice none 0 0) := (blk_cell HI.out.h4 1).trans rfl; have hof0 := blk_frozen HI.out.h4 0; have hof1 := blk_frozen HI.out.h4 1))
    clear hoz0 hoz1 hof0 hof1
    go_loopg [6, 35] l0.length (fun kq v6 v35 w' => ∃ (p : Nat) (pz fz : Int) (vf : Value), v6 = .int .i64 fz ∧ v35 = .int .i64 pz ∧ Aside0 (pz = (p : Int)) ∧ Aside0 (fz = (ropOut l0 o p).1) ∧ Aside0 (p + kq = l0.length) ∧ Aside0 (RpI w1 w' g2 g4 (.slice Ao l0.length co) vf o (ropOut l0 o p).2))
    case atStart => exact ⟨0, 0, 0, _, q6e2_, q6e2_, ⟨rfl⟩, ⟨rfl⟩, ⟨by omega⟩, ⟨q98d_⟩⟩
    case round =>
     clear HI
     obtain ⟨p, pz, fz, vf, rfl, rfl, NP, NF, NK, HI⟩ := hrel
     cases gk with
     | zero =>
      have hp : p = l0.length := by have := NK.out; omega
      subst hp
      have q2 : decide (pz < (l0.length : Int)) = false := decide_eq_false (by have := NP.out; omega)
      obtain ⟨Af, cf, ef⟩ := Kd.R_slice HI.out.rf
      rw [ropOut_length] at ef
      subst ef
      have hoz0 : wr.cell? ⟨g4, 0, none⟩ = some (.slice Ao l0.length co) := (blk_cell HI.out.h4 0).trans rfl
      have hoz1 : wr.cell? ⟨g4, 1, none⟩ = some (.slice Af l0.length cf) := (blk_cell HI.out.h4 1).trans rfl
      have hof0 := blk_frozen HI.out.h4 0
      have hof1 := blk_frozen HI.out.h4 1
      have hn3 : g2 ≠ g4 := HI.out.ne
      have hn4 : g4 ≠ g2 := hn3.symm
      have hyz0 : wr.cell? ⟨g2, 0, none⟩ = some (.slice none 0 0) := (blk_cell HI.out.h2 0).trans rfl
      have hyz1 : wr.cell? ⟨g2, 1, none⟩ = some (.slice none 0 0) := (blk_cell HI.out.h2 1).trans rfl
      have hyf0 := blk_frozen HI.out.h2 0
      have hyf1 := blk_frozen HI.out.h2 1
      go_wp2
      have hoe := HOE.out
      subst hoe
      refine bodyPost_ret (results_ct rfl _ _ g2 33 #[.slice Ao l0.length co, .slice Af l0.length cf] (0, 0) _ rfl (by (with_reducible repeat (first | refine blk_drewN ?_ _ | refine blk_drew ?_ | refine blk_alloc ?_ _)); refine blk_put (cs := #[.slice Ao l0.length co, .slice none 0 0]) ?_ 1 _ rfl; (with_reducible repeat (first | refine blk_drewN ?_ _ | refine blk_drew ?_ | refine blk_alloc ?_ _)); refine blk_put (cs := #[.slice none 0 0, .slice none 0 0]) ?_ 0 _ rfl; (with_reducible repeat (first | refine blk_drewN ?_ _ | refine blk_drew ?_ | refine blk_alloc ?_ _)); exact HI.out.h2) Try.underlying33 rfl (by kernel_rfl)) rfl ?_
      have GW2 := Aside0.mk (show w.heap.size ≤ g2 from by have h1_ := HI.out.ge2; have h2_ := HBW.out.size; omega)
      have HB9 := Aside0.mk (show Below w.heap.size w wr from below_then HBW.out HBW.out.size HI.out.below)
      exact ⟨_, _, q6e2_, (by (with_reducible repeat (first | apply Kd.R_alloc | apply Kd.R_drewN | apply Kd.R_drew)); exact Kd.R_lower (Kd.R_set (Kd.R_set (R_okto HI.out.ro (fun k_ e_ => fun e2 => HI.out.ap k_ e_ e2.symm)) HI.out.h2 (by decide) 0 _) (blk_set HI.out.h2 0 _) (by decide) 1 _) HBW.out.size), (by (with_reducible repeat (first | apply Kd.R_alloc | apply Kd.R_drewN | apply Kd.R_drew)); exact Kd.R_lower (Kd.R_set (Kd.R_set (R_okto HI.out.rf (fun k_ e_ => fun e2 => HI.out.ap k_ e2.symm e_)) HI.out.h2 (by decide) 0 _) (blk_set HI.out.h2 0 _) (by decide) 1 _) HBW.out.size), q85a_ HB9.out⟩
     | succ d =>
      have hp : p < l0.length := by have := NK.out; omega
      have q2 : decide (pz < (l0.length : Int)) = true := decide_eq_true (by have := NP.out; omega)
      have hp0 : 0 ≤ pz := by have := NP.out; omega
      have hp1 : pz < (l0.length : Int) := by have := NP.out; omega
      obtain ⟨ad1, e1, hx1⟩ := Kd.at_int (Kd.R_reads' HI.out.ro).2.2 pz hp0 (by have := HL.out; omega)
      obtain ⟨iz, hiz⟩ : ∃ iz, iz = rd o (p : Int) := ⟨_, rfl⟩
      rw [NP.out, ← hiz, ← NP.out] at hx1
      cases e1
      replace hp0 := eq_true hp0
      replace hp1 := eq_true hp1
      have HIR := Aside0.mk (show 0 ≤ iz ∧ iz < (l0.length : Int) by rw [hiz]; exact rd_range HM.out p (by have := HL.out; omega))
      have HIZ := Aside0.mk hiz
      clear hiz
      have HF0 := Aside0.mk (show 0 ≤ fz ∧ fz ≤ pz by rw [NF.out, NP.out]; exact ropOut_le l0 o p)
      go_wp2
      clear hx1 hp0 hp1
      go_loopg [6, 9] (p - fz.toNat) (fun kq v6 v9 w' => ∃ (q : Nat) (qz gz : Int), v6 = .int .i64 gz ∧ v9 = .int .i64 qz ∧ Aside0 (qz = (q : Int)) ∧ Aside0 (ropIn l0 o iz kq q gz = (ropOut l0 o (p + 1)).1) ∧ Aside0 (q + kq = p) ∧ Aside0 (0 ≤ gz ∧ gz ≤ qz) ∧ Aside0 (RpI w1 w' g2 g4 (.slice (some ad1) l0.length co) vf o (ropOut l0 o p).2))
      case atStart => exact ⟨fz.toNat, fz, fz, q6e2_, q6e2_, ⟨by have := HF0.out; omega⟩, ⟨by rw [ropOut, HIZ.out, ← NF.out]⟩, ⟨by have := HF0.out; have := NP.out; omega⟩, ⟨by have := HF0.out; omega⟩, ⟨q98d_⟩⟩
      case round =>
       clear HI
       obtain ⟨q, qz, gz, rfl, rfl, NQ, NG, NK2, HG0, HI⟩ := hrel
       cases gk with
       | zero =>
        have hqp : q = p := by have := NK2.out; omega
        have q3 : decide (qz < pz) = false := decide_eq_false (by have := NQ.out; have := NP.out; omega)
        have HE := Aside0.mk (show gz = (ropOut l0 o (p + 1)).1 from NG.out)
        clear NG
        obtain ⟨Af, cf, ef⟩ := Kd.R_slice HI.out.rf
        rw [ropOut_length] at ef
        subst ef
        have hoz0 : wr.cell? ⟨g4, 0, none⟩ = some (.slice (some ad1) l0.length co) := (blk_cell HI.out.h4 0).trans rfl
        have hoz1 : wr.cell? ⟨g4, 1, none⟩ = some (.slice Af p cf) := (blk_cell HI.out.h4 1).trans rfl
        have hof0 := blk_frozen HI.out.h4 0
        have hof1 := blk_frozen HI.out.h4 1
        obtain ⟨n8, hn8⟩ : ∃ n_, n_ = ((ropOut l0 o p).2 ++ [gz]).length := ⟨_, rfl⟩
        have HN8 := Aside0.mk hn8
        clear hn8
        go_wp2_with (first | ((with_reducible refine gate_builtin (b := .append) (xs := #[.tmp 69, .tmp 71]) rfl ?_); at_builtin; refine Kd.R_append (Kd.int .i64) (w0 := w1) w1.heap.size rfl (.tmp 69) (.tmp 71) 24 3 (.int .i64 0) 8 rfl Try.underlying24 info_int rfl (by decide) (by omega) (.slice Af p cf) ((ropOut l0 o p).2) (gz) [.int .i64 (gz)] (fun _ => True) (fun _ => False) rfl rfl ?aP (fun _ hk => hk.elim) (fun _ _ => trivial) ?aO ?aB ?aS ?aL ?_; (case aP => exact rfl); (case aO => exact RpI.rf q98d_); (case aB => exact RpI.below q98d_); (case aS => exact (RpI.below q98d_).size); (case aL => rw [ropOut_length]; have := H8.out; omega); intro vn w8 hv hb hg hat; obtain ⟨An, cn, en⟩ := Kd.R_slice hv; rw [← HN8.out] at en; subst en; have HP := Aside0.mk (RpI.putF q98d_ hb hg hat hv); have B4 := Aside0.mk (blk_grown (RpI.h4 q98d_) hg (Kd.R_ne (RpI.rf q98d_) (RpI.h4 q98d_) (by decide))); clear hv hb hg hat HI hoz0 hoz1 hof0 hof1; have hoz0 : w8.cell? ⟨g4, 0, none⟩ = some (.slice (some ad1) l0.length co) := (blk_cell B4.out 0).trans rfl; have hoz1 : w8.cell? ⟨g4, 1, none⟩ = some (.slice Af p cf) := (blk_cell B4.out 1).trans rfl; have hof0 := blk_frozen B4.out 0; have hof1 := blk_frozen B4.out 1))
        go_roundg d
        case measure => omega
        case rel => exact ⟨p + 1, _, _, _, rfl, rfl, ⟨by rw [NP.out]; have := H8.out; rw [wrap64_in _ (by omega) (by omega)]; omega⟩, ⟨HE.out⟩, ⟨by have := NK.out; omega⟩, ⟨by rw [show (ropOut l0 o (p + 1)).2 = (ropOut l0 o p).2 ++ [gz] by rw [HE.out]; rfl]; exact qa8d_⟩⟩
       | succ d2 =>
        have hq : q < p := by have := NK2.out; omega
        have q3 : decide (qz < pz) = true := decide_eq_true (by have := NQ.out; have := NP.out; omega)
        have hq0 : 0 ≤ qz := by have := NQ.out; omega
        have hq1 : qz < (l0.length : Int) := by have := NQ.out; omega
        obtain ⟨ad2, e2, hx2⟩ := Kd.at_int (Kd.R_reads' HI.out.ro).2.2 qz hq0 (by have := HL.out; omega)
        obtain ⟨jz, hjz⟩ : ∃ jz, jz = rd o (q : Int) := ⟨_, rfl⟩
        rw [NQ.out, ← hjz, ← NQ.out] at hx2
        obtain rfl : ad1 = ad2 := (by injection e2)
        clear e2
        replace hq0 := eq_true hq0
        replace hq1 := eq_true hq1
        have HJR := Aside0.mk (show 0 ≤ jz ∧ jz < (l0.length : Int) by rw [hjz]; exact rd_range HM.out q (by have := HL.out; omega))
        have HJZ := Aside0.mk hjz
        clear hjz
        have hoz0 : wr.cell? ⟨g4, 0, none⟩ = some (.slice (some ad1) l0.length co) := (blk_cell HI.out.h4 0).trans rfl
        have hoz1 : wr.cell? ⟨g4, 1, none⟩ = some (vf) := (blk_cell HI.out.h4 1).trans rfl
        have hof0 := blk_frozen HI.out.h4 0
        have hof1 := blk_frozen HI.out.h4 1
        have HCX := Aside0.mk (Kd.C_below (Kd.C_below HR0.out HBW.out) HI.out.below)
        have hcz1 : wr.cell? ⟨g1, 0, none⟩ = some (.slice A0 l0.length c0) := (blk_cell (blk_below HX1.out.1 HI.out.below) 0).trans rfl
        obtain ⟨ad3, e3, hx3⟩ := Kd.at_int HCX.out jz HJR.out.1 HJR.out.2
        obtain ⟨ad4, e4, hx4⟩ := Kd.at_int HCX.out iz HIR.out.1 HIR.out.2
        cases e3
        obtain rfl : ad3 = ad4 := (by injection e4)
        clear e4
        obtain ⟨xj, hxj⟩ : ∃ x_, x_ = rd l0 jz := ⟨_, rfl⟩
        obtain ⟨xi, hxi⟩ : ∃ x_, x_ = rd l0 iz := ⟨_, rfl⟩
        rw [← hxj] at hx3
        rw [← hxi] at hx4
        have HXJ := Aside0.mk hxj
        have HXI := Aside0.mk hxi
        clear hxj hxi
        have hj0 := eq_true HJR.out.1
        have hj1 := eq_true HJR.out.2
        have hi0 := eq_true HIR.out.1
        have hi1 := eq_true HIR.out.2
        have NG' := Aside0.mk (show ropIn l0 o iz d2 (q + 1) (if jz < iz ∧ wrap64 (xi + 100) < xj then (q : Int) + 1 else gz) = (ropOut l0 o (p + 1)).1 by rw [HJZ.out, HXI.out, HXJ.out, HJZ.out]; exact NG.out)
        clear NG
        have NW := Aside0.mk (show wrap64 (qz + 1) = ((q + 1 : Nat) : Int) by rw [NQ.out]; have := H8.out; rw [wrap64_in _ (by omega) (by omega)]; omega)
        by_cases c1 : jz < iz
        ·
         have q4 : decide (jz < iz) = true := decide_eq_true c1
         by_cases c2 : wrap64 (xi + 100) < xj
         ·
          have q5 : decide (wrap64 (xi + 100) < xj) = true := decide_eq_true c2
          go_wp2
          go_big_region
          all_goals go_wp2
          go_roundg d2
          case measure => omega
          case rel => exact ⟨q + 1, _, _, rfl, rfl, ⟨NW.out⟩, ⟨by rw [← NG'.out, if_pos ⟨c1, c2⟩, show (q : Int) + 1 = wrap64 (qz + 1) by rw [NW.out]; omega]⟩, ⟨by have := NK2.out; omega⟩, ⟨by have := NW.out; have := HG0.out; omega⟩, ⟨q98d_⟩⟩
         ·
          have q5 : decide (wrap64 (xi + 100) < xj) = false := decide_eq_false c2
          go_wp2
          go_big_region
          all_goals go_wp2
          go_roundg d2
          case measure => omega
          case rel => exact ⟨q + 1, _, _, rfl, rfl, ⟨NW.out⟩, ⟨by rw [← NG'.out, if_neg (fun h_ => by have h2_ := h_.2; omega)]⟩, ⟨by have := NK2.out; omega⟩, ⟨by have := NW.out; have := NQ.out; have := HG0.out; omega⟩, ⟨q98d_⟩⟩
        ·
         have q4 : decide (jz < iz) = false := decide_eq_false c1
         go_wp2
         go_big_region
         all_goals go_wp2
         go_roundg d2
         case measure => omega
         case rel => exact ⟨q + 1, _, _, rfl, rfl, ⟨NW.out⟩, ⟨by rw [← NG'.out, if_neg (fun h_ => by have h2_ := h_.1; omega)]⟩, ⟨by have := NK2.out; omega⟩, ⟨by have := NW.out; have := NQ.out; have := HG0.out; omega⟩, ⟨q98d_⟩⟩

/-! ### spec_l1Own: function 61 -/
def spec_l1Own.f (l0 : List Int) : Option (List Int) := (some (([] : List Int) : List Int)).bind fun y250 => (if y250.length + l0.length < 17592186044416 then (some (y250 ++ l0)) else (none))
theorem spec_l1Own.calls (A0 : Option Addr) (c0 : Nat) (l0 : List Int) (r : List Int) (w : World) (hr0 : Kd.C (Kd.int .i64) w A0 l0.length l0) (hc0 : l0.length ≤ c0) (h : spec_l1Own.f l0 = some r) :
  Calls Try.prog 61 #[.slice A0 l0.length c0] w fun e w' => ∃ v0_ : Value, e = .returned (v0_) ∧ Kd.R (Kd.int .i64) 3 w' w.heap.size (fun _ => True) v0_ r ∧ Below w.heap.size w w' := by
 have HR0 := Aside0.mk hr0
 have HC0 := Aside0.mk hc0
 clear hr0 hc0
 have HB := Aside0.mk (Below.refl w.heap.size w)
 unfold spec_l1Own.f at h
 have H := h; clear h
 obtain ⟨y250, hy250⟩ : ∃ y_ : List Int, y_ = (([] : List Int)) := ⟨_, rfl⟩
 replace H : (if y250.length + l0.length < 17592186044416 then (some (y250 ++ l0)) else (none)) = some r := by first | (rw [hy250]; with_reducible exact H) | (have H2_ := (Option.bind_some _ _).symm.trans H; rw [hy250]; with_reducible exact H2_) | (have H2_ := (Option.bind_some _ _).symm.trans H; with_reducible exact H2_) | with_reducible exact H | (rw [hy250]; exact H) | exact H
 have Ny250 := Aside0.mk hy250
 clear hy250
 by_cases c2 : y250.length + l0.length < 17592186044416
 ·
  rw [if_pos c2] at H
  have LMc2 := Aside0.mk c2
  clear c2
  obtain ⟨y253, hy253⟩ : ∃ y_ : List Int, y_ = (y250 ++ l0) := ⟨_, rfl⟩
  replace H : (some y253) = some r := by first | (rw [hy253]; with_reducible exact H) | (have H2_ := (Option.bind_some _ _).symm.trans H; rw [hy253]; with_reducible exact H2_) | (have H2_ := (Option.bind_some _ _).symm.trans H; with_reducible exact H2_) | with_reducible exact H | (rw [hy253]; exact H) | exact H
  have Ny253 := Aside0.mk hy253
  clear hy253
  obtain rfl := Option.some.inj H
  go_enter Try.func61, Try.ntmps61
  go_wp2_with (first | ((with_reducible refine gate_dst (N := 3) rfl ?_); refine Kd.R_lit (Kd.int .i64) _ 3 ?hg (N := 3) ?hd (xs := ([] : List Int)) (inner := []) (ok := fun _ => True) (okp := fun _ => True) ?hr ?hp (fun _ hk => hk) trivial (Below.refl _ _) (Nat.le_refl _) (by simp) ?_; (case hd => rfl); (case hg => rfl); (case hr => exact qfba_); (case hp => exact (Reps.none _ _)); intro v251 w3 ho4 hb hg_ hnew_; clear hg_ hnew_; (first | rw [← Ny250.out] at ho4 | (simp only [Int.reduceToNat] at ho4; rw [← Ny250.out] at ho4)); have HO252 := Aside0.mk (Kd.R_lower ho4 (below_size q0c4_)); replace HB := Aside0.mk (below_step q0c4_ hb); clear hb ho4) | ((with_reducible refine gate_builtin (b := .append) (xs := #[.tmp 3, .tmp 4]) rfl ?_); at_builtin; refine Kd.R_append_rows (Kd.int .i64) (w0 := w) w.heap.size rfl (.tmp 3) (.tmp 4) 24 3 (.int .i64 0) 8 rfl Try.underlying24 info3 rfl (by decide) (by omega) v251 y250 l0 _ _ _ (fun _ => True) (fun _ => False) rfl rfl ?aO ?aR (fun _ _ h => h) (fun _ h => h.elim) ?aF ?aB ?aS ?aL ?_; (case aR => exact qe02_ HR0.out); (case aB => exact q0c4_); (case aF => exact (fun _ _ => trivial)); (case aO => exact (q9d5_ HO252.out)); (case aS => exact (below_size q0c4_)); (case aL => have := LMc2.out; omega); intro v254 w5 ho hb hg hat; rw [← Ny253.out] at ho; have n0_ := Aside0.mk (hb); have n1_ := Aside0.mk (ho); replace HB := n0_; have HO255 := n1_; clear n0_ n1_; clear ho hb hg hat))
  go_ret
  exact ⟨_, qce7_, q9d5_ HO255.out, q0c4_⟩
 ·
  rw [if_neg c2] at H
  exact absurd H (by simp)

/-! ### spec_reSorted: function 39 -/
mutual
def spec_reSorted.l0 : Nat → List Int → List Int → Int → Int → Option (List Int)
 | 0, _, _, _, _ => none
 | k + 1, x0, x3, x8, x9 => if x9 < x8 then (spec_reSorted.l1 k x0 x3 x9 0 x8 x9) else (some x3)
def spec_reSorted.l1 : Nat → List Int → List Int → Int → Int → Int → Int → Option (List Int)
 | 0, _, _, _, _, _, _ => none
 | k + 1, x0, x3, x4, x5, x8, x9 => if x5 < (x3.length : Int) then (if 0 ≤ x5 then (if 0 ≤ (rd x3 x5) then (if (rd x3 x5) < (x0.length : Int) then (if 0 ≤ x4 then (if x4 < (x0.length : Int) then (if (rd x0 (rd x3 x5)) > (rd x0 x4) then (spec_reSorted.l1 k x0 x3 x4 (wrap64 (x5 + 1)) x8 x9) else (if x5 ≤ (x3.length : Int) then ((spec_l1Own.f (x3.take (x5 : Int).toNat)).bind fun t263 => (if t263.length < 17592186044416 then ((some (t263 ++ [x4] : List Int)).bind fun y266 => ((some (x3.drop (x5 : Int).toNat : List Int)).bind fun y269 => (if y266.length + y269.length < 17592186044416 then (spec_reSorted.l0 k x0 (y266 ++ y269) x8 (wrap64 (x9 + 1))) else (none)))) else (none))) else (none))) else (none)) else (none)) else (none)) else (none)) else (none)) else (if 0 ≤ x5 then (if x5 ≤ (x3.length : Int) then ((spec_l1Own.f (x3.take (x5 : Int).toNat)).bind fun t280 => (if t280.length < 17592186044416 then ((some (t280 ++ [x4] : List Int)).bind fun y283 => ((some (x3.drop (x5 : Int).toNat : List Int)).bind fun y286 => (if y283.length + y286.length < 17592186044416 then (spec_reSorted.l0 k x0 (y283 ++ y286) x8 (wrap64 (x9 + 1))) else (none)))) else (none))) else (none)) else (none))
end
def spec_reSorted.f (k : Nat) (l0 : List Int) : Option (List Int) := spec_reSorted.l0 k l0 ([] : List Int) (l0.length : Int) 0
theorem spec_reSorted.mono_l : ∀ k, (∀ y0 y1 y2 y3, LeO (spec_reSorted.l0 k y0 y1 y2 y3) (spec_reSorted.l0 (k + 1) y0 y1 y2 y3)) ∧ (∀ y0 y1 y2 y3 y4 y5, LeO (spec_reSorted.l1 k y0 y1 y2 y3 y4 y5) (spec_reSorted.l1 (k + 1) y0 y1 y2 y3 y4 y5))
 | 0 => ⟨fun _ _ _ _ r h => by simp [spec_reSorted.l0] at h, fun _ _ _ _ _ _ r h => by simp [spec_reSorted.l1] at h⟩
 | k + 1 => by
  obtain ⟨ih0, ih1⟩ := spec_reSorted.mono_l k
  refine ⟨?_, ?_⟩
  ·
   intro y0 y1 y2 y3
   unfold spec_reSorted.l0
   repeat' (with_reducible first | exact ih0 _ _ _ _ | exact ih1 _ _ _ _ _ _ | exact LeO.refl _ | exact LeO.none _ | refine LeO.ite ?_ ?_ | refine LeO.bind ?_ (fun _ => ?_))
  ·
   intro y0 y1 y2 y3 y4 y5
   unfold spec_reSorted.l1
   repeat' (with_reducible first | exact ih0 _ _ _ _ | exact ih1 _ _ _ _ _ _ | exact LeO.refl _ | exact LeO.none _ | refine LeO.ite ?_ ?_ | refine LeO.bind ?_ (fun _ => ?_))
theorem spec_reSorted.mono : ∀ a0 k, LeO (spec_reSorted.f k a0) (spec_reSorted.f (k + 1) a0) := by
 intro a0 k
 obtain ⟨ih0, ih1⟩ := spec_reSorted.mono_l k
 unfold spec_reSorted.f
 repeat' (with_reducible first | exact ih0 _ _ _ _ | exact ih1 _ _ _ _ _ _ | exact LeO.refl _ | exact LeO.none _ | refine LeO.ite ?_ ?_ | refine LeO.bind ?_ (fun _ => ?_))
theorem spec_reSorted.calls (k : Nat) (A0 : Option Addr) (c0 : Nat) (l0 : List Int) (r : List Int) (w : World) (hr0 : Kd.C (Kd.int .i64) w A0 l0.length l0) (hc0 : l0.length ≤ c0) (h : spec_reSorted.f k l0 = some r) :
  Calls Try.prog 39 #[.slice A0 l0.length c0] w fun e w' => ∃ v0_ : Value, e = .returned (v0_) ∧ Kd.R (Kd.int .i64) 3 w' w.heap.size (fun _ => True) v0_ r ∧ Below w.heap.size w w' := by
 have HR0 := Aside0.mk hr0
 have HC0 := Aside0.mk hc0
 clear hr0 hc0
 have HB := Aside0.mk (Below.refl w.heap.size w)
 unfold spec_reSorted.f at h
 have H := h; clear h
 have H' := Aside0.mk H
 clear H
 go_enter Try.func39, Try.ntmps39
 go_wp2
 repeat (go_quiet (fail); try go_wp2)
 go_loopg [3, 9] k (fun kq v3 v9 w' => ∃ (x3_1 : List Int) (x9_1 : Int), v9 = .int .i64 x9_1 ∧ Aside0 (spec_reSorted.l0 kq l0 x3_1 (l0.length : Int) x9_1 = some r) ∧ Aside0 (kq ≤ k) ∧ Aside0 (Kd.R (Kd.int .i64) 3 w' w.heap.size (fun _ => True) v3 x3_1) ∧ Aside0 (Below w.heap.size w w'))
 case atStart => exact ⟨(([] : List Int)), (0), qc8f_, H', ⟨Nat.le_refl _⟩, ⟨qf62_⟩, ⟨q0c4_⟩⟩
 case round =>
  clear H'
  obtain ⟨x3_1, x9_1, rfl, HA, HK1, HO_3, HB⟩ := hrel
  cases gk with
  | zero => exact absurd HA.out (by simp [spec_reSorted.l0])
  | succ k1 =>
   have H := HA.out
   clear HA
   simp only [spec_reSorted.l0] at H
   by_cases c2 : x9_1 < (l0.length : Int)
   ·
    rw [if_pos c2] at H
    have c2b0 := decide_eq_true c2
    clear c2
    have H' := Aside0.mk H
    clear H
    go_wp2
    repeat (go_quiet (fail); try go_wp2)
    go_loopg [5] k1 (fun kq v5 w' => ∃ (x5_2 : Int), v5 = .int .i64 x5_2 ∧ Aside0 (spec_reSorted.l1 kq l0 x3_1 x9_1 x5_2 (l0.length : Int) x9_1 = some r) ∧ Aside0 (kq ≤ k1) ∧ Aside0 (Kd.R (Kd.int .i64) 3 w' w.heap.size (fun _ => True) u3 x3_1) ∧ Aside0 (Below w.heap.size w w'))
    case atStart => exact ⟨(0), qc8f_, H', ⟨Nat.le_refl _⟩, ⟨q9d5_ HO_3.out⟩, ⟨q0c4_⟩⟩
    case round =>
     clear H'; try clear c2; try clear c2b0; try clear p2
     obtain ⟨x5_2, rfl, HA, HK2, HO_3, HB⟩ := hrel
     cases gk with
     | zero => exact absurd HA.out (by simp [spec_reSorted.l1])
     | succ k2 =>
      have H := HA.out
      clear HA
      simp only [spec_reSorted.l1] at H
      by_cases c3 : x5_2 < (x3_1.length : Int)
      ·
       rw [if_pos c3] at H
       have c3b0 := decide_eq_true c3
       clear c3
       by_cases c4 : 0 ≤ x5_2
       ·
        rw [if_pos c4] at H
        have c4b0 := decide_eq_true c4
        clear c4
        by_cases c5 : 0 ≤ (rd x3_1 x5_2)
        ·
         rw [if_pos c5] at H
         have c5b0 := decide_eq_true c5
         clear c5
         by_cases c6 : (rd x3_1 x5_2) < (l0.length : Int)
         ·
          rw [if_pos c6] at H
          have c6b0 := decide_eq_true c6
          clear c6
          by_cases c7 : 0 ≤ x9_1
          ·
           rw [if_pos c7] at H
           have c7b0 := decide_eq_true c7
           clear c7
           by_cases c8 : x9_1 < (l0.length : Int)
           ·
            rw [if_pos c8] at H
            have c8b0 := decide_eq_true c8
            clear c8
            by_cases c9 : (rd l0 (rd x3_1 x5_2)) > (rd l0 x9_1)
            ·
             rw [if_pos c9] at H
             have c9b0 := decide_eq_true c9
             clear c9
             have H' := Aside0.mk H
             clear H
             obtain ⟨Ao10, co10, eo10⟩ := Kd.R_slice HO_3.out
             subst eo10
             have p256 : 0 ≤ (x5_2 : Int) := of_decide_eq_true qe84_
             have q256 : x5_2 < (x3_1.length : Int) := of_decide_eq_true qe84_
             obtain ⟨ad256, e256, hx256_0⟩ := Kd.at_int (Kd.R_reads' HO_3.out).2.2 x5_2 p256 q256
             cases e256
             replace p256 := eq_true p256
             replace q256 := eq_true q256
             have p257 : 0 ≤ ((rd x3_1 x5_2) : Int) := of_decide_eq_true qe84_
             have q257 : (rd x3_1 x5_2) < (l0.length : Int) := of_decide_eq_true qe84_
             obtain ⟨ad257, e257, hx257_0⟩ := Kd.at_int HR0.out (rd x3_1 x5_2) p257 q257
             cases e257
             (try (replace hx257_0 := (HB.out.cell (World.block_lt_of_cell? w _ hx257_0)).trans hx257_0))
             replace p257 := eq_true p257
             replace q257 := eq_true q257
             have p258 : 0 ≤ (x9_1 : Int) := of_decide_eq_true qe84_
             have q258 : x9_1 < (l0.length : Int) := of_decide_eq_true qe84_
             obtain ⟨ad258, e258, hx258_0⟩ := Kd.at_int HR0.out x9_1 p258 q258
             obtain rfl : ad257 = ad258 := (by injection e258)
             (try (replace hx258_0 := (HB.out.cell (World.block_lt_of_cell? w _ hx258_0)).trans hx258_0))
             replace p258 := eq_true p258
             replace q258 := eq_true q258
             go_wp2
             repeat (go_quiet (fail); try go_wp2)
             go_roundg k2
             case measure => have := HK1.out; have := HK2.out; omega
             case rel => exact ⟨(wrap64 (x5_2 + 1)), qc8f_, H', ⟨q37b_ HK1.out HK2.out⟩, ⟨q9d5_ HO_3.out⟩, ⟨q0c4_⟩⟩
            ·
             rw [if_neg c9] at H
             have c9b0 := decide_eq_false c9
             clear c9
             have c11b0 := eq_true (of_decide_eq_true qe84_ : 0 ≤ x5_2)
             by_cases c12 : x5_2 ≤ (x3_1.length : Int)
             ·
              rw [if_pos c12] at H
              have c12b0 := eq_true c12
              have c12b1 := decide_eq_true c12
              clear c12
              obtain ⟨y259, hy259⟩ : ∃ y_ : List Int, y_ = (x3_1.take (x5_2 : Int).toNat) := ⟨_, rfl⟩
              replace H : ((spec_l1Own.f y259).bind fun t263 => (if t263.length < 17592186044416 then ((some (t263 ++ [x9_1] : List Int)).bind fun y266 => ((some (x3_1.drop (x5_2 : Int).toNat : List Int)).bind fun y269 => (if y266.length + y269.length < 17592186044416 then (spec_reSorted.l0 k2 l0 (y266 ++ y269) (l0.length : Int) (wrap64 (x9_1 + 1))) else (none)))) else (none))) = some r := by first | (rw [hy259]; with_reducible exact H) | (have H2_ := (Option.bind_some _ _).symm.trans H; rw [hy259]; with_reducible exact H2_) | (have H2_ := (Option.bind_some _ _).symm.trans H; with_reducible exact H2_) | with_reducible exact H | (rw [hy259]; exact H) | exact H
              have Ny259 := Aside0.mk hy259
              clear hy259
              obtain ⟨t263, A13, H⟩ := ob_ H
              by_cases c14 : t263.length < 17592186044416
              ·
               rw [if_pos c14] at H
               have LMc14 := Aside0.mk c14
               clear c14
               obtain ⟨y266, hy266⟩ : ∃ y_ : List Int, y_ = (t263 ++ [x9_1]) := ⟨_, rfl⟩
               replace H : ((some (x3_1.drop (x5_2 : Int).toNat : List Int)).bind fun y269 => (if y266.length + y269.length < 17592186044416 then (spec_reSorted.l0 k2 l0 (y266 ++ y269) (l0.length : Int) (wrap64 (x9_1 + 1))) else (none))) = some r := by first | (rw [hy266]; with_reducible exact H) | (have H2_ := (Option.bind_some _ _).symm.trans H; rw [hy266]; with_reducible exact H2_) | (have H2_ := (Option.bind_some _ _).symm.trans H; with_reducible exact H2_) | with_reducible exact H | (rw [hy266]; exact H) | exact H
               have Ny266 := Aside0.mk hy266
               clear hy266
               have c15b0 := eq_true (of_decide_eq_true qe84_ : 0 ≤ x5_2)
               have c16b0 := eq_true (of_decide_eq_true qe84_ : x5_2 ≤ (x3_1.length : Int))
               obtain ⟨y269, hy269⟩ : ∃ y_ : List Int, y_ = (x3_1.drop (x5_2 : Int).toNat) := ⟨_, rfl⟩
               replace H : (if y266.length + y269.length < 17592186044416 then (spec_reSorted.l0 k2 l0 (y266 ++ y269) (l0.length : Int) (wrap64 (x9_1 + 1))) else (none)) = some r := by first | (rw [hy269]; with_reducible exact H) | (have H2_ := (Option.bind_some _ _).symm.trans H; rw [hy269]; with_reducible exact H2_) | (have H2_ := (Option.bind_some _ _).symm.trans H; with_reducible exact H2_) | with_reducible exact H | (rw [hy269]; exact H) | exact H
               have Ny269 := Aside0.mk hy269
               clear hy269
               by_cases c17 : y266.length + y269.length < 17592186044416
               ·
                rw [if_pos c17] at H
                have LMc17 := Aside0.mk c17
                clear c17
                obtain ⟨y273, hy273⟩ : ∃ y_ : List Int, y_ = (y266 ++ y269) := ⟨_, rfl⟩
                replace H : (spec_reSorted.l0 k2 l0 y273 (l0.length : Int) (wrap64 (x9_1 + 1))) = some r := by first | (rw [hy273]; with_reducible exact H) | (have H2_ := (Option.bind_some _ _).symm.trans H; rw [hy273]; with_reducible exact H2_) | (have H2_ := (Option.bind_some _ _).symm.trans H; with_reducible exact H2_) | with_reducible exact H | (rw [hy273]; exact H) | exact H
                have Ny273 := Aside0.mk hy273
                clear hy273
                have H' := Aside0.mk H
                clear H
                obtain ⟨Ao18, co18, eo18⟩ := Kd.R_slice HO_3.out
                subst eo18
                have p256 : 0 ≤ (x5_2 : Int) := of_decide_eq_true qe84_
                have q256 : x5_2 < (x3_1.length : Int) := of_decide_eq_true qe84_
                obtain ⟨ad256, e256, hx256_0⟩ := Kd.at_int (Kd.R_reads' HO_3.out).2.2 x5_2 p256 q256
                cases e256
                replace p256 := eq_true p256
                replace q256 := eq_true q256
                have p257 : 0 ≤ ((rd x3_1 x5_2) : Int) := of_decide_eq_true qe84_
                have q257 : (rd x3_1 x5_2) < (l0.length : Int) := of_decide_eq_true qe84_
                obtain ⟨ad257, e257, hx257_0⟩ := Kd.at_int HR0.out (rd x3_1 x5_2) p257 q257
                cases e257
                (try (replace hx257_0 := (HB.out.cell (World.block_lt_of_cell? w _ hx257_0)).trans hx257_0))
                replace p257 := eq_true p257
                replace q257 := eq_true q257
                have p258 : 0 ≤ (x9_1 : Int) := of_decide_eq_true qe84_
                have q258 : x9_1 < (l0.length : Int) := of_decide_eq_true qe84_
                obtain ⟨ad258, e258, hx258_0⟩ := Kd.at_int HR0.out x9_1 p258 q258
                obtain rfl : ad257 = ad258 := (by injection e258)
                (try (replace hx258_0 := (HB.out.cell (World.block_lt_of_cell? w _ hx258_0)).trans hx258_0))
                replace p258 := eq_true p258
                replace q258 := eq_true q258
                have q19 : (x5_2 : Int) ≤ ((x3_1.length : Int) : Int) := of_decide_eq_true qe84_
                obtain ⟨i019, hi019, _, hsz19, _⟩ := info_parts info3
                have hroom19 : x3_1.length ≤ co18 := (Kd.R_reads' HO_3.out).2.1
                have hC19 : Kd.C (Kd.int .i64) _ (some ad256) x3_1.length x3_1 := (Kd.R_reads' HO_3.out).2.2
                have hcut19 := cut_to (P := Try.prog) 24 3 .i64 Try.underlying24 hi019 (some ad256) x3_1.length co18 x5_2 (of_decide_eq_true qe84_) q19 hroom19
                have hr19 := Kd.C_take (m := (x5_2 : Int).toNat) hC19 (by omega)
                have hy19 : y259.length = (x5_2 : Int).toNat := (by rw [Ny259.out, List.length_take]; omega)
                rw [← Ny259.out] at hr19
                rw [← hy19] at hcut19
                have HR262 := Aside0.mk hr19
                have HC262 := Aside0.mk (show y259.length ≤ co18 from by omega)
                clear hr19 hC19 hroom19 hi019 hsz19
                have KY19 := Aside0.mk hy19
                clear hy19
                have KL19 := Aside0.mk (show (x5_2 : Int).toNat ≤ x3_1.length from by omega)
                replace q19 := eq_true q19
                have zz_ := trivial
                repeat (clear zz_; go_wp2_with (first | (go_at_call 61; (with_reducible refine (spec_l1Own.calls _ _ y259 t263 _ ?s1 ?s2 A13.out).mono ?_); (case s1 => exact qe8c_ HR262.out); (case s2 => exact HC262.out); rintro e w20 ⟨v264, rfl, ho0, hb⟩; have n0_ := Aside0.mk (Kd.R_elder' (q9d5_ HO_3.out) (Kd.R_base ho0) hb); have n1_ := Aside0.mk (Kd.R_lower (Kd.R_new' ho0 (Kd.R_lt (q9d5_ HO_3.out))) (below_size q0c4_)); have n2_ := Aside0.mk (Kd.C_below (q75a_ HR262.out) hb); have n3_ := Aside0.mk (below_step q0c4_ hb); replace HO_3 := n0_; have HO265 := n1_; replace HR262 := n2_; replace HB := n3_; clear n0_ n1_ n2_ n3_; clear hb ho0) | ((with_reducible refine gate_builtin (b := .append) (xs := #[.tmp 35, .tmp 37]) rfl ?_); at_builtin; refine Kd.R_append (Kd.int .i64) (w0 := w) w.heap.size rfl (.tmp 35) (.tmp 37) 24 3 (.int .i64 0) 8 rfl Try.underlying24 info3 rfl (by decide) (by omega) v264 t263 x9_1 [.int .i64 x9_1] (fun k_ => some k_ ≠ (.slice (some ad256) x3_1.length co18 : Value).ownBlock) (fun _ => False) rfl rfl ?aP (fun _ hk => hk.elim) ?aF ?aO ?aB ?aS ?aL ?_; (case aP => exact rfl); (case aB => exact q0c4_); (case aF => exact (fun k_ hk => Kd.fresh' (Kd.R_lt (q9d5_ HO_3.out)) k_ hk)); (case aO => exact (qe0f_ HO265.out)); (case aS => exact (below_size q0c4_)); (case aL => have := LMc14.out; omega); intro v267 w21 ho hb hg hat; rw [← Ny266.out] at ho; have n0_ := Aside0.mk (Kd.R_after (ok := (fun _ => True)) (q9d5_ HO_3.out) hg hat); have n1_ := Aside0.mk (hb); have n2_ := Aside0.mk ((show Kd.C (Kd.int .i64) w21 (some ad256) y259.length y259 from qca6_ HO_3.out)); have n3_ := Aside0.mk (ho); replace HO_3 := n0_; replace HB := n1_; replace HR262 := n2_; have HO268 := n3_; clear n0_ n1_ n2_ n3_; clear ho hb hg hat; have q22 : (x5_2 : Int) ≤ ((x3_1.length : Int) : Int) := of_decide_eq_true qe84_; obtain ⟨i022, hi022, _, hsz22, _⟩ := info_parts info3; have hroom22 : x3_1.length ≤ co18 := (Kd.R_reads' HO_3.out).2.1; have hC22 : Kd.C (Kd.int .i64) _ (some ad256) x3_1.length x3_1 := (Kd.R_reads' HO_3.out).2.2; have q022 : (0 : Int) ≤ (x5_2 : Int) := of_decide_eq_true qe84_; have hcut22 := cut_from (P := Try.prog) 24 3 .i64 Try.underlying24 hi022 1 hsz22 (some ad256) x3_1.length co18 x5_2 q022 q22; have hr22 := Kd.C_drop (m := (x5_2 : Int).toNat) (c := co18) hC22 (by omega) hroom22; obtain ⟨A22, hA22⟩ : ∃ A1, A1 = (if co18 = (x5_2 : Int).toNat then (some ad256) else ((some ad256) : Option Addr).map (·.add ((x5_2 : Int).toNat * 1))) := ⟨_, rfl⟩; obtain ⟨c22, hc22⟩ : ∃ c1, c1 = co18 - (x5_2 : Int).toNat := ⟨_, rfl⟩; have hy22 : y269.length = x3_1.length - (x5_2 : Int).toNat := (by rw [Ny269.out, List.length_drop] <;> omega); rw [show (x3_1).drop (x5_2 : Int).toNat = y269 from Ny269.out.symm] at hr22; replace hr22 : Kd.C (Kd.int .i64) _ A22 y269.length y269 := (by rw [hA22]; exact hr22); rw [← hy22, ← hA22, ← hc22] at hcut22; have HR272 := Aside0.mk hr22; have HC272 := Aside0.mk (show y269.length ≤ c22 from by rw [hy22, hc22]; exact Nat.sub_le_sub_right hroom22 _); clear hr22 hC22 hroom22 hi022 hsz22 hc22; have KY22 := Aside0.mk hy22; have KA22 := Aside0.mk hA22; clear hy22 hA22; have KL22 := Aside0.mk (show (x5_2 : Int).toNat ≤ x3_1.length from by omega); replace q22 := eq_true q22) | ((with_reducible refine gate_builtin (b := .append) (xs := #[.tmp 39, .tmp 42]) rfl ?_); at_builtin; refine Kd.R_append_rows (Kd.int .i64) (w0 := w) w.heap.size rfl (.tmp 39) (.tmp 42) 24 3 (.int .i64 0) 8 rfl Try.underlying24 info3 rfl (by decide) (by omega) v267 y266 y269 _ _ _ (fun k_ => some k_ ≠ (.slice (some ad256) x3_1.length co18 : Value).ownBlock) (fun _ => False) rfl rfl ?aO ?aR (fun _ _ h => h) (fun _ h => h.elim) ?aF ?aB ?aS ?aL ?_; (case aR => exact qe8c_ HR272.out); (case aB => exact q0c4_); (case aF => exact (fun k_ hk => Kd.fresh' (Kd.R_lt (q9d5_ HO_3.out)) k_ hk)); (case aO => exact (q9d5_ HO268.out)); (case aS => exact (below_size q0c4_)); (case aL => have := LMc17.out; omega); intro v274 w23 ho hb hg hat; rw [← Ny273.out] at ho; have n0_ := Aside0.mk (Kd.R_after (ok := (fun _ => True)) (q9d5_ HO_3.out) hg hat); have n1_ := Aside0.mk (hb); have n2_ := Aside0.mk ((show Kd.C (Kd.int .i64) w23 (some ad256) y259.length y259 from qca6_ HO_3.out)); have n3_ := Aside0.mk ((show Kd.C (Kd.int .i64) w23 A22 y269.length y269 from by rw [Ny269.out, KA22.out]; exact Kd.C_drop (m := (x5_2 : Int).toNat) (c := co18) ((Kd.R_reads' (Kd.R_after (ok := (fun _ => True)) (q9d5_ HO_3.out) hg hat)).2.2) KL22.out ((Kd.R_reads' (Kd.R_after (ok := (fun _ => True)) (q9d5_ HO_3.out) hg hat)).2.1))); have n4_ := Aside0.mk (ho); replace HO_3 := n0_; replace HB := n1_; replace HR262 := n2_; replace HR272 := n3_; have HO275 := n4_; clear n0_ n1_ n2_ n3_ n4_; clear ho hb hg hat)); try (go_quiet (fail); have zz_ := trivial))
                go_roundg k2
                case measure => have := HK1.out; have := HK2.out; omega
                case rel => exact ⟨(y273), (wrap64 (x9_1 + 1)), qc8f_, H', ⟨q37b_ HK1.out HK2.out⟩, ⟨q7d9_ HO275.out⟩, ⟨q0c4_⟩⟩
               ·
                rw [if_neg c17] at H
                exact absurd H (by simp)
              ·
               rw [if_neg c14] at H
               exact absurd H (by simp)
             ·
              rw [if_neg c12] at H
              exact absurd H (by simp)
           ·
            rw [if_neg c8] at H
            exact absurd H (by simp)
          ·
           rw [if_neg c7] at H
           exact absurd H (by simp)
         ·
          rw [if_neg c6] at H
          exact absurd H (by simp)
        ·
         rw [if_neg c5] at H
         exact absurd H (by simp)
       ·
        rw [if_neg c4] at H
        exact absurd H (by simp)
      ·
       rw [if_neg c3] at H
       have c3b0 := decide_eq_false c3
       clear c3
       by_cases c24 : 0 ≤ x5_2
       ·
        rw [if_pos c24] at H
        have c24b0 := eq_true c24
        have c24b1 := decide_eq_true c24
        clear c24
        by_cases c25 : x5_2 ≤ (x3_1.length : Int)
        ·
         rw [if_pos c25] at H
         have c25b0 := eq_true c25
         have c25b1 := decide_eq_true c25
         clear c25
         obtain ⟨y276, hy276⟩ : ∃ y_ : List Int, y_ = (x3_1.take (x5_2 : Int).toNat) := ⟨_, rfl⟩
         replace H : ((spec_l1Own.f y276).bind fun t280 => (if t280.length < 17592186044416 then ((some (t280 ++ [x9_1] : List Int)).bind fun y283 => ((some (x3_1.drop (x5_2 : Int).toNat : List Int)).bind fun y286 => (if y283.length + y286.length < 17592186044416 then (spec_reSorted.l0 k2 l0 (y283 ++ y286) (l0.length : Int) (wrap64 (x9_1 + 1))) else (none)))) else (none))) = some r := by first | (rw [hy276]; with_reducible exact H) | (have H2_ := (Option.bind_some _ _).symm.trans H; rw [hy276]; with_reducible exact H2_) | (have H2_ := (Option.bind_some _ _).symm.trans H; with_reducible exact H2_) | with_reducible exact H | (rw [hy276]; exact H) | exact H
         have Ny276 := Aside0.mk hy276
         clear hy276
         obtain ⟨t280, A26, H⟩ := ob_ H
         by_cases c27 : t280.length < 17592186044416
         ·
          rw [if_pos c27] at H
          have LMc27 := Aside0.mk c27
          clear c27
          obtain ⟨y283, hy283⟩ : ∃ y_ : List Int, y_ = (t280 ++ [x9_1]) := ⟨_, rfl⟩
          replace H : ((some (x3_1.drop (x5_2 : Int).toNat : List Int)).bind fun y286 => (if y283.length + y286.length < 17592186044416 then (spec_reSorted.l0 k2 l0 (y283 ++ y286) (l0.length : Int) (wrap64 (x9_1 + 1))) else (none))) = some r := by first | (rw [hy283]; with_reducible exact H) | (have H2_ := (Option.bind_some _ _).symm.trans H; rw [hy283]; with_reducible exact H2_) | (have H2_ := (Option.bind_some _ _).symm.trans H; with_reducible exact H2_) | with_reducible exact H | (rw [hy283]; exact H) | exact H
          have Ny283 := Aside0.mk hy283
          clear hy283
          have c28b0 := eq_true (of_decide_eq_true qe84_ : 0 ≤ x5_2)
          have c29b0 := eq_true (of_decide_eq_true qe84_ : x5_2 ≤ (x3_1.length : Int))
          obtain ⟨y286, hy286⟩ : ∃ y_ : List Int, y_ = (x3_1.drop (x5_2 : Int).toNat) := ⟨_, rfl⟩
          replace H : (if y283.length + y286.length < 17592186044416 then (spec_reSorted.l0 k2 l0 (y283 ++ y286) (l0.length : Int) (wrap64 (x9_1 + 1))) else (none)) = some r := by first | (rw [hy286]; with_reducible exact H) | (have H2_ := (Option.bind_some _ _).symm.trans H; rw [hy286]; with_reducible exact H2_) | (have H2_ := (Option.bind_some _ _).symm.trans H; with_reducible exact H2_) | with_reducible exact H | (rw [hy286]; exact H) | exact H
          have Ny286 := Aside0.mk hy286
          clear hy286
          by_cases c30 : y283.length + y286.length < 17592186044416
          ·
           rw [if_pos c30] at H
           have LMc30 := Aside0.mk c30
           clear c30
           obtain ⟨y290, hy290⟩ : ∃ y_ : List Int, y_ = (y283 ++ y286) := ⟨_, rfl⟩
           replace H : (spec_reSorted.l0 k2 l0 y290 (l0.length : Int) (wrap64 (x9_1 + 1))) = some r := by first | (rw [hy290]; with_reducible exact H) | (have H2_ := (Option.bind_some _ _).symm.trans H; rw [hy290]; with_reducible exact H2_) | (have H2_ := (Option.bind_some _ _).symm.trans H; with_reducible exact H2_) | with_reducible exact H | (rw [hy290]; exact H) | exact H
           have Ny290 := Aside0.mk hy290
           clear hy290
           have H' := Aside0.mk H
           clear H
           obtain ⟨Ao31, co31, eo31⟩ := Kd.R_slice HO_3.out
           subst eo31
           have q32 : (x5_2 : Int) ≤ ((x3_1.length : Int) : Int) := of_decide_eq_true qe84_
           obtain ⟨i032, hi032, _, hsz32, _⟩ := info_parts info3
           have hroom32 : x3_1.length ≤ co31 := (Kd.R_reads' HO_3.out).2.1
           have hC32 : Kd.C (Kd.int .i64) _ Ao31 x3_1.length x3_1 := (Kd.R_reads' HO_3.out).2.2
           have hcut32 := cut_to (P := Try.prog) 24 3 .i64 Try.underlying24 hi032 Ao31 x3_1.length co31 x5_2 (of_decide_eq_true qe84_) q32 hroom32
           have hr32 := Kd.C_take (m := (x5_2 : Int).toNat) hC32 (by omega)
           have hy32 : y276.length = (x5_2 : Int).toNat := (by rw [Ny276.out, List.length_take]; omega)
           rw [← Ny276.out] at hr32
           rw [← hy32] at hcut32
           have HR279 := Aside0.mk hr32
           have HC279 := Aside0.mk (show y276.length ≤ co31 from by omega)
           clear hr32 hC32 hroom32 hi032 hsz32
           have KY32 := Aside0.mk hy32
           clear hy32
           have KL32 := Aside0.mk (show (x5_2 : Int).toNat ≤ x3_1.length from by omega)
           replace q32 := eq_true q32
           have zz_ := trivial
           repeat (clear zz_; go_wp2_with (first | (go_at_call 61; (with_reducible refine (spec_l1Own.calls _ _ y276 t280 _ ?s1 ?s2 A26.out).mono ?_); (case s1 => exact qe8c_ HR279.out); (case s2 => exact HC279.out); rintro e w33 ⟨v281, rfl, ho0, hb⟩; have n0_ := Aside0.mk (Kd.R_elder' (q9d5_ HO_3.out) (Kd.R_base ho0) hb); have n1_ := Aside0.mk (Kd.R_lower (Kd.R_new' ho0 (Kd.R_lt (q9d5_ HO_3.out))) (below_size q0c4_)); have n2_ := Aside0.mk (Kd.C_below (q75a_ HR279.out) hb); have n3_ := Aside0.mk (below_step q0c4_ hb); replace HO_3 := n0_; have HO282 := n1_; replace HR279 := n2_; replace HB := n3_; clear n0_ n1_ n2_ n3_; clear hb ho0) | ((with_reducible refine gate_builtin (b := .append) (xs := #[.tmp 35, .tmp 37]) rfl ?_); at_builtin; refine Kd.R_append (Kd.int .i64) (w0 := w) w.heap.size rfl (.tmp 35) (.tmp 37) 24 3 (.int .i64 0) 8 rfl Try.underlying24 info3 rfl (by decide) (by omega) v281 t280 x9_1 [.int .i64 x9_1] (fun k_ => some k_ ≠ (.slice Ao31 x3_1.length co31 : Value).ownBlock) (fun _ => False) rfl rfl ?aP (fun _ hk => hk.elim) ?aF ?aO ?aB ?aS ?aL ?_; (case aP => exact rfl); (case aB => exact q0c4_); (case aF => exact (fun k_ hk => Kd.fresh' (Kd.R_lt (q9d5_ HO_3.out)) k_ hk)); (case aO => exact (qe0f_ HO282.out)); (case aS => exact (below_size q0c4_)); (case aL => have := LMc27.out; omega); intro v284 w34 ho hb hg hat; rw [← Ny283.out] at ho; have n0_ := Aside0.mk (Kd.R_after (ok := (fun _ => True)) (q9d5_ HO_3.out) hg hat); have n1_ := Aside0.mk (hb); have n2_ := Aside0.mk ((show Kd.C (Kd.int .i64) w34 Ao31 y276.length y276 from q450_ HO_3.out)); have n3_ := Aside0.mk (ho); replace HO_3 := n0_; replace HB := n1_; replace HR279 := n2_; have HO285 := n3_; clear n0_ n1_ n2_ n3_; clear ho hb hg hat; have q35 : (x5_2 : Int) ≤ ((x3_1.length : Int) : Int) := of_decide_eq_true qe84_; obtain ⟨i035, hi035, _, hsz35, _⟩ := info_parts info3; have hroom35 : x3_1.length ≤ co31 := (Kd.R_reads' HO_3.out).2.1; have hC35 : Kd.C (Kd.int .i64) _ Ao31 x3_1.length x3_1 := (Kd.R_reads' HO_3.out).2.2; have q035 : (0 : Int) ≤ (x5_2 : Int) := of_decide_eq_true qe84_; have hcut35 := cut_from (P := Try.prog) 24 3 .i64 Try.underlying24 hi035 1 hsz35 Ao31 x3_1.length co31 x5_2 q035 q35; have hr35 := Kd.C_drop (m := (x5_2 : Int).toNat) (c := co31) hC35 (by omega) hroom35; obtain ⟨A35, hA35⟩ : ∃ A1, A1 = (if co31 = (x5_2 : Int).toNat then Ao31 else (Ao31 : Option Addr).map (·.add ((x5_2 : Int).toNat * 1))) := ⟨_, rfl⟩; obtain ⟨c35, hc35⟩ : ∃ c1, c1 = co31 - (x5_2 : Int).toNat := ⟨_, rfl⟩; have hy35 : y286.length = x3_1.length - (x5_2 : Int).toNat := (by rw [Ny286.out, List.length_drop] <;> omega); rw [show (x3_1).drop (x5_2 : Int).toNat = y286 from Ny286.out.symm] at hr35; replace hr35 : Kd.C (Kd.int .i64) _ A35 y286.length y286 := (by rw [hA35]; exact hr35); rw [← hy35, ← hA35, ← hc35] at hcut35; have HR289 := Aside0.mk hr35; have HC289 := Aside0.mk (show y286.length ≤ c35 from by rw [hy35, hc35]; exact Nat.sub_le_sub_right hroom35 _); clear hr35 hC35 hroom35 hi035 hsz35 hc35; have KY35 := Aside0.mk hy35; have KA35 := Aside0.mk hA35; clear hy35 hA35; have KL35 := Aside0.mk (show (x5_2 : Int).toNat ≤ x3_1.length from by omega); replace q35 := eq_true q35) | ((with_reducible refine gate_builtin (b := .append) (xs := #[.tmp 39, .tmp 42]) rfl ?_); at_builtin; refine Kd.R_append_rows (Kd.int .i64) (w0 := w) w.heap.size rfl (.tmp 39) (.tmp 42) 24 3 (.int .i64 0) 8 rfl Try.underlying24 info3 rfl (by decide) (by omega) v284 y283 y286 _ _ _ (fun k_ => some k_ ≠ (.slice Ao31 x3_1.length co31 : Value).ownBlock) (fun _ => False) rfl rfl ?aO ?aR (fun _ _ h => h) (fun _ h => h.elim) ?aF ?aB ?aS ?aL ?_; (case aR => exact qe8c_ HR289.out); (case aB => exact q0c4_); (case aF => exact (fun k_ hk => Kd.fresh' (Kd.R_lt (q9d5_ HO_3.out)) k_ hk)); (case aO => exact (q9d5_ HO285.out)); (case aS => exact (below_size q0c4_)); (case aL => have := LMc30.out; omega); intro v291 w36 ho hb hg hat; rw [← Ny290.out] at ho; have n0_ := Aside0.mk (Kd.R_after (ok := (fun _ => True)) (q9d5_ HO_3.out) hg hat); have n1_ := Aside0.mk (hb); have n2_ := Aside0.mk ((show Kd.C (Kd.int .i64) w36 Ao31 y276.length y276 from q450_ HO_3.out)); have n3_ := Aside0.mk ((show Kd.C (Kd.int .i64) w36 A35 y286.length y286 from by rw [Ny286.out, KA35.out]; exact Kd.C_drop (m := (x5_2 : Int).toNat) (c := co31) ((Kd.R_reads' (Kd.R_after (ok := (fun _ => True)) (q9d5_ HO_3.out) hg hat)).2.2) KL35.out ((Kd.R_reads' (Kd.R_after (ok := (fun _ => True)) (q9d5_ HO_3.out) hg hat)).2.1))); have n4_ := Aside0.mk (ho); replace HO_3 := n0_; replace HB := n1_; replace HR279 := n2_; replace HR289 := n3_; have HO292 := n4_; clear n0_ n1_ n2_ n3_ n4_; clear ho hb hg hat)); try (go_quiet (fail); have zz_ := trivial))
           go_roundg k2
           case measure => have := HK1.out; have := HK2.out; omega
           case rel => exact ⟨(y290), (wrap64 (x9_1 + 1)), qc8f_, H', ⟨q37b_ HK1.out HK2.out⟩, ⟨q7d9_ HO292.out⟩, ⟨q0c4_⟩⟩
          ·
           rw [if_neg c30] at H
           exact absurd H (by simp)
         ·
          rw [if_neg c27] at H
          exact absurd H (by simp)
        ·
         rw [if_neg c25] at H
         exact absurd H (by simp)
       ·
        rw [if_neg c24] at H
        exact absurd H (by simp)
   ·
    rw [if_neg c2] at H
    have c2b0 := decide_eq_false c2
    clear c2
    obtain rfl := Option.some.inj H
    go_wp2
    repeat (go_quiet (fail); try go_wp2)
    go_ret
    exact ⟨_, qce7_, q9d5_ HO_3.out, q0c4_⟩

/-! ### spec_l1Most: function 40 -/
def spec_l1Most.f (a0 : Int) (a1 : Int) : Option (Int) := if a0 > a1 then (some a0) else (some a1)
theorem spec_l1Most.calls (a0 : Int) (a1 : Int) (r : Int) (w : World) (h : spec_l1Most.f a0 a1 = some r) :
  Calls Try.prog 40 #[.int .i64 a0, .int .i64 a1] w fun e w' => e = .returned (.int .i64 r) ∧ Drawn0 w w' := by
 unfold spec_l1Most.f at h
 have H := h; clear h
 by_cases c3 : a0 > a1
 ·
  rw [if_pos c3] at H
  have c3b0 := decide_eq_true c3
  clear c3
  obtain rfl := Option.some.inj H
  go_enter Try.func40, Try.ntmps40
  go_wp2
  go_ret
  exact ⟨qc8f_, qffa_⟩
 ·
  rw [if_neg c3] at H
  have c3b0 := decide_eq_false c3
  clear c3
  obtain rfl := Option.some.inj H
  go_enter Try.func40, Try.ntmps40
  go_wp2
  go_ret
  exact ⟨qc8f_, qffa_⟩

end Go.Proofs.Ytgfedgnpffockaa.PAll
