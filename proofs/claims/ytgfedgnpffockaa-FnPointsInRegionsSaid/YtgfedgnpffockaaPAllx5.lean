-- written by a program of this session (wip/gen/xpatch.py over the translation); Lean checks it
import Derived.Test.YtgfedgnpffockaaPAllx0
import Derived.Test.YtgfedgnpffockaaPAllx2
import Derived.Test.YtgfedgnpffockaaPAllx4
namespace Go.Proofs.Ytgfedgnpffockaa.PAll
open Go.RowKit Go.Proofs.Ytgfedgnpffockaa.Hand Go.Proofs.YtgfedgnpffockaaW.PrintWords Go.Proofs.YtgfedgnpffockaaW.PrintLast Go.Proofs.YtgfedgnpffockaaW.PrintMore
attribute [local go_sem] max2_int min2_int max_two min_two max_three min_three max_four min_four   -- for this text's walks alone
set_option maxHeartbeats 8000000
set_option maxRecDepth 100000
set_option linter.unusedVariables false
set_option linter.unusedSimpArgs false

/-! ### spec_reOf: function 26 -/
mutual
def spec_reOf.l0 : Nat → List Int → Int → List Int → Int → Int → List Int → List Int → Option (List Int × List Int)
 | 0, _, _, _, _, _, _, _ => none
 | k + 1, x0, x4, x13, x14, x15, x298000, x298001 => if x15 < x14 then (if 0 ≤ x15 then (if x15 < (x13.length : Int) then (if x15 ≤ (x298000.length : Int) then ((some (x298000.take (x15 : Int).toNat : List Int)).bind fun y299 => (spec_reOf.l1 k x0 x4 (rd x13 x15) x13 x14 x15 y299 (y299.length : Int) 0 x298000 x298001)) else (none)) else (none)) else (none)) else (some (x298000, x298001))
def spec_reOf.l1 : Nat → List Int → Int → Int → List Int → Int → Int → List Int → Int → Int → List Int → List Int → Option (List Int × List Int)
 | 0, _, _, _, _, _, _, _, _, _, _, _ => none
 | k + 1, x0, x4, x6, x13, x14, x15, x23, x24, x25, x298000, x298001 => if x25 < x24 then (if 0 ≤ x25 then (if x25 < (x23.length : Int) then (if (rd x23 x25) < x6 then (if 0 ≤ (rd x23 x25) then (if (rd x23 x25) < (x0.length : Int) then (if 0 ≤ x6 then (if x6 < (x0.length : Int) then (if (wrap64 ((rd x0 (rd x23 x25)) - (rd x0 x6))) > 100 then ((spec_l1Most.f x4 (wrap64 (x25 + 1))).bind fun t306 => (spec_reOf.l1 k x0 t306 x6 x13 x14 x15 x23 x24 (wrap64 (x25 + 1)) x298000 x298001)) else (spec_reOf.l1 k x0 x4 x6 x13 x14 x15 x23 x24 (wrap64 (x25 + 1)) x298000 x298001)) else (none)) else (none)) else (none)) else (none)) else (spec_reOf.l1 k x0 x4 x6 x13 x14 x15 x23 x24 (wrap64 (x25 + 1)) x298000 x298001)) else (none)) else (none)) else (if x298001.length < 17592186044416 then (spec_reOf.l0 k x0 x4 x13 x14 (wrap64 (x15 + 1)) x298000 (x298001 ++ [x4])) else (none))
end
def spec_reOf.f (k : Nat) (l0 : List Int) : Option (List Int × List Int) := (spec_reSorted.f k l0).bind fun t294 => (spec_reOf.l0 k l0 0 t294 (t294.length : Int) 0 t294 ([] : List Int))
theorem spec_reOf.mono_l : ∀ k, (∀ y0 y1 y2 y3 y4 y5 y6, LeO (spec_reOf.l0 k y0 y1 y2 y3 y4 y5 y6) (spec_reOf.l0 (k + 1) y0 y1 y2 y3 y4 y5 y6)) ∧ (∀ y0 y1 y2 y3 y4 y5 y6 y7 y8 y9 y10, LeO (spec_reOf.l1 k y0 y1 y2 y3 y4 y5 y6 y7 y8 y9 y10) (spec_reOf.l1 (k + 1) y0 y1 y2 y3 y4 y5 y6 y7 y8 y9 y10))
 | 0 => ⟨fun _ _ _ _ _ _ _ r h => by simp [spec_reOf.l0] at h, fun _ _ _ _ _ _ _ _ _ _ _ r h => by simp [spec_reOf.l1] at h⟩
 | k + 1 => by
  obtain ⟨ih0, ih1⟩ := spec_reOf.mono_l k
  refine ⟨?_, ?_⟩
  ·
   intro y0 y1 y2 y3 y4 y5 y6
   unfold spec_reOf.l0
   repeat' (with_reducible first | exact ih0 _ _ _ _ _ _ _ | exact ih1 _ _ _ _ _ _ _ _ _ _ _ | exact spec_reSorted.mono _ _ | exact LeO.refl _ | exact LeO.none _ | refine LeO.ite ?_ ?_ | refine LeO.bind ?_ (fun _ => ?_))
  ·
   intro y0 y1 y2 y3 y4 y5 y6 y7 y8 y9 y10
   unfold spec_reOf.l1
   repeat' (with_reducible first | exact ih0 _ _ _ _ _ _ _ | exact ih1 _ _ _ _ _ _ _ _ _ _ _ | exact spec_reSorted.mono _ _ | exact LeO.refl _ | exact LeO.none _ | refine LeO.ite ?_ ?_ | refine LeO.bind ?_ (fun _ => ?_))
theorem spec_reOf.mono : ∀ a0 k, LeO (spec_reOf.f k a0) (spec_reOf.f (k + 1) a0) := by
 intro a0 k
 obtain ⟨ih0, ih1⟩ := spec_reOf.mono_l k
 unfold spec_reOf.f
 repeat' (with_reducible first | exact ih0 _ _ _ _ _ _ _ | exact ih1 _ _ _ _ _ _ _ _ _ _ _ | exact spec_reSorted.mono _ _ | exact LeO.refl _ | exact LeO.none _ | refine LeO.ite ?_ ?_ | refine LeO.bind ?_ (fun _ => ?_))
theorem spec_reOf.calls (k : Nat) (A0 : Option Addr) (c0 : Nat) (l0 : List Int) (r1 : List Int) (r2 : List Int) (w : World) (hr0 : Kd.C (Kd.int .i64) w A0 l0.length l0) (hc0 : l0.length ≤ c0) (h : spec_reOf.f k l0 = some (r1, r2)) :
  Calls Try.prog 26 #[.slice A0 l0.length c0] w fun e w' => ∃ v0_ v1_ : Value, e = .returned (.agg #[v0_, v1_]) ∧ Kd.R (Kd.int .i64) 3 w' w.heap.size (fun k_ => some k_ ≠ (v1_ : Value).ownBlock) v0_ r1 ∧ Kd.R (Kd.int .i64) 3 w' w.heap.size (fun k_ => some k_ ≠ (v0_ : Value).ownBlock) v1_ r2 ∧ Below w.heap.size w w' := by
 have hu33 := Try.underlying33
 have HR0 := Aside0.mk hr0
 have HC0 := Aside0.mk hc0
 clear hr0 hc0
 have HB := Aside0.mk (Below.refl w.heap.size w)
 unfold spec_reOf.f at h
 have H := h; clear h
 obtain ⟨t294, A2, H⟩ := ob_ H
 have H' := Aside0.mk H
 clear H
 go_enter Try.func26, Try.ntmps26
 have zz_ := trivial
 repeat (clear zz_; go_wp2_with (first | ((with_reducible refine gate_dst (N := 2) rfl ?_); refine box_event ?hg (N := 2) ?hd (cs := #[.slice none 0 0, .slice none 0 0]) (t := 33) ?hr ?_; (case hd => rfl); (case hg => rfl); (case hr => exact qfba_); intro gb293 hg w3 hbox hb; have n0_ := Aside0.mk (below_step q0c4_ hb); have n1_ := Aside0.mk (hbox); have n2_ := Aside0.mk ((by rw [hg]; exact (below_size q0c4_) : w.heap.size ≤ gb293)); have n3_ := Aside0.mk ((by rw [hg]; exact (below_size q0c4_) : w.heap.size ≤ gb293)); replace HB := n0_; have BK293 := n1_; have GW293 := n2_; have GE293 := n3_; clear n0_ n1_ n2_ n3_; clear hb hbox hg) | (go_at_call 39; (with_reducible refine (spec_reSorted.calls k _ _ l0 t294 _ ?s1 ?s2 A2.out).mono ?_); (case s1 => exact qe02_ HR0.out); (case s2 => exact HC0.out); rintro e w4 ⟨v295, rfl, ho0, hb⟩; have HO296 := Aside0.mk (Kd.R_lower ho0 (below_size q38b_)); replace BK293 := Aside0.mk (blk_below (g := gb293) (o := .cells #[.slice none 0 0, .slice none 0 0] 33 (0, 0)) q841_ hb); replace HB := Aside0.mk (below_step q38b_ hb); clear hb ho0; obtain ⟨Ao5, co5, eo5⟩ := Kd.R_slice HO296.out; subst eo5) | ((with_reducible refine gate_dst (N := 3) rfl ?_); refine box_event ?hg (N := 3) ?hd (cs := #[.slice none 0 0, .slice none 0 0]) (t := 33) ?hr ?_; (case hd => rfl); (case hg => rfl); (case hr => exact qfba_); intro gb297 hg w6 hbox hb; have n0_ := Aside0.mk (Kd.R_below (q9d5_ HO296.out) hb); have n1_ := Aside0.mk (blk_below (g := gb293) (o := .cells #[.slice none 0 0, .slice none 0 0] 33 (0, 0)) q841_ hb); have n2_ := Aside0.mk (below_step q38b_ hb); have n3_ := Aside0.mk (hbox); have n4_ := Aside0.mk ((by rw [hg]; exact (below_size q38b_) : w.heap.size ≤ gb297)); have n5_ := Aside0.mk ((by rw [hg]; exact (below_size q38b_) : w.heap.size ≤ gb297)); have n6_ := Aside0.mk ((by rw [hg]; exact Nat.ne_of_lt (blk_lt (g := gb293) (o := .cells #[.slice none 0 0, .slice none 0 0] 33 (0, 0)) q841_) : gb293 ≠ gb297)); have n7_ := Aside0.mk ((by rw [hg]; exact Nat.ne_of_gt (blk_lt (g := gb293) (o := .cells #[.slice none 0 0, .slice none 0 0] 33 (0, 0)) q841_) : gb297 ≠ gb293)); replace HO296 := n0_; replace BK293 := n1_; replace HB := n2_; have BK297 := n3_; have GW297 := n4_; have GE297 := n5_; have NB293_297 := n6_; have NB297_293 := n7_; clear n0_ n1_ n2_ n3_ n4_ n5_ n6_ n7_; clear hb hbox hg; have hnb7 := NB297_293.out; have hnc7 := NB293_297.out; have hcz8_0 : w6.cell? ⟨gb297, 0, none⟩ = some (.slice none 0 0) := (blk_cell BK297.out 0).trans rfl; have hcz8_1 : w6.cell? ⟨gb297, 1, none⟩ = some (.slice none 0 0) := (blk_cell BK297.out 1).trans rfl; have hfz8_0 := blk_frozen BK297.out 0; have hfz8_1 := blk_frozen BK297.out 1)); try (go_quiet (fail); have zz_ := trivial))
 go_loopg [4, 15] k (fun kq v4 v15 w' => ∃ (x4_1 : Int) (x15_1 : Int) (x298001_1 : List Int) (u298001 : Value), v4 = .int .i64 x4_1 ∧ v15 = .int .i64 x15_1 ∧ Aside0 (spec_reOf.l0 kq l0 x4_1 t294 (t294.length : Int) x15_1 t294 x298001_1 = some (r1, r2)) ∧ Aside0 (kq ≤ k) ∧ Aside0 (Kd.R (Kd.int .i64) 3 w' w.heap.size (fun k_ => some k_ ≠ (u298001 : Value).ownBlock) (.slice Ao5 t294.length co5) t294) ∧ Aside0 (Kd.R (Kd.int .i64) 3 w' w.heap.size (fun k_ => some k_ ≠ (u298001 : Value).ownBlock) (.slice Ao5 t294.length co5) t294) ∧ Aside0 (Kd.R (Kd.int .i64) 3 w' w.heap.size (fun k_ => some k_ ≠ ((.slice Ao5 t294.length co5) : Value).ownBlock ∧ some k_ ≠ ((.slice Ao5 t294.length co5) : Value).ownBlock) u298001 x298001_1) ∧ Aside0 (w'.heap[gb293]? = some (.cells #[(.slice none 0 0), (.slice none 0 0)] 33 (0, 0))) ∧ Aside0 (w'.heap[gb297]? = some (.cells #[(.slice Ao5 t294.length co5), u298001] 33 (0, 0))) ∧ Aside0 (Below w.heap.size w w'))
 case atStart => exact ⟨(0), (0), (([] : List Int)), (.slice none 0 0), qc8f_, qc8f_, H', ⟨Nat.le_refl _⟩, ⟨by (with_reducible repeat (first | apply Kd.R_alloc | apply Kd.R_drewN | apply Kd.R_drew)); exact Kd.R_mono (Kd.R_far (p := ⟨gb297, 1, none⟩) (Kd.R_far (p := ⟨gb297, 0, none⟩) (Kd.R_types HO296.out BK297.out (by decide)) (fun _ hk => hk.2) (.slice Ao5 t294.length co5)) (fun _ hk => hk.2) (.slice none 0 0)) (fun _ hk => (by simp [Value.ownBlock]))⟩, ⟨by (with_reducible repeat (first | apply Kd.R_alloc | apply Kd.R_drewN | apply Kd.R_drew)); exact Kd.R_mono (Kd.R_far (p := ⟨gb297, 1, none⟩) (Kd.R_far (p := ⟨gb297, 0, none⟩) (Kd.R_types HO296.out BK297.out (by decide)) (fun _ hk => hk.2) (.slice Ao5 t294.length co5)) (fun _ hk => hk.2) (.slice none 0 0)) (fun _ hk => (by simp [Value.ownBlock]))⟩, ⟨qf62_⟩, ⟨by (with_reducible repeat (first | refine blk_drewN ?_ _ | refine blk_drew ?_ | refine blk_alloc ?_ _)); refine blk_far ?_ NB293_297.out _; (with_reducible repeat (first | refine blk_drewN ?_ _ | refine blk_drew ?_ | refine blk_alloc ?_ _)); refine blk_far ?_ NB293_297.out _; (with_reducible repeat (first | refine blk_drewN ?_ _ | refine blk_drew ?_ | refine blk_alloc ?_ _)); exact BK293.out⟩, ⟨by (with_reducible repeat (first | refine blk_drewN ?_ _ | refine blk_drew ?_ | refine blk_alloc ?_ _)); refine blk_put (cs := #[.slice Ao5 t294.length co5, .slice none 0 0]) ?_ 1 _ rfl; (with_reducible repeat (first | refine blk_drewN ?_ _ | refine blk_drew ?_ | refine blk_alloc ?_ _)); refine blk_put (cs := #[.slice none 0 0, .slice none 0 0]) ?_ 0 _ rfl; (with_reducible repeat (first | refine blk_drewN ?_ _ | refine blk_drew ?_ | refine blk_alloc ?_ _)); exact BK297.out⟩, ⟨qb04_⟩⟩
 case round =>
  clear H'; try clear c2; try clear p2; try clear c7; try clear hcz8_0; try clear hcz8_1; try clear hfz8_0; try clear hfz8_1
  obtain ⟨x4_1, x15_1, x298001_1, u298001, rfl, rfl, HA, HK1, HO_13, HO_298000, HO_298001, BK293, BK297, HB⟩ := hrel
  cases gk with
  | zero => exact absurd HA.out (by simp [spec_reOf.l0])
  | succ k1 =>
   have H := HA.out
   clear HA
   simp only [spec_reOf.l0] at H
   by_cases c9 : x15_1 < (t294.length : Int)
   ·
    rw [if_pos c9] at H
    have c9b0 := decide_eq_true c9
    clear c9
    by_cases c10 : 0 ≤ x15_1
    ·
     rw [if_pos c10] at H
     have c10b0 := decide_eq_true c10
     clear c10
     by_cases c11 : x15_1 < (t294.length : Int)
     ·
      rw [if_pos c11] at H
      have c11b0 := decide_eq_true c11
      clear c11
      have c12b0 := eq_true (of_decide_eq_true qe84_ : 0 ≤ x15_1)
      by_cases c13 : x15_1 ≤ (t294.length : Int)
      ·
       rw [if_pos c13] at H
       have c13b0 := eq_true c13
       have c13b1 := decide_eq_true c13
       clear c13
       obtain ⟨y299, hy299⟩ : ∃ y_ : List Int, y_ = (t294.take (x15_1 : Int).toNat) := ⟨_, rfl⟩
       replace H : (spec_reOf.l1 k1 l0 x4_1 (rd t294 x15_1) t294 (t294.length : Int) x15_1 y299 (y299.length : Int) 0 t294 x298001_1) = some (r1, r2) := by first | (rw [hy299]; with_reducible exact H) | (have H2_ := (Option.bind_some _ _).symm.trans H; rw [hy299]; with_reducible exact H2_) | (have H2_ := (Option.bind_some _ _).symm.trans H; with_reducible exact H2_) | with_reducible exact H | (rw [hy299]; exact H) | exact H
       have Ny299 := Aside0.mk hy299
       clear hy299
       have H' := Aside0.mk H
       clear H
       have p298 : 0 ≤ (x15_1 : Int) := of_decide_eq_true qe84_
       have q298 : x15_1 < (t294.length : Int) := of_decide_eq_true qe84_
       obtain ⟨ad298, e298, hx298_0⟩ := Kd.at_int (Kd.R_reads' HO_13.out).2.2 x15_1 p298 q298
       cases e298
       replace p298 := eq_true p298
       replace q298 := eq_true q298
       have hnb14 := NB297_293.out
       have hnc14 := NB293_297.out
       have hcz15_0 : wr.cell? ⟨gb297, 0, none⟩ = some (.slice (some ad298) t294.length co5) := (blk_cell BK297.out 0).trans rfl
       have hcz15_1 : wr.cell? ⟨gb297, 1, none⟩ = some (u298001) := (blk_cell BK297.out 1).trans rfl
       have hfz15_0 := blk_frozen BK297.out 0
       have hfz15_1 := blk_frozen BK297.out 1
       have q16 : (x15_1 : Int) ≤ ((t294.length : Int) : Int) := of_decide_eq_true qe84_
       obtain ⟨i016, hi016, _, hsz16, _⟩ := info_parts info3
       have hroom16 : t294.length ≤ co5 := (Kd.R_reads' HO_298000.out).2.1
       have hC16 : Kd.C (Kd.int .i64) _ (some ad298) t294.length t294 := (Kd.R_reads' HO_298000.out).2.2
       have hcut16 := cut_to (P := Try.prog) 24 3 .i64 Try.underlying24 hi016 (some ad298) t294.length co5 x15_1 (of_decide_eq_true qe84_) q16 hroom16
       have hr16 := Kd.C_take (m := (x15_1 : Int).toNat) hC16 (by omega)
       have hy16 : y299.length = (x15_1 : Int).toNat := (by rw [Ny299.out, List.length_take]; omega)
       rw [← Ny299.out] at hr16
       rw [← hy16] at hcut16
       have HR302 := Aside0.mk hr16
       have HC302 := Aside0.mk (show y299.length ≤ co5 from by omega)
       clear hr16 hC16 hroom16 hi016 hsz16
       have KY16 := Aside0.mk hy16
       clear hy16
       have KL16 := Aside0.mk (show (x15_1 : Int).toNat ≤ t294.length from by omega)
       replace q16 := eq_true q16
       go_wp2
       repeat (go_quiet (fail); try go_wp2)
       go_loopg [4, 25] k1 (fun kq v4 v25 w' => ∃ (x4_2 : Int) (x25_2 : Int), v4 = .int .i64 x4_2 ∧ v25 = .int .i64 x25_2 ∧ Aside0 (spec_reOf.l1 kq l0 x4_2 (rd t294 x15_1) t294 (t294.length : Int) x15_1 y299 (y299.length : Int) x25_2 t294 x298001_1 = some (r1, r2)) ∧ Aside0 (kq ≤ k1) ∧ Aside0 (Kd.R (Kd.int .i64) 3 w' w.heap.size (fun k_ => some k_ ≠ (u298001 : Value).ownBlock) (.slice (some ad298) t294.length co5) t294) ∧ Aside0 (Kd.R (Kd.int .i64) 3 w' w.heap.size (fun k_ => some k_ ≠ (u298001 : Value).ownBlock) (.slice (some ad298) t294.length co5) t294) ∧ Aside0 (Kd.R (Kd.int .i64) 3 w' w.heap.size (fun k_ => some k_ ≠ ((.slice (some ad298) t294.length co5) : Value).ownBlock ∧ some k_ ≠ ((.slice (some ad298) t294.length co5) : Value).ownBlock) u298001 x298001_1) ∧ Aside0 (w'.heap[gb293]? = some (.cells #[(.slice none 0 0), (.slice none 0 0)] 33 (0, 0))) ∧ Aside0 (w'.heap[gb297]? = some (.cells #[(.slice (some ad298) t294.length co5), u298001] 33 (0, 0))) ∧ Aside0 (Kd.C (Kd.int .i64) w' (some ad298) y299.length y299) ∧ Aside0 (Below w.heap.size w w'))
       case atStart => exact ⟨(x4_1), (0), qc8f_, qc8f_, H', ⟨Nat.le_refl _⟩, ⟨q9d5_ HO_13.out⟩, ⟨q9d5_ HO_298000.out⟩, ⟨q9d5_ HO_298001.out⟩, ⟨q841_⟩, ⟨qed7_⟩, ⟨q75a_ HR302.out⟩, ⟨qb04_⟩⟩
       case round =>
        clear H'; try clear c1; try clear q1; try clear c2; try clear p2; try clear q2; try clear hx2; try clear c7; try clear c9; try clear c9b0; try clear c10; try clear c10b0; try clear c11; try clear c11b0; try clear c12; try clear c12b0; try clear c13; try clear c13b0; try clear c13b1; try clear c14; try clear q16; try clear hcz15_0; try clear hcz15_1; try clear hcz8_0; try clear hcz8_1; try clear hfz15_0; try clear hfz15_1; try clear hfz8_0; try clear hfz8_1; try clear hx298_0; try clear p2; try clear p298; try clear q16; try clear q298
        obtain ⟨x4_2, x25_2, rfl, rfl, HA, HK2, HO_13, HO_298000, HO_298001, BK293, BK297, HR302, HB⟩ := hrel
        cases gk with
        | zero => exact absurd HA.out (by simp [spec_reOf.l1])
        | succ k2 =>
         have H := HA.out
         clear HA
         simp only [spec_reOf.l1] at H
         by_cases c17 : x25_2 < (y299.length : Int)
         ·
          rw [if_pos c17] at H
          have c17b0 := decide_eq_true c17
          clear c17
          by_cases c18 : 0 ≤ x25_2
          ·
           rw [if_pos c18] at H
           have c18b0 := decide_eq_true c18
           clear c18
           by_cases c19 : x25_2 < (y299.length : Int)
           ·
            rw [if_pos c19] at H
            have c19b0 := decide_eq_true c19
            clear c19
            by_cases c20 : (rd y299 x25_2) < (rd t294 x15_1)
            ·
             rw [if_pos c20] at H
             have c20b0 := decide_eq_true c20
             clear c20
             by_cases c21 : 0 ≤ (rd y299 x25_2)
             ·
              rw [if_pos c21] at H
              have c21b0 := decide_eq_true c21
              clear c21
              by_cases c22 : (rd y299 x25_2) < (l0.length : Int)
              ·
               rw [if_pos c22] at H
               have c22b0 := decide_eq_true c22
               clear c22
               by_cases c23 : 0 ≤ (rd t294 x15_1)
               ·
                rw [if_pos c23] at H
                have c23b0 := decide_eq_true c23
                clear c23
                by_cases c24 : (rd t294 x15_1) < (l0.length : Int)
                ·
                 rw [if_pos c24] at H
                 have c24b0 := decide_eq_true c24
                 clear c24
                 by_cases c25 : (wrap64 ((rd l0 (rd y299 x25_2)) - (rd l0 (rd t294 x15_1)))) > 100
                 ·
                  rw [if_pos c25] at H
                  have c25b0 := decide_eq_true c25
                  clear c25
                  obtain ⟨t306, A26, H⟩ := ob_ H
                  have H' := Aside0.mk H
                  clear H
                  have p303 : 0 ≤ (x25_2 : Int) := of_decide_eq_true qe84_
                  have q303 : x25_2 < (y299.length : Int) := of_decide_eq_true qe84_
                  obtain ⟨ad303, e303, hx303_0⟩ := Kd.at_int HR302.out x25_2 p303 q303
                  obtain rfl : ad298 = ad303 := (by injection e303)
                  (try (replace hx303_0 := (HB.out.cell (World.block_lt_of_cell? w _ hx303_0)).trans hx303_0))
                  replace p303 := eq_true p303
                  replace q303 := eq_true q303
                  have p304 : 0 ≤ ((rd y299 x25_2) : Int) := of_decide_eq_true qe84_
                  have q304 : (rd y299 x25_2) < (l0.length : Int) := of_decide_eq_true qe84_
                  obtain ⟨ad304, e304, hx304_0⟩ := Kd.at_int HR0.out (rd y299 x25_2) p304 q304
                  cases e304
                  (try (replace hx304_0 := (HB.out.cell (World.block_lt_of_cell? w _ hx304_0)).trans hx304_0))
                  replace p304 := eq_true p304
                  replace q304 := eq_true q304
                  have p305 : 0 ≤ ((rd t294 x15_1) : Int) := of_decide_eq_true qe84_
                  have q305 : (rd t294 x15_1) < (l0.length : Int) := of_decide_eq_true qe84_
                  obtain ⟨ad305, e305, hx305_0⟩ := Kd.at_int HR0.out (rd t294 x15_1) p305 q305
                  obtain rfl : ad304 = ad305 := (by injection e305)
                  (try (replace hx305_0 := (HB.out.cell (World.block_lt_of_cell? w _ hx305_0)).trans hx305_0))
                  replace p305 := eq_true p305
                  replace q305 := eq_true q305
                  have zz_ := trivial
                  repeat (clear zz_; go_wp2_with (first | (go_at_call 40; (with_reducible refine (spec_l1Most.calls x4_2 (wrap64 (x25_2 + 1)) t306 _ A26.out).mono ?_); rintro e w' ⟨rfl, ⟨nd, rfl⟩⟩; (try exact q447_))); try (go_quiet ((go_at_call 40; (with_reducible refine (spec_l1Most.calls x4_2 (wrap64 (x25_2 + 1)) t306 _ A26.out).mono ?_); rintro e w' ⟨rfl, ⟨nd, rfl⟩⟩; (try exact q447_))); have zz_ := trivial))
                  go_roundg k2
                  case measure => have := HK1.out; have := HK2.out; omega
                  case rel => exact ⟨(t306), (wrap64 (x25_2 + 1)), qc8f_, qc8f_, H', ⟨q37b_ HK1.out HK2.out⟩, ⟨q9d5_ HO_13.out⟩, ⟨q9d5_ HO_298000.out⟩, ⟨q9d5_ HO_298001.out⟩, ⟨q841_⟩, ⟨qed7_⟩, ⟨q75a_ HR302.out⟩, ⟨qb04_⟩⟩
                 ·
                  rw [if_neg c25] at H
                  have c25b0 := decide_eq_false c25
                  clear c25
                  have H' := Aside0.mk H
                  clear H
                  have p303 : 0 ≤ (x25_2 : Int) := of_decide_eq_true qe84_
                  have q303 : x25_2 < (y299.length : Int) := of_decide_eq_true qe84_
                  obtain ⟨ad303, e303, hx303_0⟩ := Kd.at_int HR302.out x25_2 p303 q303
                  obtain rfl : ad298 = ad303 := (by injection e303)
                  (try (replace hx303_0 := (HB.out.cell (World.block_lt_of_cell? w _ hx303_0)).trans hx303_0))
                  replace p303 := eq_true p303
                  replace q303 := eq_true q303
                  have p304 : 0 ≤ ((rd y299 x25_2) : Int) := of_decide_eq_true qe84_
                  have q304 : (rd y299 x25_2) < (l0.length : Int) := of_decide_eq_true qe84_
                  obtain ⟨ad304, e304, hx304_0⟩ := Kd.at_int HR0.out (rd y299 x25_2) p304 q304
                  cases e304
                  (try (replace hx304_0 := (HB.out.cell (World.block_lt_of_cell? w _ hx304_0)).trans hx304_0))
                  replace p304 := eq_true p304
                  replace q304 := eq_true q304
                  have p305 : 0 ≤ ((rd t294 x15_1) : Int) := of_decide_eq_true qe84_
                  have q305 : (rd t294 x15_1) < (l0.length : Int) := of_decide_eq_true qe84_
                  obtain ⟨ad305, e305, hx305_0⟩ := Kd.at_int HR0.out (rd t294 x15_1) p305 q305
                  obtain rfl : ad304 = ad305 := (by injection e305)
                  (try (replace hx305_0 := (HB.out.cell (World.block_lt_of_cell? w _ hx305_0)).trans hx305_0))
                  replace p305 := eq_true p305
                  replace q305 := eq_true q305
                  go_wp2
                  repeat (go_quiet (fail); try go_wp2)
                  go_roundg k2
                  case measure => have := HK1.out; have := HK2.out; omega
                  case rel => exact ⟨(x4_2), (wrap64 (x25_2 + 1)), qc8f_, qc8f_, H', ⟨q37b_ HK1.out HK2.out⟩, ⟨q9d5_ HO_13.out⟩, ⟨q9d5_ HO_298000.out⟩, ⟨q9d5_ HO_298001.out⟩, ⟨q841_⟩, ⟨qed7_⟩, ⟨q75a_ HR302.out⟩, ⟨qb04_⟩⟩
                ·
                 rw [if_neg c24] at H
                 exact absurd H (by simp)
               ·
                rw [if_neg c23] at H
                exact absurd H (by simp)
              ·
               rw [if_neg c22] at H
               exact absurd H (by simp)
             ·
              rw [if_neg c21] at H
              exact absurd H (by simp)
            ·
             rw [if_neg c20] at H
             have c20b0 := decide_eq_false c20
             clear c20
             have H' := Aside0.mk H
             clear H
             have p303 : 0 ≤ (x25_2 : Int) := of_decide_eq_true qe84_
             have q303 : x25_2 < (y299.length : Int) := of_decide_eq_true qe84_
             obtain ⟨ad303, e303, hx303_0⟩ := Kd.at_int HR302.out x25_2 p303 q303
             obtain rfl : ad298 = ad303 := (by injection e303)
             (try (replace hx303_0 := (HB.out.cell (World.block_lt_of_cell? w _ hx303_0)).trans hx303_0))
             replace p303 := eq_true p303
             replace q303 := eq_true q303
             go_wp2
             repeat (go_quiet (fail); try go_wp2)
             go_roundg k2
             case measure => have := HK1.out; have := HK2.out; omega
             case rel => exact ⟨(x4_2), (wrap64 (x25_2 + 1)), qc8f_, qc8f_, H', ⟨q37b_ HK1.out HK2.out⟩, ⟨q9d5_ HO_13.out⟩, ⟨q9d5_ HO_298000.out⟩, ⟨q9d5_ HO_298001.out⟩, ⟨q841_⟩, ⟨qed7_⟩, ⟨q75a_ HR302.out⟩, ⟨qb04_⟩⟩
           ·
            rw [if_neg c19] at H
            exact absurd H (by simp)
          ·
           rw [if_neg c18] at H
           exact absurd H (by simp)
         ·
          rw [if_neg c17] at H
          have c17b0 := decide_eq_false c17
          clear c17
          by_cases c27 : x298001_1.length < 17592186044416
          ·
           rw [if_pos c27] at H
           have LMc27 := Aside0.mk c27
           clear c27
           obtain ⟨y307, hy307⟩ : ∃ y_ : List Int, y_ = (x298001_1 ++ [x4_2]) := ⟨_, rfl⟩
           replace H : (spec_reOf.l0 k2 l0 x4_2 t294 (t294.length : Int) (wrap64 (x15_1 + 1)) t294 y307) = some (r1, r2) := by first | (rw [hy307]; with_reducible exact H) | (have H2_ := (Option.bind_some _ _).symm.trans H; rw [hy307]; with_reducible exact H2_) | (have H2_ := (Option.bind_some _ _).symm.trans H; with_reducible exact H2_) | with_reducible exact H | (rw [hy307]; exact H) | exact H
           have Ny307 := Aside0.mk hy307
           clear hy307
           have H' := Aside0.mk H
           clear H
           have hnb28 := NB297_293.out
           have hnc28 := NB293_297.out
           have hcz29_0 : wr.cell? ⟨gb297, 0, none⟩ = some (.slice (some ad298) t294.length co5) := (blk_cell BK297.out 0).trans rfl
           have hcz29_1 : wr.cell? ⟨gb297, 1, none⟩ = some (u298001) := (blk_cell BK297.out 1).trans rfl
           have hfz29_0 := blk_frozen BK297.out 0
           have hfz29_1 := blk_frozen BK297.out 1
           have zz_ := trivial
           repeat (clear zz_; go_wp2_with (first | ((with_reducible refine gate_builtin (b := .append) (xs := #[.tmp 51, .tmp 53]) rfl ?_); at_builtin; refine Kd.R_append (Kd.int .i64) (w0 := w) w.heap.size rfl (.tmp 51) (.tmp 53) 24 3 (.int .i64 0) 8 rfl Try.underlying24 info3 rfl (by decide) (by omega) u298001 x298001_1 x4_2 [.int .i64 x4_2] (fun k_ => some k_ ≠ (.slice (some ad298) t294.length co5 : Value).ownBlock ∧ some k_ ≠ (.slice (some ad298) t294.length co5 : Value).ownBlock) (fun _ => False) rfl rfl ?aP (fun _ hk => hk.elim) ?aF ?aO ?aB ?aS ?aL ?_; (case aP => exact rfl); (case aB => exact qb04_); (case aF => exact (fun k_ hk => ⟨Kd.fresh' (Kd.R_lt (q9d5_ HO_13.out)) k_ hk, Kd.fresh' (Kd.R_lt (q9d5_ HO_298000.out)) k_ hk⟩)); (case aO => exact (q9d5_ HO_298001.out)); (case aS => exact (below_size qb04_)); (case aL => have := LMc27.out; omega); intro v308 w30 ho hb hg hat; rw [← Ny307.out] at ho; have n0_ := Aside0.mk (Kd.R_after (ok := (fun _ => True)) (q0ef_ HO_13.out) hg hat); have n1_ := Aside0.mk (Kd.R_after (ok := (fun _ => True)) (q0ef_ HO_298000.out) hg hat); have n2_ := Aside0.mk (blk_grown (g := gb293) (o := .cells #[.slice none 0 0, .slice none 0 0] 33 (0, 0)) q841_ hg (Kd.R_ne HO_298001.out BK293.out (by decide))); have n3_ := Aside0.mk (blk_grown (g := gb297) (o := .cells #[.slice (some ad298) t294.length co5, u298001] 33 (0, 0)) qed7_ hg (Kd.R_ne HO_298001.out BK297.out (by decide))); have n4_ := Aside0.mk (hb); have n5_ := Aside0.mk ((show Kd.C (Kd.int .i64) w30 (some ad298) y299.length y299 from by rw [Ny299.out]; exact Kd.C_take (m := (x15_1 : Int).toNat) ((Kd.R_reads' (Kd.R_after (ok := (fun _ => True)) (q0ef_ HO_298000.out) hg hat)).2.2) KL16.out)); have n6_ := Aside0.mk (ho); replace HO_13 := n0_; replace HO_298000 := n1_; replace BK293 := n2_; replace BK297 := n3_; replace HB := n4_; replace HR302 := n5_; have HO309 := n6_; clear n0_ n1_ n2_ n3_ n4_ n5_ n6_; clear ho hb hg hat; obtain ⟨Ao31, co31, eo31⟩ := Kd.R_slice HO309.out; subst eo31; have hcz32_0 : w30.cell? ⟨gb297, 0, none⟩ = some (.slice (some ad298) t294.length co5) := (blk_cell BK297.out 0).trans rfl; have hcz32_1 : w30.cell? ⟨gb297, 1, none⟩ = some (u298001) := (blk_cell BK297.out 1).trans rfl; have hfz32_0 := blk_frozen BK297.out 0; have hfz32_1 := blk_frozen BK297.out 1)); try (go_quiet (fail); have zz_ := trivial))
           go_roundg k2
           case measure => have := HK1.out; have := HK2.out; omega
           case rel => exact ⟨(x4_2), (wrap64 (x15_1 + 1)), (y307), (.slice Ao31 y307.length co31), qc8f_, qc8f_, H', ⟨q37b_ HK1.out HK2.out⟩, ⟨by (with_reducible repeat (first | apply Kd.R_alloc | apply Kd.R_drewN | apply Kd.R_drew)); exact Kd.R_mono (Kd.R_far (p := ⟨gb297, 1, none⟩) (Kd.R_types HO_13.out BK297.out (by decide)) (fun _ hk => hk.2) (.slice Ao31 y307.length co31)) (fun _ hk => hk.1.2)⟩, ⟨by (with_reducible repeat (first | apply Kd.R_alloc | apply Kd.R_drewN | apply Kd.R_drew)); exact Kd.R_mono (Kd.R_far (p := ⟨gb297, 1, none⟩) (Kd.R_types HO_298000.out BK297.out (by decide)) (fun _ hk => hk.2) (.slice Ao31 y307.length co31)) (fun _ hk => hk.1.2)⟩, ⟨by (with_reducible repeat (first | apply Kd.R_alloc | apply Kd.R_drewN | apply Kd.R_drew)); exact Kd.R_mono (Kd.R_far (p := ⟨gb297, 1, none⟩) (Kd.R_types HO309.out BK297.out (by decide)) (fun _ hk => hk.2) (.slice Ao31 y307.length co31)) (fun _ hk => ⟨hk.1.1, hk.1.2⟩)⟩, ⟨by (with_reducible repeat (first | refine blk_drewN ?_ _ | refine blk_drew ?_ | refine blk_alloc ?_ _)); refine blk_far ?_ NB293_297.out _; (with_reducible repeat (first | refine blk_drewN ?_ _ | refine blk_drew ?_ | refine blk_alloc ?_ _)); exact BK293.out⟩, ⟨by (with_reducible repeat (first | refine blk_drewN ?_ _ | refine blk_drew ?_ | refine blk_alloc ?_ _)); refine blk_put (cs := #[.slice (some ad298) t294.length co5, u298001]) ?_ 1 _ rfl; (with_reducible repeat (first | refine blk_drewN ?_ _ | refine blk_drew ?_ | refine blk_alloc ?_ _)); exact BK297.out⟩, ⟨qb04_⟩⟩
          ·
           rw [if_neg c27] at H
           exact absurd H (by simp)
      ·
       rw [if_neg c13] at H
       exact absurd H (by simp)
     ·
      rw [if_neg c11] at H
      exact absurd H (by simp)
    ·
     rw [if_neg c10] at H
     exact absurd H (by simp)
   ·
    rw [if_neg c9] at H
    have c9b0 := decide_eq_false c9
    clear c9
    simp only [Option.some.injEq, Prod.mk.injEq] at H
    obtain ⟨rfl, rfl⟩ := H
    have hnb33 := NB297_293.out
    have hnc33 := NB293_297.out
    have hcz34_0 : wr.cell? ⟨gb297, 0, none⟩ = some (.slice Ao5 t294.length co5) := (blk_cell BK297.out 0).trans rfl
    have hcz34_1 : wr.cell? ⟨gb297, 1, none⟩ = some (u298001) := (blk_cell BK297.out 1).trans rfl
    have hfz34_0 := blk_frozen BK297.out 0
    have hfz34_1 := blk_frozen BK297.out 1
    have hcz35_0 : wr.cell? ⟨gb293, 0, none⟩ = some (.slice none 0 0) := (blk_cell BK293.out 0).trans rfl
    have hcz35_1 : wr.cell? ⟨gb293, 1, none⟩ = some (.slice none 0 0) := (blk_cell BK293.out 1).trans rfl
    have hfz35_0 := blk_frozen BK293.out 0
    have hfz35_1 := blk_frozen BK293.out 1
    obtain ⟨Ao36, co36, eo36⟩ := Kd.R_slice HO_298001.out
    subst eo36
    go_wp2
    repeat (go_quiet (fail); try go_wp2)
    refine bodyPost_ret (results_cell_row rfl _ _ gb293 33 #[.slice Ao5 t294.length co5, .slice Ao36 x298001_1.length co36] (0, 0) _ rfl (by (with_reducible repeat (first | refine blk_drewN ?_ _ | refine blk_drew ?_ | refine blk_alloc ?_ _)); refine blk_put (cs := #[.slice Ao5 t294.length co5, .slice none 0 0]) ?_ 1 _ rfl; (with_reducible repeat (first | refine blk_drewN ?_ _ | refine blk_drew ?_ | refine blk_alloc ?_ _)); refine blk_put (cs := #[.slice none 0 0, .slice none 0 0]) ?_ 0 _ rfl; (with_reducible repeat (first | refine blk_drewN ?_ _ | refine blk_drew ?_ | refine blk_alloc ?_ _)); exact BK293.out) Try.underlying33 rfl (by kernel_rfl)) rfl ?_
    exact ⟨_, _, qce7_, by (with_reducible repeat (first | apply Kd.R_alloc | apply Kd.R_drewN | apply Kd.R_drew)); exact Kd.R_mono (Kd.R_far (p := ⟨gb293, 1, none⟩) (Kd.R_far (p := ⟨gb293, 0, none⟩) (Kd.R_types HO_298000.out BK293.out (by decide)) (fun _ hk => hk.2) (.slice Ao5 t294.length co5)) (fun _ hk => hk.2) (.slice Ao36 x298001_1.length co36)) (fun _ hk => hk.1), by (with_reducible repeat (first | apply Kd.R_alloc | apply Kd.R_drewN | apply Kd.R_drew)); exact Kd.R_mono (Kd.R_far (p := ⟨gb293, 1, none⟩) (Kd.R_far (p := ⟨gb293, 0, none⟩) (Kd.R_types HO_298001.out BK293.out (by decide)) (fun _ hk => hk.2) (.slice Ao5 t294.length co5)) (fun _ hk => hk.2) (.slice Ao36 x298001_1.length co36)) (fun _ hk => hk.1.2), qb04_⟩

/-! ### spec_RegionOfPoint: function 12 -/
def spec_RegionOfPoint.f (k : Nat) (l0 : List Int) : Option (List Int × List Int × Bool) := (spec_rePoint.f k l0).bind fun t311 => (if t311 = true then ((spec_reOf.f k l0).bind fun bt312 => (some (bt312.1, bt312.2, true))) else (some (([] : List Int), ([] : List Int), false)))
theorem spec_RegionOfPoint.mono : ∀ a0 k, LeO (spec_RegionOfPoint.f k a0) (spec_RegionOfPoint.f (k + 1) a0) := by
 intro a0 k
 unfold spec_RegionOfPoint.f
 repeat' (with_reducible first | exact spec_reOf.mono _ _ | exact spec_rePoint.mono _ _ | exact LeO.refl _ | exact LeO.none _ | refine LeO.ite ?_ ?_ | refine LeO.bind ?_ (fun _ => ?_))
theorem spec_RegionOfPoint.calls (k : Nat) (A0 : Option Addr) (c0 : Nat) (l0 : List Int) (r1 : List Int) (r2 : List Int) (r3 : Bool) (w : World) (hr0 : Kd.C (Kd.int .i64) w A0 l0.length l0) (hc0 : l0.length ≤ c0) (h : spec_RegionOfPoint.f k l0 = some (r1, r2, r3)) :
  Calls Try.prog 12 #[.slice A0 l0.length c0] w fun e w' => ∃ v0_ v1_ : Value, e = .returned (.tuple #[.agg #[v0_, v1_], .bool r3]) ∧ Kd.R (Kd.int .i64) 3 w' w.heap.size (fun k_ => some k_ ≠ (v1_ : Value).ownBlock) v0_ r1 ∧ Kd.R (Kd.int .i64) 3 w' w.heap.size (fun k_ => some k_ ≠ (v0_ : Value).ownBlock) v1_ r2 ∧ Below w.heap.size w w' := by
 have hu33 := Try.underlying33
 have HR0 := Aside0.mk hr0
 have HC0 := Aside0.mk hc0
 clear hr0 hc0
 have HB := Aside0.mk (Below.refl w.heap.size w)
 unfold spec_RegionOfPoint.f at h
 have H := h; clear h
 obtain ⟨t311, A2, H⟩ := ob_ H
 by_cases c3 : t311 = true
 ·
  subst c3
  rw [if_pos rfl] at H
  obtain ⟨⟨t312, t315⟩, A4, H⟩ := ob_ H
  dsimp only at H
  simp only [Option.some.injEq, Prod.mk.injEq] at H
  obtain ⟨rfl, rfl, rfl⟩ := H
  go_enter Try.func12, Try.ntmps12
  go_wp2_with (first | ((with_reducible refine gate_dst (N := 2) rfl ?_); refine box_event ?hg (N := 2) ?hd (cs := #[.slice none 0 0, .slice none 0 0]) (t := 33) ?hr ?_; (case hd => rfl); (case hg => rfl); (case hr => exact qfba_); intro gb310 hg w5 hbox hb; have n0_ := Aside0.mk (below_step q0c4_ hb); have n1_ := Aside0.mk (hbox); have n2_ := Aside0.mk ((by rw [hg]; exact (below_size q0c4_) : w.heap.size ≤ gb310)); have n3_ := Aside0.mk ((by rw [hg]; exact (below_size q0c4_) : w.heap.size ≤ gb310)); replace HB := n0_; have BK310 := n1_; have GW310 := n2_; have GE310 := n3_; clear n0_ n1_ n2_ n3_; clear hb hbox hg) | ((with_reducible refine gate_callee (f := 22) rfl ?_); refine gl_ 5 Try.func22 #[.slice A0 l0.length c0] ?_; (with_reducible refine (spec_rePoint.calls k _ _ l0 true _ ?s1 ?s2 A2.out).mono ?_); (case s1 => exact qe02_ HR0.out); (case s2 => exact HC0.out); rintro e w' ⟨rfl, ⟨nd, rfl⟩⟩; refine ⟨_, rfl, ?_⟩; (try (rw [drewN_self w5]; generalize hq_ : World.drewN w5 _ = w5; have n0_ : Aside0 (w5.heap[gb310]? = some (.cells #[.slice none 0 0, .slice none 0 0] 33 (0, 0))) := ⟨by rw [← hq_]; exact q573_⟩; have n1_ : Aside0 (Below w.heap.size w w5) := ⟨by rw [← hq_]; exact q796_⟩; clear BK310 HB hq_; have BK310 := n0_; have HB := n1_; clear n0_ n1_))) | ((with_reducible refine gate_callee (f := 26) rfl ?_); refine gl_ 9 Try.func26 #[.slice A0 l0.length c0] ?_; (with_reducible refine (spec_reOf.calls k _ _ l0 t312 t315 _ ?s1 ?s2 A4.out).mono ?_); (case s1 => exact qe02_ HR0.out); (case s2 => exact HC0.out); rintro e w6 ⟨v313, v316, rfl, ho0, ho1, hb⟩; refine ⟨_, rfl, ?_⟩; have HO314 := Aside0.mk (Kd.R_lower ho0 (below_size q796_)); have HO317 := Aside0.mk (Kd.R_lower ho1 (below_size q796_)); replace BK310 := Aside0.mk (blk_below (g := gb310) (o := .cells #[.slice none 0 0, .slice none 0 0] 33 (0, 0)) q573_ hb); replace HB := Aside0.mk (below_step q796_ hb); clear hb ho0 ho1; obtain ⟨Ao7, co7, eo7⟩ := Kd.R_slice HO314.out; subst eo7; have hcz8_0 : w6.cell? ⟨gb310, 0, none⟩ = some (.slice none 0 0) := (blk_cell BK310.out 0).trans rfl; have hcz8_1 : w6.cell? ⟨gb310, 1, none⟩ = some (.slice none 0 0) := (blk_cell BK310.out 1).trans rfl; have hfz8_0 := blk_frozen BK310.out 0; have hfz8_1 := blk_frozen BK310.out 1; obtain ⟨Ao9, co9, eo9⟩ := Kd.R_slice HO317.out; subst eo9))
  refine bodyPost_ret (results_ct rfl _ _ gb310 33 #[.slice Ao7 t312.length co7, .slice Ao9 t315.length co9] (0, 0) _ rfl (by (with_reducible repeat (first | refine blk_drewN ?_ _ | refine blk_drew ?_ | refine blk_alloc ?_ _)); refine blk_put (cs := #[.slice Ao7 t312.length co7, .slice none 0 0]) ?_ 1 _ rfl; (with_reducible repeat (first | refine blk_drewN ?_ _ | refine blk_drew ?_ | refine blk_alloc ?_ _)); refine blk_put (cs := #[.slice none 0 0, .slice none 0 0]) ?_ 0 _ rfl; (with_reducible repeat (first | refine blk_drewN ?_ _ | refine blk_drew ?_ | refine blk_alloc ?_ _)); exact BK310.out) Try.underlying33 rfl (by kernel_rfl)) rfl ?_
  exact ⟨_, _, qce7_, by (with_reducible repeat (first | apply Kd.R_alloc | apply Kd.R_drewN | apply Kd.R_drew)); exact Kd.R_mono (Kd.R_far (p := ⟨gb310, 1, none⟩) (Kd.R_far (p := ⟨gb310, 0, none⟩) (Kd.R_types HO314.out BK310.out (by decide)) (fun _ hk => hk.2) (.slice Ao7 t312.length co7)) (fun _ hk => hk.2) (.slice Ao9 t315.length co9)) (fun _ hk => hk.1), by (with_reducible repeat (first | apply Kd.R_alloc | apply Kd.R_drewN | apply Kd.R_drew)); exact Kd.R_mono (Kd.R_far (p := ⟨gb310, 1, none⟩) (Kd.R_far (p := ⟨gb310, 0, none⟩) (Kd.R_types HO317.out BK310.out (by decide)) (fun _ hk => hk.2) (.slice Ao7 t312.length co7)) (fun _ hk => hk.2) (.slice Ao9 t315.length co9)) (fun _ hk => hk.1), q796_⟩
 ·
  replace c3 := Bool.eq_false_iff.mpr c3
  subst c3
  rw [if_neg nf_] at H
  simp only [Option.some.injEq, Prod.mk.injEq] at H
  obtain ⟨rfl, rfl, rfl⟩ := H
  go_enter Try.func12, Try.ntmps12
  go_wp2_with (first | ((with_reducible refine gate_dst (N := 2) rfl ?_); refine box_event ?hg (N := 2) ?hd (cs := #[.slice none 0 0, .slice none 0 0]) (t := 33) ?hr ?_; (case hd => rfl); (case hg => rfl); (case hr => exact qfba_); intro gb310 hg w10 hbox hb; have n0_ := Aside0.mk (below_step q0c4_ hb); have n1_ := Aside0.mk (hbox); have n2_ := Aside0.mk ((by rw [hg]; exact (below_size q0c4_) : w.heap.size ≤ gb310)); have n3_ := Aside0.mk ((by rw [hg]; exact (below_size q0c4_) : w.heap.size ≤ gb310)); replace HB := n0_; have BK310 := n1_; have GW310 := n2_; have GE310 := n3_; clear n0_ n1_ n2_ n3_; clear hb hbox hg) | ((with_reducible refine gate_callee (f := 22) rfl ?_); refine gl_ 5 Try.func22 #[.slice A0 l0.length c0] ?_; (with_reducible refine (spec_rePoint.calls k _ _ l0 false _ ?s1 ?s2 A2.out).mono ?_); (case s1 => exact qe02_ HR0.out); (case s2 => exact HC0.out); rintro e w' ⟨rfl, ⟨nd, rfl⟩⟩; refine ⟨_, rfl, ?_⟩; (try (rw [drewN_self w10]; generalize hq_ : World.drewN w10 _ = w10; have n0_ : Aside0 (w10.heap[gb310]? = some (.cells #[.slice none 0 0, .slice none 0 0] 33 (0, 0))) := ⟨by rw [← hq_]; exact q573_⟩; have n1_ : Aside0 (Below w.heap.size w w10) := ⟨by rw [← hq_]; exact q796_⟩; clear BK310 HB hq_; have BK310 := n0_; have HB := n1_; clear n0_ n1_)); have hcz11_0 : w10.cell? ⟨gb310, 0, none⟩ = some (.slice none 0 0) := (blk_cell BK310.out 0).trans rfl; have hcz11_1 : w10.cell? ⟨gb310, 1, none⟩ = some (.slice none 0 0) := (blk_cell BK310.out 1).trans rfl; have hfz11_0 := blk_frozen BK310.out 0; have hfz11_1 := blk_frozen BK310.out 1))
  refine bodyPost_ret (results_ct rfl _ _ gb310 33 #[.slice none 0 0, .slice none 0 0] (0, 0) _ rfl (by (with_reducible repeat (first | refine blk_drewN ?_ _ | refine blk_drew ?_ | refine blk_alloc ?_ _)); refine blk_put (cs := #[.slice none 0 0, .slice none 0 0]) ?_ 1 _ rfl; (with_reducible repeat (first | refine blk_drewN ?_ _ | refine blk_drew ?_ | refine blk_alloc ?_ _)); refine blk_put (cs := #[.slice none 0 0, .slice none 0 0]) ?_ 0 _ rfl; (with_reducible repeat (first | refine blk_drewN ?_ _ | refine blk_drew ?_ | refine blk_alloc ?_ _)); exact BK310.out) Try.underlying33 rfl (by kernel_rfl)) rfl ?_
  exact ⟨_, _, qce7_, qf62_, qf62_, q796_⟩

/-! ### laws_wSame: function 13 -/
def laws_wSame.l0 : Nat → List Int → List Int → Int → Int → Option (Bool)
 | 0, _, _, _, _ => none
 | k + 1, x0, x1, x12, x13 => if x13 < x12 then (if 0 ≤ x13 then (if x13 < (x0.length : Int) then (if x13 < (x1.length : Int) then (if (rd x0 x13) = (rd x1 x13) then (laws_wSame.l0 k x0 x1 x12 (wrap64 (x13 + 1))) else (some false)) else (none)) else (none)) else (none)) else (some true)
def laws_wSame.f (k : Nat) (l0 : List Int) (l1 : List Int) : Option (Bool) := if (l0.length : Int) = (l1.length : Int) then (laws_wSame.l0 k l0 l1 (l0.length : Int) 0) else (some false)
theorem laws_wSame.mono_l : ∀ k, (∀ y0 y1 y2 y3, LeO (laws_wSame.l0 k y0 y1 y2 y3) (laws_wSame.l0 (k + 1) y0 y1 y2 y3))
 | 0 => fun _ _ _ _ r h => by simp [laws_wSame.l0] at h
 | k + 1 => by
  have ih0 := laws_wSame.mono_l k
  ·
   intro y0 y1 y2 y3
   unfold laws_wSame.l0
   repeat' (with_reducible first | exact ih0 _ _ _ _ | exact LeO.refl _ | exact LeO.none _ | refine LeO.ite ?_ ?_ | refine LeO.bind ?_ (fun _ => ?_))
theorem laws_wSame.mono : ∀ a0 a1 k, LeO (laws_wSame.f k a0 a1) (laws_wSame.f (k + 1) a0 a1) := by
 intro a0 a1 k
 have ih0 := laws_wSame.mono_l k
 unfold laws_wSame.f
 repeat' (with_reducible first | exact ih0 _ _ _ _ | exact LeO.refl _ | exact LeO.none _ | refine LeO.ite ?_ ?_ | refine LeO.bind ?_ (fun _ => ?_))
theorem laws_wSame.calls (k : Nat) (A0 : Option Addr) (c0 : Nat) (l0 : List Int) (A1 : Option Addr) (c1 : Nat) (l1 : List Int) (r : Bool) (w : World) (hr0 : Kd.C (Kd.int .i64) w A0 l0.length l0) (hc0 : l0.length ≤ c0) (hr1 : Kd.C (Kd.int .i64) w A1 l1.length l1) (hc1 : l1.length ≤ c1) (h : laws_wSame.f k l0 l1 = some r) :
  Calls Try.prog 13 #[.slice A0 l0.length c0, .slice A1 l1.length c1] w fun e w' => e = .returned (.bool r) ∧ Drawn0 w w' := by
 have HR0 := Aside0.mk hr0
 have HC0 := Aside0.mk hc0
 clear hr0 hc0
 have HR1 := Aside0.mk hr1
 have HC1 := Aside0.mk hc1
 clear hr1 hc1
 unfold laws_wSame.f at h
 have H := h; clear h
 by_cases c3 : (l0.length : Int) = (l1.length : Int)
 ·
  rw [if_pos c3] at H
  have c3b0 := beq_iff_eq.mpr c3
  have c3b1 := bne_eq_false_iff_eq.mpr c3
  have c3b2 : (l0.length == l1.length) = true := by first | simpa using c3 | (simp at c3 ⊢; omega)
  clear c3
  have H' := Aside0.mk H
  clear H
  go_enter Try.func13, Try.ntmps13
  go_wp2
  repeat (go_quiet (fail); try go_wp2)
  go_loopg [13] k (fun kq v13 w' => ∃ (x13_1 : Int), v13 = .int .i64 x13_1 ∧ Aside0 (laws_wSame.l0 kq l0 l1 (l0.length : Int) x13_1 = some r) ∧ Aside0 (kq ≤ k) ∧ Drawn0 w w')
  case atStart => exact ⟨(0), qc8f_, H', ⟨Nat.le_refl _⟩, qffa_⟩
  case round =>
   clear H'; try clear c1; try clear p2; try clear c3; try clear c3b0; try clear c3b1; try clear c3b2
   obtain ⟨x13_1, rfl, HA, HK1, ⟨m1, rfl⟩⟩ := hrel
   cases gk with
   | zero => exact absurd HA.out (by simp [laws_wSame.l0])
   | succ k1 =>
    have H := HA.out
    clear HA
    simp only [laws_wSame.l0] at H
    by_cases c4 : x13_1 < (l0.length : Int)
    ·
     rw [if_pos c4] at H
     have c4b0 := decide_eq_true c4
     clear c4
     by_cases c5 : 0 ≤ x13_1
     ·
      rw [if_pos c5] at H
      have c5b0 := decide_eq_true c5
      clear c5
      by_cases c6 : x13_1 < (l0.length : Int)
      ·
       rw [if_pos c6] at H
       have c6b0 := decide_eq_true c6
       clear c6
       by_cases c7 : x13_1 < (l1.length : Int)
       ·
        rw [if_pos c7] at H
        have c7b0 := decide_eq_true c7
        clear c7
        by_cases c8 : (rd l0 x13_1) = (rd l1 x13_1)
        ·
         rw [if_pos c8] at H
         have c8b0 := beq_iff_eq.mpr c8
         have c8b1 := bne_eq_false_iff_eq.mpr c8
         clear c8
         have H' := Aside0.mk H
         clear H
         have p318 : 0 ≤ (x13_1 : Int) := of_decide_eq_true qe84_
         have q318 : x13_1 < (l0.length : Int) := of_decide_eq_true qe84_
         obtain ⟨ad318, e318, hx318_0⟩ := Kd.at_int HR0.out x13_1 p318 q318
         cases e318
         replace p318 := eq_true p318
         replace q318 := eq_true q318
         have p319 : 0 ≤ (x13_1 : Int) := of_decide_eq_true qe84_
         have q319 : x13_1 < (l1.length : Int) := of_decide_eq_true qe84_
         obtain ⟨ad319, e319, hx319_0⟩ := Kd.at_int HR1.out x13_1 p319 q319
         cases e319
         replace p319 := eq_true p319
         replace q319 := eq_true q319
         go_wp2
         repeat (go_quiet (fail); try go_wp2)
         go_roundg k1
         case measure => have := HK1.out; omega
         case rel => exact ⟨(wrap64 (x13_1 + 1)), qc8f_, H', ⟨by have := HK1.out; omega⟩, qffa_⟩
        ·
         rw [if_neg c8] at H
         have c8b0 := beq_eq_false_iff_ne.mpr c8
         have c8b1 := bne_iff_ne.mpr c8
         obtain rfl := Option.some.inj H
         have p318 : 0 ≤ (x13_1 : Int) := of_decide_eq_true qe84_
         have q318 : x13_1 < (l0.length : Int) := of_decide_eq_true qe84_
         obtain ⟨ad318, e318, hx318_0⟩ := Kd.at_int HR0.out x13_1 p318 q318
         cases e318
         replace p318 := eq_true p318
         replace q318 := eq_true q318
         have p319 : 0 ≤ (x13_1 : Int) := of_decide_eq_true qe84_
         have q319 : x13_1 < (l1.length : Int) := of_decide_eq_true qe84_
         obtain ⟨ad319, e319, hx319_0⟩ := Kd.at_int HR1.out x13_1 p319 q319
         cases e319
         replace p319 := eq_true p319
         replace q319 := eq_true q319
         go_wp2
         repeat (go_quiet (fail); try go_wp2)
         go_ret
         exact ⟨qc8f_, qffa_⟩
       ·
        rw [if_neg c7] at H
        exact absurd H (by simp)
      ·
       rw [if_neg c6] at H
       exact absurd H (by simp)
     ·
      rw [if_neg c5] at H
      exact absurd H (by simp)
    ·
     rw [if_neg c4] at H
     have c4b0 := decide_eq_false c4
     clear c4
     obtain rfl := Option.some.inj H
     go_wp2
     repeat (go_quiet (fail); try go_wp2)
     go_ret
     exact ⟨qc8f_, qffa_⟩
 ·
  rw [if_neg c3] at H
  have c3b0 := beq_eq_false_iff_ne.mpr c3
  have c3b1 := bne_iff_ne.mpr c3
  have c3b2 : (l0.length == l1.length) = false := by first | simpa using c3 | (simp at c3 ⊢; omega)
  obtain rfl := Option.some.inj H
  go_enter Try.func13, Try.ntmps13
  go_wp2
  repeat (go_quiet (fail); try go_wp2)
  go_ret
  exact ⟨qc8f_, qffa_⟩

/-! ### laws_wSameRegion: function 14 -/
def laws_wSameRegion.f (k : Nat) (l0_0 : List Int) (l0_1 : List Int) (l1_0 : List Int) (l1_1 : List Int) : Option (Bool) := (laws_wSame.f k l0_0 l1_0).bind fun t322 => (if t322 = true then ((laws_wSame.f k l0_1 l1_1).bind fun t323 => (some t323)) else (some false))
theorem laws_wSameRegion.mono : ∀ a0 a1 a2 a3 k, LeO (laws_wSameRegion.f k a0 a1 a2 a3) (laws_wSameRegion.f (k + 1) a0 a1 a2 a3) := by
 intro a0 a1 a2 a3 k
 unfold laws_wSameRegion.f
 repeat' (with_reducible first | exact laws_wSame.mono _ _ _ | exact LeO.refl _ | exact LeO.none _ | refine LeO.ite ?_ ?_ | refine LeO.bind ?_ (fun _ => ?_))
theorem laws_wSameRegion.calls (k : Nat) (A0_0 : Option Addr) (c0_0 : Nat) (l0_0 : List Int) (A0_1 : Option Addr) (c0_1 : Nat) (l0_1 : List Int) (A1_0 : Option Addr) (c1_0 : Nat) (l1_0 : List Int) (A1_1 : Option Addr) (c1_1 : Nat) (l1_1 : List Int) (r : Bool) (w : World) (hr0_0 : Kd.C (Kd.int .i64) w A0_0 l0_0.length l0_0) (hc0_0 : l0_0.length ≤ c0_0) (hr0_1 : Kd.C (Kd.int .i64) w A0_1 l0_1.length l0_1) (hc0_1 : l0_1.length ≤ c0_1) (hr1_0 : Kd.C (Kd.int .i64) w A1_0 l1_0.length l1_0) (hc1_0 : l1_0.length ≤ c1_0) (hr1_1 : Kd.C (Kd.int .i64) w A1_1 l1_1.length l1_1) (hc1_1 : l1_1.length ≤ c1_1) (h : laws_wSameRegion.f k l0_0 l0_1 l1_0 l1_1 = some r) :
  Calls Try.prog 14 #[.agg #[.slice A0_0 l0_0.length c0_0, .slice A0_1 l0_1.length c0_1], .agg #[.slice A1_0 l1_0.length c1_0, .slice A1_1 l1_1.length c1_1]] w fun e w' => e = .returned (.bool r) ∧ Below w.heap.size w w' := by
 have hu33 := Try.underlying33
 have HR0_0 := Aside0.mk hr0_0
 have HC0_0 := Aside0.mk hc0_0
 clear hr0_0 hc0_0
 have HR0_1 := Aside0.mk hr0_1
 have HC0_1 := Aside0.mk hc0_1
 clear hr0_1 hc0_1
 have HR1_0 := Aside0.mk hr1_0
 have HC1_0 := Aside0.mk hc1_0
 clear hr1_0 hc1_0
 have HR1_1 := Aside0.mk hr1_1
 have HC1_1 := Aside0.mk hc1_1
 clear hr1_1 hc1_1
 have HB := Aside0.mk (Below.refl w.heap.size w)
 unfold laws_wSameRegion.f at h
 have H := h; clear h
 obtain ⟨t322, A3, H⟩ := ob_ H
 by_cases c4 : t322 = true
 ·
  subst c4
  rw [if_pos rfl] at H
  obtain ⟨t323, A5, H⟩ := ob_ H
  obtain rfl := Option.some.inj H
  go_enter Try.func14, Try.ntmps14
  go_wp2_with (first | ((with_reducible refine gate_dst (N := 2) rfl ?_); refine box_event ?hg (N := 2) ?hd (cs := #[.slice A0_0 l0_0.length c0_0, .slice A0_1 l0_1.length c0_1]) (t := 33) ?hr ?_; (case hd => rfl); (case hg => rfl); (case hr => exact qfba_); intro gb320 hg w6 hbox hb; have n0_ := Aside0.mk (below_step q0c4_ hb); have n1_ := Aside0.mk (hbox); have n2_ := Aside0.mk ((by rw [hg]; exact (below_size q0c4_) : w.heap.size ≤ gb320)); have n3_ := Aside0.mk ((by rw [hg]; exact (below_size q0c4_) : w.heap.size ≤ gb320)); replace HB := n0_; have BK320 := n1_; have GW320 := n2_; have GE320 := n3_; clear n0_ n1_ n2_ n3_; clear hb hbox hg) | ((with_reducible refine gate_dst (N := 3) rfl ?_); refine box_event ?hg (N := 3) ?hd (cs := #[.slice A1_0 l1_0.length c1_0, .slice A1_1 l1_1.length c1_1]) (t := 33) ?hr ?_; (case hd => rfl); (case hg => rfl); (case hr => exact qfba_); intro gb321 hg w7 hbox hb; have n0_ := Aside0.mk (blk_below (g := gb320) (o := .cells #[.slice A0_0 l0_0.length c0_0, .slice A0_1 l0_1.length c0_1] 33 (0, 0)) q79c_ hb); have n1_ := Aside0.mk (below_step q4c0_ hb); have n2_ := Aside0.mk (hbox); have n3_ := Aside0.mk ((by rw [hg]; exact (below_size q4c0_) : w.heap.size ≤ gb321)); have n4_ := Aside0.mk ((by rw [hg]; exact (below_size q4c0_) : w.heap.size ≤ gb321)); have n5_ := Aside0.mk ((by rw [hg]; exact Nat.ne_of_lt (blk_lt (g := gb320) (o := .cells #[.slice A0_0 l0_0.length c0_0, .slice A0_1 l0_1.length c0_1] 33 (0, 0)) q79c_) : gb320 ≠ gb321)); have n6_ := Aside0.mk ((by rw [hg]; exact Nat.ne_of_gt (blk_lt (g := gb320) (o := .cells #[.slice A0_0 l0_0.length c0_0, .slice A0_1 l0_1.length c0_1] 33 (0, 0)) q79c_) : gb321 ≠ gb320)); replace BK320 := n0_; replace HB := n1_; have BK321 := n2_; have GW321 := n3_; have GE321 := n4_; have NB320_321 := n5_; have NB321_320 := n6_; clear n0_ n1_ n2_ n3_ n4_ n5_ n6_; clear hb hbox hg; have hnb8 := NB320_321.out; have hnc8 := NB321_320.out; have hcz9_0 : w7.cell? ⟨gb320, 0, none⟩ = some (.slice A0_0 l0_0.length c0_0) := (blk_cell BK320.out 0).trans rfl; have hcz9_1 : w7.cell? ⟨gb320, 1, none⟩ = some (.slice A0_1 l0_1.length c0_1) := (blk_cell BK320.out 1).trans rfl; have hfz9_0 := blk_frozen BK320.out 0; have hfz9_1 := blk_frozen BK320.out 1; have hcz10_0 : w7.cell? ⟨gb321, 0, none⟩ = some (.slice A1_0 l1_0.length c1_0) := (blk_cell BK321.out 0).trans rfl; have hcz10_1 : w7.cell? ⟨gb321, 1, none⟩ = some (.slice A1_1 l1_1.length c1_1) := (blk_cell BK321.out 1).trans rfl; have hfz10_0 := blk_frozen BK321.out 0; have hfz10_1 := blk_frozen BK321.out 1) | ((with_reducible refine gate_callee (f := 13) rfl ?_); refine gl_ 9 Try.func13 #[.slice A0_0 l0_0.length c0_0, .slice A1_0 l1_0.length c1_0] ?_; (with_reducible refine (laws_wSame.calls k _ _ l0_0 _ _ l1_0 true _ ?s1 ?s2 ?s3 ?s4 A3.out).mono ?_); (case s1 => exact qe02_ HR0_0.out); (case s2 => exact HC0_0.out); (case s3 => exact qe02_ HR1_0.out); (case s4 => exact HC1_0.out); rintro e w' ⟨rfl, ⟨nd, rfl⟩⟩; refine ⟨_, rfl, ?_⟩) | (go_at_call 13; (with_reducible refine (laws_wSame.calls k _ _ l0_1 _ _ l1_1 t323 _ ?s1 ?s2 ?s3 ?s4 A5.out).mono ?_); (case s1 => exact qd79_ HR0_1.out); (case s2 => exact HC0_1.out); (case s3 => exact qd79_ HR1_1.out); (case s4 => exact HC1_1.out); rintro e w' ⟨rfl, ⟨nd, rfl⟩⟩))
  go_ret
  exact ⟨qce7_, q1ad_⟩
 ·
  replace c4 := Bool.eq_false_iff.mpr c4
  subst c4
  rw [if_neg nf_] at H
  obtain rfl := Option.some.inj H
  go_enter Try.func14, Try.ntmps14
  go_wp2_with (first | ((with_reducible refine gate_dst (N := 2) rfl ?_); refine box_event ?hg (N := 2) ?hd (cs := #[.slice A0_0 l0_0.length c0_0, .slice A0_1 l0_1.length c0_1]) (t := 33) ?hr ?_; (case hd => rfl); (case hg => rfl); (case hr => exact qfba_); intro gb320 hg w11 hbox hb; have n0_ := Aside0.mk (below_step q0c4_ hb); have n1_ := Aside0.mk (hbox); have n2_ := Aside0.mk ((by rw [hg]; exact (below_size q0c4_) : w.heap.size ≤ gb320)); have n3_ := Aside0.mk ((by rw [hg]; exact (below_size q0c4_) : w.heap.size ≤ gb320)); replace HB := n0_; have BK320 := n1_; have GW320 := n2_; have GE320 := n3_; clear n0_ n1_ n2_ n3_; clear hb hbox hg) | ((with_reducible refine gate_dst (N := 3) rfl ?_); refine box_event ?hg (N := 3) ?hd (cs := #[.slice A1_0 l1_0.length c1_0, .slice A1_1 l1_1.length c1_1]) (t := 33) ?hr ?_; (case hd => rfl); (case hg => rfl); (case hr => exact qfba_); intro gb321 hg w12 hbox hb; have n0_ := Aside0.mk (blk_below (g := gb320) (o := .cells #[.slice A0_0 l0_0.length c0_0, .slice A0_1 l0_1.length c0_1] 33 (0, 0)) q79c_ hb); have n1_ := Aside0.mk (below_step q4c0_ hb); have n2_ := Aside0.mk (hbox); have n3_ := Aside0.mk ((by rw [hg]; exact (below_size q4c0_) : w.heap.size ≤ gb321)); have n4_ := Aside0.mk ((by rw [hg]; exact (below_size q4c0_) : w.heap.size ≤ gb321)); have n5_ := Aside0.mk ((by rw [hg]; exact Nat.ne_of_lt (blk_lt (g := gb320) (o := .cells #[.slice A0_0 l0_0.length c0_0, .slice A0_1 l0_1.length c0_1] 33 (0, 0)) q79c_) : gb320 ≠ gb321)); have n6_ := Aside0.mk ((by rw [hg]; exact Nat.ne_of_gt (blk_lt (g := gb320) (o := .cells #[.slice A0_0 l0_0.length c0_0, .slice A0_1 l0_1.length c0_1] 33 (0, 0)) q79c_) : gb321 ≠ gb320)); replace BK320 := n0_; replace HB := n1_; have BK321 := n2_; have GW321 := n3_; have GE321 := n4_; have NB320_321 := n5_; have NB321_320 := n6_; clear n0_ n1_ n2_ n3_ n4_ n5_ n6_; clear hb hbox hg; have hnb13 := NB320_321.out; have hnc13 := NB321_320.out; have hcz14_0 : w12.cell? ⟨gb320, 0, none⟩ = some (.slice A0_0 l0_0.length c0_0) := (blk_cell BK320.out 0).trans rfl; have hcz14_1 : w12.cell? ⟨gb320, 1, none⟩ = some (.slice A0_1 l0_1.length c0_1) := (blk_cell BK320.out 1).trans rfl; have hfz14_0 := blk_frozen BK320.out 0; have hfz14_1 := blk_frozen BK320.out 1; have hcz15_0 : w12.cell? ⟨gb321, 0, none⟩ = some (.slice A1_0 l1_0.length c1_0) := (blk_cell BK321.out 0).trans rfl; have hcz15_1 : w12.cell? ⟨gb321, 1, none⟩ = some (.slice A1_1 l1_1.length c1_1) := (blk_cell BK321.out 1).trans rfl; have hfz15_0 := blk_frozen BK321.out 0; have hfz15_1 := blk_frozen BK321.out 1) | ((with_reducible refine gate_callee (f := 13) rfl ?_); refine gl_ 9 Try.func13 #[.slice A0_0 l0_0.length c0_0, .slice A1_0 l1_0.length c1_0] ?_; (with_reducible refine (laws_wSame.calls k _ _ l0_0 _ _ l1_0 false _ ?s1 ?s2 ?s3 ?s4 A3.out).mono ?_); (case s1 => exact qe02_ HR0_0.out); (case s2 => exact HC0_0.out); (case s3 => exact qe02_ HR1_0.out); (case s4 => exact HC1_0.out); rintro e w' ⟨rfl, ⟨nd, rfl⟩⟩; refine ⟨_, rfl, ?_⟩))
  go_ret
  exact ⟨qce7_, q1ad_⟩

/-! ### impl_isOrder: function 41 -/
def impl_isOrder.l0 : Nat → List Int → List Int → Int → Int → Option (Bool)
 | 0, _, _, _, _ => none
 | k + 1, x0, x6, x7, x8 => if x8 < x7 then (if 0 ≤ x8 then (if x8 < (x6.length : Int) then (if (rd x6 x8) = x8 then (impl_isOrder.l0 k x0 x6 x7 (wrap64 (x8 + 1))) else (some false)) else (none)) else (none)) else (some (decide ((x0.length : Int) ≤ 8)))
def impl_isOrder.f (k : Nat) (l0 : List Int) : Option (Bool) := (impl_sorted.f l0).bind fun t326 => (impl_isOrder.l0 k l0 t326 (t326.length : Int) 0)
theorem impl_isOrder.mono_l : ∀ k, (∀ y0 y1 y2 y3, LeO (impl_isOrder.l0 k y0 y1 y2 y3) (impl_isOrder.l0 (k + 1) y0 y1 y2 y3))
 | 0 => fun _ _ _ _ r h => by simp [impl_isOrder.l0] at h
 | k + 1 => by
  have ih0 := impl_isOrder.mono_l k
  ·
   intro y0 y1 y2 y3
   unfold impl_isOrder.l0
   repeat' (with_reducible first | exact ih0 _ _ _ _ | exact LeO.refl _ | exact LeO.none _ | refine LeO.ite ?_ ?_ | refine LeO.bind ?_ (fun _ => ?_))
theorem impl_isOrder.mono : ∀ a0 k, LeO (impl_isOrder.f k a0) (impl_isOrder.f (k + 1) a0) := by
 intro a0 k
 have ih0 := impl_isOrder.mono_l k
 unfold impl_isOrder.f
 repeat' (with_reducible first | exact ih0 _ _ _ _ | exact LeO.refl _ | exact LeO.none _ | refine LeO.ite ?_ ?_ | refine LeO.bind ?_ (fun _ => ?_))
theorem impl_isOrder.calls (k : Nat) (A0 : Option Addr) (c0 : Nat) (l0 : List Int) (r : Bool) (w : World) (hr0 : Kd.C (Kd.int .i64) w A0 l0.length l0) (hc0 : l0.length ≤ c0) (h : impl_isOrder.f k l0 = some r) :
  Calls Try.prog 41 #[.slice A0 l0.length c0] w fun e w' => e = .returned (.bool r) ∧ Below w.heap.size w w' := by
 have HR0 := Aside0.mk hr0
 have HC0 := Aside0.mk hc0
 clear hr0 hc0
 have HB := Aside0.mk (Below.refl w.heap.size w)
 unfold impl_isOrder.f at h
 have H := h; clear h
 obtain ⟨t326, A2, H⟩ := ob_ H
 have H' := Aside0.mk H
 clear H
 go_enter Try.func41, Try.ntmps41
 go_wp2_with (first | ((with_reducible refine gate_callee (f := 62) rfl ?_); refine gl_ 6 Try.func62 #[.slice A0 l0.length c0] ?_; (with_reducible refine (impl_sorted.calls _ _ l0 t326 _ ?s1 ?s2 A2.out).mono ?_); (case s1 => exact q201_ HR0.out); (case s2 => exact HC0.out); rintro e w3 ⟨v327, rfl, ho0, hb⟩; refine ⟨_, rfl, ?_⟩; have HO328 := Aside0.mk (Kd.R_lower ho0 (below_size q0c4_)); replace HB := Aside0.mk (below_step q0c4_ hb); clear hb ho0; obtain ⟨Ao4, co4, eo4⟩ := Kd.R_slice HO328.out; subst eo4))
 go_loopg [8] k (fun kq v8 w' => ∃ (x8_1 : Int), v8 = .int .i64 x8_1 ∧ Aside0 (impl_isOrder.l0 kq l0 t326 (t326.length : Int) x8_1 = some r) ∧ Aside0 (kq ≤ k) ∧ Aside0 (Kd.R (Kd.int .i64) 3 w' w.heap.size (fun _ => True) (.slice Ao4 t326.length co4) t326) ∧ Aside0 (Below w.heap.size w w'))
 case atStart => exact ⟨(0), qc8f_, H', ⟨Nat.le_refl _⟩, ⟨q9d5_ HO328.out⟩, ⟨q0c4_⟩⟩
 case round =>
  clear H'; try clear p2; try clear c4
  obtain ⟨x8_1, rfl, HA, HK1, HO_6, HB⟩ := hrel
  cases gk with
  | zero => exact absurd HA.out (by simp [impl_isOrder.l0])
  | succ k1 =>
   have H := HA.out
   clear HA
   simp only [impl_isOrder.l0] at H
   by_cases c5 : x8_1 < (t326.length : Int)
   ·
    rw [if_pos c5] at H
    have c5b0 := decide_eq_true c5
    clear c5
    by_cases c6 : 0 ≤ x8_1
    ·
     rw [if_pos c6] at H
     have c6b0 := decide_eq_true c6
     clear c6
     by_cases c7 : x8_1 < (t326.length : Int)
     ·
      rw [if_pos c7] at H
      have c7b0 := decide_eq_true c7
      clear c7
      by_cases c8 : (rd t326 x8_1) = x8_1
      ·
       rw [if_pos c8] at H
       have c8b0 := beq_iff_eq.mpr c8
       have c8b1 := bne_eq_false_iff_eq.mpr c8
       clear c8
       have H' := Aside0.mk H
       clear H
       have p329 : 0 ≤ (x8_1 : Int) := of_decide_eq_true qe84_
       have q329 : x8_1 < (t326.length : Int) := of_decide_eq_true qe84_
       obtain ⟨ad329, e329, hx329_0⟩ := Kd.at_int (Kd.R_reads' HO_6.out).2.2 x8_1 p329 q329
       cases e329
       replace p329 := eq_true p329
       replace q329 := eq_true q329
       go_wp2
       go_roundg k1
       case measure => have := HK1.out; omega
       case rel => exact ⟨(wrap64 (x8_1 + 1)), qc8f_, H', ⟨by have := HK1.out; omega⟩, ⟨q9d5_ HO_6.out⟩, ⟨q0c4_⟩⟩
      ·
       rw [if_neg c8] at H
       have c8b0 := beq_eq_false_iff_ne.mpr c8
       have c8b1 := bne_iff_ne.mpr c8
       obtain rfl := Option.some.inj H
       have p329 : 0 ≤ (x8_1 : Int) := of_decide_eq_true qe84_
       have q329 : x8_1 < (t326.length : Int) := of_decide_eq_true qe84_
       obtain ⟨ad329, e329, hx329_0⟩ := Kd.at_int (Kd.R_reads' HO_6.out).2.2 x8_1 p329 q329
       cases e329
       replace p329 := eq_true p329
       replace q329 := eq_true q329
       go_wp2
       go_ret
       exact ⟨qce7_, q0c4_⟩
     ·
      rw [if_neg c7] at H
      exact absurd H (by simp)
    ·
     rw [if_neg c6] at H
     exact absurd H (by simp)
   ·
    rw [if_neg c5] at H
    have c5b0 := decide_eq_false c5
    clear c5
    obtain rfl := Option.some.inj H
    go_wp2
    go_ret
    exact ⟨qce7_, q0c4_⟩

/-! ### impl_isRegion: function 27 -/
mutual
def impl_isRegion.j0 : Nat → Bool → List Int → List Int → Option (Bool)
 | 0, _, _, _ => none
 | k + 1, x18, x331000, x331001 => if x18 = true then (some false) else (impl_isRegion.l0 k 0 x331001 (x331001.length : Int) 0 x331000 x331001)
def impl_isRegion.l0 : Nat → Int → List Int → Int → Int → List Int → List Int → Option (Bool)
 | 0, _, _, _, _, _, _ => none
 | k + 1, x3, x20, x21, x22, x331000, x331001 => if x22 < x21 then (if 0 ≤ x22 then (if x22 < (x20.length : Int) then (if (rd x20 x22) < x3 then (some false) else (if (rd x20 x22) > x22 then (some false) else (if (rd x20 x22) > x3 then (if 0 ≤ (wrap64 ((rd x20 x22) - 1)) then (if (wrap64 ((rd x20 x22) - 1)) < (x331000.length : Int) then (if x22 < (x331000.length : Int) then (if (rd x331000 (wrap64 ((rd x20 x22) - 1))) > (rd x331000 x22) then (some false) else (impl_isRegion.l0 k (rd x20 x22) x20 x21 (wrap64 (x22 + 1)) x331000 x331001)) else (none)) else (none)) else (none)) else (impl_isRegion.l0 k (rd x20 x22) x20 x21 (wrap64 (x22 + 1)) x331000 x331001)))) else (none)) else (none)) else (some true)
end
def impl_isRegion.f (k : Nat) (l0_0 : List Int) (l0_1 : List Int) : Option (Bool) := (impl_isOrder.f k l0_0).bind fun t331 => (if t331 = true then (impl_isRegion.j0 k ((l0_1.length : Int) != (l0_0.length : Int)) l0_0 l0_1) else (impl_isRegion.j0 k true l0_0 l0_1))
theorem impl_isRegion.mono_l : ∀ k, (∀ y0 y1 y2, LeO (impl_isRegion.j0 k y0 y1 y2) (impl_isRegion.j0 (k + 1) y0 y1 y2)) ∧ (∀ y0 y1 y2 y3 y4 y5, LeO (impl_isRegion.l0 k y0 y1 y2 y3 y4 y5) (impl_isRegion.l0 (k + 1) y0 y1 y2 y3 y4 y5))
 | 0 => ⟨fun _ _ _ r h => by simp [impl_isRegion.j0] at h, fun _ _ _ _ _ _ r h => by simp [impl_isRegion.l0] at h⟩
 | k + 1 => by
  obtain ⟨ih0, ih1⟩ := impl_isRegion.mono_l k
  refine ⟨?_, ?_⟩
  ·
   intro y0 y1 y2
   unfold impl_isRegion.j0
   repeat' (with_reducible first | exact ih0 _ _ _ | exact ih1 _ _ _ _ _ _ | exact impl_isOrder.mono _ _ | exact LeO.refl _ | exact LeO.none _ | refine LeO.ite ?_ ?_ | refine LeO.bind ?_ (fun _ => ?_))
  ·
   intro y0 y1 y2 y3 y4 y5
   unfold impl_isRegion.l0
   repeat' (with_reducible first | exact ih0 _ _ _ | exact ih1 _ _ _ _ _ _ | exact impl_isOrder.mono _ _ | exact LeO.refl _ | exact LeO.none _ | refine LeO.ite ?_ ?_ | refine LeO.bind ?_ (fun _ => ?_))
theorem impl_isRegion.mono : ∀ a0 a1 k, LeO (impl_isRegion.f k a0 a1) (impl_isRegion.f (k + 1) a0 a1) := by
 intro a0 a1 k
 obtain ⟨ih0, ih1⟩ := impl_isRegion.mono_l k
 unfold impl_isRegion.f
 repeat' (with_reducible first | exact ih0 _ _ _ | exact ih1 _ _ _ _ _ _ | exact impl_isOrder.mono _ _ | exact LeO.refl _ | exact LeO.none _ | refine LeO.ite ?_ ?_ | refine LeO.bind ?_ (fun _ => ?_))
theorem impl_isRegion.calls (k : Nat) (A0_0 : Option Addr) (c0_0 : Nat) (l0_0 : List Int) (A0_1 : Option Addr) (c0_1 : Nat) (l0_1 : List Int) (r : Bool) (w : World) (hr0_0 : Kd.C (Kd.int .i64) w A0_0 l0_0.length l0_0) (hc0_0 : l0_0.length ≤ c0_0) (hr0_1 : Kd.C (Kd.int .i64) w A0_1 l0_1.length l0_1) (hc0_1 : l0_1.length ≤ c0_1) (h : impl_isRegion.f k l0_0 l0_1 = some r) :
  Calls Try.prog 27 #[.agg #[.slice A0_0 l0_0.length c0_0, .slice A0_1 l0_1.length c0_1]] w fun e w' => e = .returned (.bool r) ∧ Below w.heap.size w w' := by
 have hu33 := Try.underlying33
 have HR0_0 := Aside0.mk hr0_0
 have HC0_0 := Aside0.mk hc0_0
 clear hr0_0 hc0_0
 have HR0_1 := Aside0.mk hr0_1
 have HC0_1 := Aside0.mk hc0_1
 clear hr0_1 hc0_1
 have HB := Aside0.mk (Below.refl w.heap.size w)
 unfold impl_isRegion.f at h
 have H := h; clear h
 have HC2 := Aside0.mk H
 clear H
 go_enter Try.func27, Try.ntmps27
 have zz_ := trivial
 repeat (clear zz_; go_upto_region 1 with (first | ((with_reducible refine gate_dst (N := 1) rfl ?_); (try (refine gate_guard (by rfl) ?_; dsimp only)); refine box_event ?hg (N := 1) ?hd (cs := #[.slice A0_0 l0_0.length c0_0, .slice A0_1 l0_1.length c0_1]) (t := 33) ?hr ?_; (case hd => rfl); (case hg => rfl); (case hr => exact qfba_); intro gb330 hg w3 hbox hb; have n0_ := Aside0.mk (below_step q0c4_ hb); have n1_ := Aside0.mk (hbox); have n2_ := Aside0.mk ((by rw [hg]; exact (below_size q0c4_) : w.heap.size ≤ gb330)); have n3_ := Aside0.mk ((by rw [hg]; exact (below_size q0c4_) : w.heap.size ≤ gb330)); replace HB := n0_; have BK330 := n1_; have GW330 := n2_; have GE330 := n3_; clear n0_ n1_ n2_ n3_; clear hb hbox hg)); try (go_quiet (fail); have zz_ := trivial))
 (try simp only [Act.put, List.setIfInBounds_toArray, List.set_cons_zero, List.set_cons_succ])
 go_cut [18] (fun v18 wc => ∃ (kq : Nat) (x18_1 : Bool), v18 = .bool x18_1 ∧ Aside0 (impl_isRegion.j0 kq x18_1 l0_0 l0_1 = some r) ∧ Aside0 (kq ≤ k) ∧ Aside0 (wc.heap[gb330]? = some (.cells #[(.slice A0_0 l0_0.length c0_0), (.slice A0_1 l0_1.length c0_1)] 33 (0, 0))) ∧ Aside0 (Below w.heap.size w wc))
 case first =>
  have H := HC2.out
  clear HC2
  obtain ⟨t331, A4, H⟩ := ob_ H
  by_cases c5 : t331 = true
  ·
   subst c5
   rw [if_pos rfl] at H
   have H' := Aside0.mk H
   clear H
   have hcz6_0 : w3.cell? ⟨gb330, 0, none⟩ = some (.slice A0_0 l0_0.length c0_0) := (blk_cell BK330.out 0).trans rfl
   have hcz6_1 : w3.cell? ⟨gb330, 1, none⟩ = some (.slice A0_1 l0_1.length c0_1) := (blk_cell BK330.out 1).trans rfl
   have hfz6_0 := blk_frozen BK330.out 0
   have hfz6_1 := blk_frozen BK330.out 1
   have zz_ := trivial
   repeat (clear zz_; go_wp2_with (first | (go_at_call 41; (with_reducible refine (impl_isOrder.calls k _ _ l0_0 true _ ?s1 ?s2 A4.out).mono ?_); (case s1 => exact qe02_ HR0_0.out); (case s2 => exact HC0_0.out); rintro e w7 ⟨rfl, hb⟩; replace BK330 := Aside0.mk (blk_below (g := gb330) (o := .cells #[.slice A0_0 l0_0.length c0_0, .slice A0_1 l0_1.length c0_1] 33 (0, 0)) q539_ hb); replace HB := Aside0.mk (below_step qf9a_ hb); clear hb; have hcz8_0 : w7.cell? ⟨gb330, 0, none⟩ = some (.slice A0_0 l0_0.length c0_0) := (blk_cell BK330.out 0).trans rfl; have hcz8_1 : w7.cell? ⟨gb330, 1, none⟩ = some (.slice A0_1 l0_1.length c0_1) := (blk_cell BK330.out 1).trans rfl; have hfz8_0 := blk_frozen BK330.out 0; have hfz8_1 := blk_frozen BK330.out 1)); try (go_quiet (fail); have zz_ := trivial))
   go_meet
   case rel => exact ⟨_, (((l0_1.length : Int) != (l0_0.length : Int))), qc8f_, H', ⟨q821_⟩, ⟨q539_⟩, ⟨qf9a_⟩⟩
  ·
   replace c5 := Bool.eq_false_iff.mpr c5
   subst c5
   rw [if_neg nf_] at H
   have H' := Aside0.mk H
   clear H
   have hcz9_0 : w3.cell? ⟨gb330, 0, none⟩ = some (.slice A0_0 l0_0.length c0_0) := (blk_cell BK330.out 0).trans rfl
   have hcz9_1 : w3.cell? ⟨gb330, 1, none⟩ = some (.slice A0_1 l0_1.length c0_1) := (blk_cell BK330.out 1).trans rfl
   have hfz9_0 := blk_frozen BK330.out 0
   have hfz9_1 := blk_frozen BK330.out 1
   have zz_ := trivial
   repeat (clear zz_; go_wp2_with (first | (go_at_call 41; (with_reducible refine (impl_isOrder.calls k _ _ l0_0 false _ ?s1 ?s2 A4.out).mono ?_); (case s1 => exact qe02_ HR0_0.out); (case s2 => exact HC0_0.out); rintro e w10 ⟨rfl, hb⟩; replace BK330 := Aside0.mk (blk_below (g := gb330) (o := .cells #[.slice A0_0 l0_0.length c0_0, .slice A0_1 l0_1.length c0_1] 33 (0, 0)) q539_ hb); replace HB := Aside0.mk (below_step qf9a_ hb); clear hb)); try (go_quiet (fail); have zz_ := trivial))
   go_meet
   case rel => exact ⟨_, (true), qc8f_, H', ⟨q821_⟩, ⟨q539_⟩, ⟨qf9a_⟩⟩
 case rest =>
  clear HC2; try clear c2; try clear p2; try clear c5; try clear hcz6_0; try clear hcz6_1; try clear hcz8_0; try clear hcz8_1; try clear hcz9_0; try clear hcz9_1; try clear hfz6_0; try clear hfz6_1; try clear hfz8_0; try clear hfz8_1; try clear hfz9_0; try clear hfz9_1
  obtain ⟨kq, x18_1, rfl, HA, HJ1, BK330, HB⟩ := hcut
  cases kq with
  | zero => exact absurd HA.out (by simp [impl_isRegion.j0])
  | succ kj1 =>
   have H := HA.out
   clear HA
   simp only [impl_isRegion.j0] at H
   by_cases c11 : x18_1 = true
   ·
    subst c11
    rw [if_pos rfl] at H
    obtain rfl := Option.some.inj H
    go_wp2
    repeat (go_quiet (fail); try go_wp2)
    go_ret
    exact ⟨qce7_, qf9a_⟩
   ·
    replace c11 := Bool.eq_false_iff.mpr c11
    subst c11
    rw [if_neg nf_] at H
    have H' := Aside0.mk H
    clear H
    have hcz12_0 : wc.cell? ⟨gb330, 0, none⟩ = some (.slice A0_0 l0_0.length c0_0) := (blk_cell BK330.out 0).trans rfl
    have hcz12_1 : wc.cell? ⟨gb330, 1, none⟩ = some (.slice A0_1 l0_1.length c0_1) := (blk_cell BK330.out 1).trans rfl
    have hfz12_0 := blk_frozen BK330.out 0
    have hfz12_1 := blk_frozen BK330.out 1
    go_wp2
    repeat (go_quiet (fail); try go_wp2)
    go_loopg [3, 22] kj1 (fun kq v3 v22 w' => ∃ (x3_2 : Int) (x22_2 : Int), v3 = .int .i64 x3_2 ∧ v22 = .int .i64 x22_2 ∧ Aside0 (impl_isRegion.l0 kq x3_2 l0_1 (l0_1.length : Int) x22_2 l0_0 l0_1 = some r) ∧ Aside0 (kq ≤ kj1) ∧ Aside0 (w'.heap[gb330]? = some (.cells #[(.slice A0_0 l0_0.length c0_0), (.slice A0_1 l0_1.length c0_1)] 33 (0, 0))) ∧ Aside0 (Below w.heap.size w w'))
    case atStart => exact ⟨(0), (0), qc8f_, qc8f_, H', ⟨Nat.le_refl _⟩, ⟨q539_⟩, ⟨qf9a_⟩⟩
    case round =>
     clear H'; try clear c1; try clear c2; try clear p2; try clear c5; try clear c11; try clear hcz12_0; try clear hcz12_1; try clear hcz6_0; try clear hcz6_1; try clear hcz8_0; try clear hcz8_1; try clear hcz9_0; try clear hcz9_1; try clear hfz12_0; try clear hfz12_1; try clear hfz6_0; try clear hfz6_1; try clear hfz8_0; try clear hfz8_1; try clear hfz9_0; try clear hfz9_1; try clear p2
     obtain ⟨x3_2, x22_2, rfl, rfl, HA, HK2, BK330, HB⟩ := hrel
     cases gk with
     | zero => exact absurd HA.out (by simp [impl_isRegion.l0])
     | succ k2 =>
      have H := HA.out
      clear HA
      simp only [impl_isRegion.l0] at H
      by_cases c13 : x22_2 < (l0_1.length : Int)
      ·
       rw [if_pos c13] at H
       have c13b0 := decide_eq_true c13
       clear c13
       by_cases c14 : 0 ≤ x22_2
       ·
        rw [if_pos c14] at H
        have c14b0 := decide_eq_true c14
        clear c14
        by_cases c15 : x22_2 < (l0_1.length : Int)
        ·
         rw [if_pos c15] at H
         have c15b0 := decide_eq_true c15
         clear c15
         by_cases c16 : (rd l0_1 x22_2) < x3_2
         ·
          rw [if_pos c16] at H
          have c16b0 := decide_eq_true c16
          clear c16
          obtain rfl := Option.some.inj H
          have p332 : 0 ≤ (x22_2 : Int) := of_decide_eq_true qe84_
          have q332 : x22_2 < (l0_1.length : Int) := of_decide_eq_true qe84_
          obtain ⟨ad332, e332, hx332_0⟩ := Kd.at_int HR0_1.out x22_2 p332 q332
          cases e332
          (try (replace hx332_0 := (HB.out.cell (World.block_lt_of_cell? w _ hx332_0)).trans hx332_0))
          replace p332 := eq_true p332
          replace q332 := eq_true q332
          go_wp2
          repeat (go_quiet (fail); try go_wp2)
          go_ret
          exact ⟨qce7_, qf9a_⟩
         ·
          rw [if_neg c16] at H
          have c16b0 := decide_eq_false c16
          clear c16
          by_cases c17 : (rd l0_1 x22_2) > x22_2
          ·
           rw [if_pos c17] at H
           have c17b0 := decide_eq_true c17
           clear c17
           obtain rfl := Option.some.inj H
           have p332 : 0 ≤ (x22_2 : Int) := of_decide_eq_true qe84_
           have q332 : x22_2 < (l0_1.length : Int) := of_decide_eq_true qe84_
           obtain ⟨ad332, e332, hx332_0⟩ := Kd.at_int HR0_1.out x22_2 p332 q332
           cases e332
           (try (replace hx332_0 := (HB.out.cell (World.block_lt_of_cell? w _ hx332_0)).trans hx332_0))
           replace p332 := eq_true p332
           replace q332 := eq_true q332
           go_wp2
           repeat (go_quiet (fail); try go_wp2)
           go_ret
           exact ⟨qce7_, qf9a_⟩
          ·
           rw [if_neg c17] at H
           have c17b0 := decide_eq_false c17
           clear c17
           by_cases c18 : (rd l0_1 x22_2) > x3_2
           ·
            rw [if_pos c18] at H
            have c18b0 := decide_eq_true c18
            clear c18
            obtain ⟨ji19, hji19⟩ : ∃ j_ : Int, (wrap64 ((rd l0_1 x22_2) - 1)) = j_ := ⟨_, rfl⟩
            replace H : (if 0 ≤ (ji19) then (if (ji19) < (l0_0.length : Int) then (if x22_2 < (l0_0.length : Int) then (if (rd l0_0 (ji19)) > (rd l0_0 x22_2) then (some false) else (impl_isRegion.l0 k2 (rd l0_1 x22_2) l0_1 (l0_1.length : Int) (wrap64 (x22_2 + 1)) l0_0 l0_1)) else (none)) else (none)) else (none)) = some r := by first | (rw [hji19] at H; exact H) | (simp only [hji19] at H ⊢; exact H)
            have hji19w : (IntKind.i64.wrap ((rd l0_1 x22_2) - 1)) = ji19 := (i64_w _).trans hji19
            by_cases c20 : 0 ≤ (ji19)
            ·
             rw [if_pos c20] at H
             have c20b0 := decide_eq_true c20
             clear c20
             by_cases c21 : (ji19) < (l0_0.length : Int)
             ·
              rw [if_pos c21] at H
              have c21b0 := decide_eq_true c21
              clear c21
              by_cases c22 : x22_2 < (l0_0.length : Int)
              ·
               rw [if_pos c22] at H
               have c22b0 := decide_eq_true c22
               clear c22
               by_cases c23 : (rd l0_0 (ji19)) > (rd l0_0 x22_2)
               ·
                rw [if_pos c23] at H
                have c23b0 := decide_eq_true c23
                clear c23
                obtain rfl := Option.some.inj H
                have p332 : 0 ≤ (x22_2 : Int) := of_decide_eq_true qe84_
                have q332 : x22_2 < (l0_1.length : Int) := of_decide_eq_true qe84_
                obtain ⟨ad332, e332, hx332_0⟩ := Kd.at_int HR0_1.out x22_2 p332 q332
                cases e332
                (try (replace hx332_0 := (HB.out.cell (World.block_lt_of_cell? w _ hx332_0)).trans hx332_0))
                replace p332 := eq_true p332
                replace q332 := eq_true q332
                have hcz24_0 : wr.cell? ⟨gb330, 0, none⟩ = some (.slice A0_0 l0_0.length c0_0) := (blk_cell BK330.out 0).trans rfl
                have hcz24_1 : wr.cell? ⟨gb330, 1, none⟩ = some (.slice (some ad332) l0_1.length c0_1) := (blk_cell BK330.out 1).trans rfl
                have hfz24_0 := blk_frozen BK330.out 0
                have hfz24_1 := blk_frozen BK330.out 1
                have p333 : 0 ≤ ((ji19) : Int) := of_decide_eq_true qe84_
                have q333 : (ji19) < (l0_0.length : Int) := of_decide_eq_true qe84_
                obtain ⟨ad333, e333, hx333_0⟩ := Kd.at_int HR0_0.out (ji19) p333 q333
                cases e333
                (try (replace hx333_0 := (HB.out.cell (World.block_lt_of_cell? w _ hx333_0)).trans hx333_0))
                replace p333 := eq_true p333
                replace q333 := eq_true q333
                have p334 : 0 ≤ (x22_2 : Int) := of_decide_eq_true qe84_
                have q334 : x22_2 < (l0_0.length : Int) := of_decide_eq_true qe84_
                obtain ⟨ad334, e334, hx334_0⟩ := Kd.at_int HR0_0.out x22_2 p334 q334
                obtain rfl : ad333 = ad334 := (by injection e334)
                (try (replace hx334_0 := (HB.out.cell (World.block_lt_of_cell? w _ hx334_0)).trans hx334_0))
                replace p334 := eq_true p334
                replace q334 := eq_true q334
                go_wp2
                repeat (go_quiet (fail); try go_wp2)
                go_ret
                exact ⟨by first | rfl | (simp [errW_none, errW_some] <;> rfl) | (simp only [← hji19]; first | rfl | (simp [errW_none, errW_some] <;> rfl)) | (simp [*, errW_none, errW_some] <;> rfl), qf9a_⟩
               ·
                rw [if_neg c23] at H
                have c23b0 := decide_eq_false c23
                clear c23
                have H' := Aside0.mk H
                clear H
                have p332 : 0 ≤ (x22_2 : Int) := of_decide_eq_true qe84_
                have q332 : x22_2 < (l0_1.length : Int) := of_decide_eq_true qe84_
                obtain ⟨ad332, e332, hx332_0⟩ := Kd.at_int HR0_1.out x22_2 p332 q332
                cases e332
                (try (replace hx332_0 := (HB.out.cell (World.block_lt_of_cell? w _ hx332_0)).trans hx332_0))
                replace p332 := eq_true p332
                replace q332 := eq_true q332
                have hcz25_0 : wr.cell? ⟨gb330, 0, none⟩ = some (.slice A0_0 l0_0.length c0_0) := (blk_cell BK330.out 0).trans rfl
                have hcz25_1 : wr.cell? ⟨gb330, 1, none⟩ = some (.slice (some ad332) l0_1.length c0_1) := (blk_cell BK330.out 1).trans rfl
                have hfz25_0 := blk_frozen BK330.out 0
                have hfz25_1 := blk_frozen BK330.out 1
                have p333 : 0 ≤ ((ji19) : Int) := of_decide_eq_true qe84_
                have q333 : (ji19) < (l0_0.length : Int) := of_decide_eq_true qe84_
                obtain ⟨ad333, e333, hx333_0⟩ := Kd.at_int HR0_0.out (ji19) p333 q333
                cases e333
                (try (replace hx333_0 := (HB.out.cell (World.block_lt_of_cell? w _ hx333_0)).trans hx333_0))
                replace p333 := eq_true p333
                replace q333 := eq_true q333
                have p334 : 0 ≤ (x22_2 : Int) := of_decide_eq_true qe84_
                have q334 : x22_2 < (l0_0.length : Int) := of_decide_eq_true qe84_
                obtain ⟨ad334, e334, hx334_0⟩ := Kd.at_int HR0_0.out x22_2 p334 q334
                obtain rfl : ad333 = ad334 := (by injection e334)
                (try (replace hx334_0 := (HB.out.cell (World.block_lt_of_cell? w _ hx334_0)).trans hx334_0))
                replace p334 := eq_true p334
                replace q334 := eq_true q334
                go_wp2
                repeat (go_quiet (fail); try go_wp2)
                go_roundg k2
                case measure => have := HJ1.out; have := HK2.out; omega
                case rel => exact ⟨(rd l0_1 x22_2), (wrap64 (x22_2 + 1)), qc8f_, qc8f_, H', ⟨q37b_ HJ1.out HK2.out⟩, ⟨q539_⟩, ⟨qf9a_⟩⟩
              ·
               rw [if_neg c22] at H
               exact absurd H (by simp)
             ·
              rw [if_neg c21] at H
              exact absurd H (by simp)
            ·
             rw [if_neg c20] at H
             exact absurd H (by simp)
           ·
            rw [if_neg c18] at H
            have c18b0 := decide_eq_false c18
            clear c18
            have H' := Aside0.mk H
            clear H
            have p332 : 0 ≤ (x22_2 : Int) := of_decide_eq_true qe84_
            have q332 : x22_2 < (l0_1.length : Int) := of_decide_eq_true qe84_
            obtain ⟨ad332, e332, hx332_0⟩ := Kd.at_int HR0_1.out x22_2 p332 q332
            cases e332
            (try (replace hx332_0 := (HB.out.cell (World.block_lt_of_cell? w _ hx332_0)).trans hx332_0))
            replace p332 := eq_true p332
            replace q332 := eq_true q332
            go_wp2
            repeat (go_quiet (fail); try go_wp2)
            go_roundg k2
            case measure => have := HJ1.out; have := HK2.out; omega
            case rel => exact ⟨(rd l0_1 x22_2), (wrap64 (x22_2 + 1)), qc8f_, qc8f_, H', ⟨q37b_ HJ1.out HK2.out⟩, ⟨q539_⟩, ⟨qf9a_⟩⟩
        ·
         rw [if_neg c15] at H
         exact absurd H (by simp)
       ·
        rw [if_neg c14] at H
        exact absurd H (by simp)
      ·
       rw [if_neg c13] at H
       have c13b0 := decide_eq_false c13
       clear c13
       obtain rfl := Option.some.inj H
       go_wp2
       repeat (go_quiet (fail); try go_wp2)
       go_ret
       exact ⟨qce7_, qf9a_⟩

/-! ### impl_labelAt: function 28 -/
def impl_labelAt.f (l0 : List Int) (a1 : Int) (a2 : Int) : Option (Int) := (countIf_labelAt1.f l0 a2).bind fun t336 => (if 0 ≤ a1 then (if a1 ≤ (l0.length : Int) then ((countIf_labelAt2.f (l0.take (a1 : Int).toNat) a2).bind fun t338 => (some (wrap64 (t336 + t338)))) else (none)) else (none))
def impl_labelAt.T1 : Bool × List (List Nat × List Nat) := (true, [([], []), ([], []), ([0, 1], [0, 1]), ([], []), ([], []), ([3, 4], [3, 4]), ([], []), ([5, 6, 2], [5, 6]), ([2, 7], [2, 7]), ([8, 7, 0, 1, 2, 3, 4, 5, 6, 7, 8], [8])])
def impl_labelAt.B1 : List Nat := [0, 0, 3, 0, 0, 24, 0, 127, 255, 511]
theorem impl_labelAt.tab1 : rtab .any (opsOf Try.f28 1) = impl_labelAt.T1 := by kernel_rfl
theorem impl_labelAt.bits1 : waitsOk impl_labelAt.T1.2 impl_labelAt.B1 = true := by kernel_rfl
theorem impl_labelAt.calls (A0 : Option Addr) (c0 : Nat) (l0 : List Int) (a1 : Int) (a2 : Int) (r : Int) (w : World) (hr0 : Kd.C (Kd.int .i64) w A0 l0.length l0) (hc0 : l0.length ≤ c0) (h : impl_labelAt.f l0 a1 a2 = some r) :
  Calls Try.prog 28 #[.slice A0 l0.length c0, .int .i64 a1, .int .i64 a2] w fun e w' => e = .returned (.int .i64 r) ∧ Below w.heap.size w w' := by
 have HR0 := Aside0.mk hr0
 have HC0 := Aside0.mk hc0
 clear hr0 hc0
 have HB := Aside0.mk (Below.refl w.heap.size w)
 unfold impl_labelAt.f at h
 have H := h; clear h
 obtain ⟨t336, A4, H⟩ := ob_ H
 by_cases c5 : 0 ≤ a1
 ·
  rw [if_pos c5] at H
  have c5b0 := eq_true c5
  have c5b1 := decide_eq_true c5
  clear c5
  by_cases c6 : a1 ≤ (l0.length : Int)
  ·
   rw [if_pos c6] at H
   have c6b0 := eq_true c6
   have c6b1 := decide_eq_true c6
   clear c6
   obtain ⟨t338, A7, H⟩ := ob_ H
   obtain rfl := Option.some.inj H
   go_enter Try.func28, Try.ntmps28
   try go_wp2_with (first | ((with_reducible refine gate_dst (N := 5) rfl ?_); refine box_event ?hg (N := 5) ?hd (cs := #[.int .i64 a2]) (t := 3) ?hr ?_; (case hd => rfl); (case hg => rfl); (case hr => exact qfba_); intro gb335 hg w8 hbox hb; have n0_ := Aside0.mk (below_step q0c4_ hb); have n1_ := Aside0.mk (hbox); have n2_ := Aside0.mk ((by rw [hg]; exact (below_size q0c4_) : w.heap.size ≤ gb335)); have n3_ := Aside0.mk ((by rw [hg]; exact (below_size q0c4_) : w.heap.size ≤ gb335)); replace HB := n0_; have BK335 := n1_; have GW335 := n2_; have GE335 := n3_; clear n0_ n1_ n2_ n3_; clear hb hbox hg))
   have n0_ := Aside0.mk (blk_drew BK335.out)
   have n1_ := Aside0.mk (below_drew1 HB.out)
   clear BK335 HB; have BK335 := n0_; have HB := n1_; clear n0_ n1_
   obtain ⟨i010, hi010, _, hsz10, _⟩ := info_parts info3
   obtain ⟨hcut10, hA10, hC10⟩ := print_take_of (P := Try.prog) (Value.int .i64) 0 24 3 .i64 Try.underlying24 hi010 hsz10 A0 c0 l0 a1 (of_decide_eq_true qe84_) (of_decide_eq_true qe84_) HC0.out
   have HR337 := Aside0.mk (Kd.C_of_reads (h1 := fun _ => rfl) (hA10 _ (Kd.reads_of_C HR0.out)))
   have HC337 := Aside0.mk hC10
   clear hA10 hC10 hi010 hsz10
   refine start_ (n := 10) (S := fun w' => True) (ds := []) #[false, false, false, false, false, false, false, false, false, false] (by kernel_rfl) rfl rfl trivial (fun hHeld => ?_); refine with_tabW impl_labelAt.tab1 impl_labelAt.bits1 (fun HT_ HW_ => ?_)
   generalize w8.drew = w9 at BK335 HB HR337 hHeld ⊢
   refine pure_ (i := 0) (N := some 7) (v := ?_) (a' := ?_) #[true, false, false, false, false, false, false, false, false, false] rfl rfl (any_of HT_.out (by kernel_rfl)) (fun _ _ _ h => h) (Or.inl ⟨by rfl, ?_⟩) ?_ ?_
   rotate_left
   ·
    intro w'
    go_simp
    with_reducible rfl
   rotate_left
   ·
    simp only [Act.put, List.setIfInBounds_toArray, List.set_cons_zero, List.set_cons_succ, i64_w, i32_w]
    rfl
   refine pure_ (i := 1) (N := some 8) (v := ?_) (a' := ?_) #[true, true, false, false, false, false, false, false, false, false] rfl rfl (any_of HT_.out (by kernel_rfl)) (fun _ _ _ h => h) (Or.inl ⟨by rfl, ?_⟩) ?_ ?_
   rotate_left
   ·
    intro w'
    go_simp
    with_reducible rfl
   rotate_left
   ·
    simp only [Act.put, List.setIfInBounds_toArray, List.set_cons_zero, List.set_cons_succ, i64_w, i32_w]
    rfl
   refine pure_ (i := 3) (N := some 10) (v := ?_) (a' := ?_) #[true, true, false, true, false, false, false, false, false, false] rfl rfl (any_of HT_.out (by kernel_rfl)) (fun _ _ _ h => h) (Or.inl ⟨by rfl, ?_⟩) ?_ ?_
   rotate_left
   ·
    intro w'
    go_simp
    with_reducible rfl
   rotate_left
   ·
    simp only [Act.put, List.setIfInBounds_toArray, List.set_cons_zero, List.set_cons_succ, i64_w, i32_w]
    rfl
   refine pure_ (i := 4) (N := some 11) (v := ?_) (a' := ?_) #[true, true, false, true, true, false, false, false, false, false] rfl rfl (any_of HT_.out (by kernel_rfl)) (fun _ _ _ h => h) (Or.inl ⟨by rfl, ?_⟩) ?_ ?_
   rotate_left
   ·
    intro w'
    go_simp
    with_reducible rfl
   rotate_left
   ·
    simp only [Act.put, List.setIfInBounds_toArray, List.set_cons_zero, List.set_cons_succ, i64_w, i32_w]
    rfl
   refine pure_ (i := 5) (N := some 12) (v := ?_) (a' := ?_) #[true, true, false, true, true, true, false, false, false, false] rfl rfl (any_of HT_.out (by kernel_rfl)) (fun _ _ _ h => h) (Or.inl ⟨by rfl, ?_⟩) ?_ ?_
   rotate_left
   ·
    intro w'
    go_simp
    with_reducible rfl
   rotate_left
   ·
    simp only [Act.put, List.setIfInBounds_toArray, List.set_cons_zero, List.set_cons_succ, i64_w, i32_w]
    rfl
   refine pure_ (i := 6) (N := some 13) (v := ?_) (a' := ?_) #[true, true, false, true, true, true, true, false, false, false] rfl rfl (any_of HT_.out (by kernel_rfl)) (fun _ _ _ h => h) (Or.inl ⟨by rfl, ?_⟩) ?_ ?_
   rotate_left
   ·
    intro w'
    go_simp
    with_reducible rfl
   rotate_left
   ·
    simp only [Act.put, List.setIfInBounds_toArray, List.set_cons_zero, List.set_cons_succ, i64_w, i32_w]
    rfl
   refine one_ (i := 2) (N := some 9) #[true, true, true, true, true, true, true, false, false, false] rfl rfl (one_of HT_.out (by kernel_rfl)) (by decide) (fun K hK => ?_)
   refine goes_ Try.func42 (by kernel_rfl) rfl #[.slice A0 l0.length c0, .func (.func 43) #[] #[.pointer (some ⟨gb335, 0, none⟩)]] (by rfl) rfl rfl qef5_ ?_
   with_reducible refine (countIf_labelAt1.calls _ _ l0 gb335 a2 t336 _ ?s1 ?s2 ?s3 A4.out).mono ?_
   (case s1 => exact qe02_ HR0.out)
   (case s2 => exact HC0.out)
   (case s3 => (with_reducible repeat (first | refine blk_drewN ?_ _ | refine blk_drew ?_ | refine blk_alloc ?_ _)); exact BK335.out)
   rintro e w' ⟨rfl, ⟨nd, rfl⟩⟩
   refine ⟨_, rfl, ?_⟩
   refine hK.out _ _ trivial (fun hHeld => ?_)
   clear hK K
   refine norm_ (a' := ?_) ?_ ?_
   rotate_left
   ·
    show Act.put _ (some 9) _ = _
    simp only [Act.put, List.setIfInBounds_toArray, List.set_cons_zero, List.set_cons_succ, i64_w, i32_w]
    rfl
   refine one_ (i := 7) (N := some 14) #[true, true, true, true, true, true, true, true, false, false] rfl rfl (one_of HT_.out (by kernel_rfl)) (by decide) (fun K hK => ?_)
   refine goes_ Try.func42 (by kernel_rfl) rfl #[.slice A0 (l0.take (a1 : Int).toNat).length c0, .func (.func 44) #[] #[.pointer (some ⟨gb335, 0, none⟩)]] (by rfl) rfl rfl (by (try simp only [List.map_toArray, List.map_cons, List.map_nil]); first | done | (rw [show (l0.take (a1 : Int).toNat).length = a1.toNat from (by rw [List.length_take]; have h_ : (a1 : Int) ≤ (l0.length : Int) := of_decide_eq_true qe84_; omega)] <;> rfl) | rfl | (simp only [List.length_drop, List.length_take]; rfl)) ?_
   with_reducible refine (countIf_labelAt2.calls _ _ (l0.take (a1 : Int).toNat) gb335 a2 t338 _ ?s1 ?s2 ?s3 A7.out).mono ?_
   (case s1 => repeat (first | exact (Kd.C_below HR337.out qa0e_) | (with_reducible refine Kd.C_alloc ?_ _) | (with_reducible refine Kd.C_drewN ?_ _) | (with_reducible refine Kd.C_drew ?_)))
   (case s2 => exact HC337.out)
   (case s3 => (with_reducible repeat (first | refine blk_drewN ?_ _ | refine blk_drew ?_ | refine blk_alloc ?_ _)); exact BK335.out)
   rintro e w' ⟨rfl, ⟨nd, rfl⟩⟩
   refine ⟨_, rfl, ?_⟩
   refine hK.out _ _ trivial (fun hHeld => ?_)
   clear hK K
   refine norm_ (a' := ?_) ?_ ?_
   rotate_left
   ·
    show Act.put _ (some 14) _ = _
    simp only [Act.put, List.setIfInBounds_toArray, List.set_cons_zero, List.set_cons_succ, i64_w, i32_w]
    rfl
   refine pure_ (i := 8) (N := some 15) (v := ?_) (a' := ?_) #[true, true, true, true, true, true, true, true, true, false] rfl rfl (any_of HT_.out (by kernel_rfl)) (fun _ _ _ h => h) (Or.inl ⟨by rfl, ?_⟩) ?_ ?_
   rotate_left
   ·
    intro w'
    go_simp
    with_reducible rfl
   rotate_left
   ·
    simp only [Act.put, List.setIfInBounds_toArray, List.set_cons_zero, List.set_cons_succ, i64_w, i32_w]
    rfl
   refine pure_ (i := 9) (N := some 6) (v := ?_) (a' := ?_) #[true, true, true, true, true, true, true, true, true, true] rfl rfl (any_of HT_.out (by kernel_rfl)) (fun _ _ _ h => h) (Or.inl ⟨by rfl, ?_⟩) ?_ ?_
   rotate_left
   ·
    intro w'
    go_simp
    with_reducible rfl
   rotate_left
   ·
    simp only [Act.put, List.setIfInBounds_toArray, List.set_cons_zero, List.set_cons_succ, i64_w, i32_w]
    rfl
   refine done_ (done_of HT_.out (by kernel_rfl)) ?_
   try go_wp2
   go_ret
   exact ⟨qce7_, qa0e_⟩
  ·
   rw [if_neg c6] at H
   exact absurd H (by simp)
 ·
  rw [if_neg c5] at H
  exact absurd H (by simp)

end Go.Proofs.Ytgfedgnpffockaa.PAll
