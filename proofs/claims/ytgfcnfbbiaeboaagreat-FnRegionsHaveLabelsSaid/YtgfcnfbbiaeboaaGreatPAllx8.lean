-- written by a program of this session (wip/gen/xpatch.py over the translation); Lean checks it
import Derived.Test.YtgfcnfbbiaeboaaGreatPAllx0
import Derived.Test.YtgfcnfbbiaeboaaGreatPAllx3
import Derived.Test.YtgfcnfbbiaeboaaGreatPAllx6
namespace Go.Proofs.YtgfcnfbbiaeboaaGreat.PAll
open Go.RowKit Go.Proofs.YtgfcnfbbiaeboaaGreat.Hand Go.Proofs.YtgfcnfbbiaeboaaGreatW.PrintWords Go.Proofs.YtgfcnfbbiaeboaaGreatW.PrintLast Go.Proofs.YtgfcnfbbiaeboaaGreatW.PrintMore
attribute [local go_sem] max2_int min2_int max_two min_two max_three min_three max_four min_four   -- for this text's walks alone
set_option maxHeartbeats 8000000
set_option maxRecDepth 100000
set_option linter.unusedVariables false
set_option linter.unusedSimpArgs false

/-! ### spec_reLabelOf: function 31 -/
def spec_reLabelOf.l0 : Nat → List Int → List Int → Int → Int → List Int → List Int → Option (List Int)
 | 0, _, _, _, _, _, _ => none
 | k + 1, x3, x11, x12, x13, x530000, x530001 => if x13 < x12 then (if 0 ≤ x13 then (if x13 < (x11.length : Int) then (if x13 ≤ (x530000.length : Int) then (if x13 < (x530001.length : Int) then ((spec_reCount.f k (x530000.take (x13 : Int).toNat) (rd x530001 x13) (rd x11 x13)).bind fun t536 => (if 0 ≤ (rd x11 x13) then (if (rd x11 x13) < (x3.length : Int) then (spec_reLabelOf.l0 k (x3.set ((rd x11 x13) : Int).toNat t536) x11 x12 (wrap64 (x13 + 1)) x530000 x530001) else (none)) else (none))) else (none)) else (none)) else (none)) else (none)) else (some x3)
def spec_reLabelOf.f (k : Nat) (l0_0 : List Int) (l0_1 : List Int) : Option (List Int) := if 0 ≤ (l0_0.length : Int) then (if ((l0_0.length : Int) : Int).toNat ≤ 35184372088832 then (spec_reLabelOf.l0 k (List.replicate ((l0_0.length : Int) : Int).toNat 0) l0_0 (l0_0.length : Int) 0 l0_0 l0_1) else (none)) else (none)
theorem spec_reLabelOf.mono_l : ∀ k, (∀ y0 y1 y2 y3 y4 y5, LeO (spec_reLabelOf.l0 k y0 y1 y2 y3 y4 y5) (spec_reLabelOf.l0 (k + 1) y0 y1 y2 y3 y4 y5))
 | 0 => fun _ _ _ _ _ _ r h => by simp [spec_reLabelOf.l0] at h
 | k + 1 => by
  have ih0 := spec_reLabelOf.mono_l k
  ·
   intro y0 y1 y2 y3 y4 y5
   unfold spec_reLabelOf.l0
   repeat' (with_reducible first | exact ih0 _ _ _ _ _ _ | exact spec_reCount.mono _ _ _ _ | exact LeO.refl _ | exact LeO.none _ | refine LeO.ite ?_ ?_ | refine LeO.bind ?_ (fun _ => ?_))
theorem spec_reLabelOf.mono : ∀ a0 a1 k, LeO (spec_reLabelOf.f k a0 a1) (spec_reLabelOf.f (k + 1) a0 a1) := by
 intro a0 a1 k
 have ih0 := spec_reLabelOf.mono_l k
 unfold spec_reLabelOf.f
 repeat' (with_reducible first | exact ih0 _ _ _ _ _ _ | exact spec_reCount.mono _ _ _ _ | exact LeO.refl _ | exact LeO.none _ | refine LeO.ite ?_ ?_ | refine LeO.bind ?_ (fun _ => ?_))
def spec_reLabelOf.T5 : Bool × List (List Nat × List Nat) := (true, [([], []), ([], []), ([], []), ([2], [2]), ([], []), ([3, 4], [3, 4]), ([], []), ([6], [6]), ([], []), ([7, 8], [7, 8]), ([9], [9]), ([], []), ([5, 10, 11], [5, 10, 11]), ([0, 1, 0, 1, 2, 3, 4, 5, 6, 7, 8, 9, 10, 11, 12], [0, 1]), ([13, 12, 12, 0, 1, 2, 3, 4, 5, 6, 7, 8, 9, 10, 11, 12], [12, 13])])
def spec_reLabelOf.B5 : List Nat := [0, 0, 0, 4, 0, 28, 0, 64, 0, 448, 960, 0, 4092, 8191, 16383]
theorem spec_reLabelOf.tab5 : rtab .any (opsOf Tryz.f31 5) = spec_reLabelOf.T5 := by kernel_rfl
theorem spec_reLabelOf.bits5 : waitsOk spec_reLabelOf.T5.2 spec_reLabelOf.B5 = true := by kernel_rfl
theorem spec_reLabelOf.calls (k : Nat) (A0_0 : Option Addr) (c0_0 : Nat) (l0_0 : List Int) (A0_1 : Option Addr) (c0_1 : Nat) (l0_1 : List Int) (r : List Int) (w : World) (hr0_0 : Kd.C (Kd.int .i64) w A0_0 l0_0.length l0_0) (hc0_0 : l0_0.length ≤ c0_0) (hr0_1 : Kd.C (Kd.int .i64) w A0_1 l0_1.length l0_1) (hc0_1 : l0_1.length ≤ c0_1) (h : spec_reLabelOf.f k l0_0 l0_1 = some r) :
  Calls Tryz.prog 31 #[.agg #[.slice A0_0 l0_0.length c0_0, .slice A0_1 l0_1.length c0_1]] w fun e w' => ∃ v0_ : Value, e = .returned (v0_) ∧ Kd.R (Kd.int .i64) 3 w' w.heap.size (fun _ => True) v0_ r ∧ Below w.heap.size w w' := by
 have hu27 := Tryz.underlying27
 have HR0_0 := Aside0.mk hr0_0
 have HC0_0 := Aside0.mk hc0_0
 clear hr0_0 hc0_0
 have HR0_1 := Aside0.mk hr0_1
 have HC0_1 := Aside0.mk hc0_1
 clear hr0_1 hc0_1
 have HB := Aside0.mk (Below.refl w.heap.size w)
 unfold spec_reLabelOf.f at h
 have H := h; clear h
 by_cases c2 : 0 ≤ (l0_0.length : Int)
 ·
  rw [if_pos c2] at H
  have c2b0 := eq_true c2
  have c2b1 := decide_eq_true c2
  clear c2
  by_cases c3 : ((l0_0.length : Int) : Int).toNat ≤ 35184372088832
  ·
   rw [if_pos c3] at H
   have c3b0 := eq_true c3
   have c3b1 := decide_eq_true c3
   clear c3
   obtain ⟨y530, hy530⟩ : ∃ y_ : List Int, y_ = (List.replicate ((l0_0.length : Int) : Int).toNat 0) := ⟨_, rfl⟩
   replace H : (spec_reLabelOf.l0 k y530 l0_0 (l0_0.length : Int) 0 l0_0 l0_1) = some r := by first | (rw [hy530]; with_reducible exact H) | (have H2_ := (Option.bind_some _ _).symm.trans H; rw [hy530]; with_reducible exact H2_) | (have H2_ := (Option.bind_some _ _).symm.trans H; with_reducible exact H2_) | with_reducible exact H | (rw [hy530]; exact H) | exact H
   have Ny530 := Aside0.mk hy530
   clear hy530
   have H' := Aside0.mk H
   clear H
   go_enter Tryz.func31, Tryz.ntmps31
   go_wp2_with (first | ((with_reducible refine gate_dst (N := 1) rfl ?_); refine box_event ?hg (N := 1) ?hd (cs := #[.slice A0_0 l0_0.length c0_0, .slice A0_1 l0_1.length c0_1]) (t := 27) ?hr ?_; (case hd => rfl); (case hg => rfl); (case hr => exact qfba_); intro gb529 hg w4 hbox hb; have n0_ := Aside0.mk (below_step q0c4_ hb); have n1_ := Aside0.mk (hbox); have n2_ := Aside0.mk ((by rw [hg]; exact (below_size q0c4_) : w.heap.size ≤ gb529)); have n3_ := Aside0.mk ((by rw [hg]; exact (below_size q0c4_) : w.heap.size ≤ gb529)); replace HB := n0_; have BK529 := n1_; have GW529 := n2_; have GE529 := n3_; clear n0_ n1_ n2_ n3_; clear hb hbox hg; have hcz5_0 : w4.cell? ⟨gb529, 0, none⟩ = some (.slice A0_0 l0_0.length c0_0) := (blk_cell BK529.out 0).trans rfl; have hcz5_1 : w4.cell? ⟨gb529, 1, none⟩ = some (.slice A0_1 l0_1.length c0_1) := (blk_cell BK529.out 1).trans rfl; have hfz5_0 := blk_frozen BK529.out 0; have hfz5_1 := blk_frozen BK529.out 1) | ((with_reducible refine gate_dst (N := 9) rfl ?_); refine Kd.R_make (Kd.int .i64) _ 3 rfl (N := 9) rfl 24 _ _ rfl (l0_0.length : Int) rfl rfl Tryz.underlying24 (.int .i64 0) 8 info3 rfl (by decide) (by omega) 0 (ok := fun _ => True) (okp := fun _ => True) rfl (fun _ hk => hk) trivial (of_decide_eq_true qe84_) (Nat.le_trans (Nat.mul_le_mul_right _ (of_decide_eq_true qe84_ : (l0_0.length : Int).toNat ≤ 35184372088832)) (by omega)) (Below.refl _ _) (Nat.le_refl _) ?_; intro v531 w6 ho7 hb hg_ hnew_; clear hg_ hnew_; (first | rw [← Ny530.out] at ho7 | (simp only [Int.reduceToNat] at ho7; rw [← Ny530.out] at ho7)); have HO532 := Aside0.mk (Kd.R_lower ho7 (below_size qccf_)); replace BK529 := Aside0.mk (blk_below (g := gb529) (o := .cells #[.slice A0_0 l0_0.length c0_0, .slice A0_1 l0_1.length c0_1] 27 (0, 0)) (by (with_reducible repeat (first | refine blk_drewN ?_ _ | refine blk_drew ?_ | refine blk_alloc ?_ _)); exact BK529.out) hb); replace HB := Aside0.mk (below_step qccf_ hb); clear hb ho7; have hcz8_0 : w6.cell? ⟨gb529, 0, none⟩ = some (.slice A0_0 l0_0.length c0_0) := (blk_cell BK529.out 0).trans rfl; have hcz8_1 : w6.cell? ⟨gb529, 1, none⟩ = some (.slice A0_1 l0_1.length c0_1) := (blk_cell BK529.out 1).trans rfl; have hfz8_0 := blk_frozen BK529.out 0; have hfz8_1 := blk_frozen BK529.out 1))
   go_loopg [13] k (fun kq v13 w' => ∃ (x3_1 : List Int) (x13_1 : Int), v13 = .int .i64 x13_1 ∧ Aside0 (spec_reLabelOf.l0 kq x3_1 l0_0 (l0_0.length : Int) x13_1 l0_0 l0_1 = some r) ∧ Aside0 (kq ≤ k) ∧ Aside0 (Kd.R (Kd.int .i64) 3 w' w.heap.size (fun _ => True) v531 x3_1) ∧ Aside0 (w'.heap[gb529]? = some (.cells #[(.slice A0_0 l0_0.length c0_0), (.slice A0_1 l0_1.length c0_1)] 27 (0, 0))) ∧ Aside0 (Below w.heap.size w w'))
   case atStart => exact ⟨(y530), (0), qc8f_, H', ⟨Nat.le_refl _⟩, ⟨q9d5_ HO532.out⟩, ⟨by (with_reducible repeat (first | refine blk_drewN ?_ _ | refine blk_drew ?_ | refine blk_alloc ?_ _)); exact BK529.out⟩, ⟨qccf_⟩⟩
   case round =>
    clear H'; try clear c2; try clear c2b0; try clear c2b1; try clear p2; try clear c3; try clear c3b0; try clear c3b1; try clear hcz5_0; try clear hcz5_1; try clear hcz8_0; try clear hcz8_1; try clear hfz5_0; try clear hfz5_1; try clear hfz8_0; try clear hfz8_1
    obtain ⟨x3_1, x13_1, rfl, HA, HK1, HO_3, BK529, HB⟩ := hrel
    cases gk with
    | zero => exact absurd HA.out (by simp [spec_reLabelOf.l0])
    | succ k1 =>
     have H := HA.out
     clear HA
     simp only [spec_reLabelOf.l0] at H
     by_cases c9 : x13_1 < (l0_0.length : Int)
     ·
      rw [if_pos c9] at H
      have c9b0 := decide_eq_true c9
      clear c9
      by_cases c10 : 0 ≤ x13_1
      ·
       rw [if_pos c10] at H
       have c10b0 := decide_eq_true c10
       clear c10
       by_cases c11 : x13_1 < (l0_0.length : Int)
       ·
        rw [if_pos c11] at H
        have c11b0 := decide_eq_true c11
        clear c11
        have c12b0 := eq_true (of_decide_eq_true qe84_ : 0 ≤ x13_1)
        by_cases c13 : x13_1 ≤ (l0_0.length : Int)
        ·
         rw [if_pos c13] at H
         have c13b0 := eq_true c13
         have c13b1 := decide_eq_true c13
         clear c13
         by_cases c14 : x13_1 < (l0_1.length : Int)
         ·
          rw [if_pos c14] at H
          have c14b0 := decide_eq_true c14
          clear c14
          obtain ⟨t536, A15, H⟩ := ob_ H
          by_cases c16 : 0 ≤ (rd l0_0 x13_1)
          ·
           rw [if_pos c16] at H
           have c16b0 := decide_eq_true c16
           clear c16
           by_cases c17 : (rd l0_0 x13_1) < (x3_1.length : Int)
           ·
            rw [if_pos c17] at H
            have c17b0 := decide_eq_true c17
            clear c17
            obtain ⟨y537, hy537⟩ : ∃ y_ : List Int, y_ = (x3_1.set ((rd l0_0 x13_1) : Int).toNat t536) := ⟨_, rfl⟩
            replace H : (spec_reLabelOf.l0 k1 y537 l0_0 (l0_0.length : Int) (wrap64 (x13_1 + 1)) l0_0 l0_1) = some r := by first | (rw [hy537]; with_reducible exact H) | (have H2_ := (Option.bind_some _ _).symm.trans H; rw [hy537]; with_reducible exact H2_) | (have H2_ := (Option.bind_some _ _).symm.trans H; with_reducible exact H2_) | with_reducible exact H | (rw [hy537]; exact H) | exact H
            have Ny537 := Aside0.mk hy537
            clear hy537
            have H' := Aside0.mk H
            clear H
            have p533 : 0 ≤ (x13_1 : Int) := of_decide_eq_true qe84_
            have q533 : x13_1 < (l0_0.length : Int) := of_decide_eq_true qe84_
            obtain ⟨ad533, e533, hx533_0⟩ := Kd.at_int HR0_0.out x13_1 p533 q533
            cases e533
            (try (replace hx533_0 := (HB.out.cell (World.block_lt_of_cell? w _ hx533_0)).trans hx533_0))
            replace p533 := eq_true p533
            replace q533 := eq_true q533
            try go_wp2
            have n0_ := Aside0.mk (Kd.R_drew HO_3.out)
            have n1_ := Aside0.mk (blk_drew BK529.out)
            have n2_ := Aside0.mk (below_drew1 HB.out)
            clear HO_3 BK529 HB; have HO_3 := n0_; have BK529 := n1_; have HB := n2_; clear n0_ n1_ n2_
            obtain ⟨i020, hi020, _, hsz20, _⟩ := info_parts info3
            obtain ⟨hcut20, hA20, hC20⟩ := print_take_of (P := Tryz.prog) (Value.int .i64) 0 24 3 .i64 Tryz.underlying24 hi020 hsz20 (some ad533) c0_0 l0_0 x13_1 (of_decide_eq_true qe84_) (of_decide_eq_true qe84_) HC0_0.out
            have HR534 := Aside0.mk (Kd.C_of_reads (h1 := fun _ => rfl) (hA20 _ (Kd.reads_of_C HR0_0.out)))
            have HC534 := Aside0.mk hC20
            clear hA20 hC20 hi020 hsz20
            have p535 : 0 ≤ (x13_1 : Int) := of_decide_eq_true qe84_
            have q535 : x13_1 < (l0_1.length : Int) := of_decide_eq_true qe84_
            obtain ⟨ad535, e535, hx535_0⟩ := Kd.at_int HR0_1.out x13_1 p535 q535
            have hw535_0 := hx535_0
            cases e535
            (try (replace hx535_0 := (HB.out.cell (World.block_lt_of_cell? w _ hx535_0)).trans hx535_0))
            replace p535 := eq_true p535
            replace q535 := eq_true q535
            refine start_ (n := 15) (S := fun w' => w'.cell? ⟨gb529, 0, none⟩ = some (.slice (some ad533) l0_0.length c0_0) ∧ w'.cell? ⟨gb529, 1, none⟩ = some (.slice (some ad535) l0_1.length c0_1) ∧ w'.cell? (ad535.add (x13_1).toNat) = some (.int .i64 (rd l0_1 x13_1))) (ds := [14]) #[false, false, false, false, false, false, false, false, false, false, false, false, false, false, false] (by kernel_rfl) rfl rfl ⟨(blk_cell BK529.out 0).trans rfl, (blk_cell BK529.out 1).trans rfl, ((HB.out.cell (World.block_lt_of_cell? w _ hw535_0)).trans hw535_0)⟩ (fun hHeld => ?_); refine with_tabW spec_reLabelOf.tab5 spec_reLabelOf.bits5 (fun HT_ HW_ => ?_)
            generalize wr.drew = w19 at HO_3 BK529 HB HR534 hx535_0 hHeld ⊢
            refine pure_ (i := 0) (N := some 18) (v := ?_) (a' := ?_) #[true, false, false, false, false, false, false, false, false, false, false, false, false, false, false] rfl rfl (any_of HT_.out (by kernel_rfl)) (fun _ _ _ h => h) (Or.inl ⟨by rfl, ?_⟩) ?_ ?_
            rotate_left
            ·
             intro w'
             go_simp
             with_reducible rfl
            rotate_left
            ·
             simp only [Act.put, List.setIfInBounds_toArray, List.set_cons_zero, List.set_cons_succ, i64_w, i32_w]
             rfl
            refine pure_ (i := 1) (N := some 19) (v := ?_) (a' := ?_) #[true, true, false, false, false, false, false, false, false, false, false, false, false, false, false] rfl rfl (any_of HT_.out (by kernel_rfl)) (fun _ _ _ h => h) (Or.inl ⟨by rfl, ?_⟩) ?_ ?_
            rotate_left
            ·
             intro w'
             go_simp
             with_reducible rfl
            rotate_left
            ·
             simp only [Act.put, List.setIfInBounds_toArray, List.set_cons_zero, List.set_cons_succ, i64_w, i32_w]
             rfl
            refine pure_ (i := 2) (N := some 20) (v := ?_) (a' := ?_) #[true, true, true, false, false, false, false, false, false, false, false, false, false, false, false] rfl rfl (any_of HT_.out (by kernel_rfl)) (fun _ _ _ h => h) (Or.inl ⟨by rfl, ?_⟩) ?_ ?_
            rotate_left
            ·
             intro w'
             go_simp
             with_reducible rfl
            rotate_left
            ·
             simp only [Act.put, List.setIfInBounds_toArray, List.set_cons_zero, List.set_cons_succ, i64_w, i32_w]
             rfl
            refine pure_ (i := 4) (N := some 22) (v := ?_) (a' := ?_) #[true, true, true, false, true, false, false, false, false, false, false, false, false, false, false] rfl rfl (any_of HT_.out (by kernel_rfl)) (fun _ _ _ h => h) (Or.inl ⟨by rfl, ?_⟩) ?_ ?_
            rotate_left
            ·
             intro w'
             go_simp
             with_reducible rfl
            rotate_left
            ·
             simp only [Act.put, List.setIfInBounds_toArray, List.set_cons_zero, List.set_cons_succ, i64_w, i32_w]
             rfl
            refine pure_ (i := 6) (N := some 24) (v := ?_) (a' := ?_) #[true, true, true, false, true, false, true, false, false, false, false, false, false, false, false] rfl rfl (any_of HT_.out (by kernel_rfl)) (fun _ _ _ h => h) (Or.inl ⟨by rfl, ?_⟩) ?_ ?_
            rotate_left
            ·
             intro w'
             go_simp
             with_reducible rfl
            rotate_left
            ·
             simp only [Act.put, List.setIfInBounds_toArray, List.set_cons_zero, List.set_cons_succ, i64_w, i32_w]
             rfl
            refine pure_ (i := 8) (N := some 26) (v := ?_) (a' := ?_) #[true, true, true, false, true, false, true, false, true, false, false, false, false, false, false] rfl rfl (any_of HT_.out (by kernel_rfl)) (fun _ _ _ h => h) (Or.inl ⟨by rfl, ?_⟩) ?_ ?_
            rotate_left
            ·
             intro w'
             go_simp
             with_reducible rfl
            rotate_left
            ·
             simp only [Act.put, List.setIfInBounds_toArray, List.set_cons_zero, List.set_cons_succ, i64_w, i32_w]
             rfl
            refine pure_ (i := 11) (N := some 29) (v := ?_) (a' := ?_) #[true, true, true, false, true, false, true, false, true, false, false, true, false, false, false] rfl rfl (any_of HT_.out (by kernel_rfl)) (fun _ _ _ h => h) (Or.inl ⟨by rfl, ?_⟩) ?_ ?_
            rotate_left
            ·
             intro w'
             go_simp
             with_reducible rfl
            rotate_left
            ·
             simp only [Act.put, List.setIfInBounds_toArray, List.set_cons_zero, List.set_cons_succ, i64_w, i32_w]
             rfl
            refine take_ (i := 3) (N := some 21) (v := ?_) (a' := ?_) #[true, true, true, true, true, false, true, false, true, false, false, true, false, false, false] rfl rfl (take_ofW HT_.out HW_.out (by kernel_rfl)) (fun _ _ _ h => h) (Or.inl ⟨by rfl, ?_⟩) hHeld ?_ ?_
            rotate_left
            ·
             rintro w' ⟨s0, s1, s2⟩
             go_simp
             with_reducible rfl
            rotate_left
            ·
             simp only [Act.put, List.setIfInBounds_toArray, List.set_cons_zero, List.set_cons_succ, i64_w, i32_w]
             rfl
            refine pure_ (i := 5) (N := some 23) (v := ?_) (a' := ?_) #[true, true, true, true, true, true, true, false, true, false, false, true, false, false, false] rfl rfl (any_of HT_.out (by kernel_rfl)) (fun _ _ _ h => h) (Or.inl ⟨by rfl, ?_⟩) ?_ ?_
            rotate_left
            ·
             intro w'
             go_simp
             with_reducible rfl
            rotate_left
            ·
             simp only [Act.put, List.setIfInBounds_toArray, List.set_cons_zero, List.set_cons_succ, i64_w, i32_w]
             rfl
            refine take_ (i := 7) (N := some 25) (v := ?_) (a' := ?_) #[true, true, true, true, true, true, true, true, true, false, false, true, false, false, false] rfl rfl (take_ofW HT_.out HW_.out (by kernel_rfl)) (fun _ _ _ h => h) (Or.inl ⟨by rfl, ?_⟩) hHeld ?_ ?_
            rotate_left
            ·
             rintro w' ⟨s0, s1, s2⟩
             go_simp
             with_reducible rfl
            rotate_left
            ·
             simp only [Act.put, List.setIfInBounds_toArray, List.set_cons_zero, List.set_cons_succ, i64_w, i32_w]
             rfl
            refine pure_ (i := 9) (N := some 27) (v := ?_) (a' := ?_) #[true, true, true, true, true, true, true, true, true, true, false, true, false, false, false] rfl rfl (any_of HT_.out (by kernel_rfl)) (fun _ _ _ h => h) (Or.inl ⟨by rfl, ?_⟩) ?_ ?_
            rotate_left
            ·
             intro w'
             go_simp
             with_reducible rfl
            rotate_left
            ·
             simp only [Act.put, List.setIfInBounds_toArray, List.set_cons_zero, List.set_cons_succ, i64_w, i32_w]
             rfl
            refine take_ (i := 10) (N := some 28) (v := ?_) (a' := ?_) #[true, true, true, true, true, true, true, true, true, true, true, true, false, false, false] rfl rfl (take_ofW HT_.out HW_.out (by kernel_rfl)) (fun _ _ _ h => h) (Or.inl ⟨by rfl, ?_⟩) hHeld ?_ ?_
            rotate_left
            ·
             rintro w' ⟨s0, s1, s2⟩
             go_simp
             with_reducible rfl
            rotate_left
            ·
             simp only [Act.put, List.setIfInBounds_toArray, List.set_cons_zero, List.set_cons_succ, i64_w, i32_w]
             rfl
            refine one_ (i := 12) (N := some 30) #[true, true, true, true, true, true, true, true, true, true, true, true, true, false, false] rfl rfl (one_of HT_.out (by kernel_rfl)) (by decide) (fun K hK => ?_)
            refine goes_ Tryz.func45 (by kernel_rfl) rfl #[.slice (some ad533) (l0_0.take (x13_1 : Int).toNat).length c0_0, .int .i64 (rd l0_1 x13_1), .int .i64 (rd l0_0 x13_1)] (by rfl) rfl rfl (by (try simp only [List.map_toArray, List.map_cons, List.map_nil]); first | done | (rw [show (l0_0.take (x13_1 : Int).toNat).length = x13_1.toNat from (by rw [List.length_take]; have h_ : (x13_1 : Int) ≤ (l0_0.length : Int) := of_decide_eq_true qe84_; omega)] <;> rfl) | rfl | (simp only [List.length_drop, List.length_take]; rfl)) ?_
            with_reducible refine (spec_reCount.calls k1 _ _ (l0_0.take (x13_1 : Int).toNat) (rd l0_1 x13_1) (rd l0_0 x13_1) t536 _ ?s1 ?s2 A15.out).mono ?_
            (case s1 => exact qe02_ HR534.out)
            (case s2 => exact HC534.out)
            rintro e w' ⟨rfl, ⟨nd, rfl⟩⟩
            refine ⟨_, rfl, ?_⟩
            have p18 : 0 ≤ ((rd l0_0 x13_1) : Int) := of_decide_eq_true qe84_
            have q18 : ((rd l0_0 x13_1) : Int) < ((x3_1.length : Int) : Int) := of_decide_eq_true qe84_
            obtain ⟨go18, co18, eo18, gb18, gl18, cl18, HG18⟩ := Kd.R_form HO_3.out (by omega)
            (first | cases eo18 | (injection eo18 with ea_ en_ ec_; (first | subst ea_ | (injection ea_ with ea_; subst ea_)); subst ec_; clear en_))
            have GB18 := Aside0.mk gb18
            have GG18 := Aside0.mk HG18
            clear gb18 gl18 HG18
            obtain ⟨hx18_0, hf18_0⟩ := Kd.R_celln 0 HO_3.out ((rd l0_0 x13_1) : Int) p18 q18
            replace p18 := eq_true p18
            replace q18 := eq_true q18
            have HP21 := Kd.R_putn HO_3.out ((rd l0_0 x13_1) : Int) t536
            rw [← Ny537.out] at HP21
            have HQ21 := Aside0.mk HP21
            clear HP21
            refine hK.out _ _ ⟨(blk_cell BK529.out 0).trans rfl, (blk_cell BK529.out 1).trans rfl, ((HB.out.cell (World.block_lt_of_cell? w _ hw535_0)).trans hw535_0)⟩ (fun hHeld => ?_)
            clear hK K
            refine norm_ (a' := ?_) ?_ ?_
            rotate_left
            ·
             show Act.put _ (some 30) _ = _
             simp only [Act.put, List.setIfInBounds_toArray, List.set_cons_zero, List.set_cons_succ, i64_w, i32_w]
             rfl
            refine pure_ (i := 13) (N := some 31) (v := ?_) (a' := ?_) #[true, true, true, true, true, true, true, true, true, true, true, true, true, true, false] rfl rfl (any_of HT_.out (by kernel_rfl)) (fun _ _ _ h => h) (Or.inl ⟨by rfl, ?_⟩) ?_ ?_
            rotate_left
            ·
             intro w'
             go_simp
             with_reducible rfl
            rotate_left
            ·
             simp only [Act.put, List.setIfInBounds_toArray, List.set_cons_zero, List.set_cons_succ, i64_w, i32_w]
             rfl
            refine last_ (i := 14) (N := none) #[true, true, true, true, true, true, true, true, true, true, true, true, true, true, true] rfl rfl (one_of HT_.out (by kernel_rfl)) (by decide) (fun K hK => ?_)
            refine skip_ (w1 := ?_) (by rfl) rfl ?_ ?_
            rotate_left
            ·
             go_simp
             rfl
            refine hK.out _ _ ?_
            clear hK K
            refine done_ (done_of HT_.out (by kernel_rfl)) ?_
            try go_wp2
            go_roundg k1
            case measure => have := HK1.out; omega
            case rel => exact ⟨(y537), (wrap64 (x13_1 + 1)), qc8f_, H', ⟨by have := HK1.out; omega⟩, ⟨q9d5_ HQ21.out⟩, ⟨by (with_reducible repeat (first | refine blk_drewN ?_ _ | refine blk_drew ?_ | refine blk_alloc ?_ _)); refine blk_far ?_ (by have h_ := Kd.R_ne HO_3.out BK529.out (by decide); intro e_; exact h_ (by rw [e_]; rfl)) _; (with_reducible repeat (first | refine blk_drewN ?_ _ | refine blk_drew ?_ | refine blk_alloc ?_ _)); exact BK529.out⟩, ⟨by repeat (first | (with_reducible first | exact HB.out | apply below_alloc | apply pw_below_drewN | apply below_drew1 | refine below_set ?_ GB18.out | refine below_set ?_ GE529.out) | exact HB.out)⟩⟩
           ·
            rw [if_neg c17] at H
            exact absurd H (by simp)
          ·
           rw [if_neg c16] at H
           exact absurd H (by simp)
         ·
          rw [if_neg c14] at H
          exact absurd H (by simp)
        ·
         rw [if_neg c13] at H
         exact absurd H (by simp)
       ·
        rw [if_neg c11] at H
        exact absurd H (by simp)
      ·
       rw [if_neg c10] at H
       exact absurd H (by simp)
     ·
      rw [if_neg c9] at H
      have c9b0 := decide_eq_false c9
      clear c9
      obtain rfl := Option.some.inj H
      go_wp2
      go_ret
      exact ⟨_, qce7_, q9d5_ HO_3.out, qccf_⟩
  ·
   rw [if_neg c3] at H
   exact absurd H (by simp)
 ·
  rw [if_neg c2] at H
  exact absurd H (by simp)

/-! ### spec_LabelOfRegion: function 14 -/
def spec_LabelOfRegion.f (k : Nat) (l0_0 : List Int) (l0_1 : List Int) : Option (List Int × Bool) := (spec_reGood.f k l0_0 l0_1).bind fun t539 => (if t539 = true then ((spec_reLabelOf.f k l0_0 l0_1).bind fun t540 => (some (t540, true))) else (some (([] : List Int), false)))
theorem spec_LabelOfRegion.mono : ∀ a0 a1 k, LeO (spec_LabelOfRegion.f k a0 a1) (spec_LabelOfRegion.f (k + 1) a0 a1) := by
 intro a0 a1 k
 unfold spec_LabelOfRegion.f
 repeat' (with_reducible first | exact spec_reGood.mono _ _ _ | exact spec_reLabelOf.mono _ _ _ | exact LeO.refl _ | exact LeO.none _ | refine LeO.ite ?_ ?_ | refine LeO.bind ?_ (fun _ => ?_))
theorem spec_LabelOfRegion.calls (k : Nat) (A0_0 : Option Addr) (c0_0 : Nat) (l0_0 : List Int) (A0_1 : Option Addr) (c0_1 : Nat) (l0_1 : List Int) (r1 : List Int) (r2 : Bool) (w : World) (hr0_0 : Kd.C (Kd.int .i64) w A0_0 l0_0.length l0_0) (hc0_0 : l0_0.length ≤ c0_0) (hr0_1 : Kd.C (Kd.int .i64) w A0_1 l0_1.length l0_1) (hc0_1 : l0_1.length ≤ c0_1) (h : spec_LabelOfRegion.f k l0_0 l0_1 = some (r1, r2)) :
  Calls Tryz.prog 14 #[.agg #[.slice A0_0 l0_0.length c0_0, .slice A0_1 l0_1.length c0_1]] w fun e w' => ∃ v0_ : Value, e = .returned (.tuple #[v0_, .bool r2]) ∧ Kd.R (Kd.int .i64) 3 w' w.heap.size (fun _ => True) v0_ r1 ∧ Below w.heap.size w w' := by
 have hu27 := Tryz.underlying27
 have HR0_0 := Aside0.mk hr0_0
 have HC0_0 := Aside0.mk hc0_0
 clear hr0_0 hc0_0
 have HR0_1 := Aside0.mk hr0_1
 have HC0_1 := Aside0.mk hc0_1
 clear hr0_1 hc0_1
 have HB := Aside0.mk (Below.refl w.heap.size w)
 unfold spec_LabelOfRegion.f at h
 have H := h; clear h
 obtain ⟨t539, A2, H⟩ := ob_ H
 by_cases c3 : t539 = true
 ·
  subst c3
  rw [if_pos rfl] at H
  obtain ⟨t540, A4, H⟩ := ob_ H
  simp only [Option.some.injEq, Prod.mk.injEq] at H
  obtain ⟨rfl, rfl⟩ := H
  go_enter Tryz.func14, Tryz.ntmps14
  go_wp2_with (first | ((with_reducible refine gate_dst (N := 1) rfl ?_); refine box_event ?hg (N := 1) ?hd (cs := #[.slice A0_0 l0_0.length c0_0, .slice A0_1 l0_1.length c0_1]) (t := 27) ?hr ?_; (case hd => rfl); (case hg => rfl); (case hr => exact qfba_); intro gb538 hg w5 hbox hb; have n0_ := Aside0.mk (below_step q0c4_ hb); have n1_ := Aside0.mk (hbox); have n2_ := Aside0.mk ((by rw [hg]; exact (below_size q0c4_) : w.heap.size ≤ gb538)); have n3_ := Aside0.mk ((by rw [hg]; exact (below_size q0c4_) : w.heap.size ≤ gb538)); replace HB := n0_; have BK538 := n1_; have GW538 := n2_; have GE538 := n3_; clear n0_ n1_ n2_ n3_; clear hb hbox hg; have hcz6_0 : w5.cell? ⟨gb538, 0, none⟩ = some (.slice A0_0 l0_0.length c0_0) := (blk_cell BK538.out 0).trans rfl; have hcz6_1 : w5.cell? ⟨gb538, 1, none⟩ = some (.slice A0_1 l0_1.length c0_1) := (blk_cell BK538.out 1).trans rfl; have hfz6_0 := blk_frozen BK538.out 0; have hfz6_1 := blk_frozen BK538.out 1) | ((with_reducible refine gate_callee (f := 28) rfl ?_); refine gl_ 5 Tryz.func28 #[.agg #[.slice A0_0 l0_0.length c0_0, .slice A0_1 l0_1.length c0_1]] ?_; (with_reducible refine (spec_reGood.calls k _ _ l0_0 _ _ l0_1 true _ ?s1 ?s2 ?s3 ?s4 A2.out).mono ?_); (case s1 => exact qe02_ HR0_0.out); (case s2 => exact HC0_0.out); (case s3 => exact qe02_ HR0_1.out); (case s4 => exact HC0_1.out); rintro e w7 ⟨rfl, hb⟩; refine ⟨_, rfl, ?_⟩; replace BK538 := Aside0.mk (blk_below (g := gb538) (o := .cells #[.slice A0_0 l0_0.length c0_0, .slice A0_1 l0_1.length c0_1] 27 (0, 0)) q09c_ hb); replace HB := Aside0.mk (below_step q957_ hb); clear hb; have hcz8_0 : w7.cell? ⟨gb538, 0, none⟩ = some (.slice A0_0 l0_0.length c0_0) := (blk_cell BK538.out 0).trans rfl; have hcz8_1 : w7.cell? ⟨gb538, 1, none⟩ = some (.slice A0_1 l0_1.length c0_1) := (blk_cell BK538.out 1).trans rfl; have hfz8_0 := blk_frozen BK538.out 0; have hfz8_1 := blk_frozen BK538.out 1) | ((with_reducible refine gate_callee (f := 31) rfl ?_); refine gl_ 8 Tryz.func31 #[.agg #[.slice A0_0 l0_0.length c0_0, .slice A0_1 l0_1.length c0_1]] ?_; (with_reducible refine (spec_reLabelOf.calls k _ _ l0_0 _ _ l0_1 t540 _ ?s1 ?s2 ?s3 ?s4 A4.out).mono ?_); (case s1 => exact qe02_ HR0_0.out); (case s2 => exact HC0_0.out); (case s3 => exact qe02_ HR0_1.out); (case s4 => exact HC0_1.out); rintro e w9 ⟨v541, rfl, ho0, hb⟩; refine ⟨_, rfl, ?_⟩; have HO542 := Aside0.mk (Kd.R_lower ho0 (below_size q957_)); replace BK538 := Aside0.mk (blk_below (g := gb538) (o := .cells #[.slice A0_0 l0_0.length c0_0, .slice A0_1 l0_1.length c0_1] 27 (0, 0)) q09c_ hb); replace HB := Aside0.mk (below_step q957_ hb); clear hb ho0))
  go_ret2
  exact ⟨_, qce7_, q9d5_ HO542.out, q957_⟩
 ·
  replace c3 := Bool.eq_false_iff.mpr c3
  subst c3
  rw [if_neg nf_] at H
  simp only [Option.some.injEq, Prod.mk.injEq] at H
  obtain ⟨rfl, rfl⟩ := H
  go_enter Tryz.func14, Tryz.ntmps14
  go_wp2_with (first | ((with_reducible refine gate_dst (N := 1) rfl ?_); refine box_event ?hg (N := 1) ?hd (cs := #[.slice A0_0 l0_0.length c0_0, .slice A0_1 l0_1.length c0_1]) (t := 27) ?hr ?_; (case hd => rfl); (case hg => rfl); (case hr => exact qfba_); intro gb538 hg w10 hbox hb; have n0_ := Aside0.mk (below_step q0c4_ hb); have n1_ := Aside0.mk (hbox); have n2_ := Aside0.mk ((by rw [hg]; exact (below_size q0c4_) : w.heap.size ≤ gb538)); have n3_ := Aside0.mk ((by rw [hg]; exact (below_size q0c4_) : w.heap.size ≤ gb538)); replace HB := n0_; have BK538 := n1_; have GW538 := n2_; have GE538 := n3_; clear n0_ n1_ n2_ n3_; clear hb hbox hg; have hcz11_0 : w10.cell? ⟨gb538, 0, none⟩ = some (.slice A0_0 l0_0.length c0_0) := (blk_cell BK538.out 0).trans rfl; have hcz11_1 : w10.cell? ⟨gb538, 1, none⟩ = some (.slice A0_1 l0_1.length c0_1) := (blk_cell BK538.out 1).trans rfl; have hfz11_0 := blk_frozen BK538.out 0; have hfz11_1 := blk_frozen BK538.out 1) | ((with_reducible refine gate_callee (f := 28) rfl ?_); refine gl_ 5 Tryz.func28 #[.agg #[.slice A0_0 l0_0.length c0_0, .slice A0_1 l0_1.length c0_1]] ?_; (with_reducible refine (spec_reGood.calls k _ _ l0_0 _ _ l0_1 false _ ?s1 ?s2 ?s3 ?s4 A2.out).mono ?_); (case s1 => exact qe02_ HR0_0.out); (case s2 => exact HC0_0.out); (case s3 => exact qe02_ HR0_1.out); (case s4 => exact HC0_1.out); rintro e w12 ⟨rfl, hb⟩; refine ⟨_, rfl, ?_⟩; replace BK538 := Aside0.mk (blk_below (g := gb538) (o := .cells #[.slice A0_0 l0_0.length c0_0, .slice A0_1 l0_1.length c0_1] 27 (0, 0)) q09c_ hb); replace HB := Aside0.mk (below_step q957_ hb); clear hb))
  go_ret2
  exact ⟨_, qce7_, qf62_, q957_⟩

/-! ### impl_IsRegion: function 16 -/
def impl_IsRegion.f (k : Nat) (l0_0 : List Int) (l0_1 : List Int) : Option (Bool) := (impl_isRegion.f k l0_0 l0_1).bind fun t544 => (some t544)
theorem impl_IsRegion.mono : ∀ a0 a1 k, LeO (impl_IsRegion.f k a0 a1) (impl_IsRegion.f (k + 1) a0 a1) := by
 intro a0 a1 k
 unfold impl_IsRegion.f
 repeat' (with_reducible first | exact impl_isRegion.mono _ _ _ | exact LeO.refl _ | exact LeO.none _ | refine LeO.ite ?_ ?_ | refine LeO.bind ?_ (fun _ => ?_))
theorem impl_IsRegion.calls (k : Nat) (A0_0 : Option Addr) (c0_0 : Nat) (l0_0 : List Int) (A0_1 : Option Addr) (c0_1 : Nat) (l0_1 : List Int) (r : Bool) (w : World) (hr0_0 : Kd.C (Kd.int .i64) w A0_0 l0_0.length l0_0) (hc0_0 : l0_0.length ≤ c0_0) (hr0_1 : Kd.C (Kd.int .i64) w A0_1 l0_1.length l0_1) (hc0_1 : l0_1.length ≤ c0_1) (h : impl_IsRegion.f k l0_0 l0_1 = some r) :
  Calls Tryz.prog 16 #[.agg #[.slice A0_0 l0_0.length c0_0, .slice A0_1 l0_1.length c0_1]] w fun e w' => e = .returned (.bool r) ∧ Below w.heap.size w w' := by
 have hu27 := Tryz.underlying27
 have HR0_0 := Aside0.mk hr0_0
 have HC0_0 := Aside0.mk hc0_0
 clear hr0_0 hc0_0
 have HR0_1 := Aside0.mk hr0_1
 have HC0_1 := Aside0.mk hc0_1
 clear hr0_1 hc0_1
 have HB := Aside0.mk (Below.refl w.heap.size w)
 unfold impl_IsRegion.f at h
 have H := h; clear h
 obtain ⟨t544, A2, H⟩ := ob_ H
 obtain rfl := Option.some.inj H
 go_enter Tryz.func16, Tryz.ntmps16
 go_wp2_with (first | ((with_reducible refine gate_dst (N := 1) rfl ?_); refine box_event ?hg (N := 1) ?hd (cs := #[.slice A0_0 l0_0.length c0_0, .slice A0_1 l0_1.length c0_1]) (t := 27) ?hr ?_; (case hd => rfl); (case hg => rfl); (case hr => exact qfba_); intro gb543 hg w3 hbox hb; have n0_ := Aside0.mk (below_step q0c4_ hb); have n1_ := Aside0.mk (hbox); have n2_ := Aside0.mk ((by rw [hg]; exact (below_size q0c4_) : w.heap.size ≤ gb543)); have n3_ := Aside0.mk ((by rw [hg]; exact (below_size q0c4_) : w.heap.size ≤ gb543)); replace HB := n0_; have BK543 := n1_; have GW543 := n2_; have GE543 := n3_; clear n0_ n1_ n2_ n3_; clear hb hbox hg; have hcz4_0 : w3.cell? ⟨gb543, 0, none⟩ = some (.slice A0_0 l0_0.length c0_0) := (blk_cell BK543.out 0).trans rfl; have hcz4_1 : w3.cell? ⟨gb543, 1, none⟩ = some (.slice A0_1 l0_1.length c0_1) := (blk_cell BK543.out 1).trans rfl; have hfz4_0 := blk_frozen BK543.out 0; have hfz4_1 := blk_frozen BK543.out 1) | ((with_reducible refine gate_callee (f := 26) rfl ?_); refine gl_ 4 Tryz.func26 #[.agg #[.slice A0_0 l0_0.length c0_0, .slice A0_1 l0_1.length c0_1]] ?_; (with_reducible refine (impl_isRegion.calls k _ _ l0_0 _ _ l0_1 t544 _ ?s1 ?s2 ?s3 ?s4 A2.out).mono ?_); (case s1 => exact qe02_ HR0_0.out); (case s2 => exact HC0_0.out); (case s3 => exact qe02_ HR0_1.out); (case s4 => exact HC0_1.out); rintro e w5 ⟨rfl, hb⟩; refine ⟨_, rfl, ?_⟩; replace BK543 := Aside0.mk (blk_below (g := gb543) (o := .cells #[.slice A0_0 l0_0.length c0_0, .slice A0_1 l0_1.length c0_1] 27 (0, 0)) (by (with_reducible repeat (first | refine blk_drewN ?_ _ | refine blk_drew ?_ | refine blk_alloc ?_ _)); exact BK543.out) hb); replace HB := Aside0.mk (below_step q701_ hb); clear hb))
 go_ret
 exact ⟨qce7_, q701_⟩

/-! ### impl_between: function 66 -/
def impl_between.f (a0 : Int) (a1 : Int) (a2 : Int) : Option (Bool) := if a0 ≥ a1 then (some (decide (a0 ≤ a2))) else (some false)
theorem impl_between.calls (a0 : Int) (a1 : Int) (a2 : Int) (r : Bool) (w : World) (h : impl_between.f a0 a1 a2 = some r) :
  Calls Tryz.prog 66 #[.int .i64 a0, .int .i64 a1, .int .i64 a2] w fun e w' => e = .returned (.bool r) ∧ Drawn0 w w' := by
 unfold impl_between.f at h
 have H := h; clear h
 by_cases c4 : a0 ≥ a1
 ·
  rw [if_pos c4] at H
  have c4b0 := decide_eq_true c4
  clear c4
  obtain rfl := Option.some.inj H
  go_enter Tryz.func66, Tryz.ntmps66
  go_wp2
  go_ret
  exact ⟨qc8f_, qffa_⟩
 ·
  rw [if_neg c4] at H
  have c4b0 := decide_eq_false c4
  clear c4
  obtain rfl := Option.some.inj H
  go_enter Tryz.func66, Tryz.ntmps66
  go_wp2
  go_ret
  exact ⟨qc8f_, qffa_⟩

/-! ### impl_isCars: function 55 -/
def impl_isCars.f (a0 : Int) : Option (Bool) := (impl_between.f a0 0 8).bind fun t545 => (some t545)
theorem impl_isCars.calls (a0 : Int) (r : Bool) (w : World) (h : impl_isCars.f a0 = some r) :
  Calls Tryz.prog 55 #[.int .i64 a0] w fun e w' => e = .returned (.bool r) ∧ Drawn0 w w' := by
 unfold impl_isCars.f at h
 have H := h; clear h
 obtain ⟨t545, A2, H⟩ := ob_ H
 obtain rfl := Option.some.inj H
 go_enter Tryz.func55, Tryz.ntmps55
 go_wp2_with (first | ((with_reducible refine gate_callee (f := 66) rfl ?_); refine gl_ 4 Tryz.func66 #[.int .i64 a0, .int .i64 0, .int .i64 8] ?_; (with_reducible refine (impl_between.calls a0 0 8 t545 _ A2.out).mono ?_); rintro e w' ⟨rfl, ⟨nd, rfl⟩⟩; refine ⟨_, rfl, ?_⟩))
 go_ret
 exact ⟨qc8f_, qffa_⟩

/-! ### impl_isPoint: function 32 -/
mutual
def impl_isPoint.j0 : Nat → List Int → Bool → Option (Bool)
 | 0, _, _ => none
 | k + 1, x0, x15 => if x15 = true then (some false) else (impl_isPoint.l0 k x0 x0 (x0.length : Int) 0)
def impl_isPoint.l0 : Nat → List Int → List Int → Int → Int → Option (Bool)
 | 0, _, _, _, _ => none
 | k + 1, x0, x16, x17, x18 => if x18 < x17 then (if 0 ≤ x18 then (if x18 < (x16.length : Int) then (if x18 ≤ (x0.length : Int) then (impl_isPoint.l1 k x0 (rd x16 x18) x16 x17 x18 (x0.take (x18 : Int).toNat) ((x0.take (x18 : Int).toNat).length : Int) 0) else (none)) else (none)) else (none)) else (some true)
def impl_isPoint.l1 : Nat → List Int → Int → List Int → Int → Int → List Int → Int → Int → Option (Bool)
 | 0, _, _, _, _, _, _, _, _ => none
 | k + 1, x0, x4, x16, x17, x18, x25, x26, x27 => if x27 < x26 then (if 0 ≤ x27 then (if x27 < (x25.length : Int) then (if (rd x25 x27) = x4 then (some false) else (if (rd x25 x27) = (wrap64 (x4 + 100)) then (some false) else (impl_isPoint.l1 k x0 x4 x16 x17 x18 x25 x26 (wrap64 (x27 + 1))))) else (none)) else (none)) else (impl_isPoint.l0 k x0 x16 x17 (wrap64 (x18 + 1)))
end
def impl_isPoint.f (k : Nat) (l0 : List Int) : Option (Bool) := (impl_isCars.f (l0.length : Int)).bind fun t546 => (if t546 = true then ((impl_areBetween.f l0 (-100000) 100000).bind fun t547 => (impl_isPoint.j0 k l0 (!t547))) else (impl_isPoint.j0 k l0 true))
theorem impl_isPoint.mono_l : ∀ k, (∀ y0 y1, LeO (impl_isPoint.j0 k y0 y1) (impl_isPoint.j0 (k + 1) y0 y1)) ∧ (∀ y0 y1 y2 y3, LeO (impl_isPoint.l0 k y0 y1 y2 y3) (impl_isPoint.l0 (k + 1) y0 y1 y2 y3)) ∧ (∀ y0 y1 y2 y3 y4 y5 y6 y7, LeO (impl_isPoint.l1 k y0 y1 y2 y3 y4 y5 y6 y7) (impl_isPoint.l1 (k + 1) y0 y1 y2 y3 y4 y5 y6 y7))
 | 0 => ⟨fun _ _ r h => by simp [impl_isPoint.j0] at h, fun _ _ _ _ r h => by simp [impl_isPoint.l0] at h, fun _ _ _ _ _ _ _ _ r h => by simp [impl_isPoint.l1] at h⟩
 | k + 1 => by
  obtain ⟨ih0, ih1, ih2⟩ := impl_isPoint.mono_l k
  refine ⟨?_, ?_, ?_⟩
  ·
   intro y0 y1
   unfold impl_isPoint.j0
   repeat' (with_reducible first | exact ih0 _ _ | exact ih1 _ _ _ _ | exact ih2 _ _ _ _ _ _ _ _ | exact LeO.refl _ | exact LeO.none _ | refine LeO.ite ?_ ?_ | refine LeO.bind ?_ (fun _ => ?_))
  ·
   intro y0 y1 y2 y3
   unfold impl_isPoint.l0
   repeat' (with_reducible first | exact ih0 _ _ | exact ih1 _ _ _ _ | exact ih2 _ _ _ _ _ _ _ _ | exact LeO.refl _ | exact LeO.none _ | refine LeO.ite ?_ ?_ | refine LeO.bind ?_ (fun _ => ?_))
  ·
   intro y0 y1 y2 y3 y4 y5 y6 y7
   unfold impl_isPoint.l1
   repeat' (with_reducible first | exact ih0 _ _ | exact ih1 _ _ _ _ | exact ih2 _ _ _ _ _ _ _ _ | exact LeO.refl _ | exact LeO.none _ | refine LeO.ite ?_ ?_ | refine LeO.bind ?_ (fun _ => ?_))
theorem impl_isPoint.mono : ∀ a0 k, LeO (impl_isPoint.f k a0) (impl_isPoint.f (k + 1) a0) := by
 intro a0 k
 obtain ⟨ih0, ih1, ih2⟩ := impl_isPoint.mono_l k
 unfold impl_isPoint.f
 repeat' (with_reducible first | exact ih0 _ _ | exact ih1 _ _ _ _ | exact ih2 _ _ _ _ _ _ _ _ | exact LeO.refl _ | exact LeO.none _ | refine LeO.ite ?_ ?_ | refine LeO.bind ?_ (fun _ => ?_))
theorem impl_isPoint.calls (k : Nat) (A0 : Option Addr) (c0 : Nat) (l0 : List Int) (r : Bool) (w : World) (hr0 : Kd.C (Kd.int .i64) w A0 l0.length l0) (hc0 : l0.length ≤ c0) (h : impl_isPoint.f k l0 = some r) :
  Calls Tryz.prog 32 #[.slice A0 l0.length c0] w fun e w' => e = .returned (.bool r) ∧ Below w.heap.size w w' := by
 have HR0 := Aside0.mk hr0
 have HC0 := Aside0.mk hc0
 clear hr0 hc0
 have HB := Aside0.mk (Below.refl w.heap.size w)
 unfold impl_isPoint.f at h
 have H := h; clear h
 have HC2 := Aside0.mk H
 clear H
 go_enter Tryz.func32, Tryz.ntmps32
 go_upto_region 1 with (fail)
 go_cut [15] (fun v15 wc => ∃ (kq : Nat) (x15_1 : Bool), v15 = .bool x15_1 ∧ Aside0 (impl_isPoint.j0 kq l0 x15_1 = some r) ∧ Aside0 (kq ≤ k) ∧ Aside0 (Below w.heap.size w wc))
 case first =>
  have H := HC2.out
  clear HC2
  obtain ⟨t546, A3, H⟩ := ob_ H
  by_cases c4 : t546 = true
  ·
   subst c4
   rw [if_pos rfl] at H
   obtain ⟨t547, A5, H⟩ := ob_ H
   have H' := Aside0.mk H
   clear H
   go_wp2_with (first | ((with_reducible refine gate_callee (f := 55) rfl ?_); refine gl_ 9 Tryz.func55 #[.int .i64 (l0.length : Int)] ?_; (with_reducible refine (impl_isCars.calls (l0.length : Int) true _ A3.out).mono ?_); rintro e w' ⟨rfl, ⟨nd, rfl⟩⟩; refine ⟨_, rfl, ?_⟩) | (go_at_call 56; (with_reducible refine (impl_areBetween.calls _ _ l0 (-100000) 100000 t547 _ ?s1 ?s2 A5.out).mono ?_); (case s1 => repeat (first | exact (Kd.C_below HR0.out q0c4_) | (with_reducible refine Kd.C_alloc ?_ _) | (with_reducible refine Kd.C_drewN ?_ _) | (with_reducible refine Kd.C_drew ?_))); (case s2 => exact HC0.out); rintro e w6 ⟨rfl, hb⟩; replace HB := Aside0.mk (below_step q0c4_ hb); clear hb))
   go_meet
   case rel => exact ⟨_, (!t547), qc8f_, H', ⟨q821_⟩, ⟨q0c4_⟩⟩
  ·
   replace c4 := Bool.eq_false_iff.mpr c4
   subst c4
   rw [if_neg nf_] at H
   have H' := Aside0.mk H
   clear H
   go_wp2_with (first | ((with_reducible refine gate_callee (f := 55) rfl ?_); refine gl_ 9 Tryz.func55 #[.int .i64 (l0.length : Int)] ?_; (with_reducible refine (impl_isCars.calls (l0.length : Int) false _ A3.out).mono ?_); rintro e w' ⟨rfl, ⟨nd, rfl⟩⟩; refine ⟨_, rfl, ?_⟩))
   go_meet
   case rel => exact ⟨_, (true), qc8f_, H', ⟨q821_⟩, ⟨q0c4_⟩⟩
 case rest =>
  clear HC2; try clear p2; try clear c3; try clear c4; try clear c5
  obtain ⟨kq, x15_1, rfl, HA, HJ1, HB⟩ := hcut
  cases kq with
  | zero => exact absurd HA.out (by simp [impl_isPoint.j0])
  | succ kj1 =>
   have H := HA.out
   clear HA
   simp only [impl_isPoint.j0] at H
   by_cases c7 : x15_1 = true
   ·
    subst c7
    rw [if_pos rfl] at H
    obtain rfl := Option.some.inj H
    go_wp2
    go_ret
    exact ⟨qce7_, q0c4_⟩
   ·
    replace c7 := Bool.eq_false_iff.mpr c7
    subst c7
    rw [if_neg nf_] at H
    have H' := Aside0.mk H
    clear H
    go_wp2
    go_loopg [18] kj1 (fun kq v18 w' => ∃ (x18_2 : Int), v18 = .int .i64 x18_2 ∧ Aside0 (impl_isPoint.l0 kq l0 l0 (l0.length : Int) x18_2 = some r) ∧ Aside0 (kq ≤ kj1) ∧ Aside0 (Below w.heap.size w w'))
    case atStart => exact ⟨(0), qc8f_, H', ⟨Nat.le_refl _⟩, ⟨q0c4_⟩⟩
    case round =>
     clear H'; try clear p2; try clear c3; try clear c4; try clear c5; try clear c7; try clear p2
     obtain ⟨x18_2, rfl, HA, HK2, HB⟩ := hrel
     cases gk with
     | zero => exact absurd HA.out (by simp [impl_isPoint.l0])
     | succ k2 =>
      have H := HA.out
      clear HA
      simp only [impl_isPoint.l0] at H
      by_cases c8 : x18_2 < (l0.length : Int)
      ·
       rw [if_pos c8] at H
       have c8b0 := decide_eq_true c8
       clear c8
       by_cases c9 : 0 ≤ x18_2
       ·
        rw [if_pos c9] at H
        have c9b0 := decide_eq_true c9
        clear c9
        by_cases c10 : x18_2 < (l0.length : Int)
        ·
         rw [if_pos c10] at H
         have c10b0 := decide_eq_true c10
         clear c10
         have c11b0 := eq_true (of_decide_eq_true qe84_ : 0 ≤ x18_2)
         by_cases c12 : x18_2 ≤ (l0.length : Int)
         ·
          rw [if_pos c12] at H
          have c12b0 := eq_true c12
          have c12b1 := decide_eq_true c12
          clear c12
          have H' := Aside0.mk H
          clear H
          have p548 : 0 ≤ (x18_2 : Int) := of_decide_eq_true qe84_
          have q548 : x18_2 < (l0.length : Int) := of_decide_eq_true qe84_
          obtain ⟨ad548, e548, hx548_0⟩ := Kd.at_int HR0.out x18_2 p548 q548
          cases e548
          (try (replace hx548_0 := (HB.out.cell (World.block_lt_of_cell? w _ hx548_0)).trans hx548_0))
          replace p548 := eq_true p548
          replace q548 := eq_true q548
          obtain ⟨i013, hi013, _, hsz13, _⟩ := info_parts info3
          obtain ⟨hcut13, hA13, hC13⟩ := print_take_of (P := Tryz.prog) (Value.int .i64) 0 24 3 .i64 Tryz.underlying24 hi013 hsz13 (some ad548) c0 l0 x18_2 (of_decide_eq_true qe84_) (of_decide_eq_true qe84_) HC0.out
          have hmx13 : ((l0.take (x18_2 : Int).toNat).length : Int) = max x18_2 0 := by
           have h1 : 0 ≤ (x18_2 : Int) := of_decide_eq_true qe84_
           have h2 : (x18_2 : Int) ≤ (l0.length : Int) := of_decide_eq_true qe84_
           rw [List.length_take]; omega
          have HR549 := Aside0.mk (Kd.C_of_reads (h1 := fun _ => rfl) (hA13 _ (Kd.reads_of_C HR0.out)))
          have HC549 := Aside0.mk hC13
          clear hA13 hC13 hi013 hsz13
          go_wp2
          go_loopg [27] k2 (fun kq v27 w' => ∃ (x27_3 : Int), v27 = .int .i64 x27_3 ∧ Aside0 (impl_isPoint.l1 kq l0 (rd l0 x18_2) l0 (l0.length : Int) x18_2 (l0.take (x18_2 : Int).toNat) ((l0.take (x18_2 : Int).toNat).length : Int) x27_3 = some r) ∧ Aside0 (kq ≤ k2) ∧ Aside0 (Below w.heap.size w w'))
          case atStart => exact ⟨(0), qc8f_, H', ⟨Nat.le_refl _⟩, ⟨q0c4_⟩⟩
          case round =>
           clear H'; try clear c1; try clear p2; try clear c3; try clear c4; try clear c5; try clear p5; try clear q5; try clear hx5; try clear c7; try clear c8; try clear c8b0; try clear c9; try clear c9b0; try clear c10; try clear c10b0; try clear c11; try clear c11b0; try clear c12; try clear c12b0; try clear c12b1; try clear hx548_0; try clear p2; try clear p548; try clear q548
           obtain ⟨x27_3, rfl, HA, HK3, HB⟩ := hrel
           cases gk with
           | zero => exact absurd HA.out (by simp [impl_isPoint.l1])
           | succ k3 =>
            have H := HA.out
            clear HA
            simp only [impl_isPoint.l1] at H
            by_cases c14 : x27_3 < ((l0.take (x18_2 : Int).toNat).length : Int)
            ·
             rw [if_pos c14] at H
             have c14b0 := decide_eq_true c14
             have c14m := c14b0; (try rw [hmx13] at c14m)
             clear c14
             by_cases c15 : 0 ≤ x27_3
             ·
              rw [if_pos c15] at H
              have c15b0 := decide_eq_true c15
              have c15m := c15b0; (try rw [hmx13] at c15m)
              clear c15
              by_cases c16 : x27_3 < ((l0.take (x18_2 : Int).toNat).length : Int)
              ·
               rw [if_pos c16] at H
               have c16b0 := decide_eq_true c16
               have c16m := c16b0; (try rw [hmx13] at c16m)
               clear c16
               by_cases c17 : (rd (l0.take (x18_2 : Int).toNat) x27_3) = (rd l0 x18_2)
               ·
                rw [if_pos c17] at H
                have c17b0 := beq_iff_eq.mpr c17
                have c17b1 := bne_eq_false_iff_eq.mpr c17
                clear c17
                obtain rfl := Option.some.inj H
                have p550 : 0 ≤ (x27_3 : Int) := of_decide_eq_true qe84_
                have q550 : x27_3 < ((l0.take (x18_2 : Int).toNat).length : Int) := of_decide_eq_true qe84_
                obtain ⟨ad550, e550, hx550_0⟩ := Kd.at_int HR549.out x27_3 p550 q550
                obtain rfl : ad548 = ad550 := (by injection e550)
                (try (replace hx550_0 := (HB.out.cell (World.block_lt_of_cell? w _ hx550_0)).trans hx550_0))
                replace p550 := eq_true p550
                replace q550 := eq_true q550
                have q550m := q550; (try rw [hmx13] at q550m)
                go_wp2
                go_ret
                exact ⟨qce7_, q0c4_⟩
               ·
                rw [if_neg c17] at H
                have c17b0 := beq_eq_false_iff_ne.mpr c17
                have c17b1 := bne_iff_ne.mpr c17
                by_cases c18 : (rd (l0.take (x18_2 : Int).toNat) x27_3) = (wrap64 ((rd l0 x18_2) + 100))
                ·
                 rw [if_pos c18] at H
                 have c18b0 := beq_iff_eq.mpr c18
                 have c18b1 := bne_eq_false_iff_eq.mpr c18
                 clear c18
                 obtain rfl := Option.some.inj H
                 have p550 : 0 ≤ (x27_3 : Int) := of_decide_eq_true qe84_
                 have q550 : x27_3 < ((l0.take (x18_2 : Int).toNat).length : Int) := of_decide_eq_true qe84_
                 obtain ⟨ad550, e550, hx550_0⟩ := Kd.at_int HR549.out x27_3 p550 q550
                 obtain rfl : ad548 = ad550 := (by injection e550)
                 (try (replace hx550_0 := (HB.out.cell (World.block_lt_of_cell? w _ hx550_0)).trans hx550_0))
                 replace p550 := eq_true p550
                 replace q550 := eq_true q550
                 have q550m := q550; (try rw [hmx13] at q550m)
                 go_wp2
                 go_ret
                 exact ⟨qce7_, q0c4_⟩
                ·
                 rw [if_neg c18] at H
                 have c18b0 := beq_eq_false_iff_ne.mpr c18
                 have c18b1 := bne_iff_ne.mpr c18
                 have H' := Aside0.mk H
                 clear H
                 have p550 : 0 ≤ (x27_3 : Int) := of_decide_eq_true qe84_
                 have q550 : x27_3 < ((l0.take (x18_2 : Int).toNat).length : Int) := of_decide_eq_true qe84_
                 obtain ⟨ad550, e550, hx550_0⟩ := Kd.at_int HR549.out x27_3 p550 q550
                 obtain rfl : ad548 = ad550 := (by injection e550)
                 (try (replace hx550_0 := (HB.out.cell (World.block_lt_of_cell? w _ hx550_0)).trans hx550_0))
                 replace p550 := eq_true p550
                 replace q550 := eq_true q550
                 have q550m := q550; (try rw [hmx13] at q550m)
                 go_wp2
                 go_roundg k3
                 case measure => have := HJ1.out; have := HK2.out; have := HK3.out; omega
                 case rel => exact ⟨(wrap64 (x27_3 + 1)), qc8f_, H', ⟨by have := HJ1.out; have := HK2.out; have := HK3.out; omega⟩, ⟨q0c4_⟩⟩
              ·
               rw [if_neg c16] at H
               exact absurd H (by simp)
             ·
              rw [if_neg c15] at H
              exact absurd H (by simp)
            ·
             rw [if_neg c14] at H
             have c14b0 := decide_eq_false c14
             have c14m := c14b0; (try rw [hmx13] at c14m)
             clear c14
             have H' := Aside0.mk H
             clear H
             go_wp2
             go_roundg k3
             case measure => have := HJ1.out; have := HK2.out; have := HK3.out; omega
             case rel => exact ⟨(wrap64 (x18_2 + 1)), qc8f_, H', ⟨by have := HJ1.out; have := HK2.out; have := HK3.out; omega⟩, ⟨q0c4_⟩⟩
         ·
          rw [if_neg c12] at H
          exact absurd H (by simp)
        ·
         rw [if_neg c10] at H
         exact absurd H (by simp)
       ·
        rw [if_neg c9] at H
        exact absurd H (by simp)
      ·
       rw [if_neg c8] at H
       have c8b0 := decide_eq_false c8
       have c8m := c8b0; (try rw [hmx13] at c8m)
       clear c8
       obtain rfl := Option.some.inj H
       go_wp2
       go_ret
       exact ⟨qce7_, q0c4_⟩

/-! ### impl_RegionOfPoint: function 17 -/
theorem ropL_mem (l : List Int) : ∀ j ∈ ropL l, 0 ≤ j ∧ j < (l.length : Int) := by
 intro j hj
 unfold ropL ropA at hj
 split at hj
 ·
  simp only [Array.toList_map, List.mem_map] at hj
  obtain ⟨x, _, rfl⟩ := hj
  exact ⟨by omega, by have := x.2; omega⟩
 · simp at hj
theorem rd_range {l : List Int} {n : Nat} (h : ∀ j ∈ l, 0 ≤ j ∧ j < (n : Int)) (p : Nat) (hp : p < l.length) : 0 ≤ rd l (p : Int) ∧ rd l (p : Int) < (n : Int) := by
 refine h _ ?_
 unfold rd
 rw [Int.toNat_natCast, List.getD_eq_getElem?_getD, List.getElem?_eq_getElem hp]
 exact List.getElem_mem _
def impl_RegionOfPoint.f (k : Nat) (l0 : List Int) : Option (List Int × List Int × Bool) := (impl_isPoint.f k l0).bind fun t => (if t = true then (if l0.length ≤ 8 then (some (ropL l0, (ropOut l0 (ropL l0) l0.length).2, true)) else none) else (some (([] : List Int), ([] : List Int), false)))
theorem impl_RegionOfPoint.mono : ∀ a0 k, LeO (impl_RegionOfPoint.f k a0) (impl_RegionOfPoint.f (k + 1) a0) := by
 intro a0 k
 unfold impl_RegionOfPoint.f
 exact LeO.bind (impl_isPoint.mono a0 k) (fun _ => LeO.refl _)
theorem impl_RegionOfPoint.calls (k : Nat) (A0 : Option Addr) (c0 : Nat) (l0 : List Int) (r1 : List Int) (r2 : List Int) (r3 : Bool) (w : World) (hr0 : Kd.C (Kd.int .i64) w A0 l0.length l0) (hc0 : l0.length ≤ c0) (h : impl_RegionOfPoint.f k l0 = some (r1, r2, r3)) :
  Calls Tryz.prog 17 #[.slice A0 l0.length c0] w fun e w' => ∃ v0_ v1_ : Value, e = .returned (.tuple #[.agg #[v0_, v1_], .bool r3]) ∧ Kd.R (Kd.int .i64) 3 w' w.heap.size (fun k_ => some k_ ≠ (v1_ : Value).ownBlock) v0_ r1 ∧ Kd.R (Kd.int .i64) 3 w' w.heap.size (fun k_ => some k_ ≠ (v0_ : Value).ownBlock) v1_ r2 ∧ Below w.heap.size w w' := by
 have hu33 := Tryz.underlying27
 have HR0 := Aside0.mk hr0
 have HC0 := Aside0.mk hc0
 clear hr0 hc0
 unfold impl_RegionOfPoint.f at h
 obtain ⟨t, A1, h2⟩ := ob_ h
 clear h
 cases t with
 | false =>
  rw [if_neg nf_] at h2
  simp only [Option.some.injEq, Prod.mk.injEq] at h2
  obtain ⟨rfl, rfl, rfl⟩ := h2
  go_enter Tryz.func17, Tryz.ntmps17
  go_wp2_with (first | ((with_reducible refine gate_dst (N := 1) rfl ?_); refine box_event ?hg (N := 1) ?hd (cs := #[.slice A0 l0.length c0]) (t := 24) ?hr ?_; (case hd => rfl); (case hg => rfl); (case hr => exact qfba_); intro g1 hg w1 hbox hb; have HX1 := Aside0.mk (And.intro hbox (blk_lt hbox)); have HBW := Aside0.mk (below_step (Below.refl _ _) hb); have HG1 := Aside0.mk (Nat.le_of_eq hg.symm); clear hb hbox hg) | ((with_reducible refine gate_dst (N := 2) rfl ?_); refine box_event ?hg (N := 2) ?hd (cs := #[.slice none 0 0, .slice none 0 0]) (t := 27) ?hr ?_; (case hd => rfl); (case hg => rfl); (case hr => exact qfba_); intro g2 hg w2 hbox hb; have H2 := Aside0.mk hbox; have HB2 := Aside0.mk (below_step (Below.refl _ _) hb); have GE2 := Aside0.mk (Nat.le_of_eq hg.symm); clear hb hbox hg; have hcz1 : w2.cell? ⟨g1, 0, none⟩ = some (.slice A0 l0.length c0) := (blk_cell (blk_below HX1.out.1 HB2.out) 0).trans rfl) | (go_at_call 32; refine (impl_isPoint.calls k _ _ l0 false _ (by repeat (first | exact Kd.C_below (Kd.C_below HR0.out HBW.out) HB2.out | (with_reducible refine Kd.C_drewN ?_ _))) HC0.out A1.out).mono ?_; rintro e w3 ⟨rfl, hb⟩; have h2_ := Aside0.mk (blk_below (w1 := w3) (q66c_ H2.out) hb); have hb_ := Aside0.mk (below_step (w := w1) (by repeat (first | exact HB2.out | apply pw_below_drewN | apply below_drew1)) hb); clear H2 HB2 hcz1; have H2 := h2_; have HB3 := hb_; clear h2_ hb_ hb; have hcz1 : w3.cell? ⟨g1, 0, none⟩ = some (.slice A0 l0.length c0) := (blk_cell (blk_below HX1.out.1 HB3.out) 0).trans rfl; have hyz0 : w3.cell? ⟨g2, 0, none⟩ = some (.slice none 0 0) := (blk_cell H2.out 0).trans rfl; have hyz1 : w3.cell? ⟨g2, 1, none⟩ = some (.slice none 0 0) := (blk_cell H2.out 1).trans rfl; have hyf0 := blk_frozen H2.out 0; have hyf1 := blk_frozen H2.out 1))
  refine bodyPost_ret (results_ct rfl _ _ g2 27 #[.slice none 0 0, .slice none 0 0] (0, 0) _ rfl (by (with_reducible repeat (first | refine blk_drewN ?_ _ | refine blk_drew ?_ | refine blk_alloc ?_ _)); refine blk_put (cs := #[.slice none 0 0, .slice none 0 0]) ?_ 1 _ rfl; (with_reducible repeat (first | refine blk_drewN ?_ _ | refine blk_drew ?_ | refine blk_alloc ?_ _)); refine blk_put (cs := #[.slice none 0 0, .slice none 0 0]) ?_ 0 _ rfl; (with_reducible repeat (first | refine blk_drewN ?_ _ | refine blk_drew ?_ | refine blk_alloc ?_ _)); exact H2.out) Tryz.underlying27 rfl (by kernel_rfl)) rfl ?_
  have HB5 := Aside0.mk (show Below w.heap.size w w3 from below_then HBW.out HBW.out.size HB3.out)
  have GW2 := Aside0.mk (show w.heap.size ≤ g2 from by have h1_ := GE2.out; have h2_ := HBW.out.size; omega)
  exact ⟨_, _, q6e2_, Kd.R_nil _ _ _ _ _, Kd.R_nil _ _ _ _ _, q85a_ HB5.out⟩
 | true =>
  rw [if_pos rfl] at h2
  split at h2
  case isFalse => cases h2
  case isTrue h8 =>
  have H8 := Aside0.mk h8
  clear h8
  simp only [Option.some.injEq, Prod.mk.injEq] at h2
  obtain ⟨rfl, rfl, rfl⟩ := h2
  go_enter Tryz.func17, Tryz.ntmps17
  go_wp2_with (first | ((with_reducible refine gate_dst (N := 1) rfl ?_); refine box_event ?hg (N := 1) ?hd (cs := #[.slice A0 l0.length c0]) (t := 24) ?hr ?_; (case hd => rfl); (case hg => rfl); (case hr => exact qfba_); intro g1 hg w1 hbox hb; have HX1 := Aside0.mk (And.intro hbox (blk_lt hbox)); have HBW := Aside0.mk (below_step (Below.refl _ _) hb); have HG1 := Aside0.mk (Nat.le_of_eq hg.symm); clear hb hbox hg) | ((with_reducible refine gate_dst (N := 2) rfl ?_); refine box_event ?hg (N := 2) ?hd (cs := #[.slice none 0 0, .slice none 0 0]) (t := 27) ?hr ?_; (case hd => rfl); (case hg => rfl); (case hr => exact qfba_); intro g2 hg w2 hbox hb; have H2 := Aside0.mk hbox; have HB2 := Aside0.mk (below_step (Below.refl _ _) hb); have GE2 := Aside0.mk (Nat.le_of_eq hg.symm); clear hb hbox hg; have hcz1 : w2.cell? ⟨g1, 0, none⟩ = some (.slice A0 l0.length c0) := (blk_cell (blk_below HX1.out.1 HB2.out) 0).trans rfl) | (go_at_call 32; refine (impl_isPoint.calls k _ _ l0 true _ (by repeat (first | exact Kd.C_below (Kd.C_below HR0.out HBW.out) HB2.out | (with_reducible refine Kd.C_drewN ?_ _))) HC0.out A1.out).mono ?_; rintro e w3 ⟨rfl, hb⟩; have h2_ := Aside0.mk (blk_below (w1 := w3) (q66c_ H2.out) hb); have hb_ := Aside0.mk (below_step (w := w1) (by repeat (first | exact HB2.out | apply pw_below_drewN | apply below_drew1)) hb); clear H2 HB2 hcz1; have H2 := h2_; have HB3 := hb_; clear h2_ hb_ hb; have hcz1 : w3.cell? ⟨g1, 0, none⟩ = some (.slice A0 l0.length c0) := (blk_cell (blk_below HX1.out.1 HB3.out) 0).trans rfl; have hyz0 : w3.cell? ⟨g2, 0, none⟩ = some (.slice none 0 0) := (blk_cell H2.out 0).trans rfl; have hyz1 : w3.cell? ⟨g2, 1, none⟩ = some (.slice none 0 0) := (blk_cell H2.out 1).trans rfl; have hyf0 := blk_frozen H2.out 0; have hyf1 := blk_frozen H2.out 1) | ((with_reducible refine gate_dst (N := 4) rfl ?_); refine box_event ?hg (N := 4) ?hd (cs := #[.slice none 0 0, .slice none 0 0]) (t := 27) ?hr ?_; (case hd => rfl); (case hg => rfl); (case hr => exact qfba_); intro g4 hg w4 hbox hb; have h2_ := Aside0.mk (blk_below (w1 := w4) (q66c_ H2.out) hb); have hb_ := Aside0.mk (below_step (w := w1) (by repeat (first | exact HB3.out | apply pw_below_drewN | apply below_drew1)) hb); have H4 := Aside0.mk hbox; have NE := Aside0.mk (show g2 ≠ g4 from by rw [hg]; exact Nat.ne_of_lt (blk_lt H2.out)); have GE4 := Aside0.mk (show w1.heap.size ≤ g4 from by rw [hg]; exact HB3.out.size); clear H2 HB3 hcz1 hyz0 hyz1 hyf0 hyf1; have H2 := h2_; have HB4 := hb_; clear h2_ hb_ hb hbox hg; have hcz1 : w4.cell? ⟨g1, 0, none⟩ = some (.slice A0 l0.length c0) := (blk_cell (blk_below HX1.out.1 HB4.out) 0).trans rfl; have hxz0 : w4.cell? ⟨g4, 0, none⟩ = some (.slice none 0 0) := (blk_cell H4.out 0).trans rfl; have hxz1 : w4.cell? ⟨g4, 1, none⟩ = some (.slice none 0 0) := (blk_cell H4.out 1).trans rfl; have hxf0 := blk_frozen H4.out 0; have hxf1 := blk_frozen H4.out 1; have hn1 : g1 ≠ g4 := (by have h1_ := HX1.out.2; have h2_ := GE4.out; omega); have hn2 : g4 ≠ g1 := hn1.symm))
  have HI := Aside0.mk (show RpI w1 ((w4.setCell ⟨g4, 0, none⟩ (.slice none 0 0)).setCell ⟨g4, 1, none⟩ (.slice none 0 0)) g2 g4 (.slice none 0 0) (.slice none 0 0) (upN 0) [] from ⟨below_set (below_set HB4.out GE4.out) GE4.out, blk_far (blk_far H2.out (p := ⟨g4, 0, none⟩) NE.out _) (p := ⟨g4, 1, none⟩) NE.out _, blk_set (blk_set H4.out 0 _) 1 _, GE2.out, GE4.out, NE.out, Kd.R_nil _ _ _ _ _, Kd.R_nil _ _ _ _ _, fun k_ h_ => by simp [Value.ownBlock] at h_⟩)
  clear H2 H4 HB4 hcz1 hxz0 hxz1 hxf0 hxf1 A1
  go_loopg [18] l0.length (fun kq v18 w' => ∃ (i : Nat) (iz : Int) (vo : Value), v18 = .int .i64 iz ∧ Aside0 (iz = (i : Int)) ∧ Aside0 (i + kq = l0.length) ∧ Aside0 (RpI w1 w' g2 g4 vo (.slice none 0 0) (upN i) []))
  case atStart => exact ⟨0, 0, _, q6e2_, ⟨rfl⟩, ⟨by omega⟩, ⟨q98d_⟩⟩
  case round =>
   clear HI
   obtain ⟨i, iz, vo, rfl, NI, NK, HI⟩ := hrel
   cases gk with
   | succ d =>
    have hlt : i < l0.length := by have := NK.out; omega
    have q1 : decide (iz < (l0.length : Int)) = true := decide_eq_true (by have := NI.out; omega)
    obtain ⟨Ao, co, eo⟩ := Kd.R_slice HI.out.ro
    rw [upN_length] at eo
    subst eo
    have hoz0 : wr.cell? ⟨g4, 0, none⟩ = some (.slice Ao i co) := (blk_cell HI.out.h4 0).trans rfl
    have hoz1 : wr.cell? ⟨g4, 1, none⟩ = some (.slice none 0 0) := (blk_cell HI.out.h4 1).trans rfl
    have hof0 := blk_frozen HI.out.h4 0
    have hof1 := blk_frozen HI.out.h4 1
    obtain ⟨n8, hn8⟩ : ∃ n_, n_ = (upN i ++ [iz]).length := ⟨_, rfl⟩
    have HN8 := Aside0.mk hn8
    clear hn8
    go_wp2_with (first | ((with_reducible refine gate_builtin (b := .append) (xs := #[.tmp 22, .tmp 24]) rfl ?_); at_builtin; refine Kd.R_append (Kd.int .i64) (w0 := w1) w1.heap.size rfl (.tmp 22) (.tmp 24) 24 3 (.int .i64 0) 8 rfl Tryz.underlying24 info_int rfl (by decide) (by omega) (.slice Ao i co) (upN i) (iz) [.int .i64 (iz)] (fun _ => True) (fun _ => False) rfl rfl ?aP (fun _ hk => hk.elim) (fun _ _ => trivial) ?aO ?aB ?aS ?aL ?_; (case aP => exact rfl); (case aO => exact RpI.ro q98d_); (case aB => exact RpI.below q98d_); (case aS => exact (RpI.below q98d_).size); (case aL => rw [upN_length]; have := H8.out; omega); intro vn w8 hv hb hg hat; obtain ⟨An, cn, en⟩ := Kd.R_slice hv; rw [← HN8.out] at en; subst en; have HP := Aside0.mk (RpI.putO q98d_ hb hg hat hv); have B4 := Aside0.mk (blk_grown (RpI.h4 q98d_) hg (Kd.R_ne (RpI.ro q98d_) (RpI.h4 q98d_) (by decide))); clear hv hb hg hat HI hoz0 hoz1 hof0 hof1; have hoz0 : w8.cell? ⟨g4, 0, none⟩ = some (.slice Ao i co) := (blk_cell B4.out 0).trans rfl; have hoz1 : w8.cell? ⟨g4, 1, none⟩ = some (.slice none 0 0) := (blk_cell B4.out 1).trans rfl; have hof0 := blk_frozen B4.out 0; have hof1 := blk_frozen B4.out 1))
    go_roundg d
    case measure => omega
    case rel => exact ⟨i + 1, _, _, rfl, ⟨by rw [NI.out]; have := H8.out; rw [wrap64_in _ (by omega) (by omega)]; omega⟩, ⟨by have := NK.out; omega⟩, ⟨by rw [upN_succ, ← NI.out]; exact qa8d_⟩⟩
   | zero =>
    have hi : i = l0.length := by have := NK.out; omega
    have q1 : decide (iz < (l0.length : Int)) = false := decide_eq_false (by have := NI.out; omega)
    subst hi
    clear NK
    have HS := Aside0.mk (RpI.sorted HI.out HX1.out.2 HX1.out.1 (Kd.C_below HR0.out HBW.out) H8.out)
    obtain ⟨Ao, co, eo, hS⟩ := HS.out
    have HS := Aside0.mk hS
    clear hS
    subst eo
    have hoz0 : wr.cell? ⟨g4, 0, none⟩ = some (.slice Ao l0.length co) := (blk_cell HI.out.h4 0).trans rfl
    have hoz1 : wr.cell? ⟨g4, 1, none⟩ = some (.slice none 0 0) := (blk_cell HI.out.h4 1).trans rfl
    have hof0 := blk_frozen HI.out.h4 0
    have hof1 := blk_frozen HI.out.h4 1
    obtain ⟨o, ho⟩ : ∃ o, o = ropL l0 := ⟨_, rfl⟩
    rw [← ho] at HS
    have HOE := Aside0.mk ho
    have HM := Aside0.mk (show ∀ j ∈ o, 0 ≤ j ∧ j < (l0.length : Int) by rw [ho]; exact ropL_mem l0)
    have HL := Aside0.mk (show o.length = l0.length by rw [ho]; exact ropL_length l0)
    clear ho
    go_wp2_with (first | (go_at_call 33; refine HS.out.mono ?_; rintro e w5 ⟨rfl, hI⟩; have hi_ := Aside0.mk hI; clear hI HI HS hoz0 hoz1 hof0 hof1; have HI := hi_; clear hi_; have hoz0 : w5.cell? ⟨g4, 0, none⟩ = some (.slice Ao l0.length co) := (blk_cell HI.out.h4 0).trans rfl; have hoz1 : w5.cell? ⟨g4, 1, none⟩ = some (.slice none 0 0) := (blk_cell HI.out.h4 1).trans rfl; have hof0 := blk_frozen HI.out.h4 0; have hof1 := blk_frozen HI.out.h4 1))
    clear hoz0 hoz1 hof0 hof1
    go_loopg [6, 35] l0.length (fun kq v6 v35 w' => ∃ (p : Nat) (pz fz : Int) (vf : Value), v6 = .int .i64 fz ∧ v35 = .int .i64 pz ∧ Aside0 (pz = (p : Int)) ∧ Aside0 (fz = (ropOut l0 o p).1) ∧ Aside0 (p + kq = l0.length) ∧ Aside0 (RpI w1 w' g2 g4 (.slice Ao l0.length co) vf o (ropOut l0 o p).2))
    case atStart => exact ⟨0, 0, 0, _, q6e2_, q6e2_, ⟨rfl⟩, ⟨rfl⟩, ⟨by omega⟩, ⟨q98d_⟩⟩
    case round =>
     clear HI
     obtain ⟨p, pz, fz, vf, rfl, rfl, NP, NF, NK, HI⟩ := hrel
     cases gk with
     | zero =>
      have hp : p = l0.length := by have := NK.out; omega
      subst hp
      have q2 : decide (pz < (l0.length : Int)) = false := decide_eq_false (by have := NP.out; omega)
      obtain ⟨Af, cf, ef⟩ := Kd.R_slice HI.out.rf
      rw [ropOut_length] at ef
      subst ef
      have hoz0 : wr.cell? ⟨g4, 0, none⟩ = some (.slice Ao l0.length co) := (blk_cell HI.out.h4 0).trans rfl
      have hoz1 : wr.cell? ⟨g4, 1, none⟩ = some (.slice Af l0.length cf) := (blk_cell HI.out.h4 1).trans rfl
      have hof0 := blk_frozen HI.out.h4 0
      have hof1 := blk_frozen HI.out.h4 1
      have hn3 : g2 ≠ g4 := HI.out.ne
      have hn4 : g4 ≠ g2 := hn3.symm
      have hyz0 : wr.cell? ⟨g2, 0, none⟩ = some (.slice none 0 0) := (blk_cell HI.out.h2 0).trans rfl
      have hyz1 : wr.cell? ⟨g2, 1, none⟩ = some (.slice none 0 0) := (blk_cell HI.out.h2 1).trans rfl
      have hyf0 := blk_frozen HI.out.h2 0
      have hyf1 := blk_frozen HI.out.h2 1
      go_wp2
      have hoe := HOE.out
      subst hoe
      refine bodyPost_ret (results_ct rfl _ _ g2 27 #[.slice Ao l0.length co, .slice Af l0.length cf] (0, 0) _ rfl (by (with_reducible repeat (first | refine blk_drewN ?_ _ | refine blk_drew ?_ | refine blk_alloc ?_ _)); refine blk_put (cs := #[.slice Ao l0.length co, .slice none 0 0]) ?_ 1 _ rfl; (with_reducible repeat (first | refine blk_drewN ?_ _ | refine blk_drew ?_ | refine blk_alloc ?_ _)); refine blk_put (cs := #[.slice none 0 0, .slice none 0 0]) ?_ 0 _ rfl; (with_reducible repeat (first | refine blk_drewN ?_ _ | refine blk_drew ?_ | refine blk_alloc ?_ _)); exact HI.out.h2) Tryz.underlying27 rfl (by kernel_rfl)) rfl ?_
      have GW2 := Aside0.mk (show w.heap.size ≤ g2 from by have h1_ := HI.out.ge2; have h2_ := HBW.out.size; omega)
      have HB9 := Aside0.mk (show Below w.heap.size w wr from below_then HBW.out HBW.out.size HI.out.below)
      exact ⟨_, _, q6e2_, (by (with_reducible repeat (first | apply Kd.R_alloc | apply Kd.R_drewN | apply Kd.R_drew)); exact Kd.R_lower (Kd.R_set (Kd.R_set (R_okto HI.out.ro (fun k_ e_ => fun e2 => HI.out.ap k_ e_ e2.symm)) HI.out.h2 (by decide) 0 _) (blk_set HI.out.h2 0 _) (by decide) 1 _) HBW.out.size), (by (with_reducible repeat (first | apply Kd.R_alloc | apply Kd.R_drewN | apply Kd.R_drew)); exact Kd.R_lower (Kd.R_set (Kd.R_set (R_okto HI.out.rf (fun k_ e_ => fun e2 => HI.out.ap k_ e2.symm e_)) HI.out.h2 (by decide) 0 _) (blk_set HI.out.h2 0 _) (by decide) 1 _) HBW.out.size), q85a_ HB9.out⟩
     | succ d =>
      have hp : p < l0.length := by have := NK.out; omega
      have q2 : decide (pz < (l0.length : Int)) = true := decide_eq_true (by have := NP.out; omega)
      have hp0 : 0 ≤ pz := by have := NP.out; omega
      have hp1 : pz < (l0.length : Int) := by have := NP.out; omega
      obtain ⟨ad1, e1, hx1⟩ := Kd.at_int (Kd.R_reads' HI.out.ro).2.2 pz hp0 (by have := HL.out; omega)
      obtain ⟨iz, hiz⟩ : ∃ iz, iz = rd o (p : Int) := ⟨_, rfl⟩
      rw [NP.out, ← hiz, ← NP.out] at hx1
      cases e1
      replace hp0 := eq_true hp0
      replace hp1 := eq_true hp1
      have HIR := Aside0.mk (show 0 ≤ iz ∧ iz < (l0.length : Int) by rw [hiz]; exact rd_range HM.out p (by have := HL.out; omega))
      have HIZ := Aside0.mk hiz
      clear hiz
      have HF0 := Aside0.mk (show 0 ≤ fz ∧ fz ≤ pz by rw [NF.out, NP.out]; exact ropOut_le l0 o p)
      go_wp2
      clear hx1 hp0 hp1
      go_loopg [6, 9] (p - fz.toNat) (fun kq v6 v9 w' => ∃ (q : Nat) (qz gz : Int), v6 = .int .i64 gz ∧ v9 = .int .i64 qz ∧ Aside0 (qz = (q : Int)) ∧ Aside0 (ropIn l0 o iz kq q gz = (ropOut l0 o (p + 1)).1) ∧ Aside0 (q + kq = p) ∧ Aside0 (0 ≤ gz ∧ gz ≤ qz) ∧ Aside0 (RpI w1 w' g2 g4 (.slice (some ad1) l0.length co) vf o (ropOut l0 o p).2))
      case atStart => exact ⟨fz.toNat, fz, fz, q6e2_, q6e2_, ⟨by have := HF0.out; omega⟩, ⟨by rw [ropOut, HIZ.out, ← NF.out]⟩, ⟨by have := HF0.out; have := NP.out; omega⟩, ⟨by have := HF0.out; omega⟩, ⟨q98d_⟩⟩
      case round =>
       clear HI
       obtain ⟨q, qz, gz, rfl, rfl, NQ, NG, NK2, HG0, HI⟩ := hrel
       cases gk with
       | zero =>
        have hqp : q = p := by have := NK2.out; omega
        have q3 : decide (qz < pz) = false := decide_eq_false (by have := NQ.out; have := NP.out; omega)
        have HE := Aside0.mk (show gz = (ropOut l0 o (p + 1)).1 from NG.out)
        clear NG
        obtain ⟨Af, cf, ef⟩ := Kd.R_slice HI.out.rf
        rw [ropOut_length] at ef
        subst ef
        have hoz0 : wr.cell? ⟨g4, 0, none⟩ = some (.slice (some ad1) l0.length co) := (blk_cell HI.out.h4 0).trans rfl
        have hoz1 : wr.cell? ⟨g4, 1, none⟩ = some (.slice Af p cf) := (blk_cell HI.out.h4 1).trans rfl
        have hof0 := blk_frozen HI.out.h4 0
        have hof1 := blk_frozen HI.out.h4 1
        obtain ⟨n8, hn8⟩ : ∃ n_, n_ = ((ropOut l0 o p).2 ++ [gz]).length := ⟨_, rfl⟩
        have HN8 := Aside0.mk hn8
        clear hn8
        go_wp2_with (first | ((with_reducible refine gate_builtin (b := .append) (xs := #[.tmp 69, .tmp 71]) rfl ?_); at_builtin; refine Kd.R_append (Kd.int .i64) (w0 := w1) w1.heap.size rfl (.tmp 69) (.tmp 71) 24 3 (.int .i64 0) 8 rfl Tryz.underlying24 info_int rfl (by decide) (by omega) (.slice Af p cf) ((ropOut l0 o p).2) (gz) [.int .i64 (gz)] (fun _ => True) (fun _ => False) rfl rfl ?aP (fun _ hk => hk.elim) (fun _ _ => trivial) ?aO ?aB ?aS ?aL ?_; (case aP => exact rfl); (case aO => exact RpI.rf q98d_); (case aB => exact RpI.below q98d_); (case aS => exact (RpI.below q98d_).size); (case aL => rw [ropOut_length]; have := H8.out; omega); intro vn w8 hv hb hg hat; obtain ⟨An, cn, en⟩ := Kd.R_slice hv; rw [← HN8.out] at en; subst en; have HP := Aside0.mk (RpI.putF q98d_ hb hg hat hv); have B4 := Aside0.mk (blk_grown (RpI.h4 q98d_) hg (Kd.R_ne (RpI.rf q98d_) (RpI.h4 q98d_) (by decide))); clear hv hb hg hat HI hoz0 hoz1 hof0 hof1; have hoz0 : w8.cell? ⟨g4, 0, none⟩ = some (.slice (some ad1) l0.length co) := (blk_cell B4.out 0).trans rfl; have hoz1 : w8.cell? ⟨g4, 1, none⟩ = some (.slice Af p cf) := (blk_cell B4.out 1).trans rfl; have hof0 := blk_frozen B4.out 0; have hof1 := blk_frozen B4.out 1))
        go_roundg d
        case measure => omega
        case rel => exact ⟨p + 1, _, _, _, rfl, rfl, ⟨by rw [NP.out]; have := H8.out; rw [wrap64_in _ (by omega) (by omega)]; omega⟩, ⟨HE.out⟩, ⟨by have := NK.out; omega⟩, ⟨by rw [show (ropOut l0 o (p + 1)).2 = (ropOut l0 o p).2 ++ [gz] by rw [HE.out]; rfl]; exact qa8d_⟩⟩
       | succ d2 =>
        have hq : q < p := by have := NK2.out; omega
        have q3 : decide (qz < pz) = true := decide_eq_true (by have := NQ.out; have := NP.out; omega)
        have hq0 : 0 ≤ qz := by have := NQ.out; omega
        have hq1 : qz < (l0.length : Int) := by have := NQ.out; omega
        obtain ⟨ad2, e2, hx2⟩ := Kd.at_int (Kd.R_reads' HI.out.ro).2.2 qz hq0 (by have := HL.out; omega)
        obtain ⟨jz, hjz⟩ : ∃ jz, jz = rd o (q : Int) := ⟨_, rfl⟩
        rw [NQ.out, ← hjz, ← NQ.out] at hx2
        obtain rfl : ad1 = ad2 := (by injection e2)
        clear e2
        replace hq0 := eq_true hq0
        replace hq1 := eq_true hq1
        have HJR := Aside0.mk (show 0 ≤ jz ∧ jz < (l0.length : Int) by rw [hjz]; exact rd_range HM.out q (by have := HL.out; omega))
        have HJZ := Aside0.mk hjz
        clear hjz
        have hoz0 : wr.cell? ⟨g4, 0, none⟩ = some (.slice (some ad1) l0.length co) := (blk_cell HI.out.h4 0).trans rfl
        have hoz1 : wr.cell? ⟨g4, 1, none⟩ = some (vf) := (blk_cell HI.out.h4 1).trans rfl
        have hof0 := blk_frozen HI.out.h4 0
        have hof1 := blk_frozen HI.out.h4 1
        have HCX := Aside0.mk (Kd.C_below (Kd.C_below HR0.out HBW.out) HI.out.below)
        have hcz1 : wr.cell? ⟨g1, 0, none⟩ = some (.slice A0 l0.length c0) := (blk_cell (blk_below HX1.out.1 HI.out.below) 0).trans rfl
        obtain ⟨ad3, e3, hx3⟩ := Kd.at_int HCX.out jz HJR.out.1 HJR.out.2
        obtain ⟨ad4, e4, hx4⟩ := Kd.at_int HCX.out iz HIR.out.1 HIR.out.2
        cases e3
        obtain rfl : ad3 = ad4 := (by injection e4)
        clear e4
        obtain ⟨xj, hxj⟩ : ∃ x_, x_ = rd l0 jz := ⟨_, rfl⟩
        obtain ⟨xi, hxi⟩ : ∃ x_, x_ = rd l0 iz := ⟨_, rfl⟩
        rw [← hxj] at hx3
        rw [← hxi] at hx4
        have HXJ := Aside0.mk hxj
        have HXI := Aside0.mk hxi
        clear hxj hxi
        have hj0 := eq_true HJR.out.1
        have hj1 := eq_true HJR.out.2
        have hi0 := eq_true HIR.out.1
        have hi1 := eq_true HIR.out.2
        have NG' := Aside0.mk (show ropIn l0 o iz d2 (q + 1) (if jz < iz ∧ wrap64 (xi + 100) < xj then (q : Int) + 1 else gz) = (ropOut l0 o (p + 1)).1 by rw [HJZ.out, HXI.out, HXJ.out, HJZ.out]; exact NG.out)
        clear NG
        have NW := Aside0.mk (show wrap64 (qz + 1) = ((q + 1 : Nat) : Int) by rw [NQ.out]; have := H8.out; rw [wrap64_in _ (by omega) (by omega)]; omega)
        by_cases c1 : jz < iz
        ·
         have q4 : decide (jz < iz) = true := decide_eq_true c1
         by_cases c2 : wrap64 (xi + 100) < xj
         ·
          have q5 : decide (wrap64 (xi + 100) < xj) = true := decide_eq_true c2
          go_wp2
          go_big_region
          all_goals go_wp2
          go_roundg d2
          case measure => omega
          case rel => exact ⟨q + 1, _, _, rfl, rfl, ⟨NW.out⟩, ⟨by rw [← NG'.out, if_pos ⟨c1, c2⟩, show (q : Int) + 1 = wrap64 (qz + 1) by rw [NW.out]; omega]⟩, ⟨by have := NK2.out; omega⟩, ⟨by have := NW.out; have := HG0.out; omega⟩, ⟨q98d_⟩⟩
         ·
          have q5 : decide (wrap64 (xi + 100) < xj) = false := decide_eq_false c2
          go_wp2
          go_big_region
          all_goals go_wp2
          go_roundg d2
          case measure => omega
          case rel => exact ⟨q + 1, _, _, rfl, rfl, ⟨NW.out⟩, ⟨by rw [← NG'.out, if_neg (fun h_ => by have h2_ := h_.2; omega)]⟩, ⟨by have := NK2.out; omega⟩, ⟨by have := NW.out; have := NQ.out; have := HG0.out; omega⟩, ⟨q98d_⟩⟩
        ·
         have q4 : decide (jz < iz) = false := decide_eq_false c1
         go_wp2
         go_big_region
         all_goals go_wp2
         go_roundg d2
         case measure => omega
         case rel => exact ⟨q + 1, _, _, rfl, rfl, ⟨NW.out⟩, ⟨by rw [← NG'.out, if_neg (fun h_ => by have h2_ := h_.1; omega)]⟩, ⟨by have := NK2.out; omega⟩, ⟨by have := NW.out; have := NQ.out; have := HG0.out; omega⟩, ⟨q98d_⟩⟩

end Go.Proofs.YtgfcnfbbiaeboaaGreat.PAll
