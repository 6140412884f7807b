-- written by a program of this session (wip/gen/xpatch.py over the translation); Lean checks it
import Derived.Test.YtgfedgnpffockaaPAllx0
import Derived.Test.YtgfedgnpffockaaPAllx5
namespace Go.Proofs.Ytgfedgnpffockaa.PAll
open Go.RowKit Go.Proofs.Ytgfedgnpffockaa.Hand Go.Proofs.YtgfedgnpffockaaW.PrintWords Go.Proofs.YtgfedgnpffockaaW.PrintLast Go.Proofs.YtgfedgnpffockaaW.PrintMore
attribute [local go_sem] max2_int min2_int max_two min_two max_three min_three max_four min_four   -- for this text's walks alone
set_option maxHeartbeats 8000000
set_option maxRecDepth 100000
set_option linter.unusedVariables false
set_option linter.unusedSimpArgs false

/-! ### impl_LabelOfRegion: function 15 -/
def impl_LabelOfRegion.l0 : Nat → List Int → List Int → Int → Int → List Int → List Int → Option (List Int × Bool)
 | 0, _, _, _, _, _, _ => none
 | k + 1, x4, x15, x16, x17, x340000, x340001 => if x17 < x16 then (if 0 ≤ x17 then (if x17 < (x15.length : Int) then (if x17 ≤ (x340000.length : Int) then (if x17 < (x340001.length : Int) then ((impl_labelAt.f (x340000.take (x17 : Int).toNat) (rd x340001 x17) (rd x15 x17)).bind fun t347 => (if 0 ≤ (rd x15 x17) then (if (rd x15 x17) < (x4.length : Int) then (impl_LabelOfRegion.l0 k (x4.set ((rd x15 x17) : Int).toNat t347) x15 x16 (wrap64 (x17 + 1)) x340000 x340001) else (none)) else (none))) else (none)) else (none)) else (none)) else (none)) else (some (x4, true))
def impl_LabelOfRegion.f (k : Nat) (l0_0 : List Int) (l0_1 : List Int) : Option (List Int × Bool) := (impl_isRegion.f k l0_0 l0_1).bind fun t340 => (if t340 = true then (if 0 ≤ (l0_0.length : Int) then (if ((l0_0.length : Int) : Int).toNat ≤ 35184372088832 then (impl_LabelOfRegion.l0 k (List.replicate ((l0_0.length : Int) : Int).toNat 0) l0_0 (l0_0.length : Int) 0 l0_0 l0_1) else (none)) else (none)) else (some (([] : List Int), false)))
theorem impl_LabelOfRegion.mono_l : ∀ k, (∀ y0 y1 y2 y3 y4 y5, LeO (impl_LabelOfRegion.l0 k y0 y1 y2 y3 y4 y5) (impl_LabelOfRegion.l0 (k + 1) y0 y1 y2 y3 y4 y5))
 | 0 => fun _ _ _ _ _ _ r h => by simp [impl_LabelOfRegion.l0] at h
 | k + 1 => by
  have ih0 := impl_LabelOfRegion.mono_l k
  ·
   intro y0 y1 y2 y3 y4 y5
   unfold impl_LabelOfRegion.l0
   repeat' (with_reducible first | exact ih0 _ _ _ _ _ _ | exact impl_isRegion.mono _ _ _ | exact LeO.refl _ | exact LeO.none _ | refine LeO.ite ?_ ?_ | refine LeO.bind ?_ (fun _ => ?_))
theorem impl_LabelOfRegion.mono : ∀ a0 a1 k, LeO (impl_LabelOfRegion.f k a0 a1) (impl_LabelOfRegion.f (k + 1) a0 a1) := by
 intro a0 a1 k
 have ih0 := impl_LabelOfRegion.mono_l k
 unfold impl_LabelOfRegion.f
 repeat' (with_reducible first | exact ih0 _ _ _ _ _ _ | exact impl_isRegion.mono _ _ _ | exact LeO.refl _ | exact LeO.none _ | refine LeO.ite ?_ ?_ | refine LeO.bind ?_ (fun _ => ?_))
def impl_LabelOfRegion.T7 : Bool × List (List Nat × List Nat) := (true, [([], []), ([], []), ([], []), ([2], [2]), ([], []), ([3, 4], [3, 4]), ([], []), ([6], [6]), ([], []), ([7, 8], [7, 8]), ([9], [9]), ([], []), ([5, 10, 11], [5, 10, 11]), ([0, 1, 0, 1, 2, 3, 4, 5, 6, 7, 8, 9, 10, 11, 12], [0, 1]), ([13, 12, 12, 0, 1, 2, 3, 4, 5, 6, 7, 8, 9, 10, 11, 12], [12, 13])])
def impl_LabelOfRegion.B7 : List Nat := [0, 0, 0, 4, 0, 28, 0, 64, 0, 448, 960, 0, 4092, 8191, 16383]
theorem impl_LabelOfRegion.tab7 : rtab .any (opsOf Try.f15 7) = impl_LabelOfRegion.T7 := by kernel_rfl
theorem impl_LabelOfRegion.bits7 : waitsOk impl_LabelOfRegion.T7.2 impl_LabelOfRegion.B7 = true := by kernel_rfl
theorem impl_LabelOfRegion.calls (k : Nat) (A0_0 : Option Addr) (c0_0 : Nat) (l0_0 : List Int) (A0_1 : Option Addr) (c0_1 : Nat) (l0_1 : List Int) (r1 : List Int) (r2 : Bool) (w : World) (hr0_0 : Kd.C (Kd.int .i64) w A0_0 l0_0.length l0_0) (hc0_0 : l0_0.length ≤ c0_0) (hr0_1 : Kd.C (Kd.int .i64) w A0_1 l0_1.length l0_1) (hc0_1 : l0_1.length ≤ c0_1) (h : impl_LabelOfRegion.f k l0_0 l0_1 = some (r1, r2)) :
  Calls Try.prog 15 #[.agg #[.slice A0_0 l0_0.length c0_0, .slice A0_1 l0_1.length c0_1]] w fun e w' => ∃ v0_ : Value, e = .returned (.tuple #[v0_, .bool r2]) ∧ Kd.R (Kd.int .i64) 3 w' w.heap.size (fun _ => True) v0_ r1 ∧ Below w.heap.size w w' := by
 have hu33 := Try.underlying33
 have HR0_0 := Aside0.mk hr0_0
 have HC0_0 := Aside0.mk hc0_0
 clear hr0_0 hc0_0
 have HR0_1 := Aside0.mk hr0_1
 have HC0_1 := Aside0.mk hc0_1
 clear hr0_1 hc0_1
 have HB := Aside0.mk (Below.refl w.heap.size w)
 unfold impl_LabelOfRegion.f at h
 have H := h; clear h
 obtain ⟨t340, A2, H⟩ := ob_ H
 by_cases c3 : t340 = true
 ·
  subst c3
  rw [if_pos rfl] at H
  by_cases c4 : 0 ≤ (l0_0.length : Int)
  ·
   rw [if_pos c4] at H
   have c4b0 := eq_true c4
   have c4b1 := decide_eq_true c4
   clear c4
   by_cases c5 : ((l0_0.length : Int) : Int).toNat ≤ 35184372088832
   ·
    rw [if_pos c5] at H
    have c5b0 := eq_true c5
    have c5b1 := decide_eq_true c5
    clear c5
    obtain ⟨y341, hy341⟩ : ∃ y_ : List Int, y_ = (List.replicate ((l0_0.length : Int) : Int).toNat 0) := ⟨_, rfl⟩
    replace H : (impl_LabelOfRegion.l0 k y341 l0_0 (l0_0.length : Int) 0 l0_0 l0_1) = some (r1, r2) := by first | (rw [hy341]; with_reducible exact H) | (have H2_ := (Option.bind_some _ _).symm.trans H; rw [hy341]; with_reducible exact H2_) | (have H2_ := (Option.bind_some _ _).symm.trans H; with_reducible exact H2_) | with_reducible exact H | (rw [hy341]; exact H) | exact H
    have Ny341 := Aside0.mk hy341
    clear hy341
    have H' := Aside0.mk H
    clear H
    go_enter Try.func15, Try.ntmps15
    go_wp2_with (first | ((with_reducible refine gate_dst (N := 1) rfl ?_); refine box_event ?hg (N := 1) ?hd (cs := #[.slice A0_0 l0_0.length c0_0, .slice A0_1 l0_1.length c0_1]) (t := 33) ?hr ?_; (case hd => rfl); (case hg => rfl); (case hr => exact qfba_); intro gb339 hg w6 hbox hb; have n0_ := Aside0.mk (below_step q0c4_ hb); have n1_ := Aside0.mk (hbox); have n2_ := Aside0.mk ((by rw [hg]; exact (below_size q0c4_) : w.heap.size ≤ gb339)); have n3_ := Aside0.mk ((by rw [hg]; exact (below_size q0c4_) : w.heap.size ≤ gb339)); replace HB := n0_; have BK339 := n1_; have GW339 := n2_; have GE339 := n3_; clear n0_ n1_ n2_ n3_; clear hb hbox hg; have hcz7_0 : w6.cell? ⟨gb339, 0, none⟩ = some (.slice A0_0 l0_0.length c0_0) := (blk_cell BK339.out 0).trans rfl; have hcz7_1 : w6.cell? ⟨gb339, 1, none⟩ = some (.slice A0_1 l0_1.length c0_1) := (blk_cell BK339.out 1).trans rfl; have hfz7_0 := blk_frozen BK339.out 0; have hfz7_1 := blk_frozen BK339.out 1) | ((with_reducible refine gate_callee (f := 27) rfl ?_); refine gl_ 8 Try.func27 #[.agg #[.slice A0_0 l0_0.length c0_0, .slice A0_1 l0_1.length c0_1]] ?_; (with_reducible refine (impl_isRegion.calls k _ _ l0_0 _ _ l0_1 true _ ?s1 ?s2 ?s3 ?s4 A2.out).mono ?_); (case s1 => exact qe02_ HR0_0.out); (case s2 => exact HC0_0.out); (case s3 => exact qe02_ HR0_1.out); (case s4 => exact HC0_1.out); rintro e w8 ⟨rfl, hb⟩; refine ⟨_, rfl, ?_⟩; replace BK339 := Aside0.mk (blk_below (g := gb339) (o := .cells #[.slice A0_0 l0_0.length c0_0, .slice A0_1 l0_1.length c0_1] 33 (0, 0)) q657_ hb); replace HB := Aside0.mk (below_step qa7b_ hb); clear hb; have hcz9_0 : w8.cell? ⟨gb339, 0, none⟩ = some (.slice A0_0 l0_0.length c0_0) := (blk_cell BK339.out 0).trans rfl; have hcz9_1 : w8.cell? ⟨gb339, 1, none⟩ = some (.slice A0_1 l0_1.length c0_1) := (blk_cell BK339.out 1).trans rfl; have hfz9_0 := blk_frozen BK339.out 0; have hfz9_1 := blk_frozen BK339.out 1) | ((with_reducible refine gate_dst (N := 13) rfl ?_); refine Kd.R_make (Kd.int .i64) _ 3 rfl (N := 13) rfl 24 _ _ rfl (l0_0.length : Int) rfl rfl Try.underlying24 (.int .i64 0) 8 info3 rfl (by decide) (by omega) 0 (ok := fun _ => True) (okp := fun _ => True) rfl (fun _ hk => hk) trivial (of_decide_eq_true qe84_) (Nat.le_trans (Nat.mul_le_mul_right _ (of_decide_eq_true qe84_ : (l0_0.length : Int).toNat ≤ 35184372088832)) (by omega)) (Below.refl _ _) (Nat.le_refl _) ?_; intro v342 w10 ho11 hb hg_ hnew_; clear hg_ hnew_; (first | rw [← Ny341.out] at ho11 | (simp only [Int.reduceToNat] at ho11; rw [← Ny341.out] at ho11)); have HO343 := Aside0.mk (Kd.R_lower ho11 (below_size qa7b_)); replace BK339 := Aside0.mk (blk_below (g := gb339) (o := .cells #[.slice A0_0 l0_0.length c0_0, .slice A0_1 l0_1.length c0_1] 33 (0, 0)) q657_ hb); replace HB := Aside0.mk (below_step qa7b_ hb); clear hb ho11; have hcz12_0 : w10.cell? ⟨gb339, 0, none⟩ = some (.slice A0_0 l0_0.length c0_0) := (blk_cell BK339.out 0).trans rfl; have hcz12_1 : w10.cell? ⟨gb339, 1, none⟩ = some (.slice A0_1 l0_1.length c0_1) := (blk_cell BK339.out 1).trans rfl; have hfz12_0 := blk_frozen BK339.out 0; have hfz12_1 := blk_frozen BK339.out 1))
    go_loopg [17] k (fun kq v17 w' => ∃ (x4_1 : List Int) (x17_1 : Int), v17 = .int .i64 x17_1 ∧ Aside0 (impl_LabelOfRegion.l0 kq x4_1 l0_0 (l0_0.length : Int) x17_1 l0_0 l0_1 = some (r1, r2)) ∧ Aside0 (kq ≤ k) ∧ Aside0 (Kd.R (Kd.int .i64) 3 w' w.heap.size (fun _ => True) v342 x4_1) ∧ Aside0 (w'.heap[gb339]? = some (.cells #[(.slice A0_0 l0_0.length c0_0), (.slice A0_1 l0_1.length c0_1)] 33 (0, 0))) ∧ Aside0 (Below w.heap.size w w'))
    case atStart => exact ⟨(y341), (0), qc8f_, H', ⟨Nat.le_refl _⟩, ⟨q9d5_ HO343.out⟩, ⟨q657_⟩, ⟨qa7b_⟩⟩
    case round =>
     clear H'; try clear c1; try clear c2; try clear p2; try clear c3; try clear c4; try clear c4b0; try clear c4b1; try clear c5; try clear c5b0; try clear c5b1; try clear hcz12_0; try clear hcz12_1; try clear hcz7_0; try clear hcz7_1; try clear hcz9_0; try clear hcz9_1; try clear hfz12_0; try clear hfz12_1; try clear hfz7_0; try clear hfz7_1; try clear hfz9_0; try clear hfz9_1
     obtain ⟨x4_1, x17_1, rfl, HA, HK1, HO_4, BK339, HB⟩ := hrel
     cases gk with
     | zero => exact absurd HA.out (by simp [impl_LabelOfRegion.l0])
     | succ k1 =>
      have H := HA.out
      clear HA
      simp only [impl_LabelOfRegion.l0] at H
      by_cases c13 : x17_1 < (l0_0.length : Int)
      ·
       rw [if_pos c13] at H
       have c13b0 := decide_eq_true c13
       clear c13
       by_cases c14 : 0 ≤ x17_1
       ·
        rw [if_pos c14] at H
        have c14b0 := decide_eq_true c14
        clear c14
        by_cases c15 : x17_1 < (l0_0.length : Int)
        ·
         rw [if_pos c15] at H
         have c15b0 := decide_eq_true c15
         clear c15
         have c16b0 := eq_true (of_decide_eq_true qe84_ : 0 ≤ x17_1)
         by_cases c17 : x17_1 ≤ (l0_0.length : Int)
         ·
          rw [if_pos c17] at H
          have c17b0 := eq_true c17
          have c17b1 := decide_eq_true c17
          clear c17
          by_cases c18 : x17_1 < (l0_1.length : Int)
          ·
           rw [if_pos c18] at H
           have c18b0 := decide_eq_true c18
           clear c18
           obtain ⟨t347, A19, H⟩ := ob_ H
           by_cases c20 : 0 ≤ (rd l0_0 x17_1)
           ·
            rw [if_pos c20] at H
            have c20b0 := decide_eq_true c20
            clear c20
            by_cases c21 : (rd l0_0 x17_1) < (x4_1.length : Int)
            ·
             rw [if_pos c21] at H
             have c21b0 := decide_eq_true c21
             clear c21
             obtain ⟨y348, hy348⟩ : ∃ y_ : List Int, y_ = (x4_1.set ((rd l0_0 x17_1) : Int).toNat t347) := ⟨_, rfl⟩
             replace H : (impl_LabelOfRegion.l0 k1 y348 l0_0 (l0_0.length : Int) (wrap64 (x17_1 + 1)) l0_0 l0_1) = some (r1, r2) := by first | (rw [hy348]; with_reducible exact H) | (have H2_ := (Option.bind_some _ _).symm.trans H; rw [hy348]; with_reducible exact H2_) | (have H2_ := (Option.bind_some _ _).symm.trans H; with_reducible exact H2_) | with_reducible exact H | (rw [hy348]; exact H) | exact H
             have Ny348 := Aside0.mk hy348
             clear hy348
             have H' := Aside0.mk H
             clear H
             have p344 : 0 ≤ (x17_1 : Int) := of_decide_eq_true qe84_
             have q344 : x17_1 < (l0_0.length : Int) := of_decide_eq_true qe84_
             obtain ⟨ad344, e344, hx344_0⟩ := Kd.at_int HR0_0.out x17_1 p344 q344
             cases e344
             (try (replace hx344_0 := (HB.out.cell (World.block_lt_of_cell? w _ hx344_0)).trans hx344_0))
             replace p344 := eq_true p344
             replace q344 := eq_true q344
             try go_wp2
             have n0_ := Aside0.mk (Kd.R_drew HO_4.out)
             have n1_ := Aside0.mk (blk_drew BK339.out)
             have n2_ := Aside0.mk (below_drew1 HB.out)
             clear HO_4 BK339 HB; have HO_4 := n0_; have BK339 := n1_; have HB := n2_; clear n0_ n1_ n2_
             obtain ⟨i024, hi024, _, hsz24, _⟩ := info_parts info3
             obtain ⟨hcut24, hA24, hC24⟩ := print_take_of (P := Try.prog) (Value.int .i64) 0 24 3 .i64 Try.underlying24 hi024 hsz24 (some ad344) c0_0 l0_0 x17_1 (of_decide_eq_true qe84_) (of_decide_eq_true qe84_) HC0_0.out
             have HR345 := Aside0.mk (Kd.C_of_reads (h1 := fun _ => rfl) (hA24 _ (Kd.reads_of_C HR0_0.out)))
             have HC345 := Aside0.mk hC24
             clear hA24 hC24 hi024 hsz24
             have p346 : 0 ≤ (x17_1 : Int) := of_decide_eq_true qe84_
             have q346 : x17_1 < (l0_1.length : Int) := of_decide_eq_true qe84_
             obtain ⟨ad346, e346, hx346_0⟩ := Kd.at_int HR0_1.out x17_1 p346 q346
             have hw346_0 := hx346_0
             cases e346
             (try (replace hx346_0 := (HB.out.cell (World.block_lt_of_cell? w _ hx346_0)).trans hx346_0))
             replace p346 := eq_true p346
             replace q346 := eq_true q346
             refine start_ (n := 15) (S := fun w' => w'.cell? ⟨gb339, 0, none⟩ = some (.slice (some ad344) l0_0.length c0_0) ∧ w'.cell? ⟨gb339, 1, none⟩ = some (.slice (some ad346) l0_1.length c0_1) ∧ w'.cell? (ad346.add (x17_1).toNat) = some (.int .i64 (rd l0_1 x17_1))) (ds := [14]) #[false, false, false, false, false, false, false, false, false, false, false, false, false, false, false] (by kernel_rfl) rfl rfl ⟨(blk_cell BK339.out 0).trans rfl, (blk_cell BK339.out 1).trans rfl, ((HB.out.cell (World.block_lt_of_cell? w _ hw346_0)).trans hw346_0)⟩ (fun hHeld => ?_); refine with_tabW impl_LabelOfRegion.tab7 impl_LabelOfRegion.bits7 (fun HT_ HW_ => ?_)
             generalize wr.drew = w23 at HO_4 BK339 HB HR345 hx346_0 hHeld ⊢
             refine pure_ (i := 0) (N := some 22) (v := ?_) (a' := ?_) #[true, false, false, false, false, false, false, false, false, false, false, false, false, false, false] rfl rfl (any_of HT_.out (by kernel_rfl)) (fun _ _ _ h => h) (Or.inl ⟨by rfl, ?_⟩) ?_ ?_
             rotate_left
             ·
              intro w'
              go_simp
              with_reducible rfl
             rotate_left
             ·
              simp only [Act.put, List.setIfInBounds_toArray, List.set_cons_zero, List.set_cons_succ, i64_w, i32_w]
              rfl
             refine pure_ (i := 1) (N := some 23) (v := ?_) (a' := ?_) #[true, true, false, false, false, false, false, false, false, false, false, false, false, false, false] rfl rfl (any_of HT_.out (by kernel_rfl)) (fun _ _ _ h => h) (Or.inl ⟨by rfl, ?_⟩) ?_ ?_
             rotate_left
             ·
              intro w'
              go_simp
              with_reducible rfl
             rotate_left
             ·
              simp only [Act.put, List.setIfInBounds_toArray, List.set_cons_zero, List.set_cons_succ, i64_w, i32_w]
              rfl
             refine pure_ (i := 2) (N := some 24) (v := ?_) (a' := ?_) #[true, true, true, false, false, false, false, false, false, false, false, false, false, false, false] rfl rfl (any_of HT_.out (by kernel_rfl)) (fun _ _ _ h => h) (Or.inl ⟨by rfl, ?_⟩) ?_ ?_
             rotate_left
             ·
              intro w'
              go_simp
              with_reducible rfl
             rotate_left
             ·
              simp only [Act.put, List.setIfInBounds_toArray, List.set_cons_zero, List.set_cons_succ, i64_w, i32_w]
              rfl
             refine pure_ (i := 4) (N := some 26) (v := ?_) (a' := ?_) #[true, true, true, false, true, false, false, false, false, false, false, false, false, false, false] rfl rfl (any_of HT_.out (by kernel_rfl)) (fun _ _ _ h => h) (Or.inl ⟨by rfl, ?_⟩) ?_ ?_
             rotate_left
             ·
              intro w'
              go_simp
              with_reducible rfl
             rotate_left
             ·
              simp only [Act.put, List.setIfInBounds_toArray, List.set_cons_zero, List.set_cons_succ, i64_w, i32_w]
              rfl
             refine pure_ (i := 6) (N := some 28) (v := ?_) (a' := ?_) #[true, true, true, false, true, false, true, false, false, false, false, false, false, false, false] rfl rfl (any_of HT_.out (by kernel_rfl)) (fun _ _ _ h => h) (Or.inl ⟨by rfl, ?_⟩) ?_ ?_
             rotate_left
             ·
              intro w'
              go_simp
              with_reducible rfl
             rotate_left
             ·
              simp only [Act.put, List.setIfInBounds_toArray, List.set_cons_zero, List.set_cons_succ, i64_w, i32_w]
              rfl
             refine pure_ (i := 8) (N := some 30) (v := ?_) (a' := ?_) #[true, true, true, false, true, false, true, false, true, false, false, false, false, false, false] rfl rfl (any_of HT_.out (by kernel_rfl)) (fun _ _ _ h => h) (Or.inl ⟨by rfl, ?_⟩) ?_ ?_
             rotate_left
             ·
              intro w'
              go_simp
              with_reducible rfl
             rotate_left
             ·
              simp only [Act.put, List.setIfInBounds_toArray, List.set_cons_zero, List.set_cons_succ, i64_w, i32_w]
              rfl
             refine pure_ (i := 11) (N := some 33) (v := ?_) (a' := ?_) #[true, true, true, false, true, false, true, false, true, false, false, true, false, false, false] rfl rfl (any_of HT_.out (by kernel_rfl)) (fun _ _ _ h => h) (Or.inl ⟨by rfl, ?_⟩) ?_ ?_
             rotate_left
             ·
              intro w'
              go_simp
              with_reducible rfl
             rotate_left
             ·
              simp only [Act.put, List.setIfInBounds_toArray, List.set_cons_zero, List.set_cons_succ, i64_w, i32_w]
              rfl
             refine take_ (i := 3) (N := some 25) (v := ?_) (a' := ?_) #[true, true, true, true, true, false, true, false, true, false, false, true, false, false, false] rfl rfl (take_ofW HT_.out HW_.out (by kernel_rfl)) (fun _ _ _ h => h) (Or.inl ⟨by rfl, ?_⟩) hHeld ?_ ?_
             rotate_left
             ·
              rintro w' ⟨s0, s1, s2⟩
              go_simp
              with_reducible rfl
             rotate_left
             ·
              simp only [Act.put, List.setIfInBounds_toArray, List.set_cons_zero, List.set_cons_succ, i64_w, i32_w]
              rfl
             refine pure_ (i := 5) (N := some 27) (v := ?_) (a' := ?_) #[true, true, true, true, true, true, true, false, true, false, false, true, false, false, false] rfl rfl (any_of HT_.out (by kernel_rfl)) (fun _ _ _ h => h) (Or.inl ⟨by rfl, ?_⟩) ?_ ?_
             rotate_left
             ·
              intro w'
              go_simp
              with_reducible rfl
             rotate_left
             ·
              simp only [Act.put, List.setIfInBounds_toArray, List.set_cons_zero, List.set_cons_succ, i64_w, i32_w]
              rfl
             refine take_ (i := 7) (N := some 29) (v := ?_) (a' := ?_) #[true, true, true, true, true, true, true, true, true, false, false, true, false, false, false] rfl rfl (take_ofW HT_.out HW_.out (by kernel_rfl)) (fun _ _ _ h => h) (Or.inl ⟨by rfl, ?_⟩) hHeld ?_ ?_
             rotate_left
             ·
              rintro w' ⟨s0, s1, s2⟩
              go_simp
              with_reducible rfl
             rotate_left
             ·
              simp only [Act.put, List.setIfInBounds_toArray, List.set_cons_zero, List.set_cons_succ, i64_w, i32_w]
              rfl
             refine pure_ (i := 9) (N := some 31) (v := ?_) (a' := ?_) #[true, true, true, true, true, true, true, true, true, true, false, true, false, false, false] rfl rfl (any_of HT_.out (by kernel_rfl)) (fun _ _ _ h => h) (Or.inl ⟨by rfl, ?_⟩) ?_ ?_
             rotate_left
             ·
              intro w'
              go_simp
              with_reducible rfl
             rotate_left
             ·
              simp only [Act.put, List.setIfInBounds_toArray, List.set_cons_zero, List.set_cons_succ, i64_w, i32_w]
              rfl
             refine take_ (i := 10) (N := some 32) (v := ?_) (a' := ?_) #[true, true, true, true, true, true, true, true, true, true, true, true, false, false, false] rfl rfl (take_ofW HT_.out HW_.out (by kernel_rfl)) (fun _ _ _ h => h) (Or.inl ⟨by rfl, ?_⟩) hHeld ?_ ?_
             rotate_left
             ·
              rintro w' ⟨s0, s1, s2⟩
              go_simp
              with_reducible rfl
             rotate_left
             ·
              simp only [Act.put, List.setIfInBounds_toArray, List.set_cons_zero, List.set_cons_succ, i64_w, i32_w]
              rfl
             refine one_ (i := 12) (N := some 34) #[true, true, true, true, true, true, true, true, true, true, true, true, true, false, false] rfl rfl (one_of HT_.out (by kernel_rfl)) (by decide) (fun K hK => ?_)
             refine goes_ Try.func28 (by kernel_rfl) rfl #[.slice (some ad344) (l0_0.take (x17_1 : Int).toNat).length c0_0, .int .i64 (rd l0_1 x17_1), .int .i64 (rd l0_0 x17_1)] (by rfl) rfl rfl (by (try simp only [List.map_toArray, List.map_cons, List.map_nil]); first | done | (rw [show (l0_0.take (x17_1 : Int).toNat).length = x17_1.toNat from (by rw [List.length_take]; have h_ : (x17_1 : Int) ≤ (l0_0.length : Int) := of_decide_eq_true qe84_; omega)] <;> rfl) | rfl | (simp only [List.length_drop, List.length_take]; rfl)) ?_
             with_reducible refine (impl_labelAt.calls _ _ (l0_0.take (x17_1 : Int).toNat) (rd l0_1 x17_1) (rd l0_0 x17_1) t347 _ ?s1 ?s2 A19.out).mono ?_
             (case s1 => exact qe02_ HR345.out)
             (case s2 => exact HC345.out)
             rintro e w25 ⟨rfl, hb⟩
             refine ⟨_, rfl, ?_⟩
             have n0_ := Aside0.mk (Kd.R_below (q9d5_ HO_4.out) hb)
             have n1_ := Aside0.mk (blk_below (g := gb339) (o := .cells #[.slice (some ad344) l0_0.length c0_0, .slice (some ad346) l0_1.length c0_1] 33 (0, 0)) q657_ hb)
             have n2_ := Aside0.mk (below_step qa7b_ hb)
             clear HO_4 BK339 HB; have HO_4 := n0_; have BK339 := n1_; have HB := n2_; clear n0_ n1_ n2_
             (try clear hb)
             (try clear hb2)
             (try clear hk)
             (try clear hi)
             have p22 : 0 ≤ ((rd l0_0 x17_1) : Int) := of_decide_eq_true qe84_
             have q22 : ((rd l0_0 x17_1) : Int) < ((x4_1.length : Int) : Int) := of_decide_eq_true qe84_
             obtain ⟨go22, co22, eo22, gb22, gl22, cl22, HG22⟩ := Kd.R_form HO_4.out (by omega)
             (first | cases eo22 | (injection eo22 with ea_ en_ ec_; (first | subst ea_ | (injection ea_ with ea_; subst ea_)); subst ec_; clear en_))
             have GB22 := Aside0.mk gb22
             have GG22 := Aside0.mk HG22
             clear gb22 gl22 HG22
             obtain ⟨hx22_0, hf22_0⟩ := Kd.R_celln 0 HO_4.out ((rd l0_0 x17_1) : Int) p22 q22
             replace p22 := eq_true p22
             replace q22 := eq_true q22
             have HP26 := Kd.R_putn HO_4.out ((rd l0_0 x17_1) : Int) t347
             rw [← Ny348.out] at HP26
             have HQ26 := Aside0.mk HP26
             clear HP26
             refine hK.out _ _ ⟨(blk_cell BK339.out 0).trans rfl, (blk_cell BK339.out 1).trans rfl, ((HB.out.cell (World.block_lt_of_cell? w _ hw346_0)).trans hw346_0)⟩ (fun hHeld => ?_)
             clear hK K
             refine norm_ (a' := ?_) ?_ ?_
             rotate_left
             ·
              show Act.put _ (some 34) _ = _
              simp only [Act.put, List.setIfInBounds_toArray, List.set_cons_zero, List.set_cons_succ, i64_w, i32_w]
              rfl
             refine pure_ (i := 13) (N := some 35) (v := ?_) (a' := ?_) #[true, true, true, true, true, true, true, true, true, true, true, true, true, true, false] rfl rfl (any_of HT_.out (by kernel_rfl)) (fun _ _ _ h => h) (Or.inl ⟨by rfl, ?_⟩) ?_ ?_
             rotate_left
             ·
              intro w'
              go_simp
              with_reducible rfl
             rotate_left
             ·
              simp only [Act.put, List.setIfInBounds_toArray, List.set_cons_zero, List.set_cons_succ, i64_w, i32_w]
              rfl
             refine last_ (i := 14) (N := none) #[true, true, true, true, true, true, true, true, true, true, true, true, true, true, true] rfl rfl (one_of HT_.out (by kernel_rfl)) (by decide) (fun K hK => ?_)
             refine skip_ (w1 := ?_) (by rfl) rfl ?_ ?_
             rotate_left
             ·
              go_simp
              rfl
             refine hK.out _ _ ?_
             clear hK K
             refine done_ (done_of HT_.out (by kernel_rfl)) ?_
             try go_wp2
             go_roundg k1
             case measure => have := HK1.out; omega
             case rel => exact ⟨(y348), (wrap64 (x17_1 + 1)), qc8f_, H', ⟨by have := HK1.out; omega⟩, ⟨q9d5_ HQ26.out⟩, ⟨by (with_reducible repeat (first | refine blk_drewN ?_ _ | refine blk_drew ?_ | refine blk_alloc ?_ _)); refine blk_far ?_ (by have h_ := Kd.R_ne HO_4.out BK339.out (by decide); intro e_; exact h_ (by rw [e_]; rfl)) _; (with_reducible repeat (first | refine blk_drewN ?_ _ | refine blk_drew ?_ | refine blk_alloc ?_ _)); exact BK339.out⟩, ⟨by repeat (first | (with_reducible first | exact HB.out | apply below_alloc | apply pw_below_drewN | apply below_drew1 | refine below_set ?_ GB22.out | refine below_set ?_ GE339.out) | exact HB.out)⟩⟩
            ·
             rw [if_neg c21] at H
             exact absurd H (by simp)
           ·
            rw [if_neg c20] at H
            exact absurd H (by simp)
          ·
           rw [if_neg c18] at H
           exact absurd H (by simp)
         ·
          rw [if_neg c17] at H
          exact absurd H (by simp)
        ·
         rw [if_neg c15] at H
         exact absurd H (by simp)
       ·
        rw [if_neg c14] at H
        exact absurd H (by simp)
      ·
       rw [if_neg c13] at H
       have c13b0 := decide_eq_false c13
       clear c13
       simp only [Option.some.injEq, Prod.mk.injEq] at H
       obtain ⟨rfl, rfl⟩ := H
       go_wp2
       go_ret2
       exact ⟨_, qce7_, q9d5_ HO_4.out, qa7b_⟩
   ·
    rw [if_neg c5] at H
    exact absurd H (by simp)
  ·
   rw [if_neg c4] at H
   exact absurd H (by simp)
 ·
  replace c3 := Bool.eq_false_iff.mpr c3
  subst c3
  rw [if_neg nf_] at H
  simp only [Option.some.injEq, Prod.mk.injEq] at H
  obtain ⟨rfl, rfl⟩ := H
  go_enter Try.func15, Try.ntmps15
  go_wp2_with (first | ((with_reducible refine gate_dst (N := 1) rfl ?_); refine box_event ?hg (N := 1) ?hd (cs := #[.slice A0_0 l0_0.length c0_0, .slice A0_1 l0_1.length c0_1]) (t := 33) ?hr ?_; (case hd => rfl); (case hg => rfl); (case hr => exact qfba_); intro gb339 hg w27 hbox hb; have n0_ := Aside0.mk (below_step q0c4_ hb); have n1_ := Aside0.mk (hbox); have n2_ := Aside0.mk ((by rw [hg]; exact (below_size q0c4_) : w.heap.size ≤ gb339)); have n3_ := Aside0.mk ((by rw [hg]; exact (below_size q0c4_) : w.heap.size ≤ gb339)); replace HB := n0_; have BK339 := n1_; have GW339 := n2_; have GE339 := n3_; clear n0_ n1_ n2_ n3_; clear hb hbox hg; have hcz28_0 : w27.cell? ⟨gb339, 0, none⟩ = some (.slice A0_0 l0_0.length c0_0) := (blk_cell BK339.out 0).trans rfl; have hcz28_1 : w27.cell? ⟨gb339, 1, none⟩ = some (.slice A0_1 l0_1.length c0_1) := (blk_cell BK339.out 1).trans rfl; have hfz28_0 := blk_frozen BK339.out 0; have hfz28_1 := blk_frozen BK339.out 1) | ((with_reducible refine gate_callee (f := 27) rfl ?_); refine gl_ 8 Try.func27 #[.agg #[.slice A0_0 l0_0.length c0_0, .slice A0_1 l0_1.length c0_1]] ?_; (with_reducible refine (impl_isRegion.calls k _ _ l0_0 _ _ l0_1 false _ ?s1 ?s2 ?s3 ?s4 A2.out).mono ?_); (case s1 => exact qe02_ HR0_0.out); (case s2 => exact HC0_0.out); (case s3 => exact qe02_ HR0_1.out); (case s4 => exact HC0_1.out); rintro e w29 ⟨rfl, hb⟩; refine ⟨_, rfl, ?_⟩; replace BK339 := Aside0.mk (blk_below (g := gb339) (o := .cells #[.slice A0_0 l0_0.length c0_0, .slice A0_1 l0_1.length c0_1] 33 (0, 0)) q657_ hb); replace HB := Aside0.mk (below_step qa7b_ hb); clear hb))
  go_ret2
  exact ⟨_, qce7_, qf62_, qa7b_⟩

/-! ### impl_PointOfRegion: function 16 -/
theorem PtI_put {w0 w : World} {gb gm ga n : Nat} {c0 c1 v : Value} {xs : List Int} {b : Bool} (h : PtI w0 gb gm ga c0 c1 v n (xs, b) w) (b' : Bool) : PtI w0 gb gm ga c0 c1 v n (xs, b') (w.setCell ⟨ga, 0, none⟩ (.bool b')) := by
 obtain ⟨hB, hb, hm, ha, hR, hl, hA⟩ := h
 exact ⟨below_set hB hA, blk_far hb (p := ⟨ga, 0, none⟩) (blk_ne hb ha (by decide)) _, blk_far hm (p := ⟨ga, 0, none⟩) (blk_ne hm ha (by decide)) _, blk_set ha 0 _, Kd.R_set hR ha (by decide) 0 _, hl, hA⟩
theorem PtI_drewN {w0 w : World} {gb gm ga n : Nat} {c0 c1 v : Value} {s : List Int × Bool} (h : PtI w0 gb gm ga c0 c1 v n s w) (m : Nat) : PtI w0 gb gm ga c0 c1 v n s (w.drewN m) := by
 obtain ⟨hB, hb, hm, ha, hR, hl, hA⟩ := h
 exact ⟨pw_below_drewN hB m, blk_drewN hb m, blk_drewN hm m, blk_drewN ha m, Kd.R_drewN hR m, hl, hA⟩
/-- The box of 'again' is laid anew and holds what the elder one held. -/
theorem PtI_next {w0 w : World} {gb gm ga n : Nat} {c0 c1 v : Value} {s : List Int × Bool} (h : PtI w0 gb gm ga c0 c1 v n s w) : PtI w0 gb gm w.heap.size c0 c1 v n s (w.alloc (.cells #[.bool s.2] 4)) := by
 obtain ⟨hB, hb, hm, ha, hR, hl, hA⟩ := h
 exact ⟨below_alloc hB _, blk_alloc hb _, blk_alloc hm _, blk_new w _, Kd.R_alloc hR _, hl, hB.size⟩
theorem PtI_start {w0 w : World} {gb n : Nat} {c0 c1 v : Value} {s : List Int × Bool} (hB : Below w0.heap.size w0 w) (hb : w.heap[gb]? = some (.cells #[c0, c1] 33 (0, 0))) (hR : Kd.R (Kd.int .i64) 3 w w0.heap.size (fun _ => True) v s.1) (hl : s.1.length = n) :
  PtI w0 gb w.heap.size (w.heap.size + 1) c0 c1 v n s ((w.alloc (.cells #[v] 24)).alloc (.cells #[.bool s.2] 4)) := by
 have e : (w.alloc (.cells #[v] 24)).heap.size = w.heap.size + 1 := by simp
 rw [← e]
 exact ⟨below_alloc (below_alloc hB _) _, blk_alloc (blk_alloc hb _) _, blk_alloc (blk_new w _) _, blk_new _ _, Kd.R_alloc (Kd.R_alloc hR _) _, hl, by rw [e]; have := hB.size; omega⟩
theorem ptT_mono (far : List Int) (n : Nat) : ∀ k s, LeO (ptT far n k s) (ptT far n (k + 1) s)
 | 0, s => fun r h => by simp [ptT] at h
 | k + 1, s => by
  rw [ptT, ptT]
  exact LeO.ite (ptT_mono far n k _) (LeO.refl _)
/-- The last loop: out[order[p]] = most[p]. -/
def ptOut (o m : List Int) : Nat → List Int
 | 0 => List.replicate o.length 0
 | n + 1 => (ptOut o m n).set (rd o (n : Int)).toNat (rd m (n : Int))
theorem ptOut_length (o m : List Int) : ∀ n, (ptOut o m n).length = o.length
 | 0 => by rw [ptOut, List.length_replicate]
 | n + 1 => by rw [ptOut, List.length_set, ptOut_length o m n]
def impl_PointOfRegion.f (k : Nat) (l0_0 : List Int) (l0_1 : List Int) : Option (List Int × Bool) := (impl_isRegion.f k l0_0 l0_1).bind fun t => (if t = true then (if l0_0.length ≤ 8 ∧ l0_1.length = l0_0.length ∧ l0_0.all (fun x => decide (0 ≤ x ∧ x < (l0_0.length : Int))) = true then ((ptT l0_1 l0_0.length k (List.replicate l0_0.length 0, true)).bind fun m => some (ptOut l0_0 m l0_0.length, true)) else none) else (some (([] : List Int), false)))
theorem impl_PointOfRegion.mono : ∀ a0 a1 k, LeO (impl_PointOfRegion.f k a0 a1) (impl_PointOfRegion.f (k + 1) a0 a1) := by
 intro a0 a1 k
 unfold impl_PointOfRegion.f
 exact LeO.bind (impl_isRegion.mono a0 a1 k) (fun _ => LeO.ite (LeO.ite (LeO.bind (ptT_mono _ _ k _) (fun _ => LeO.refl _)) (LeO.refl _)) (LeO.refl _))
theorem impl_PointOfRegion.calls (k : Nat) (A0_0 : Option Addr) (c0_0 : Nat) (l0_0 : List Int) (A0_1 : Option Addr) (c0_1 : Nat) (l0_1 : List Int) (r1 : List Int) (r2 : Bool) (w : World) (hr0_0 : Kd.C (Kd.int .i64) w A0_0 l0_0.length l0_0) (hc0_0 : l0_0.length ≤ c0_0) (hr0_1 : Kd.C (Kd.int .i64) w A0_1 l0_1.length l0_1) (hc0_1 : l0_1.length ≤ c0_1) (h : impl_PointOfRegion.f k l0_0 l0_1 = some (r1, r2)) :
  Calls Try.prog 16 #[.agg #[.slice A0_0 l0_0.length c0_0, .slice A0_1 l0_1.length c0_1]] w fun e w' => ∃ v0_ : Value, e = .returned (.tuple #[v0_, .bool r2]) ∧ Kd.R (Kd.int .i64) 3 w' w.heap.size (fun _ => True) v0_ r1 ∧ Below w.heap.size w w' := by
 have hu45 := Try.underlying33
 have HR0 := Aside0.mk hr0_0
 have HC0 := Aside0.mk hc0_0
 have HR1 := Aside0.mk hr0_1
 have HC1 := Aside0.mk hc0_1
 clear hr0_0 hc0_0 hr0_1 hc0_1
 unfold impl_PointOfRegion.f at h
 obtain ⟨t, h1, h2⟩ := Option.bind_eq_some_iff.mp h
 clear h
 have A1 := Aside0.mk h1
 clear h1
 cases t with
 | false =>
  rw [if_neg (by decide)] at h2
  simp only [Option.some.injEq, Prod.mk.injEq] at h2
  obtain ⟨rfl, rfl⟩ := h2
  go_enter Try.func16, Try.ntmps16
  go_wp2_with (first | ((with_reducible refine gate_dst (N := 1) rfl ?_); refine box_event ?hg (N := 1) ?hd (cs := #[.slice A0_0 l0_0.length c0_0, .slice A0_1 l0_1.length c0_1]) (t := 33) ?hr ?_; (case hd => rfl); (case hg => rfl); (case hr => exact qfba_); intro gb hg w4 hbox hb; have BK := Aside0.mk hbox; have HB := Aside0.mk hb; clear hb hbox hg; have hcz0 : w4.cell? ⟨gb, 0, none⟩ = some (.slice A0_0 l0_0.length c0_0) := (blk_cell BK.out 0).trans rfl; have hcz1 : w4.cell? ⟨gb, 1, none⟩ = some (.slice A0_1 l0_1.length c0_1) := (blk_cell BK.out 1).trans rfl; have hfz0 := blk_frozen BK.out 0; have hfz1 := blk_frozen BK.out 1) | (go_at_call 27; refine (impl_isRegion.calls k _ _ l0_0 _ _ l0_1 false _ (Kd.C_below HR0.out HB.out) HC0.out (Kd.C_below HR1.out HB.out) HC1.out A1.out).mono ?_; rintro e w5 ⟨rfl, hb⟩; have HB2 := Aside0.mk (below_step HB.out hb); clear hb))
  go_ret2
  exact ⟨_, rfl, Kd.R_nil _ _ _ _ _, HB2.out⟩
 | true =>
  rw [if_pos rfl] at h2
  split at h2
  case isFalse => cases h2
  case isTrue hall =>
  obtain ⟨m, h3, h4⟩ := Option.bind_eq_some_iff.mp h2
  clear h2
  simp only [Option.some.injEq, Prod.mk.injEq] at h4
  obtain ⟨rfl, rfl⟩ := h4
  have HM := Aside0.mk h3
  clear h3
  have HALL := Aside0.mk hall
  clear hall
  obtain ⟨nz, hnz⟩ : ∃ nz, nz = l0_0.length := ⟨_, rfl⟩
  go_enter Try.func16, Try.ntmps16
  go_wp2_with (first | ((with_reducible refine gate_dst (N := 1) rfl ?_); refine box_event ?hg (N := 1) ?hd (cs := #[.slice A0_0 l0_0.length c0_0, .slice A0_1 l0_1.length c0_1]) (t := 33) ?hr ?_; (case hd => rfl); (case hg => rfl); (case hr => exact qfba_); intro gb hg w4 hbox hb; have BK := Aside0.mk hbox; have HB := Aside0.mk hb; clear hb hbox hg; have hcz0 : w4.cell? ⟨gb, 0, none⟩ = some (.slice A0_0 l0_0.length c0_0) := (blk_cell BK.out 0).trans rfl; have hcz1 : w4.cell? ⟨gb, 1, none⟩ = some (.slice A0_1 l0_1.length c0_1) := (blk_cell BK.out 1).trans rfl; have hfz0 := blk_frozen BK.out 0; have hfz1 := blk_frozen BK.out 1) | (go_at_call 27; refine (impl_isRegion.calls k _ _ l0_0 _ _ l0_1 true _ (Kd.C_below HR0.out HB.out) HC0.out (Kd.C_below HR1.out HB.out) HC1.out A1.out).mono ?_; rintro e w5 ⟨rfl, hb⟩; have BK2 := Aside0.mk (blk_below BK.out hb); have HB2 := Aside0.mk (below_step HB.out hb); clear hb; clear hcz0 hcz1 hfz0 hfz1 HB BK; have hcz0 : w5.cell? ⟨gb, 0, none⟩ = some (.slice A0_0 l0_0.length c0_0) := (blk_cell BK2.out 0).trans rfl; have hfz0 := blk_frozen BK2.out 0) | ((with_reducible refine gate_dst (N := 20) rfl ?_); refine Kd.R_make (Kd.int .i64) _ 3 rfl (N := 20) rfl 24 _ _ rfl (l0_0.length : Int) rfl rfl Try.underlying24 (.int .i64 0) 8 info_int rfl (by decide) (by omega) 0 (ok := fun _ => True) (okp := fun _ => True) rfl (fun _ hk => hk) trivial (by omega) (by have := HALL.out.1; omega) (Below.refl _ _) (Nat.le_refl _) ?_; intro vm w6 ho7 hb hg_ hnew_; clear hg_ hnew_; rw [Int.toNat_natCast] at ho7; have HR7 := Aside0.mk (Kd.R_lower ho7 HB2.out.size); have BK3 := Aside0.mk (blk_below BK2.out hb); have HB3 := Aside0.mk (below_step HB2.out hb); clear ho7 hb hcz0 hfz0 HB2 BK2; obtain ⟨Am, cm, em⟩ := Kd.R_slice HR7.out; rw [List.length_replicate] at em; subst em))
  have HI0 := Aside0.mk (PtI_start (gb := gb) (s := (List.replicate l0_0.length 0, true)) HB3.out BK3.out HR7.out List.length_replicate)
  go_loopg [6] k (fun kq v6 w' => ∃ (ga : Nat) (xs : List Int) (b : Bool), v6 = .pointer (some ⟨ga, 0, none⟩) ∧ Aside0 (ptT l0_1 l0_0.length kq (xs, b) = some m) ∧ Aside0 (PtI w gb w6.heap.size ga (.slice A0_0 l0_0.length c0_0) (.slice A0_1 l0_1.length c0_1) (.slice Am l0_0.length cm) l0_0.length (xs, b) w'))
  case atStart => exact ⟨_, _, _, rfl, HM, HI0⟩
  case round =>
   clear HI0 HM HB3 BK3 HR7
   obtain ⟨gm, hgm⟩ : ∃ gm, gm = w6.heap.size := ⟨_, rfl⟩
   obtain ⟨ga, xs, b, rfl, HM, HI⟩ := hrel
   have hca : wr.cell? ⟨ga, 0, none⟩ = some (.bool b) := (blk_cell HI.out.gagain 0).trans rfl
   have hfa : wr.frozen? ⟨ga, 0, none⟩ = false := blk_frozen HI.out.gagain 0
   cases gk with
   | zero => exact absurd HM.out (by simp [ptT])
   | succ k1 =>
   cases b with
   | false =>
    have hxs : xs = m := by have h := HM.out; rw [ptT, if_neg (by simp)] at h; injection h
    subst hxs
    clear HM
    go_wp2_with ((with_reducible refine gate_dst (N := 69) rfl ?_); refine Kd.R_make (Kd.int .i64) _ 3 rfl (N := 69) rfl 24 _ _ rfl (l0_0.length : Int) rfl rfl Try.underlying24 (.int .i64 0) 8 info_int rfl (by decide) (by omega) 0 (ok := fun _ => True) (okp := fun _ => True) rfl (fun _ hk => hk) trivial (by omega) (by have := HALL.out.1; omega) (Below.refl _ _) (Nat.le_refl _) ?_; intro vo w7 ho7 hb hg_ hnew_; clear hg_ hnew_; rw [Int.toNat_natCast] at ho7; have HO5 := Aside0.mk (Kd.R_lower ho7 HI.out.below.size); have HO6 := Aside0.mk (Kd.R_elder' HI.out.row (Kd.R_base ho7) hb); have BK7 := Aside0.mk (blk_below HI.out.box hb); have BM7 := Aside0.mk (blk_below HI.out.gmost hb); have HB7 := Aside0.mk (below_step HI.out.below hb); clear ho7 hb hca hfa HI; obtain ⟨Ao, co, eo⟩ := Kd.R_slice HO5.out; rw [List.length_replicate] at eo; subst eo; have hcz0 : w7.cell? ⟨gb, 0, none⟩ = some (.slice A0_0 l0_0.length c0_0) := (blk_cell BK7.out 0).trans rfl; have hfz0 := blk_frozen BK7.out 0)
    clear hcz0 hfz0 BK7
    go_loopg [73] l0_0.length (fun kq v73 w' => ∃ (i : Nat) (iz : Int), v73 = .int .i64 iz ∧ Aside0 (iz = (i : Int)) ∧ Aside0 (i + kq = l0_0.length) ∧ Aside0 (Kd.R (Kd.int .i64) 3 w' w.heap.size (fun k_ => True ∧ some k_ ≠ (Value.slice Ao l0_0.length co).ownBlock) (.slice Am l0_0.length cm) xs) ∧ Aside0 (Kd.R (Kd.int .i64) 3 w' w.heap.size (fun _ => True) (.slice Ao l0_0.length co) (ptOut l0_0 xs i)) ∧ Aside0 (w'.heap[w6.heap.size]? = some (.cells #[.slice Am l0_0.length cm] 24 (0, 0))) ∧ Aside0 (Below w.heap.size w w'))
    case atStart => exact ⟨0, 0, rfl, ⟨rfl⟩, ⟨by omega⟩, HO6, HO5, BM7, HB7⟩
    case round =>
     clear HO6 HO5 BM7 HB7
     obtain ⟨i, iz, rfl, NI, NK, HO6, HO5, BM7, HB7⟩ := hrel
     cases gk with
     | zero =>
      have hi : i = l0_0.length := by have := NK.out; omega
      subst hi
      have q1 : decide (iz < (l0_0.length : Int)) = false := decide_eq_false (by have := NI.out; omega)
      go_wp2
      go_ret2
      exact ⟨_, rfl, HO5.out, HB7.out⟩
     | succ d =>
      have hi0 : 0 ≤ iz := by have := NI.out; omega
      have hin : iz < (l0_0.length : Int) := by have := NI.out; have := NK.out; omega
      have q1 : decide (iz < (l0_0.length : Int)) = true := decide_eq_true hin
      have hl6 : xs.length = l0_0.length := (Kd.R_reads' HO6.out).1.symm
      obtain ⟨ad0, e0, hx0⟩ := Kd.at_int (Kd.C_below HR0.out HB7.out) iz hi0 hin
      cases e0
      obtain ⟨g6, cap6, ev, _, _, _⟩ := Kd.R_form HO6.out (by omega)
      injection ev with ea en ec
      subst ea
      clear en ec
      obtain ⟨go5, co5, eo5, gb5, gl5, cl5, HG5⟩ := Kd.R_form HO5.out (by rw [ptOut_length]; omega)
      injection eo5 with ea en ec
      subst ea
      clear en ec
      have BN5 := Aside0.mk (blk_ne BM7.out HG5 (by decide))
      have GB5 := Aside0.mk gb5
      clear gb5 gl5 HG5
      have hkb : 0 ≤ rd l0_0 iz ∧ rd l0_0 iz < (l0_0.length : Int) := by
       have hm : rd l0_0 iz ∈ l0_0 := by
        have hlt : i < l0_0.length := by have := NK.out; omega
        rw [NI.out]
        unfold rd
        rw [Int.toNat_natCast, List.getD_eq_getElem?_getD, List.getElem?_eq_getElem hlt]
        exact List.getElem_mem _
       exact of_decide_eq_true (List.all_eq_true.1 HALL.out.2.2 _ hm)
      obtain ⟨kk, hkk⟩ : ∃ kk, kk = rd l0_0 iz := ⟨_, rfl⟩
      rw [← hkk] at hx0 hkb
      obtain ⟨hk0, hk1⟩ := hkb
      have hcx : wr.cell? ⟨g6, iz.toNat, none⟩ = some (.int .i64 (rd xs iz)) := (Kd.R_celln 0 HO6.out iz hi0 hin).1
      obtain ⟨x, hx⟩ : ∃ x, x = rd xs iz := ⟨_, rfl⟩
      rw [← hx] at hcx
      obtain ⟨hx50, hf50⟩ := Kd.R_celln 0 HO5.out kk hk0 hk1
      have HP := Aside0.mk (Kd.R_putg HO5.out kk x)
      have NY := Aside0.mk (show (ptOut l0_0 xs i).set kk.toNat x = ptOut l0_0 xs (i + 1) by rw [hkk, hx, NI.out]; rfl)
      clear hkk hx
      have hcm : wr.cell? ⟨w6.heap.size, 0, none⟩ = some (.slice (some ⟨g6, 0, none⟩) l0_0.length cm) := (blk_cell BM7.out 0).trans rfl
      replace hi0 := eq_true hi0
      replace hin := eq_true hin
      replace hk0 := eq_true hk0
      replace hk1 := eq_true hk1
      go_wp2_with (first | ((with_reducible refine gate_store (t := 3) (p := 84) rfl ?_); refine store_event (t := 3) (p := 84) (v := ?vo_w21) (w1 := (wr.setCell ⟨go5, kk.toNat, none⟩ (.int .i64 x))) ?hg ?ho ?hn ?hr ?_; (case ho => rfl); (case hg => rfl); (case hn => rfl); (case hr => exact qfba_); intro w21 hw; have hg : wr.grownBy w21 (some go5) := (by rw [hw]; exact HP.out.2); have hp_ : Kd.R (Kd.int .i64) 3 w21 w.heap.size (fun _ => True) (.slice (some ⟨go5, 0, none⟩) l0_0.length co) (ptOut l0_0 xs (i + 1)) := (by rw [hw, ← NY.out]; exact HP.out.1); have n0_ := Aside0.mk hp_; have n1_ := Aside0.mk (Kd.R_after (v := (.slice (some ⟨go5, 0, none⟩) l0_0.length co)) (v1 := (.slice (some ⟨go5, 0, none⟩) l0_0.length co)) (ok := (fun _ => True)) HO6.out hg (.inl rfl)); have n2_ := Aside0.mk ((by rw [hw]; exact below_set (HB7.out) GB5.out : Below w.heap.size w w21)); have n3_ := Aside0.mk ((by rw [hw]; exact blk_far BM7.out (p := ⟨go5, kk.toNat, none⟩) BN5.out _ : w21.heap[w6.heap.size]? = some (.cells #[.slice (some ⟨g6, 0, none⟩) l0_0.length cm] 24 (0, 0)))); replace HO5 := n0_; replace HO6 := n1_; replace HB7 := n2_; replace BM7 := n3_; clear n0_ n1_ n2_ n3_; clear hg hw hp_))
      go_roundg d
      case measure => omega
      case rel => exact ⟨i + 1, _, rfl, ⟨by rw [NI.out]; have := NK.out; have := HALL.out.1; rw [wrap64_in _ (by omega) (by omega)]; omega⟩, ⟨by have := NK.out; omega⟩, HO6, HO5, BM7, HB7⟩
   | true =>
    have HM1 := Aside0.mk (show ptT l0_1 l0_0.length k1 (ptP l0_1 (l0_0.length - 1) 1 (xs, false)) = some m from by have h := HM.out; rw [ptT, if_pos rfl] at h; exact h)
    clear HM
    obtain ⟨sE, hsE⟩ : ∃ sE, sE = ptP l0_1 (l0_0.length - 1) 1 (xs, false) := ⟨_, rfl⟩
    rw [← hsE] at HM1
    have HSE := Aside0.mk hsE
    clear hsE
    go_wp2
    have HI1 := Aside0.mk (PtI_put HI.out false)
    clear HI hca hfa
    go_loopg [8] (l0_0.length - 1) (fun kq v8 w' => ∃ (p : Nat) (pz : Int) (s : List Int × Bool), v8 = .int .i64 pz ∧ Aside0 (pz = (p : Int)) ∧ Aside0 (1 ≤ p ∧ kq = l0_0.length - p) ∧ Aside0 (ptP l0_1 kq p s = sE) ∧ Aside0 (PtI w gb w6.heap.size ga (.slice A0_0 l0_0.length c0_0) (.slice A0_1 l0_1.length c0_1) (.slice Am l0_0.length cm) l0_0.length s w'))
    case atStart => exact ⟨1, 1, (xs, false), rfl, ⟨rfl⟩, ⟨Nat.le_refl _, rfl⟩, ⟨HSE.out.symm⟩, HI1⟩
    case round =>
     clear HI1 HSE
     obtain ⟨p, pz, s, rfl, NP, NK, HPS, HI⟩ := hrel
     cases gk with
     | zero =>
      have hq1 : decide (pz < (l0_0.length : Int)) = false := decide_eq_false (by have := NP.out; have := NK.out; omega)
      have e0 := Aside0.mk (show s = sE from HPS.out)
      have hca : wr.cell? ⟨ga, 0, none⟩ = some (.bool s.2) := (blk_cell HI.out.gagain 0).trans rfl
      go_wp2
      go_roundg k1
      case measure => omega
      case rel => exact ⟨_, s.1, s.2, rfl, ⟨by rw [← HM1.out, ← e0.out]⟩, ⟨PtI_next HI.out⟩⟩
     | succ d =>
      have hpn : p < l0_0.length := by have := NK.out; omega
      have HPN := Aside0.mk hpn
      clear hpn
      have hq1 : decide (pz < (l0_0.length : Int)) = true := decide_eq_true (by have := NP.out; have := HPN.out; omega)
      obtain ⟨g, cap, ev, _, _, _⟩ := Kd.R_form HI.out.row (by rw [HI.out.len]; have := HPN.out; omega)
      injection ev with ea en ec
      subst ea
      clear en ec
      obtain ⟨z1, hz1⟩ : ∃ z1 : Int, z1 = ((p - 1 : Nat) : Int) := ⟨_, rfl⟩
      have hw1 : wrap64 (pz - 1) = z1 := by have := NP.out; have := NK.out; have := HPN.out; have := HALL.out.1; rw [wrap64_in _ (by omega) (by omega)]; omega
      have hz0 : 0 ≤ z1 := by omega
      have hzn : z1 < (l0_0.length : Int) := by have := HPN.out; omega
      have hcx : wr.cell? ⟨g, z1.toNat, none⟩ = some (.int .i64 (rd s.1 z1)) := (Kd.R_celln 0 HI.out.row z1 hz0 hzn).1
      obtain ⟨x1, hx1⟩ : ∃ x1, x1 = rd s.1 z1 := ⟨_, rfl⟩
      rw [← hx1] at hcx
      have NX := Aside0.mk (show x1 = rd s.1 ((p - 1 : Nat) : Int) by rw [hx1, hz1])
      clear hx1 hz1
      replace hz0 := eq_true hz0
      replace hzn := eq_true hzn
      have hcm : wr.cell? ⟨w6.heap.size, 0, none⟩ = some (.slice (some ⟨g, 0, none⟩) l0_0.length cm) := (blk_cell HI.out.gmost 0).trans rfl
      have HC := Aside0.mk (least_inv w wr gb w6.heap.size ga l0_0.length _ _ _ s p (wrap64 (x1 - 1)) HI.out HPN.out)
      rw [← NP.out] at HC
      go_wp2_with (go_at_call 29; refine HC.out.mono ?_; rintro e w9 ⟨rfl, hI⟩; have HI9 := Aside0.mk hI; clear hI)
      obtain ⟨s3, hs3⟩ : ∃ s3, s3 = least p (wrap64 (x1 - 1)) s := ⟨_, rfl⟩
      rw [← hs3] at HI9
      have HPS1 := Aside0.mk (show ptP l0_1 d (p + 1) (ptQ l0_1 p p 0 s3) = sE from by have h := HPS.out; rw [ptP, ← NX.out, ← hs3] at h; exact h)
      obtain ⟨s4, hs4⟩ : ∃ s4, s4 = ptQ l0_1 p p 0 s3 := ⟨_, rfl⟩
      rw [← hs4] at HPS1
      have HS4 := Aside0.mk hs4
      clear hs3 hs4 hcx hcm hz0 hzn hw1 HC HI HPS NX hq1
      go_loopg [38] p (fun kq v38 w' => ∃ (q : Nat) (qz : Int) (s2 : List Int × Bool), v38 = .int .i64 qz ∧ Aside0 (qz = (q : Int)) ∧ Aside0 (q + kq = p) ∧ Aside0 (ptQ l0_1 p kq q s2 = s4) ∧ Aside0 (PtI w gb w6.heap.size ga (.slice A0_0 l0_0.length c0_0) (.slice A0_1 l0_1.length c0_1) (.slice (some ⟨g, 0, none⟩) l0_0.length cm) l0_0.length s2 w'))
      case atStart => exact ⟨0, 0, s3, rfl, ⟨rfl⟩, ⟨by omega⟩, ⟨HS4.out.symm⟩, HI9⟩
      case round =>
       clear HI9 HS4
       obtain ⟨q, qz, s2, rfl, NQ, NQK, HQS, HI⟩ := hrel
       cases gk with
       | zero =>
        have hq1 : decide (qz < pz) = false := decide_eq_false (by have := NP.out; have := NQ.out; have := NQK.out; omega)
        have e0 := Aside0.mk (show s2 = s4 from HQS.out)
        go_wp2
        go_roundg d
        case measure => omega
        case rel => exact ⟨p + 1, _, s4, rfl, ⟨by rw [NP.out]; have := HPN.out; have := HALL.out.1; rw [wrap64_in _ (by omega) (by omega)]; omega⟩, ⟨by omega, by have := NK.out; omega⟩, HPS1, ⟨by rw [← e0.out]; exact HI.out⟩⟩
       | succ dq =>
        have hq1 : decide (qz < pz) = true := decide_eq_true (by have := NP.out; have := NQ.out; have := NQK.out; omega)
        have hcz1 : wr.cell? ⟨gb, 1, none⟩ = some (.slice A0_1 l0_1.length c0_1) := (blk_cell HI.out.box 1).trans rfl
        have hp0 : 0 ≤ pz := by have := NP.out; omega
        have hpn : pz < (l0_0.length : Int) := by have := NP.out; have := HPN.out; omega
        have hpf : pz < (l0_1.length : Int) := by have := HALL.out.2.1; omega
        have hq0 : 0 ≤ qz := by have := NQ.out; omega
        have hqn : qz < (l0_0.length : Int) := by have := NQ.out; have := NQK.out; have := HPN.out; omega
        obtain ⟨ad, e6, hxf⟩ := Kd.at_int (Kd.C_below HR1.out HI.out.below) pz hp0 hpf
        cases e6
        have hcp : wr.cell? ⟨g, pz.toNat, none⟩ = some (.int .i64 (rd s2.1 pz)) := (Kd.R_celln 0 HI.out.row pz hp0 hpn).1
        have hcq : wr.cell? ⟨g, qz.toNat, none⟩ = some (.int .i64 (rd s2.1 qz)) := (Kd.R_celln 0 HI.out.row qz hq0 hqn).1
        obtain ⟨fp, hfp⟩ : ∃ fp, fp = rd l0_1 pz := ⟨_, rfl⟩
        obtain ⟨mp, hmp⟩ : ∃ mp, mp = rd s2.1 pz := ⟨_, rfl⟩
        obtain ⟨mq, hmq⟩ : ∃ mq, mq = rd s2.1 qz := ⟨_, rfl⟩
        rw [← hfp] at hxf
        rw [← hmp] at hcp
        rw [← hmq] at hcq
        have NM := Aside0.mk (show fp = rd l0_1 (p : Int) ∧ mp = rd s2.1 (p : Int) ∧ mq = rd s2.1 (q : Int) from ⟨by rw [hfp, NP.out], by rw [hmp, NP.out], by rw [hmq, NQ.out]⟩)
        clear hfp hmp hmq
        replace hp0 := eq_true hp0
        replace hpn := eq_true hpn
        replace hpf := eq_true hpf
        replace hq0 := eq_true hq0
        replace hqn := eq_true hqn
        have hcm : wr.cell? ⟨w6.heap.size, 0, none⟩ = some (.slice (some ⟨g, 0, none⟩) l0_0.length cm) := (blk_cell HI.out.gmost 0).trans rfl
        by_cases hc : qz < fp
        ·
         have hqc : decide (qz < fp) = true := decide_eq_true hc
         have HQ1 := Aside0.mk (show ptQ l0_1 p dq (q + 1) (least p (wrap64 (wrap64 (mq - 100) - 1)) s2) = s4 from by have h := HQS.out; rw [ptQ, ← NM.out.1, ← NM.out.2.2, ← NQ.out, if_pos hc] at h; exact h)
         clear hc HQS
         have HC := Aside0.mk (least_inv w wr gb w6.heap.size ga l0_0.length _ _ _ s2 p (wrap64 (wrap64 (mq - 100) - 1)) HI.out HPN.out)
         rw [← NP.out] at HC
         go_wp2_with (go_at_call 29; refine HC.out.mono ?_; rintro e w9 ⟨rfl, hI⟩; have HI9 := Aside0.mk hI; clear hI)
         go_roundg dq
         case measure => omega
         case rel => exact ⟨q + 1, _, _, rfl, ⟨by rw [NQ.out]; have := NQK.out; have := HPN.out; have := HALL.out.1; rw [wrap64_in _ (by omega) (by omega)]; omega⟩, ⟨by have := NQK.out; omega⟩, HQ1, HI9⟩
        ·
         have hqc : decide (qz < fp) = false := decide_eq_false hc
         have HQ1 := Aside0.mk (show ptQ l0_1 p dq (q + 1) (least q (wrap64 (wrap64 (mp + 100) - 1)) s2) = s4 from by have h := HQS.out; rw [ptQ, ← NM.out.1, ← NM.out.2.1, ← NQ.out, if_neg hc] at h; exact h)
         clear hc HQS
         have HC := Aside0.mk (least_inv w wr gb w6.heap.size ga l0_0.length _ _ _ s2 q (wrap64 (wrap64 (mp + 100) - 1)) HI.out (by have := NQK.out; have := HPN.out; omega))
         rw [← NQ.out] at HC
         go_wp2_with (go_at_call 29; refine HC.out.mono ?_; rintro e w9 ⟨rfl, hI⟩; have HI9 := Aside0.mk hI; clear hI)
         go_roundg dq
         case measure => omega
         case rel => exact ⟨q + 1, _, _, rfl, ⟨by rw [NQ.out]; have := NQK.out; have := HPN.out; have := HALL.out.1; rw [wrap64_in _ (by omega) (by omega)]; omega⟩, ⟨by have := NQK.out; omega⟩, HQ1, HI9⟩

/-! ### slices_Index_int_int: function 63 -/
def slices_Index_int_int.l0 : Nat → List Int → Int → Int → Int → Option (Int)
 | 0, _, _, _, _ => none
 | k + 1, x0, x1, x7, x8 => if x8 < x7 then (if 0 ≤ x8 then (if x8 < (x0.length : Int) then (if x1 = (rd x0 x8) then (some x8) else (slices_Index_int_int.l0 k x0 x1 x7 (wrap64 (x8 + 1)))) else (none)) else (none)) else (some (-1))
def slices_Index_int_int.f (k : Nat) (l0 : List Int) (a1 : Int) : Option (Int) := slices_Index_int_int.l0 k l0 a1 (l0.length : Int) 0
theorem slices_Index_int_int.mono_l : ∀ k, (∀ y0 y1 y2 y3, LeO (slices_Index_int_int.l0 k y0 y1 y2 y3) (slices_Index_int_int.l0 (k + 1) y0 y1 y2 y3))
 | 0 => fun _ _ _ _ r h => by simp [slices_Index_int_int.l0] at h
 | k + 1 => by
  have ih0 := slices_Index_int_int.mono_l k
  ·
   intro y0 y1 y2 y3
   unfold slices_Index_int_int.l0
   repeat' (with_reducible first | exact ih0 _ _ _ _ | exact LeO.refl _ | exact LeO.none _ | refine LeO.ite ?_ ?_ | refine LeO.bind ?_ (fun _ => ?_))
theorem slices_Index_int_int.mono : ∀ a0 a1 k, LeO (slices_Index_int_int.f k a0 a1) (slices_Index_int_int.f (k + 1) a0 a1) := by
 intro a0 a1 k
 have ih0 := slices_Index_int_int.mono_l k
 unfold slices_Index_int_int.f
 repeat' (with_reducible first | exact ih0 _ _ _ _ | exact LeO.refl _ | exact LeO.none _ | refine LeO.ite ?_ ?_ | refine LeO.bind ?_ (fun _ => ?_))
theorem slices_Index_int_int.calls (k : Nat) (A0 : Option Addr) (c0 : Nat) (l0 : List Int) (a1 : Int) (r : Int) (w : World) (hr0 : Kd.C (Kd.int .i64) w A0 l0.length l0) (hc0 : l0.length ≤ c0) (h : slices_Index_int_int.f k l0 a1 = some r) :
  Calls Try.prog 63 #[.slice A0 l0.length c0, .int .i64 a1] w fun e w' => e = .returned (.int .i64 r) ∧ Drawn0 w w' := by
 have HR0 := Aside0.mk hr0
 have HC0 := Aside0.mk hc0
 clear hr0 hc0
 unfold slices_Index_int_int.f at h
 have H := h; clear h
 have H' := Aside0.mk H
 clear H
 go_enter Try.func63, Try.ntmps63
 go_wp2
 go_loopg [8] k (fun kq v8 w' => ∃ (x8_1 : Int), v8 = .int .i64 x8_1 ∧ Aside0 (slices_Index_int_int.l0 kq l0 a1 (l0.length : Int) x8_1 = some r) ∧ Aside0 (kq ≤ k) ∧ Drawn0 w w')
 case atStart => exact ⟨(0), qc8f_, H', ⟨Nat.le_refl _⟩, qffa_⟩
 case round =>
  clear H'; try clear p2
  obtain ⟨x8_1, rfl, HA, HK1, ⟨m1, rfl⟩⟩ := hrel
  cases gk with
  | zero => exact absurd HA.out (by simp [slices_Index_int_int.l0])
  | succ k1 =>
   have H := HA.out
   clear HA
   simp only [slices_Index_int_int.l0] at H
   by_cases c3 : x8_1 < (l0.length : Int)
   ·
    rw [if_pos c3] at H
    have c3b0 := decide_eq_true c3
    clear c3
    by_cases c4 : 0 ≤ x8_1
    ·
     rw [if_pos c4] at H
     have c4b0 := decide_eq_true c4
     clear c4
     by_cases c5 : x8_1 < (l0.length : Int)
     ·
      rw [if_pos c5] at H
      have c5b0 := decide_eq_true c5
      clear c5
      by_cases c6 : a1 = (rd l0 x8_1)
      ·
       rw [if_pos c6] at H
       have c6b0 := beq_iff_eq.mpr c6
       have c6b1 := bne_eq_false_iff_eq.mpr c6
       clear c6
       obtain rfl := Option.some.inj H
       have p349 : 0 ≤ (x8_1 : Int) := of_decide_eq_true qe84_
       have q349 : x8_1 < (l0.length : Int) := of_decide_eq_true qe84_
       obtain ⟨ad349, e349, hx349_0⟩ := Kd.at_int HR0.out x8_1 p349 q349
       cases e349
       replace p349 := eq_true p349
       replace q349 := eq_true q349
       go_wp2
       go_ret
       exact ⟨qc8f_, qffa_⟩
      ·
       rw [if_neg c6] at H
       have c6b0 := beq_eq_false_iff_ne.mpr c6
       have c6b1 := bne_iff_ne.mpr c6
       have H' := Aside0.mk H
       clear H
       have p349 : 0 ≤ (x8_1 : Int) := of_decide_eq_true qe84_
       have q349 : x8_1 < (l0.length : Int) := of_decide_eq_true qe84_
       obtain ⟨ad349, e349, hx349_0⟩ := Kd.at_int HR0.out x8_1 p349 q349
       cases e349
       replace p349 := eq_true p349
       replace q349 := eq_true q349
       go_wp2
       go_roundg k1
       case measure => have := HK1.out; omega
       case rel => exact ⟨(wrap64 (x8_1 + 1)), qc8f_, H', ⟨by have := HK1.out; omega⟩, qffa_⟩
     ·
      rw [if_neg c5] at H
      exact absurd H (by simp)
    ·
     rw [if_neg c4] at H
     exact absurd H (by simp)
   ·
    rw [if_neg c3] at H
    have c3b0 := decide_eq_false c3
    clear c3
    obtain rfl := Option.some.inj H
    go_wp2
    go_ret
    exact ⟨qc8f_, qffa_⟩

/-! ### slices_Contains_int_int: function 46 -/
def slices_Contains_int_int.f (k : Nat) (l0 : List Int) (a1 : Int) : Option (Bool) := (slices_Index_int_int.f k l0 a1).bind fun t350 => (some (decide (t350 ≥ 0)))
theorem slices_Contains_int_int.mono : ∀ a0 a1 k, LeO (slices_Contains_int_int.f k a0 a1) (slices_Contains_int_int.f (k + 1) a0 a1) := by
 intro a0 a1 k
 unfold slices_Contains_int_int.f
 repeat' (with_reducible first | exact slices_Index_int_int.mono _ _ _ | exact LeO.refl _ | exact LeO.none _ | refine LeO.ite ?_ ?_ | refine LeO.bind ?_ (fun _ => ?_))
theorem slices_Contains_int_int.calls (k : Nat) (A0 : Option Addr) (c0 : Nat) (l0 : List Int) (a1 : Int) (r : Bool) (w : World) (hr0 : Kd.C (Kd.int .i64) w A0 l0.length l0) (hc0 : l0.length ≤ c0) (h : slices_Contains_int_int.f k l0 a1 = some r) :
  Calls Try.prog 46 #[.slice A0 l0.length c0, .int .i64 a1] w fun e w' => e = .returned (.bool r) ∧ Drawn0 w w' := by
 have HR0 := Aside0.mk hr0
 have HC0 := Aside0.mk hc0
 clear hr0 hc0
 unfold slices_Contains_int_int.f at h
 have H := h; clear h
 obtain ⟨t350, A3, H⟩ := ob_ H
 obtain rfl := Option.some.inj H
 go_enter Try.func46, Try.ntmps46
 go_wp2_with (first | ((with_reducible refine gate_callee (f := 63) rfl ?_); refine gl_ 7 Try.func63 #[.slice A0 l0.length c0, .int .i64 a1] ?_; (with_reducible refine (slices_Index_int_int.calls k _ _ l0 a1 t350 _ ?s1 ?s2 A3.out).mono ?_); (case s1 => exact q201_ HR0.out); (case s2 => exact HC0.out); rintro e w' ⟨rfl, ⟨nd, rfl⟩⟩; refine ⟨_, rfl, ?_⟩))
 go_ret
 exact ⟨qc8f_, qffa_⟩

/-! ### impl_regionOf: function 31 -/
mutual
def impl_regionOf.j0 : Nat → List Int → Int → Int → List Int → List Int → Option (List Int × List Int × Bool)
 | 0, _, _, _, _, _ => none
 | k + 1, x0, x6, x7, x176000, x176001 => impl_regionOf.l0 k x0 x6 x7 x0 (x0.length : Int) 0 x176000 x176001
def impl_regionOf.l0 : Nat → List Int → Int → Int → List Int → Int → Int → List Int → List Int → Option (List Int × List Int × Bool)
 | 0, _, _, _, _, _, _, _, _ => none
 | k + 1, x0, x6, x7, x30, x31, x32, x176000, x176001 => if x32 < x31 then (if 0 ≤ x32 then (if x32 < (x30.length : Int) then ((slices_Contains_int_int.f k x176000 x32).bind fun t179 => (if t179 = true then (impl_regionOf.l0 k x0 x6 x7 x30 x31 (wrap64 (x32 + 1)) x176000 x176001) else (impl_regionOf.l1 k x0 x6 x7 x32 (rd x30 x32) x7 x30 x31 x32 x176000 x176001))) else (none)) else (none)) else (some (([] : List Int), ([] : List Int), false))
def impl_regionOf.j3 : Nat → List Int → Int → Int → Int → Int → Int → List Int → Int → Int → List Int → List Int → Option (List Int × List Int × Bool)
 | 0, _, _, _, _, _, _, _, _, _, _, _ => none
 | k + 1, x0, x6, x7, x8, x9, x10, x30, x31, x32, x176000, x176001 => (impl_labelAt.f x176000 x10 x8).bind fun t181 => (if t181 = x9 then ((slices_Clone_int_int.f x176000).bind fun t182 => ((some (([x8] : List Int) : List Int)).bind fun y185 => (if t182.length + y185.length < 17592186044416 then ((slices_Clone_int_int.f x176001).bind fun t191 => ((some (([x10] : List Int) : List Int)).bind fun y194 => (if t191.length + y194.length < 17592186044416 then ((impl_regionOf.f k x0 (t182 ++ y185) (t191 ++ y194)).bind fun bt201 => (if bt201.2.2 = true then (some (bt201.1, bt201.2.1, true)) else (impl_regionOf.l0 k x0 x6 x7 x30 x31 (wrap64 (x32 + 1)) x176000 x176001))) else (none)))) else (none)))) else (impl_regionOf.l0 k x0 x6 x7 x30 x31 (wrap64 (x32 + 1)) x176000 x176001))
def impl_regionOf.l1 : Nat → List Int → Int → Int → Int → Int → Int → List Int → Int → Int → List Int → List Int → Option (List Int × List Int × Bool)
 | 0, _, _, _, _, _, _, _, _, _, _, _ => none
 | k + 1, x0, x6, x7, x8, x9, x10, x30, x31, x32, x176000, x176001 => if x10 < x6 then ((impl_labelAt.f x176000 x10 x8).bind fun t180 => (if t180 < x9 then (impl_regionOf.l1 k x0 x6 x7 x8 x9 (wrap64 (x10 + 1)) x30 x31 x32 x176000 x176001) else (impl_regionOf.j3 k x0 x6 x7 x8 x9 x10 x30 x31 x32 x176000 x176001))) else (impl_regionOf.j3 k x0 x6 x7 x8 x9 x10 x30 x31 x32 x176000 x176001)
def impl_regionOf.f : Nat → List Int → List Int → List Int → Option (List Int × List Int × Bool)
 | 0, _, _, _ => none
 | k + 1, l0, l1_0, l1_1 => if (l1_0.length : Int) = (l0.length : Int) then (some (l1_0, l1_1, true)) else (if (l1_0.length : Int) > 0 then (if 0 ≤ (wrap64 ((l1_0.length : Int) - 1)) then (if (wrap64 ((l1_0.length : Int) - 1)) < (l1_1.length : Int) then (impl_regionOf.j0 k l0 (l1_0.length : Int) (rd l1_1 (wrap64 ((l1_0.length : Int) - 1))) l1_0 l1_1) else (none)) else (none)) else (impl_regionOf.j0 k l0 (l1_0.length : Int) 0 l1_0 l1_1))
end
theorem impl_regionOf.mono_l : ∀ k, (∀ y0 y1 y2, LeO (impl_regionOf.f k y0 y1 y2) (impl_regionOf.f (k + 1) y0 y1 y2)) ∧ (∀ y0 y1 y2 y3 y4, LeO (impl_regionOf.j0 k y0 y1 y2 y3 y4) (impl_regionOf.j0 (k + 1) y0 y1 y2 y3 y4)) ∧ (∀ y0 y1 y2 y3 y4 y5 y6 y7, LeO (impl_regionOf.l0 k y0 y1 y2 y3 y4 y5 y6 y7) (impl_regionOf.l0 (k + 1) y0 y1 y2 y3 y4 y5 y6 y7)) ∧ (∀ y0 y1 y2 y3 y4 y5 y6 y7 y8 y9 y10, LeO (impl_regionOf.j3 k y0 y1 y2 y3 y4 y5 y6 y7 y8 y9 y10) (impl_regionOf.j3 (k + 1) y0 y1 y2 y3 y4 y5 y6 y7 y8 y9 y10)) ∧ (∀ y0 y1 y2 y3 y4 y5 y6 y7 y8 y9 y10, LeO (impl_regionOf.l1 k y0 y1 y2 y3 y4 y5 y6 y7 y8 y9 y10) (impl_regionOf.l1 (k + 1) y0 y1 y2 y3 y4 y5 y6 y7 y8 y9 y10))
 | 0 => ⟨fun _ _ _ r h => by simp [impl_regionOf.f] at h, fun _ _ _ _ _ r h => by simp [impl_regionOf.j0] at h, fun _ _ _ _ _ _ _ _ r h => by simp [impl_regionOf.l0] at h, fun _ _ _ _ _ _ _ _ _ _ _ r h => by simp [impl_regionOf.j3] at h, fun _ _ _ _ _ _ _ _ _ _ _ r h => by simp [impl_regionOf.l1] at h⟩
 | k + 1 => by
  obtain ⟨ih0, ih1, ih2, ih3, ih4⟩ := impl_regionOf.mono_l k
  refine ⟨?_, ?_, ?_, ?_, ?_⟩
  ·
   intro y0 y1 y2
   unfold impl_regionOf.f
   repeat' (with_reducible first | exact ih0 _ _ _ | exact ih1 _ _ _ _ _ | exact ih2 _ _ _ _ _ _ _ _ | exact ih3 _ _ _ _ _ _ _ _ _ _ _ | exact ih4 _ _ _ _ _ _ _ _ _ _ _ | exact slices_Contains_int_int.mono _ _ _ | exact LeO.refl _ | exact LeO.none _ | refine LeO.ite ?_ ?_ | refine LeO.bind ?_ (fun _ => ?_))
  ·
   intro y0 y1 y2 y3 y4
   unfold impl_regionOf.j0
   repeat' (with_reducible first | exact ih0 _ _ _ | exact ih1 _ _ _ _ _ | exact ih2 _ _ _ _ _ _ _ _ | exact ih3 _ _ _ _ _ _ _ _ _ _ _ | exact ih4 _ _ _ _ _ _ _ _ _ _ _ | exact slices_Contains_int_int.mono _ _ _ | exact LeO.refl _ | exact LeO.none _ | refine LeO.ite ?_ ?_ | refine LeO.bind ?_ (fun _ => ?_))
  ·
   intro y0 y1 y2 y3 y4 y5 y6 y7
   unfold impl_regionOf.l0
   repeat' (with_reducible first | exact ih0 _ _ _ | exact ih1 _ _ _ _ _ | exact ih2 _ _ _ _ _ _ _ _ | exact ih3 _ _ _ _ _ _ _ _ _ _ _ | exact ih4 _ _ _ _ _ _ _ _ _ _ _ | exact slices_Contains_int_int.mono _ _ _ | exact LeO.refl _ | exact LeO.none _ | refine LeO.ite ?_ ?_ | refine LeO.bind ?_ (fun _ => ?_))
  ·
   intro y0 y1 y2 y3 y4 y5 y6 y7 y8 y9 y10
   unfold impl_regionOf.j3
   repeat' (with_reducible first | exact ih0 _ _ _ | exact ih1 _ _ _ _ _ | exact ih2 _ _ _ _ _ _ _ _ | exact ih3 _ _ _ _ _ _ _ _ _ _ _ | exact ih4 _ _ _ _ _ _ _ _ _ _ _ | exact slices_Contains_int_int.mono _ _ _ | exact LeO.refl _ | exact LeO.none _ | refine LeO.ite ?_ ?_ | refine LeO.bind ?_ (fun _ => ?_))
  ·
   intro y0 y1 y2 y3 y4 y5 y6 y7 y8 y9 y10
   unfold impl_regionOf.l1
   repeat' (with_reducible first | exact ih0 _ _ _ | exact ih1 _ _ _ _ _ | exact ih2 _ _ _ _ _ _ _ _ | exact ih3 _ _ _ _ _ _ _ _ _ _ _ | exact ih4 _ _ _ _ _ _ _ _ _ _ _ | exact slices_Contains_int_int.mono _ _ _ | exact LeO.refl _ | exact LeO.none _ | refine LeO.ite ?_ ?_ | refine LeO.bind ?_ (fun _ => ?_))
theorem impl_regionOf.mono : ∀ a0 a1 a2 k, LeO (impl_regionOf.f k a0 a1 a2) (impl_regionOf.f (k + 1) a0 a1 a2) := by
 intro a0 a1 a2 k
 obtain ⟨ih0, ih1, ih2, ih3, ih4⟩ := impl_regionOf.mono_l k
 exact ih0 a0 a1 a2
def impl_regionOf.T15 : Bool × List (List Nat × List Nat) := (true, [([], []), ([0], [0]), ([1], [1]), ([], []), ([3], [3]), ([2, 4, 2], [2, 4]), ([], []), ([6], [6]), ([7, 5], [7]), ([], []), ([9], [9]), ([8, 10, 8], [8, 10]), ([5, 11], [5, 11]), ([], []), ([13, 12, 11, 0, 1, 2, 3, 4, 5, 6, 7, 8, 9, 10, 11, 12, 13], [12, 13])])
def impl_regionOf.B15 : List Nat := [0, 1, 3, 0, 8, 31, 0, 64, 255, 0, 512, 2047, 4095, 0, 16383]
theorem impl_regionOf.tab15 : rtab .any (opsOf Try.f31 15) = impl_regionOf.T15 := by kernel_rfl
theorem impl_regionOf.bits15 : waitsOk impl_regionOf.T15.2 impl_regionOf.B15 = true := by kernel_rfl
theorem impl_regionOf.calls0 (k : Nat) : ∀ (A0 : Option Addr) (c0 : Nat) (l0 : List Int) (B0 : Option Addr) (d0 : Nat) (l1_0 : List Int) (B1 : Option Addr) (d1 : Nat) (l1_1 r1 r2 : List Int) (r3 : Bool) (w : World) (hr0 : Kd.C (Kd.int .i64) w A0 l0.length l0) (hc0 : l0.length ≤ c0) (hr1 : Kd.C (Kd.int .i64) w B0 l1_0.length l1_0) (hc1 : l1_0.length ≤ d0) (hr2 : Kd.C (Kd.int .i64) w B1 l1_1.length l1_1) (hc2 : l1_1.length ≤ d1) (h : impl_regionOf.f k l0 l1_0 l1_1 = some (r1, r2, r3)),
  Calls Try.prog 31 #[.slice A0 l0.length c0, .agg #[.slice B0 l1_0.length d0, .slice B1 l1_1.length d1]] w fun e w' => ∃ v0_ v1_ : Value, e = .returned (.tuple #[.agg #[v0_, v1_], .bool r3]) ∧ RgR w w' (.slice B0 l1_0.length d0 : Value) (.slice B1 l1_1.length d1 : Value) l1_0 l1_1 v0_ v1_ r1 r2 := by
 induction k using Nat.strongRecOn with
 | _ k ih =>
 intro A0 c0 l0 B0 d0 l1_0 B1 d1 l1_1 r1 r2 r3 w hr0 hc0 hr1 hc1 hr2 hc2 h
 cases k with
 | zero => exact absurd h (by simp [impl_regionOf.f])
 | succ k =>
 simp only [impl_regionOf.f] at h
 have hu33 := Try.underlying33
 have HR0 := Aside0.mk hr0
 have HC0 := Aside0.mk hc0
 have HR1 := Aside0.mk hr1
 have HC1 := Aside0.mk hc1
 have HR2 := Aside0.mk hr2
 have HC2 := Aside0.mk hc2
 clear hr0 hc0 hr1 hc1 hr2 hc2; have H := h; clear h
 by_cases c3 : (l1_0.length : Int) = (l0.length : Int)
 ·
  rw [if_pos c3] at H
  have c3b0 := beq_iff_eq.mpr c3
  have c3b1 := bne_eq_false_iff_eq.mpr c3
  have c3b2 : (l1_0.length == l0.length) = true := by first | simpa using c3 | (simp at c3 ⊢; omega)
  clear c3
  simp only [Option.some.injEq, Prod.mk.injEq] at H
  obtain ⟨rfl, rfl, rfl⟩ := H
  go_enter Try.func31, Try.ntmps31
  go_wp2_with (first | ((with_reducible refine gate_dst (N := 3) rfl ?_); refine box_event ?hg (N := 3) ?hd (cs := #[.slice B0 l1_0.length d0, .slice B1 l1_1.length d1]) (t := 33) ?hr ?_; (case hd => rfl); (case hg => rfl); (case hr => exact qfba_); intro g5 hg w4 hbox hb; have BK5 := Aside0.mk hbox; have HB := Aside0.mk (below_step (Below.refl _ _) hb); have GE5 := Aside0.mk (Nat.le_of_eq hg.symm); clear hb hbox hg) | ((with_reducible refine gate_dst (N := 4) rfl ?_); refine box_event ?hg (N := 4) ?hd (cs := #[.slice none 0 0, .slice none 0 0]) (t := 33) ?hr ?_; (case hd => rfl); (case hg => rfl); (case hr => exact qfba_); intro g6 hg w5 hbox hb; have HG := Aside0.mk (show Rg0 w w5 g5 g6 (.slice B0 l1_0.length d0 : Value) (.slice B1 l1_1.length d1 : Value) from ⟨below_step HB.out hb, blk_below BK5.out hb, hbox, GE5.out, by rw [hg]; exact HB.out.size, by rw [hg]; exact Nat.ne_of_lt (blk_lt BK5.out)⟩); clear hb hbox hg BK5 HB; have hnb := HG.out.ne; have hnc := HG.out.ne.symm; have hcz0 : w5.cell? ⟨g5, 0, none⟩ = some (.slice B0 l1_0.length d0) := (blk_cell HG.out.h5 0).trans rfl; have hcz1 : w5.cell? ⟨g5, 1, none⟩ = some (.slice B1 l1_1.length d1) := (blk_cell HG.out.h5 1).trans rfl; have hfz0 := blk_frozen HG.out.h5 0; have hfz1 := blk_frozen HG.out.h5 1; have hyz0 : w5.cell? ⟨g6, 0, none⟩ = some (.slice none 0 0) := (blk_cell HG.out.h6 0).trans rfl; have hyz1 : w5.cell? ⟨g6, 1, none⟩ = some (.slice none 0 0) := (blk_cell HG.out.h6 1).trans rfl; have hyf0 := blk_frozen HG.out.h6 0; have hyf1 := blk_frozen HG.out.h6 1))
  refine bodyPost_ret (results_ct rfl _ _ g6 33 #[.slice B0 l1_0.length d0, .slice B1 l1_1.length d1] (0, 0) _ rfl (by (with_reducible repeat (first | refine blk_drewN ?_ _ | refine blk_drew ?_ | refine blk_alloc ?_ _)); refine blk_put (cs := #[.slice B0 l1_0.length d0, .slice none 0 0]) ?_ 1 _ rfl; (with_reducible repeat (first | refine blk_drewN ?_ _ | refine blk_drew ?_ | refine blk_alloc ?_ _)); refine blk_put (cs := #[.slice none 0 0, .slice none 0 0]) ?_ 0 _ rfl; (with_reducible repeat (first | refine blk_drewN ?_ _ | refine blk_drew ?_ | refine blk_alloc ?_ _)); exact HG.out.h6) Try.underlying33 rfl (by kernel_rfl)) rfl ?_
  exact ⟨_, _, q6e2_, ⟨by repeat (first | (with_reducible first | exact HG.out.below | apply below_alloc | apply pw_below_drewN | apply below_drew1 | refine below_set ?_ HG.out.ge6 | refine below_set ?_ HG.out.ge5) | exact HG.out.below), .inl ⟨rfl, rfl, rfl, rfl⟩⟩⟩
 ·
  rw [if_neg c3] at H
  have c3b0 := beq_eq_false_iff_ne.mpr c3
  have c3b1 := bne_iff_ne.mpr c3
  have c3b2 : (l1_0.length == l0.length) = false := by first | simpa using c3 | (simp at c3 ⊢; omega)
  clear c3
  have HC11 := Aside0.mk H
  clear H
  go_enter Try.func31, Try.ntmps31
  go_upto_if 23 with (first | ((with_reducible refine gate_dst (N := 3) rfl ?_); refine box_event ?hg (N := 3) ?hd (cs := #[.slice B0 l1_0.length d0, .slice B1 l1_1.length d1]) (t := 33) ?hr ?_; (case hd => rfl); (case hg => rfl); (case hr => exact qfba_); intro g5 hg w4 hbox hb; have BK5 := Aside0.mk hbox; have HB := Aside0.mk (below_step (Below.refl _ _) hb); have GE5 := Aside0.mk (Nat.le_of_eq hg.symm); clear hb hbox hg) | ((with_reducible refine gate_dst (N := 4) rfl ?_); refine box_event ?hg (N := 4) ?hd (cs := #[.slice none 0 0, .slice none 0 0]) (t := 33) ?hr ?_; (case hd => rfl); (case hg => rfl); (case hr => exact qfba_); intro g6 hg w5 hbox hb; have HG := Aside0.mk (show Rg0 w w5 g5 g6 (.slice B0 l1_0.length d0 : Value) (.slice B1 l1_1.length d1 : Value) from ⟨below_step HB.out hb, blk_below BK5.out hb, hbox, GE5.out, by rw [hg]; exact HB.out.size, by rw [hg]; exact Nat.ne_of_lt (blk_lt BK5.out)⟩); clear hb hbox hg BK5 HB; have hnb := HG.out.ne; have hnc := HG.out.ne.symm; have hcz0 : w5.cell? ⟨g5, 0, none⟩ = some (.slice B0 l1_0.length d0) := (blk_cell HG.out.h5 0).trans rfl; have hcz1 : w5.cell? ⟨g5, 1, none⟩ = some (.slice B1 l1_1.length d1) := (blk_cell HG.out.h5 1).trans rfl; have hfz0 := blk_frozen HG.out.h5 0; have hfz1 := blk_frozen HG.out.h5 1))
  (try simp only [Act.put, List.setIfInBounds_toArray, List.set_cons_zero, List.set_cons_succ])
  clear hnb hnc hcz0 hcz1 hfz0 hfz1
  go_cut [7] (fun v7 wc => ∃ (kq : Nat) (x7 : Int), v7 = .int .i64 x7 ∧ Aside0 (impl_regionOf.j0 kq l0 (l1_0.length : Int) x7 l1_0 l1_1 = some (r1, r2, r3)) ∧ Aside0 (kq ≤ k) ∧ Aside0 (Rg0 w wc g5 g6 (.slice B0 l1_0.length d0 : Value) (.slice B1 l1_1.length d1 : Value)))
  case first =>
   have H := HC11.out
   clear HC11
   by_cases c18 : (l1_0.length : Int) > 0
   ·
    rw [if_pos c18] at H
    have c18b0 := decide_eq_true c18
    have c18b1 : decide (0 < l1_0.length) = true := decide_eq_true (by omega)
    clear c18
    (first | rw [c18b1] | rw [c18b0])
    obtain ⟨ji, hji⟩ : ∃ j_ : Int, (wrap64 ((l1_0.length : Int) - 1)) = j_ := ⟨_, rfl⟩
    replace H : (if 0 ≤ ji then (if ji < (l1_1.length : Int) then (impl_regionOf.j0 k l0 (l1_0.length : Int) (rd l1_1 ji) l1_0 l1_1) else (none)) else (none)) = some (r1, r2, r3) := by first | (rw [hji] at H; exact H) | (simp only [hji] at H ⊢; exact H)
    have hjiw : (IntKind.i64.wrap ((l1_0.length : Int) - 1)) = ji := (i64_w _).trans hji
    by_cases c20 : 0 ≤ ji
    ·
     rw [if_pos c20] at H
     by_cases c21 : ji < (l1_1.length : Int)
     ·
      rw [if_pos c21] at H
      have c20b0 := decide_eq_true c20
      have c21b0 := decide_eq_true c21
      have H' := Aside0.mk H
      clear H
      have hnb := HG.out.ne
      have hnc := HG.out.ne.symm
      have hcz0 : w5.cell? ⟨g5, 0, none⟩ = some (.slice B0 l1_0.length d0) := (blk_cell HG.out.h5 0).trans rfl
      have hcz1 : w5.cell? ⟨g5, 1, none⟩ = some (.slice B1 l1_1.length d1) := (blk_cell HG.out.h5 1).trans rfl
      have hfz0 := blk_frozen HG.out.h5 0
      have hfz1 := blk_frozen HG.out.h5 1
      obtain ⟨ad1, e1, hx1⟩ := Kd.at_int (Kd.C_below HR2.out HG.out.below) ji c20 c21
      cases e1
      replace c20 := eq_true c20
      replace c21 := eq_true c21
      go_wp2
      go_meet
      case rel => exact ⟨_, (rd l1_1 ji), (by first | rfl | (simp; done) | (simp only [← hji] <;> (first | rfl | simp)) | (simp [*]; done)), H', ⟨Nat.le_refl _⟩, ⟨qc52_⟩⟩
     · rw [if_neg c21] at H; exact absurd H (by simp)
    · rw [if_neg c20] at H; exact absurd H (by simp)
   ·
    rw [if_neg c18] at H
    have c18b0 := decide_eq_false c18
    have c18b1 : decide (0 < l1_0.length) = false := decide_eq_false (by omega)
    clear c18
    (first | rw [c18b1] | rw [c18b0])
    have H' := Aside0.mk H
    clear H
    go_wp2
    go_meet
    case rel => exact ⟨_, 0, qc8f_, H', ⟨Nat.le_refl _⟩, ⟨qc52_⟩⟩
  case rest =>
   clear HC11 HG c3b0 c3b1 c3b2; try clear GE5
   obtain ⟨kq, x7, rfl, HA, HJ1, HG⟩ := hcut
   cases kq with
   | zero => exact absurd HA.out (by simp [impl_regionOf.j0])
   | succ kj =>
   have H := HA.out
   clear HA
   simp only [impl_regionOf.j0] at H
   have H' := Aside0.mk H
   clear H
   go_wp2
   go_loopg [32] kj (fun kq v32 w' => ∃ (x32 : Int), v32 = .int .i64 x32 ∧ Aside0 (impl_regionOf.l0 kq l0 (l1_0.length : Int) x7 l0 (l0.length : Int) x32 l1_0 l1_1 = some (r1, r2, r3)) ∧ Aside0 (kq ≤ kj) ∧ Aside0 (Rg0 w w' g5 g6 (.slice B0 l1_0.length d0 : Value) (.slice B1 l1_1.length d1 : Value)))
   case atStart => exact ⟨0, q6e2_, H', ⟨Nat.le_refl _⟩, ⟨qc52_⟩⟩
   case round =>
    clear H' HG
    obtain ⟨x32, rfl, HA, HK2, HG⟩ := hrel
    cases gk with
    | zero => exact absurd HA.out (by simp [impl_regionOf.l0])
    | succ k2 =>
    have H := HA.out
    clear HA
    simp only [impl_regionOf.l0] at H
    by_cases c24 : x32 < (l0.length : Int)
    ·
     rw [if_pos c24] at H
     have c24b0 := decide_eq_true c24
     by_cases c25 : 0 ≤ x32
     ·
      rw [if_pos c25, if_pos c24] at H
      have c25b0 := decide_eq_true c25
      obtain ⟨t1, A1, H⟩ := ob_ H
      obtain ⟨ad2, e2, hx2⟩ := Kd.at_int (Kd.C_below HR0.out HG.out.below) x32 c25 c24
      cases e2
      replace c24 := eq_true c24
      replace c25 := eq_true c25
      have hnb := HG.out.ne
      have hnc := HG.out.ne.symm
      have hcz0 : wr.cell? ⟨g5, 0, none⟩ = some (.slice B0 l1_0.length d0) := (blk_cell HG.out.h5 0).trans rfl
      have hcz1 : wr.cell? ⟨g5, 1, none⟩ = some (.slice B1 l1_1.length d1) := (blk_cell HG.out.h5 1).trans rfl
      have hfz0 := blk_frozen HG.out.h5 0
      have hfz1 := blk_frozen HG.out.h5 1
      cases t1 with
      | true =>
       rw [if_pos rfl] at H
       have H' := Aside0.mk H
       clear H
       go_wp2_with (first | ((with_reducible refine gate_callee (f := 46) rfl ?_); refine gl_ 40 Try.func46 #[.slice B0 l1_0.length d0, .int .i64 x32] ?_; (with_reducible refine (slices_Contains_int_int.calls k2 _ _ l1_0 x32 true _ ?s1 ?s2 A1.out).mono ?_); (case s1 => exact (q5e2_ HR1.out)); (case s2 => exact HC1.out); rintro e w' ⟨rfl, ⟨nd, rfl⟩⟩; refine ⟨_, rfl, ?_⟩))
       go_roundg k2
       case measure => have := HJ1.out; have := HK2.out; omega
       case rel => exact ⟨(wrap64 (x32 + 1)), qc8f_, H', ⟨q37b_ HJ1.out HK2.out⟩, ⟨qc52_⟩⟩
      | false =>
       rw [if_neg nf_] at H
       have HC31 := Aside0.mk H
       clear H
       go_upto_block 2 with (first | ((with_reducible refine gate_callee (f := 46) rfl ?_); refine gl_ 40 Try.func46 #[.slice B0 l1_0.length d0, .int .i64 x32] ?_; (with_reducible refine (slices_Contains_int_int.calls k2 _ _ l1_0 x32 false _ ?s1 ?s2 A1.out).mono ?_); (case s1 => exact (q5e2_ HR1.out)); (case s2 => exact HC1.out); rintro e w' ⟨rfl, ⟨nd, rfl⟩⟩; refine ⟨_, rfl, ?_⟩))
       (try simp only [Act.put, List.setIfInBounds_toArray, List.set_cons_zero, List.set_cons_succ])
       clear hnb hnc hcz0 hcz1 hfz0 hfz1
       go_cut [10] (fun v10 wc => ∃ (kq : Nat) (x10 : Int), v10 = .int .i64 x10 ∧ Aside0 (impl_regionOf.j3 kq l0 (l1_0.length : Int) x7 x32 (rd l0 x32) x10 l0 (l0.length : Int) x32 l1_0 l1_1 = some (r1, r2, r3)) ∧ Aside0 (kq ≤ k2) ∧ Aside0 (Rg0 w wc g5 g6 (.slice B0 l1_0.length d0 : Value) (.slice B1 l1_1.length d1 : Value)))
       case first =>
        have H' := Aside0.mk HC31.out
        clear HC31
        have HG0 := Aside0.mk qc52_
        go_wp2
        go_loopg [10] k2 (fun kq v10 w' => ∃ (x10 : Int), v10 = .int .i64 x10 ∧ Aside0 (impl_regionOf.l1 kq l0 (l1_0.length : Int) x7 x32 (rd l0 x32) x10 l0 (l0.length : Int) x32 l1_0 l1_1 = some (r1, r2, r3)) ∧ Aside0 (kq ≤ k2) ∧ Aside0 (Rg0 w w' g5 g6 (.slice B0 l1_0.length d0 : Value) (.slice B1 l1_1.length d1 : Value)))
        case atStart => exact ⟨x7, q6e2_, H', ⟨Nat.le_refl _⟩, ⟨qc52_⟩⟩
        case round =>
         clear H' HG HG0
         obtain ⟨x10, rfl, HA, HK3, HG⟩ := hrel
         cases gk with
         | zero => exact absurd HA.out (by simp [impl_regionOf.l1])
         | succ k3 =>
         have H := HA.out
         clear HA
         simp only [impl_regionOf.l1] at H
         by_cases c34 : x10 < (l1_0.length : Int)
         ·
          rw [if_pos c34] at H
          have c34b0 := decide_eq_true c34
          clear c34
          (first | rw [c34b0] | (simp only [i64_w, i32_w]; rw [c34b0]) | skip)
          obtain ⟨t4, A4, H⟩ := ob_ H
          by_cases c36 : t4 < (rd l0 x32)
          ·
           rw [if_pos c36] at H
           have c36b0 := decide_eq_true c36
           clear c36
           have H' := Aside0.mk H
           clear H
           have hnb := HG.out.ne
           have hnc := HG.out.ne.symm
           have hcz0 : wr.cell? ⟨g5, 0, none⟩ = some (.slice B0 l1_0.length d0) := (blk_cell HG.out.h5 0).trans rfl
           have hcz1 : wr.cell? ⟨g5, 1, none⟩ = some (.slice B1 l1_1.length d1) := (blk_cell HG.out.h5 1).trans rfl
           have hfz0 := blk_frozen HG.out.h5 0
           have hfz1 := blk_frozen HG.out.h5 1
           go_wp2_with (first | (go_at_call 28; (with_reducible refine (impl_labelAt.calls _ _ l1_0 x10 x32 t4 _ ?s1 ?s2 A4.out).mono ?_); (case s1 => exact (q5e2_ HR1.out)); (case s2 => exact HC1.out); rintro e w6 ⟨rfl, hb⟩; have hg_ := Aside0.mk (Rg0.next qc52_ hb); clear HG; have HG := hg_; clear hg_ hb))
           go_roundg k3
           case measure => have := HJ1.out; have := HK2.out; have := HK3.out; omega
           case rel => exact ⟨(wrap64 (x10 + 1)), qc8f_, H', ⟨q0e9_ HJ1.out HK2.out HK3.out⟩, ⟨qc52_⟩⟩
          ·
           rw [if_neg c36] at H
           have c36b0 := decide_eq_false c36
           clear c36
           have H' := Aside0.mk H
           clear H
           have hnb := HG.out.ne
           have hnc := HG.out.ne.symm
           have hcz0 : wr.cell? ⟨g5, 0, none⟩ = some (.slice B0 l1_0.length d0) := (blk_cell HG.out.h5 0).trans rfl
           have hcz1 : wr.cell? ⟨g5, 1, none⟩ = some (.slice B1 l1_1.length d1) := (blk_cell HG.out.h5 1).trans rfl
           have hfz0 := blk_frozen HG.out.h5 0
           have hfz1 := blk_frozen HG.out.h5 1
           go_wp2_with (first | (go_at_call 28; (with_reducible refine (impl_labelAt.calls _ _ l1_0 x10 x32 t4 _ ?s1 ?s2 A4.out).mono ?_); (case s1 => exact (q5e2_ HR1.out)); (case s2 => exact HC1.out); rintro e w6 ⟨rfl, hb⟩; have hg_ := Aside0.mk (Rg0.next qc52_ hb); clear HG; have HG := hg_; clear hg_ hb))
           go_meet
           case rel => exact ⟨_, x10, qc8f_, H', ⟨by have := HJ1.out; have := HK2.out; have := HK3.out; first | omega | exact Nat.le_refl _⟩, ⟨qc52_⟩⟩
         ·
          rw [if_neg c34] at H
          have c34b0 := decide_eq_false c34
          clear c34
          (first | rw [c34b0] | (simp only [i64_w, i32_w]; rw [c34b0]) | skip)
          have H' := Aside0.mk H
          clear H
          go_wp2
          go_meet
          case rel => exact ⟨_, x10, qc8f_, H', ⟨by have := HJ1.out; have := HK2.out; have := HK3.out; first | omega | exact Nat.le_refl _⟩, ⟨qc52_⟩⟩
       case rest =>
        clear HC31 HG
        obtain ⟨kq, x10, rfl, HA, HJ3, HG⟩ := hcut
        cases kq with
        | zero => exact absurd HA.out (by simp [impl_regionOf.j3])
        | succ kj3 =>
        have H := HA.out
        clear HA
        simp only [impl_regionOf.j3] at H
        obtain ⟨t4, A5, H⟩ := ob_ H
        by_cases c44 : t4 = (rd l0 x32)
        ·
         rw [if_pos c44] at H
         have c44b0 := beq_iff_eq.mpr c44
         have c44b1 := bne_eq_false_iff_eq.mpr c44
         clear c44
         have hnb := HG.out.ne
         have hnc := HG.out.ne.symm
         have hcz0 : wc.cell? ⟨g5, 0, none⟩ = some (.slice B0 l1_0.length d0) := (blk_cell HG.out.h5 0).trans rfl
         have hcz1 : wc.cell? ⟨g5, 1, none⟩ = some (.slice B1 l1_1.length d1) := (blk_cell HG.out.h5 1).trans rfl
         have hfz0 := blk_frozen HG.out.h5 0
         have hfz1 := blk_frozen HG.out.h5 1
         go_wp2_with (first | ((with_reducible refine gate_callee (f := 28) rfl ?_); refine gl_ 60 Try.func28 #[.slice B0 l1_0.length d0, .int .i64 x10, .int .i64 x32] ?_; (with_reducible refine (impl_labelAt.calls _ _ l1_0 x10 x32 t4 _ ?s1 ?s2 A5.out).mono ?_); (case s1 => exact (q5e2_ HR1.out)); (case s2 => exact HC1.out); rintro e w6 ⟨rfl, hb⟩; refine ⟨_, rfl, ?_⟩; have hg_ := Aside0.mk (Rg0.next qc52_ hb); clear HG; have HG := hg_; clear hg_ hb))
         clear hnb hnc hcz0 hcz1 hfz0 hfz1
         obtain ⟨t2, A2, H⟩ := ob_ H
         obtain ⟨y5, hy5⟩ : ∃ y_ : List Int, y_ = ([x32] : List Int) := ⟨_, rfl⟩
         rw [← hy5] at H
         simp only [Option.bind_some] at H
         by_cases c46 : t2.length + y5.length < 17592186044416
         ·
          rw [if_pos c46] at H
          have L5 := Aside0.mk c46
          clear c46
          obtain ⟨t3, A3, H⟩ := ob_ H
          obtain ⟨y6, hy6⟩ : ∃ y_ : List Int, y_ = ([x10] : List Int) := ⟨_, rfl⟩
          rw [← hy6] at H
          (try simp only [Option.bind_some] at H)
          by_cases c48 : t3.length + y6.length < 17592186044416
          ·
           rw [if_pos c48] at H
           have L11 := Aside0.mk c48
           clear c48
           obtain ⟨⟨s1, s2, s3⟩, A4, H2⟩ := ob_ H
           dsimp only at H2
           have Hs := Aside0.mk H2
           clear H H2
           subst hy5
           subst hy6
           refine start_ (n := 15) (S := fun w' => True) (ds := []) #[false, false, false, false, false, false, false, false, false, false, false, false, false, false, false] (by kernel_rfl) rfl rfl trivial (fun hHeld => ?_); refine with_tabW impl_regionOf.tab15 impl_regionOf.bits15 (fun HT_ HW_ => ?_)
           have HG2 := Aside0.mk (Rg0.drew HG.out)
           clear HG
           generalize w6.drew = wd at HG2 hHeld ⊢
           refine pure_ (i := 0) (N := some 63) (v := ?_) (a' := ?_) #[true, false, false, false, false, false, false, false, false, false, false, false, false, false, false] rfl rfl (any_of HT_.out (by kernel_rfl)) (fun _ _ _ h => h) (Or.inl ⟨by rfl, ?_⟩) ?_ ?_
           rotate_left
           · intro w'; go_simp; with_reducible rfl
           rotate_left
           · simp only [Act.put, List.setIfInBounds_toArray, List.set_cons_zero, List.set_cons_succ, i64_w, i32_w]; rfl
           refine pure_ (i := 3) (N := some 66) (v := ?_) (a' := ?_) #[true, false, false, true, false, false, false, false, false, false, false, false, false, false, false] rfl rfl (any_of HT_.out (by kernel_rfl)) (fun _ _ _ h => h) (Or.inl ⟨by rfl, ?_⟩) ?_ ?_
           rotate_left
           · intro w'; go_simp; with_reducible rfl
           rotate_left
           · simp only [Act.put, List.setIfInBounds_toArray, List.set_cons_zero, List.set_cons_succ, i64_w, i32_w]; rfl
           refine pure_ (i := 6) (N := some 69) (v := ?_) (a' := ?_) #[true, false, false, true, false, false, true, false, false, false, false, false, false, false, false] rfl rfl (any_of HT_.out (by kernel_rfl)) (fun _ _ _ h => h) (Or.inl ⟨by rfl, ?_⟩) ?_ ?_
           rotate_left
           · intro w'; go_simp; with_reducible rfl
           rotate_left
           · simp only [Act.put, List.setIfInBounds_toArray, List.set_cons_zero, List.set_cons_succ, i64_w, i32_w]; rfl
           refine pure_ (i := 9) (N := some 72) (v := ?_) (a' := ?_) #[true, false, false, true, false, false, true, false, false, true, false, false, false, false, false] rfl rfl (any_of HT_.out (by kernel_rfl)) (fun _ _ _ h => h) (Or.inl ⟨by rfl, ?_⟩) ?_ ?_
           rotate_left
           · intro w'; go_simp; with_reducible rfl
           rotate_left
           · simp only [Act.put, List.setIfInBounds_toArray, List.set_cons_zero, List.set_cons_succ, i64_w, i32_w]; rfl
           refine inv_at [1, 2, 4, 5, 7, 8, 10, 11, 12, 13, 14] (fun a0_ b a w' => ∃ (u2 u4 u5 u8 u10 u11 : Value) (gn : Nat) (m12 m13 : Value), a = putSel a0_ b [(1, 64, .slice B0 l1_0.length d0), (2, 65, u2), (4, 67, u4), (5, 68, u5), (7, 70, .slice B1 l1_1.length d1), (8, 71, u8), (10, 73, u10), (11, 74, u11), (12, 75, m12), (13, 11, m13)] ∧ (RgI w w' g5 g6 (.slice B0 l1_0.length d0 : Value) (.slice B1 l1_1.length d1 : Value) t2 t3 [x32] [x10] (b 2) (b 4) (b 5) (b 8) (b 10) (b 11) (b 13) (b 14) u2 u4 u5 u8 u10 u11 gn) ∧ (b 12 = true → m12 = .agg #[u5, u11]) ∧ (b 13 = true → m13 = .pointer (some ⟨gn, 0, none⟩))) HT_.out HW_.out (by kernel_rfl) (by kernel_rfl) ?_ ?_ ?_
           · exact ⟨.bool false, .bool false, .bool false, .bool false, .bool false, .bool false, 0, .bool false, .bool false, by simp only [putSel, Bool.false_eq_true, if_false], RgI.start HG2.out, fun h_ => absurd h_ (by decide), fun h_ => absurd h_ (by decide)⟩
           ·
            clear HG2
            refine steps_cons ?_ ?_
            ·
             rintro b a w' ⟨u2, u4, u5, u8, u10, u11, gn, m12, m13, ha, hI, h12, h13⟩ hb_ hon hoff
             refine ⟨_, rfl, fun K hK => ?_⟩
             have e63 : a.tmps[63]? = some (.pointer (some ⟨g5, 0, none⟩)) := q32c_
             replace ha := Aside0.mk ha
             have HI := Aside0.mk hI
             clear hI
             have hc0_ : w'.cell? ⟨g5, 0, none⟩ = some (.slice B0 l1_0.length d0) := (blk_cell HI.out.r0.h5 0).trans rfl
             have hc1_ : w'.cell? ⟨g5, 1, none⟩ = some (.slice B1 l1_1.length d1) := (blk_cell HI.out.r0.h5 1).trans rfl
             refine value_ (w1 := w') (v := .slice B0 l1_0.length d0) (by rfl) rfl ?_ ?_
             · go_simp; (try simp only [i64_w]); try rfl
             refine hK.out _ _ ⟨u2, u4, u5, u8, u10, u11, gn, m12, m13, (by rw [ha.out]; exact putSel_upk 0 hb_ rfl rfl rfl), HI.out, h12, h13⟩
            refine steps_cons ?_ ?_
            ·
             rintro b a w' ⟨u2, u4, u5, u8, u10, u11, gn, m12, m13, ha, hI, h12, h13⟩ hb_ hon hoff
             refine ⟨_, rfl, fun K hK => ?_⟩
             have e64 : a.tmps[64]? = some (.slice B0 l1_0.length d0) := by rw [ha]; exact putSel_on (e := (1, 64, .slice B0 l1_0.length d0)) 0 rfl rfl (hon 1 (by kernel_rfl)) rfl
             replace ha := Aside0.mk ha
             have HI := Aside0.mk hI
             clear hI
             refine goes_ Try.func47 (by kernel_rfl) rfl #[.slice B0 l1_0.length d0] (by rfl) rfl rfl (by first | (simp only [List.map_toArray, List.map_cons, List.map_nil, Act.eval, Array.getD_eq_getD_getElem?, Option.getD_some, e64]; done) | (simp only [List.map_toArray, List.map_cons, List.map_nil, Act.eval, Array.getD_eq_getD_getElem?, Option.getD_some, e64]; rfl)) ?_
             refine (slices_Clone_int_int.calls _ _ l1_0 t2 _ (Kd.C_below HR1.out HI.out.r0.below) HC1.out A2.out).mono ?_
             rintro e w1 ⟨vn, rfl, ho, hb⟩
             refine ⟨_, rfl, ?_⟩
             refine hK.out _ _ ⟨vn, u4, u5, u8, u10, u11, gn, m12, m13, (by rw [ha.out]; exact putSel_upk 1 hb_ rfl rfl rfl), (HI.out.s2 (hoff 11 (by kernel_rfl)) hb ho), fun h_ => absurd ((hoff 12 (by kernel_rfl)).symm.trans h_) (by decide), h13⟩
            refine steps_cons ?_ ?_
            ·
             rintro b a w' ⟨u2, u4, u5, u8, u10, u11, gn, m12, m13, ha, hI, h12, h13⟩ hb_ hon hoff
             refine ⟨_, rfl, fun K hK => ?_⟩
             have e66 : a.tmps[66]? = some (.int .i64 x32) := q32c_
             replace ha := Aside0.mk ha
             have HI := Aside0.mk hI
             clear hI
             refine Kd.R_lit_step (Kd.int .i64) _ 3 ?hg (N := 67) ?hd (xs := ([x32] : List Int)) (inner := [.int .i64 x32]) (ok := fun _ => True) (okp := fun _ => True) ?hr ?hp (fun _ hk => hk) trivial (Below.refl _ _) (Nat.le_refl _) (by simp) ?_; (case hd => rfl); (case hg => rfl); (case hr => exact qfba_); (case hp => exact (Reps.one (show Kd.M (Kd.int .i64) _ _ _ x32 [.int .i64 x32] from rfl) (Reps.none _ _)))
             intro vn w1 ho hb hg_ hnew_
             refine hK.out _ _ ⟨u2, vn, u5, u8, u10, u11, gn, m12, m13, (by rw [ha.out]; exact putSel_upk 2 hb_ rfl rfl rfl), (HI.out.s4 hb ho), h12, h13⟩
            refine steps_cons ?_ ?_
            ·
             rintro b a w' ⟨u2, u4, u5, u8, u10, u11, gn, m12, m13, ha, hI, h12, h13⟩ hb_ hon hoff
             refine ⟨_, rfl, fun K hK => ?_⟩
             have e65 : a.tmps[65]? = some (u2) := by rw [ha]; exact putSel_on (e := (2, 65, u2)) 1 rfl rfl (hon 2 (by kernel_rfl)) rfl
             have e67 : a.tmps[67]? = some (u4) := by rw [ha]; exact putSel_on (e := (4, 67, u4)) 2 rfl rfl (hon 4 (by kernel_rfl)) rfl
             replace ha := Aside0.mk ha
             have HI := Aside0.mk hI
             clear hI
             have HS := Aside0.mk (HI.out.c2 (hon 2 (by kernel_rfl)) hb_)
             have HX := Aside0.mk (HI.out.c4 (hon 4 (by kernel_rfl)) hb_)
             obtain ⟨Ax, cx, ex⟩ := Kd.R_slice HX.out
             refine Kd.R_append_rows_step (Kd.int .i64) (w0 := w) w.heap.size (by rfl) (.tmp 65) (.tmp 67) 24 3 (.int .i64 0) 8 rfl Try.underlying24 info_int rfl (by decide) (by omega) u2 t2 [x32] _ _ _ (fun _ => True) (fun _ => False) (by simp only [Act.eval, Array.getD_eq_getD_getElem?, e65, Option.getD_some]) (by simp only [Act.eval, Array.getD_eq_getD_getElem?, e67, Option.getD_some]; exact ex) HS.out ?aR (fun _ _ h => h) (fun _ h => h.elim) (fun _ _ => trivial) HI.out.r0.below HI.out.r0.below.size ?aL ?_
             (case aR => exact (Kd.R_reads' (ex ▸ HX.out)).2.2)
             (case aL => have := L5.out; simp only [List.length_cons, List.length_nil] at this ⊢; omega)
             intro vn w1 ho hb hg hat
             have hI5 := HI.out
             rw [show b 2 = true from (hon 2 (by kernel_rfl)), show b 5 = false from hb_, show b 8 = false from (hoff 8 (by kernel_rfl)), show b 11 = false from (hoff 11 (by kernel_rfl))] at hI5
             have hI6 := hI5.s5 (hoff 14 (by kernel_rfl)) hb hg ho
             refine hK.out _ _ ⟨u2, u4, vn, u8, u10, u11, gn, m12, m13, (by rw [ha.out]; exact putSel_upk 3 hb_ rfl rfl rfl), (by show RgI w _ g5 g6 _ _ t2 t3 _ _ (b 2) (b 4) true (b 8) (b 10) (b 11) (b 13) (b 14) _ _ _ _ _ _ _; rw [show b 2 = true from (hon 2 (by kernel_rfl)), show b 8 = false from (hoff 8 (by kernel_rfl)), show b 11 = false from (hoff 11 (by kernel_rfl))]; exact hI6), fun h_ => absurd ((hoff 12 (by kernel_rfl)).symm.trans h_) (by decide), h13⟩
            refine steps_cons ?_ ?_
            ·
             rintro b a w' ⟨u2, u4, u5, u8, u10, u11, gn, m12, m13, ha, hI, h12, h13⟩ hb_ hon hoff
             refine ⟨_, rfl, fun K hK => ?_⟩
             have e69 : a.tmps[69]? = some (.pointer (some ⟨g5, 1, none⟩)) := q32c_
             replace ha := Aside0.mk ha
             have HI := Aside0.mk hI
             clear hI
             have hc0_ : w'.cell? ⟨g5, 0, none⟩ = some (.slice B0 l1_0.length d0) := (blk_cell HI.out.r0.h5 0).trans rfl
             have hc1_ : w'.cell? ⟨g5, 1, none⟩ = some (.slice B1 l1_1.length d1) := (blk_cell HI.out.r0.h5 1).trans rfl
             refine value_ (w1 := w') (v := .slice B1 l1_1.length d1) (by rfl) rfl ?_ ?_
             · go_simp; (try simp only [i64_w]); try rfl
             refine hK.out _ _ ⟨u2, u4, u5, u8, u10, u11, gn, m12, m13, (by rw [ha.out]; exact putSel_upk 4 hb_ rfl rfl rfl), HI.out, h12, h13⟩
            refine steps_cons ?_ ?_
            ·
             rintro b a w' ⟨u2, u4, u5, u8, u10, u11, gn, m12, m13, ha, hI, h12, h13⟩ hb_ hon hoff
             refine ⟨_, rfl, fun K hK => ?_⟩
             have e70 : a.tmps[70]? = some (.slice B1 l1_1.length d1) := by rw [ha]; exact putSel_on (e := (7, 70, .slice B1 l1_1.length d1)) 4 rfl rfl (hon 7 (by kernel_rfl)) rfl
             replace ha := Aside0.mk ha
             have HI := Aside0.mk hI
             clear hI
             refine goes_ Try.func47 (by kernel_rfl) rfl #[.slice B1 l1_1.length d1] (by rfl) rfl rfl (by first | (simp only [List.map_toArray, List.map_cons, List.map_nil, Act.eval, Array.getD_eq_getD_getElem?, Option.getD_some, e70]; done) | (simp only [List.map_toArray, List.map_cons, List.map_nil, Act.eval, Array.getD_eq_getD_getElem?, Option.getD_some, e70]; rfl)) ?_
             refine (slices_Clone_int_int.calls _ _ l1_1 t3 _ (Kd.C_below HR2.out HI.out.r0.below) HC2.out A3.out).mono ?_
             rintro e w1 ⟨vn, rfl, ho, hb⟩
             refine ⟨_, rfl, ?_⟩
             refine hK.out _ _ ⟨u2, u4, u5, vn, u10, u11, gn, m12, m13, (by rw [ha.out]; exact putSel_upk 5 hb_ rfl rfl rfl), (HI.out.s8 hb ho), h12, h13⟩
            refine steps_cons ?_ ?_
            ·
             rintro b a w' ⟨u2, u4, u5, u8, u10, u11, gn, m12, m13, ha, hI, h12, h13⟩ hb_ hon hoff
             refine ⟨_, rfl, fun K hK => ?_⟩
             have e72 : a.tmps[72]? = some (.int .i64 x10) := q32c_
             replace ha := Aside0.mk ha
             have HI := Aside0.mk hI
             clear hI
             refine Kd.R_lit_step (Kd.int .i64) _ 3 ?hg (N := 73) ?hd (xs := ([x10] : List Int)) (inner := [.int .i64 x10]) (ok := fun _ => True) (okp := fun _ => True) ?hr ?hp (fun _ hk => hk) trivial (Below.refl _ _) (Nat.le_refl _) (by simp) ?_; (case hd => rfl); (case hg => rfl); (case hr => exact qfba_); (case hp => exact (Reps.one (show Kd.M (Kd.int .i64) _ _ _ x10 [.int .i64 x10] from rfl) (Reps.none _ _)))
             intro vn w1 ho hb hg_ hnew_
             refine hK.out _ _ ⟨u2, u4, u5, u8, vn, u11, gn, m12, m13, (by rw [ha.out]; exact putSel_upk 6 hb_ rfl rfl rfl), (HI.out.s10 hb ho), h12, h13⟩
            refine steps_cons ?_ ?_
            ·
             rintro b a w' ⟨u2, u4, u5, u8, u10, u11, gn, m12, m13, ha, hI, h12, h13⟩ hb_ hon hoff
             refine ⟨_, rfl, fun K hK => ?_⟩
             have e71 : a.tmps[71]? = some (u8) := by rw [ha]; exact putSel_on (e := (8, 71, u8)) 5 rfl rfl (hon 8 (by kernel_rfl)) rfl
             have e73 : a.tmps[73]? = some (u10) := by rw [ha]; exact putSel_on (e := (10, 73, u10)) 6 rfl rfl (hon 10 (by kernel_rfl)) rfl
             replace ha := Aside0.mk ha
             have HI := Aside0.mk hI
             clear hI
             have HS := Aside0.mk (HI.out.c8 (hon 8 (by kernel_rfl)) hb_)
             have HX := Aside0.mk (HI.out.c10 (hon 10 (by kernel_rfl)) hb_)
             obtain ⟨Ax, cx, ex⟩ := Kd.R_slice HX.out
             refine Kd.R_append_rows_step (Kd.int .i64) (w0 := w) w.heap.size (by rfl) (.tmp 71) (.tmp 73) 24 3 (.int .i64 0) 8 rfl Try.underlying24 info_int rfl (by decide) (by omega) u8 t3 [x10] _ _ _ (fun _ => True) (fun _ => False) (by simp only [Act.eval, Array.getD_eq_getD_getElem?, e71, Option.getD_some]) (by simp only [Act.eval, Array.getD_eq_getD_getElem?, e73, Option.getD_some]; exact ex) HS.out ?aR (fun _ _ h => h) (fun _ h => h.elim) (fun _ _ => trivial) HI.out.r0.below HI.out.r0.below.size ?aL ?_
             (case aR => exact (Kd.R_reads' (ex ▸ HX.out)).2.2)
             (case aL => have := L11.out; simp only [List.length_cons, List.length_nil] at this ⊢; omega)
             intro vn w1 ho hb hg hat
             have hI5 := HI.out
             rw [show b 5 = true from (hon 5 (by kernel_rfl)), show b 8 = true from (hon 8 (by kernel_rfl)), show b 11 = false from hb_] at hI5
             have hI6 := hI5.s11 (hoff 14 (by kernel_rfl)) hb hg hat ho
             refine hK.out _ _ ⟨u2, u4, u5, u8, u10, vn, gn, m12, m13, (by rw [ha.out]; exact putSel_upk 7 hb_ rfl rfl rfl), (by show RgI w _ g5 g6 _ _ t2 t3 _ _ (b 2) (b 4) (b 5) (b 8) (b 10) true (b 13) (b 14) _ _ _ _ _ _ _; rw [show b 5 = true from (hon 5 (by kernel_rfl)), show b 8 = true from (hon 8 (by kernel_rfl))]; exact hI6), fun h_ => absurd ((hoff 12 (by kernel_rfl)).symm.trans h_) (by decide), h13⟩
            refine steps_cons ?_ ?_
            ·
             rintro b a w' ⟨u2, u4, u5, u8, u10, u11, gn, m12, m13, ha, hI, h12, h13⟩ hb_ hon hoff
             refine ⟨_, rfl, fun K hK => ?_⟩
             have e68 : a.tmps[68]? = some (u5) := by rw [ha]; exact putSel_on (e := (5, 68, u5)) 3 rfl rfl (hon 5 (by kernel_rfl)) rfl
             have e74 : a.tmps[74]? = some (u11) := by rw [ha]; exact putSel_on (e := (11, 74, u11)) 7 rfl rfl (hon 11 (by kernel_rfl)) rfl
             obtain ⟨A5, c5, e5_⟩ := Kd.R_slice (hI.c5 (hon 5 (by kernel_rfl)))
             obtain ⟨n5, hn5⟩ : ∃ n_, n_ = (t2 ++ [x32]).length := ⟨_, rfl⟩
             rw [← hn5] at e5_
             subst e5_
             obtain ⟨A11, c11, e11_⟩ := Kd.R_slice (hI.c11 (hon 11 (by kernel_rfl)))
             obtain ⟨n11, hn11⟩ : ∃ n_, n_ = (t3 ++ [x10]).length := ⟨_, rfl⟩
             rw [← hn11] at e11_
             subst e11_
             clear hn5 hn11
             replace ha := Aside0.mk ha
             have HI := Aside0.mk hI
             clear hI
             refine value_ (w1 := w') (v := .agg #[.slice A5 n5 c5, .slice A11 n11 c11]) (by rfl) rfl ?_ ?_
             · go_simp; (try simp only [i64_w]); try rfl
             refine hK.out _ _ ⟨u2, u4, _, u8, u10, _, gn, (.agg #[.slice A5 n5 c5, .slice A11 n11 c11]), m13, (by rw [ha.out]; exact putSel_upk 8 hb_ rfl rfl rfl), HI.out, fun _ => rfl, h13⟩
            refine steps_cons ?_ ?_
            ·
             rintro b a w' ⟨u2, u4, u5, u8, u10, u11, gn, m12, m13, ha, hI, h12, h13⟩ hb_ hon hoff
             refine ⟨_, rfl, fun K hK => ?_⟩
             replace ha := Aside0.mk ha
             have HI := Aside0.mk hI
             clear hI
             refine box_step ?hg (N := 11) ?hd (cs := #[.slice none 0 0, .slice none 0 0]) (t := 33) ?hr ?_; (case hd => rfl); (case hg => rfl); (case hr => exact qfba_)
             intro gq hgq w1 hbox hb
             refine hK.out _ _ ⟨u2, u4, u5, u8, u10, u11, gq, m12, (.pointer (some ⟨gq, 0, none⟩)), (by rw [ha.out]; exact putSel_upk 9 hb_ rfl rfl rfl), (HI.out.s13 (hoff 14 (by kernel_rfl)) hb hgq hbox), h12, fun _ => rfl⟩
            refine steps_cons ?_ ?_
            ·
             rintro b a w' ⟨u2, u4, u5, u8, u10, u11, gn, m12, m13, ha, hI, h12, h13⟩ hb_ hon hoff
             refine ⟨_, rfl, fun K hK => ?_⟩
             obtain rfl := h12 (hon 12 (by kernel_rfl))
             obtain rfl := h13 (hon 13 (by kernel_rfl))
             obtain ⟨A5, c5, e5_⟩ := Kd.R_slice (hI.c5 (hon 5 (by kernel_rfl)))
             obtain ⟨n5, hn5⟩ : ∃ n_, n_ = (t2 ++ [x32]).length := ⟨_, rfl⟩
             rw [← hn5] at e5_
             subst e5_
             obtain ⟨A11, c11, e11_⟩ := Kd.R_slice (hI.c11 (hon 11 (by kernel_rfl)))
             obtain ⟨n11, hn11⟩ : ∃ n_, n_ = (t3 ++ [x10]).length := ⟨_, rfl⟩
             rw [← hn11] at e11_
             subst e11_
             clear hn5 hn11
             have e11 : a.tmps[11]? = some (.pointer (some ⟨gn, 0, none⟩)) := by rw [ha]; exact putSel_on (e := (13, 11, .pointer (some ⟨gn, 0, none⟩))) 9 rfl rfl (hon 13 (by kernel_rfl)) rfl
             have e75 : a.tmps[75]? = some (.agg #[.slice A5 n5 c5, .slice A11 n11 c11]) := by rw [ha]; exact putSel_on (e := (12, 75, .agg #[.slice A5 n5 c5, .slice A11 n11 c11])) 8 rfl rfl (hon 12 (by kernel_rfl)) rfl
             replace ha := Aside0.mk ha
             have HI := Aside0.mk hI
             clear hI
             have hcn := HI.out.cn (hon 13 (by kernel_rfl))
             rw [show b 14 = false from hb_] at hcn
             have hs0 : w'.cell? ⟨gn, 0, none⟩ = some (.slice none 0 0) := (blk_cell hcn.2 0).trans rfl
             have hs1 : w'.cell? ⟨gn, 1, none⟩ = some (.slice none 0 0) := (blk_cell hcn.2 1).trans rfl
             have hsf0 := blk_frozen hcn.2 0
             have hsf1 := blk_frozen hcn.2 1
             clear hcn
             refine skip_ (w1 := ?_) (by rfl) rfl ?_ ?_
             rotate_left
             · go_simp; rfl
             have hI5 := HI.out
             rw [show b 5 = true from (hon 5 (by kernel_rfl)), show b 11 = true from (hon 11 (by kernel_rfl)), show b 13 = true from (hon 13 (by kernel_rfl)), show b 14 = false from hb_] at hI5
             have hI6 := hI5.s14
             refine hK.out _ _ ⟨u2, u4, _, u8, u10, _, gn, _, _, (by rw [ha.out]; exact putSel_none (v := undef) rfl), (by show RgI w _ g5 g6 _ _ t2 t3 _ _ (b 2) (b 4) (b 5) (b 8) (b 10) (b 11) (b 13) true _ _ _ _ _ _ _; rw [show b 5 = true from (hon 5 (by kernel_rfl)), show b 11 = true from (hon 11 (by kernel_rfl)), show b 13 = true from (hon 13 (by kernel_rfl))]; exact hI6), fun _ => rfl, fun _ => rfl⟩
            exact steps_nil
           rintro b a wq hall ⟨u2, u4, u5, u8, u10, u11, gn, m12, m13, ha, hI, h12, h13⟩
           have hb1_ := hall 1 (by kernel_rfl)
           have hb2_ := hall 2 (by kernel_rfl)
           have hb4_ := hall 4 (by kernel_rfl)
           have hb5_ := hall 5 (by kernel_rfl)
           have hb7_ := hall 7 (by kernel_rfl)
           have hb8_ := hall 8 (by kernel_rfl)
           have hb10_ := hall 10 (by kernel_rfl)
           have hb11_ := hall 11 (by kernel_rfl)
           have hb12_ := hall 12 (by kernel_rfl)
           have hb13_ := hall 13 (by kernel_rfl)
           have hb14_ := hall 14 (by kernel_rfl)
           subst ha
           obtain rfl := h12 hb12_
           obtain rfl := h13 hb13_
           simp only [putSel, hb1_, hb2_, hb4_, hb5_, hb7_, hb8_, hb10_, hb11_, hb12_, hb13_, hb14_, if_true, Act.put, List.setIfInBounds_toArray, List.set_cons_zero, List.set_cons_succ]
           obtain ⟨A5, c5, e5_⟩ := Kd.R_slice (hI.c5 hb5_)
           obtain ⟨n5, hn5⟩ : ∃ n_, n_ = (t2 ++ [x32]).length := ⟨_, rfl⟩
           rw [← hn5] at e5_
           subst e5_
           obtain ⟨A11, c11, e11_⟩ := Kd.R_slice (hI.c11 hb11_)
           obtain ⟨n11, hn11⟩ : ∃ n_, n_ = (t3 ++ [x10]).length := ⟨_, rfl⟩
           rw [← hn11] at e11_
           subst e11_
           have HL5 := Aside0.mk hn5
           have HL11 := Aside0.mk hn11
           clear hn5 hn11
           have HN5 := Aside0.mk (hI.c5 hb5_)
           have HN11 := Aside0.mk (hI.c11 hb11_)
           have HNA := Aside0.mk (hI.a11 hb5_ hb11_)
           have HNB := Aside0.mk (hI.cn hb13_)
           have HG := Aside0.mk hI.r0
           rw [hb14_] at HNB
           clear hI hall hb1_ hb2_ hb4_ hb5_ hb7_ hb8_ hb10_ hb11_ hb12_ hb13_ hb14_ h12 h13
           have hnb := HNB.out.1.1
           have hnc := HNB.out.1.2.1
           have hnb' := hnb.symm
           have hnc' := hnc.symm
           have hcz0 : wq.cell? ⟨gn, 0, none⟩ = some (.slice A5 n5 c5) := (blk_cell HNB.out.2 0).trans rfl
           have hcz1 : wq.cell? ⟨gn, 1, none⟩ = some (.slice A11 n11 c11) := (blk_cell HNB.out.2 1).trans rfl
           have hfz0 := blk_frozen HNB.out.2 0
           have hfz1 := blk_frozen HNB.out.2 1
           cases s3 with
           | true =>
            have H := Hs.out
            clear Hs
            rw [if_pos rfl] at H
            simp only [Option.some.injEq, Prod.mk.injEq] at H
            obtain ⟨rfl, rfl, rfl⟩ := H
            go_wp2_with (first | (go_at_call 31; obtain rfl := HL5.out; obtain rfl := HL11.out; (with_reducible refine (ih kj3 (q0e9_ HJ1.out HK2.out HJ3.out) _ _ l0 _ _ (t2 ++ [x32]) _ _ (t3 ++ [x10]) s1 s2 true _ ?s1 ?s2 ?s3 ?s4 ?s5 ?s6 A4.out).mono ?_); (case s1 => exact (q5e2_ HR0.out)); (case s2 => exact HC0.out); (case s3 => exact (q578_ HN5.out)); (case s4 => exact (Kd.R_reads' HN5.out).2.1); (case s5 => exact (q578_ HN11.out)); (case s6 => exact (Kd.R_reads' HN11.out).2.1); rintro e w8 ⟨x0, x1, rfl, hR⟩; have hB8 := hR.1; have hO8 := hR.own (by repeat (first | exact HG.out.below | apply pw_below_drewN | apply below_drew1)) (by repeat (first | exact HN5.out | apply Kd.R_drewN | apply Kd.R_drew)) (by repeat (first | exact HN11.out | apply Kd.R_drewN | apply Kd.R_drew)) HNA.out; obtain ⟨A8, c8, e8_⟩ := Kd.R_slice hO8.1; subst e8_; obtain ⟨A9, c9, e9_⟩ := Kd.R_slice hO8.2.1; subst e9_; have HO8 := Aside0.mk hO8; have hg_ := Aside0.mk (Rg0.next qc52_ hB8); clear HG hR hB8 hO8 HN5 HN11 HNA HNB hcz0 hcz1 hfz0 hfz1; have HG := hg_; clear hg_) | ((with_reducible refine gate_dst (N := 12) rfl ?_); refine box_event ?hg (N := 12) ?hd (cs := #[.slice none 0 0, .slice none 0 0]) (t := 33) ?hr ?_; (case hd => rfl); (case hg => rfl); (case hr => exact qfba_); intro go hgo w9 hbox hb; have HN8 := Aside0.mk (show g5 ≠ go ∧ g6 ≠ go ∧ w.heap.size ≤ go from ⟨by have h_ := blk_lt HG.out.h5; rw [hgo]; exact Nat.ne_of_lt h_, by have h_ := blk_lt HG.out.h6; rw [hgo]; exact Nat.ne_of_lt h_, by rw [hgo]; exact HG.out.below.size⟩); have BK8 := Aside0.mk hbox; have ho_ := Aside0.mk (And.intro (Kd.R_below HO8.out.1 hb) (And.intro (Kd.R_below HO8.out.2.1 hb) HO8.out.2.2)); have hg_ := Aside0.mk (Rg0.next qc52_ hb); clear HG HO8 hb hbox hgo; have HG := hg_; have HO8 := ho_; clear hg_ ho_; have hoz0 : w9.cell? ⟨go, 0, none⟩ = some (.slice none 0 0) := (blk_cell BK8.out 0).trans rfl; have hoz1 : w9.cell? ⟨go, 1, none⟩ = some (.slice none 0 0) := (blk_cell BK8.out 1).trans rfl; have hof0 := blk_frozen BK8.out 0; have hof1 := blk_frozen BK8.out 1; have hop0 := HN8.out.1; have hop1 := HN8.out.2.1; have hop2 := hop0.symm; have hop3 := hop1.symm; have hyz0 : w9.cell? ⟨g6, 0, none⟩ = some (.slice none 0 0) := (blk_cell HG.out.h6 0).trans rfl; have hyz1 : w9.cell? ⟨g6, 1, none⟩ = some (.slice none 0 0) := (blk_cell HG.out.h6 1).trans rfl; have hyf0 := blk_frozen HG.out.h6 0; have hyf1 := blk_frozen HG.out.h6 1))
            refine bodyPost_ret (results_ct rfl _ _ g6 33 #[.slice A8 s1.length c8, .slice A9 s2.length c9] (0, 0) _ rfl (by (with_reducible repeat (first | refine blk_drewN ?_ _ | refine blk_drew ?_ | refine blk_alloc ?_ _)); refine blk_put (cs := #[.slice A8 s1.length c8, .slice none 0 0]) ?_ 1 _ rfl; (with_reducible repeat (first | refine blk_drewN ?_ _ | refine blk_drew ?_ | refine blk_alloc ?_ _)); refine blk_put (cs := #[.slice none 0 0, .slice none 0 0]) ?_ 0 _ rfl; (with_reducible repeat (first | refine blk_drewN ?_ _ | refine blk_drew ?_ | refine blk_alloc ?_ _)); refine blk_far ?_ HN8.out.2.1 _; (with_reducible repeat (first | refine blk_drewN ?_ _ | refine blk_drew ?_ | refine blk_alloc ?_ _)); refine blk_far ?_ HN8.out.2.1 _; (with_reducible repeat (first | refine blk_drewN ?_ _ | refine blk_drew ?_ | refine blk_alloc ?_ _)); exact HG.out.h6) Try.underlying33 rfl (by kernel_rfl)) rfl ?_
            exact ⟨_, _, q6e2_, ⟨by repeat (first | (with_reducible first | exact HG.out.below | apply below_alloc | apply pw_below_drewN | apply below_drew1 | refine below_set ?_ HG.out.ge6 | refine below_set ?_ HN8.out.2.2) | exact HG.out.below), .inr ⟨(by (with_reducible repeat (first | apply Kd.R_alloc | apply Kd.R_drewN | apply Kd.R_drew)); exact Kd.R_mono (Kd.R_far (p := ⟨g6, 1, none⟩) (Kd.R_far (p := ⟨g6, 0, none⟩) (Kd.R_far (p := ⟨go, 1, none⟩) (Kd.R_far (p := ⟨go, 0, none⟩) (Kd.R_types (Kd.R_types HO8.out.1 BK8.out (by decide)) HG.out.h6 (by decide)) (fun _ hk => hk.1.2) _) (fun _ hk => hk.1.2) _) (fun _ hk => hk.2) _) (fun _ hk => hk.2) _) (fun _ _ => trivial)), (by (with_reducible repeat (first | apply Kd.R_alloc | apply Kd.R_drewN | apply Kd.R_drew)); exact Kd.R_mono (Kd.R_far (p := ⟨g6, 1, none⟩) (Kd.R_far (p := ⟨g6, 0, none⟩) (Kd.R_far (p := ⟨go, 1, none⟩) (Kd.R_far (p := ⟨go, 0, none⟩) (Kd.R_types (Kd.R_types HO8.out.2.1 BK8.out (by decide)) HG.out.h6 (by decide)) (fun _ hk => hk.1.2) _) (fun _ hk => hk.1.2) _) (fun _ hk => hk.2) _) (fun _ hk => hk.2) _) (fun _ _ => trivial)), HO8.out.2.2⟩⟩⟩
           | false =>
            have H := Hs.out
            clear Hs
            rw [if_neg nf_] at H
            have H' := Aside0.mk H
            clear H
            go_wp2_with (first | (go_at_call 31; obtain rfl := HL5.out; obtain rfl := HL11.out; (with_reducible refine (ih kj3 (q0e9_ HJ1.out HK2.out HJ3.out) _ _ l0 _ _ (t2 ++ [x32]) _ _ (t3 ++ [x10]) s1 s2 false _ ?s1 ?s2 ?s3 ?s4 ?s5 ?s6 A4.out).mono ?_); (case s1 => exact (q5e2_ HR0.out)); (case s2 => exact HC0.out); (case s3 => exact (q578_ HN5.out)); (case s4 => exact (Kd.R_reads' HN5.out).2.1); (case s5 => exact (q578_ HN11.out)); (case s6 => exact (Kd.R_reads' HN11.out).2.1); rintro e w8 ⟨x0, x1, rfl, hR⟩; have hB8 := hR.1; have hO8 := hR.own (by repeat (first | exact HG.out.below | apply pw_below_drewN | apply below_drew1)) (by repeat (first | exact HN5.out | apply Kd.R_drewN | apply Kd.R_drew)) (by repeat (first | exact HN11.out | apply Kd.R_drewN | apply Kd.R_drew)) HNA.out; obtain ⟨A8, c8, e8_⟩ := Kd.R_slice hO8.1; subst e8_; obtain ⟨A9, c9, e9_⟩ := Kd.R_slice hO8.2.1; subst e9_; have HO8 := Aside0.mk hO8; have hg_ := Aside0.mk (Rg0.next qc52_ hB8); clear HG hR hB8 hO8 HN5 HN11 HNA HNB hcz0 hcz1 hfz0 hfz1; have HG := hg_; clear hg_) | ((with_reducible refine gate_dst (N := 12) rfl ?_); refine box_event ?hg (N := 12) ?hd (cs := #[.slice none 0 0, .slice none 0 0]) (t := 33) ?hr ?_; (case hd => rfl); (case hg => rfl); (case hr => exact qfba_); intro go hgo w9 hbox hb; have HN8 := Aside0.mk (show g5 ≠ go ∧ g6 ≠ go ∧ w.heap.size ≤ go from ⟨by have h_ := blk_lt HG.out.h5; rw [hgo]; exact Nat.ne_of_lt h_, by have h_ := blk_lt HG.out.h6; rw [hgo]; exact Nat.ne_of_lt h_, by rw [hgo]; exact HG.out.below.size⟩); have BK8 := Aside0.mk hbox; have ho_ := Aside0.mk (And.intro (Kd.R_below HO8.out.1 hb) (And.intro (Kd.R_below HO8.out.2.1 hb) HO8.out.2.2)); have hg_ := Aside0.mk (Rg0.next qc52_ hb); clear HG HO8 hb hbox hgo; have HG := hg_; have HO8 := ho_; clear hg_ ho_; have hoz0 : w9.cell? ⟨go, 0, none⟩ = some (.slice none 0 0) := (blk_cell BK8.out 0).trans rfl; have hoz1 : w9.cell? ⟨go, 1, none⟩ = some (.slice none 0 0) := (blk_cell BK8.out 1).trans rfl; have hof0 := blk_frozen BK8.out 0; have hof1 := blk_frozen BK8.out 1; have hop0 := HN8.out.1; have hop1 := HN8.out.2.1; have hop2 := hop0.symm; have hop3 := hop1.symm; have hyz0 : w9.cell? ⟨g6, 0, none⟩ = some (.slice none 0 0) := (blk_cell HG.out.h6 0).trans rfl; have hyz1 : w9.cell? ⟨g6, 1, none⟩ = some (.slice none 0 0) := (blk_cell HG.out.h6 1).trans rfl; have hyf0 := blk_frozen HG.out.h6 0; have hyf1 := blk_frozen HG.out.h6 1))
            go_roundg kj3
            case measure => have := HJ1.out; have := HK2.out; have := HJ3.out; omega
            case rel => exact ⟨(wrap64 (x32 + 1)), qc8f_, H', ⟨q0e9_ HJ1.out HK2.out HJ3.out⟩, ⟨(by repeat (first | exact HG.out | (with_reducible refine Rg0.drewN ?_ _) | (with_reducible refine Rg0.drew ?_) | refine Rg0.set ?_ HN8.out.2.2 HN8.out.1 HN8.out.2.1 _ _))⟩⟩
          · rw [if_neg c48] at H; exact absurd H (by simp)
         · rw [if_neg c46] at H; exact absurd H (by simp)
        ·
         rw [if_neg c44] at H
         have c44b0 := beq_eq_false_iff_ne.mpr c44
         have c44b1 := bne_iff_ne.mpr c44
         have H' := Aside0.mk H
         clear H
         have hnb := HG.out.ne
         have hnc := HG.out.ne.symm
         have hcz0 : wc.cell? ⟨g5, 0, none⟩ = some (.slice B0 l1_0.length d0) := (blk_cell HG.out.h5 0).trans rfl
         have hcz1 : wc.cell? ⟨g5, 1, none⟩ = some (.slice B1 l1_1.length d1) := (blk_cell HG.out.h5 1).trans rfl
         have hfz0 := blk_frozen HG.out.h5 0
         have hfz1 := blk_frozen HG.out.h5 1
         go_wp2_with (first | ((with_reducible refine gate_callee (f := 28) rfl ?_); refine gl_ 60 Try.func28 #[.slice B0 l1_0.length d0, .int .i64 x10, .int .i64 x32] ?_; (with_reducible refine (impl_labelAt.calls _ _ l1_0 x10 x32 t4 _ ?s1 ?s2 A5.out).mono ?_); (case s1 => exact (q5e2_ HR1.out)); (case s2 => exact HC1.out); rintro e w6 ⟨rfl, hb⟩; refine ⟨_, rfl, ?_⟩; have hg_ := Aside0.mk (Rg0.next qc52_ hb); clear HG; have HG := hg_; clear hg_ hb))
         go_roundg kj3
         case measure => have := HJ1.out; have := HK2.out; have := HJ3.out; omega
         case rel => exact ⟨(wrap64 (x32 + 1)), qc8f_, H', ⟨q0e9_ HJ1.out HK2.out HJ3.out⟩, ⟨qc52_⟩⟩
     · rw [if_neg c25] at H; exact absurd H (by simp)
    ·
     rw [if_neg c24] at H
     have c24b0 := decide_eq_false c24
     clear c24
     simp only [Option.some.injEq, Prod.mk.injEq] at H
     obtain ⟨rfl, rfl, rfl⟩ := H
     have hnb := HG.out.ne
     have hnc := HG.out.ne.symm
     have hyz0 : wr.cell? ⟨g6, 0, none⟩ = some (.slice none 0 0) := (blk_cell HG.out.h6 0).trans rfl
     have hyz1 : wr.cell? ⟨g6, 1, none⟩ = some (.slice none 0 0) := (blk_cell HG.out.h6 1).trans rfl
     have hyf0 := blk_frozen HG.out.h6 0
     have hyf1 := blk_frozen HG.out.h6 1
     go_wp2
     refine bodyPost_ret (results_ct rfl _ _ g6 33 #[.slice none 0 0, .slice none 0 0] (0, 0) _ rfl (by (with_reducible repeat (first | refine blk_drewN ?_ _ | refine blk_drew ?_ | refine blk_alloc ?_ _)); refine blk_put (cs := #[.slice none 0 0, .slice none 0 0]) ?_ 1 _ rfl; (with_reducible repeat (first | refine blk_drewN ?_ _ | refine blk_drew ?_ | refine blk_alloc ?_ _)); refine blk_put (cs := #[.slice none 0 0, .slice none 0 0]) ?_ 0 _ rfl; (with_reducible repeat (first | refine blk_drewN ?_ _ | refine blk_drew ?_ | refine blk_alloc ?_ _)); exact HG.out.h6) Try.underlying33 rfl (by kernel_rfl)) rfl ?_
     exact ⟨_, _, q6e2_, ⟨by repeat (first | (with_reducible first | exact HG.out.below | apply below_alloc | apply pw_below_drewN | apply below_drew1 | refine below_set ?_ HG.out.ge6) | exact HG.out.below), .inr ⟨Kd.R_nil _ _ _ _ _, Kd.R_nil _ _ _ _ _, fun k_ h_ => by simp [Value.ownBlock] at h_⟩⟩⟩
theorem impl_regionOf.calls (k : Nat) : ∀ (A0 : Option Addr) (c0 : Nat) (l0 : List Int) (P0 : Nat → Prop) (u0 : Value) (l1_0 : List Int) (P1 : Nat → Prop) (u1 : Value) (l1_1 : List Int) (r1 : List Int) (r2 : List Int) (r3 : Bool) (w0 w : World) (hB : Below w0.heap.size w0 w) (hr0 : ∀ W_, Kept w W_ (fun k_ => P0 k_ ∨ P1 k_) → Kd.C (Kd.int .i64) W_ A0 l0.length l0) (hc0 : l0.length ≤ c0) (ho0 : Kd.R (Kd.int .i64) 3 w w0.heap.size P0 u0 l1_0) (hp0 : ∀ k_, P0 k_ → ¬ P1 k_) (ho1 : Kd.R (Kd.int .i64) 3 w w0.heap.size P1 u1 l1_1) (hp1 : ∀ k_, P1 k_ → ¬ P0 k_) (h : impl_regionOf.f k l0 l1_0 l1_1 = some (r1, r2, r3)),
  Calls Try.prog 31 #[.slice A0 l0.length c0, .agg #[u0, u1]] w fun e w' => ∃ v0_ v1_ : Value, e = .returned (.tuple #[.agg #[v0_, v1_], .bool r3]) ∧ Kd.R (Kd.int .i64) 3 w' w0.heap.size (fun k_ => ((P0 k_ ∨ P1 k_) ∨ w.heap.size ≤ k_) ∧ some k_ ≠ (v1_ : Value).ownBlock) v0_ r1 ∧ Kd.R (Kd.int .i64) 3 w' w0.heap.size (fun k_ => ((P0 k_ ∨ P1 k_) ∨ w.heap.size ≤ k_) ∧ some k_ ≠ (v0_ : Value).ownBlock) v1_ r2 ∧ Below w0.heap.size w0 w' ∧ Kept w w' (fun k_ => P0 k_ ∨ P1 k_) := by
 intro A0 c0 l0 P0 u0 l1_0 P1 u1 l1_1 r1 r2 r3 w0 w hB hr0 hc0 ho0 hp0 ho1 hp1 h
 obtain ⟨B0, d0, rfl⟩ := Kd.R_slice ho0
 obtain ⟨B1, d1, rfl⟩ := Kd.R_slice ho1
 refine (impl_regionOf.calls0 k A0 c0 l0 B0 d0 l1_0 B1 d1 l1_1 r1 r2 r3 w (hr0 w (Kept.refl w _)) hc0 (Kd.R_reads' ho0).2.2 (Kd.R_reads' ho0).2.1 (Kd.R_reads' ho1).2.2 (Kd.R_reads' ho1).2.1 h).mono ?_
 rintro e w' ⟨v0, v1, rfl, hb, hR⟩
 refine ⟨v0, v1, rfl, ?_, ?_, below_then hB hB.size hb, Kept.of_below hb _⟩
 ·
  rcases hR with ⟨rfl, rfl, rfl, rfl⟩ | ⟨h0, h1, ha⟩
  · exact R_okto (Kd.R_below ho0 hb) (fun k_ e_ => ⟨.inl (.inl (ho0.1 k_ e_)), fun e2 => hp0 k_ (ho0.1 k_ e_) (ho1.1 k_ e2.symm)⟩)
  · exact R_okto (Kd.R_lower h0 hB.size) (fun k_ e_ => ⟨.inr (Kd.R_base h0 k_ e_), fun e2 => ha k_ e_ e2.symm⟩)
 ·
  rcases hR with ⟨rfl, rfl, rfl, rfl⟩ | ⟨h0, h1, ha⟩
  · exact R_okto (Kd.R_below ho1 hb) (fun k_ e_ => ⟨.inl (.inr (ho1.1 k_ e_)), fun e2 => hp1 k_ (ho1.1 k_ e_) (ho0.1 k_ e2.symm)⟩)
  · exact R_okto (Kd.R_lower h1 hB.size) (fun k_ e_ => ⟨.inr (Kd.R_base h1 k_ e_), fun e2 => ha k_ e2.symm e_⟩)

end Go.Proofs.Ytgfedgnpffockaa.PAll
