-- written by a program of this session (wip/gen/xpatch.py over the translation); Lean checks it
import Derived.Test.YthanbhbibjnmjaaPAllx0
import Derived.Test.YthanbhbibjnmjaaPAllx1
import Derived.Test.YthanbhbibjnmjaaPAllx2
import Derived.Test.YthanbhbibjnmjaaPAllx4
namespace Go.Proofs.Ythanbhbibjnmjaa.PAll
open Go.RowKit Go.Proofs.Ythanbhbibjnmjaa.Hand Go.Proofs.YthanbhbibjnmjaaW.PrintWords Go.Proofs.YthanbhbibjnmjaaW.PrintLast Go.Proofs.YthanbhbibjnmjaaW.PrintMore
attribute [local go_sem] max2_int min2_int max_two min_two max_three min_three max_four min_four   -- for this text's walks alone
set_option maxHeartbeats 8000000
set_option maxRecDepth 100000
set_option linter.unusedVariables false
set_option linter.unusedSimpArgs false

/-! ### impl_LabelOfRegion: function 9 -/
def impl_LabelOfRegion.l0 : Nat → List Int → List Int → Int → Int → List Int → List Int → Option (List Int × Bool)
 | 0, _, _, _, _, _, _ => none
 | k + 1, x4, x15, x16, x17, x349000, x349001 => if x17 < x16 then (if 0 ≤ x17 then (if x17 < (x15.length : Int) then (if x17 ≤ (x349000.length : Int) then (if x17 < (x349001.length : Int) then ((impl_labelAt.f (x349000.take (x17 : Int).toNat) (rd x349001 x17) (rd x15 x17)).bind fun t356 => (if 0 ≤ (rd x15 x17) then (if (rd x15 x17) < (x4.length : Int) then (impl_LabelOfRegion.l0 k (x4.set ((rd x15 x17) : Int).toNat t356) x15 x16 (wrap64 (x17 + 1)) x349000 x349001) else (none)) else (none))) else (none)) else (none)) else (none)) else (none)) else (some (x4, true))
def impl_LabelOfRegion.f (k : Nat) (l0_0 : List Int) (l0_1 : List Int) : Option (List Int × Bool) := (impl_isRegion.f k l0_0 l0_1).bind fun t349 => (if t349 = true then (if 0 ≤ (l0_0.length : Int) then (if ((l0_0.length : Int) : Int).toNat ≤ 35184372088832 then (impl_LabelOfRegion.l0 k (List.replicate ((l0_0.length : Int) : Int).toNat 0) l0_0 (l0_0.length : Int) 0 l0_0 l0_1) else (none)) else (none)) else (some (([] : List Int), false)))
theorem impl_LabelOfRegion.mono_l : ∀ k, (∀ y0 y1 y2 y3 y4 y5, LeO (impl_LabelOfRegion.l0 k y0 y1 y2 y3 y4 y5) (impl_LabelOfRegion.l0 (k + 1) y0 y1 y2 y3 y4 y5))
 | 0 => fun _ _ _ _ _ _ r h => by simp [impl_LabelOfRegion.l0] at h
 | k + 1 => by
  have ih0 := impl_LabelOfRegion.mono_l k
  ·
   intro y0 y1 y2 y3 y4 y5
   unfold impl_LabelOfRegion.l0
   repeat' (with_reducible first | exact ih0 _ _ _ _ _ _ | exact impl_isRegion.mono _ _ _ | exact LeO.refl _ | exact LeO.none _ | refine LeO.ite ?_ ?_ | refine LeO.bind ?_ (fun _ => ?_))
theorem impl_LabelOfRegion.mono : ∀ a0 a1 k, LeO (impl_LabelOfRegion.f k a0 a1) (impl_LabelOfRegion.f (k + 1) a0 a1) := by
 intro a0 a1 k
 have ih0 := impl_LabelOfRegion.mono_l k
 unfold impl_LabelOfRegion.f
 repeat' (with_reducible first | exact ih0 _ _ _ _ _ _ | exact impl_isRegion.mono _ _ _ | exact LeO.refl _ | exact LeO.none _ | refine LeO.ite ?_ ?_ | refine LeO.bind ?_ (fun _ => ?_))
def impl_LabelOfRegion.T7 : Bool × List (List Nat × List Nat) := (true, [([], []), ([], []), ([], []), ([2], [2]), ([], []), ([3, 4], [3, 4]), ([], []), ([6], [6]), ([], []), ([7, 8], [7, 8]), ([9], [9]), ([], []), ([5, 10, 11], [5, 10, 11]), ([0, 1, 0, 1, 2, 3, 4, 5, 6, 7, 8, 9, 10, 11, 12], [0, 1]), ([13, 12, 12, 0, 1, 2, 3, 4, 5, 6, 7, 8, 9, 10, 11, 12], [12, 13])])
def impl_LabelOfRegion.B7 : List Nat := [0, 0, 0, 4, 0, 28, 0, 64, 0, 448, 960, 0, 4092, 8191, 16383]
theorem impl_LabelOfRegion.tab7 : rtab .any (opsOf Try.f9 7) = impl_LabelOfRegion.T7 := by kernel_rfl
theorem impl_LabelOfRegion.bits7 : waitsOk impl_LabelOfRegion.T7.2 impl_LabelOfRegion.B7 = true := by kernel_rfl
theorem impl_LabelOfRegion.calls (k : Nat) (A0_0 : Option Addr) (c0_0 : Nat) (l0_0 : List Int) (A0_1 : Option Addr) (c0_1 : Nat) (l0_1 : List Int) (r1 : List Int) (r2 : Bool) (w : World) (hr0_0 : Kd.C (Kd.int .i64) w A0_0 l0_0.length l0_0) (hc0_0 : l0_0.length ≤ c0_0) (hr0_1 : Kd.C (Kd.int .i64) w A0_1 l0_1.length l0_1) (hc0_1 : l0_1.length ≤ c0_1) (h : impl_LabelOfRegion.f k l0_0 l0_1 = some (r1, r2)) :
  Calls Try.prog 9 #[.agg #[.slice A0_0 l0_0.length c0_0, .slice A0_1 l0_1.length c0_1]] w fun e w' => ∃ v0_ : Value, e = .returned (.tuple #[v0_, .bool r2]) ∧ Kd.R (Kd.int .i64) 3 w' w.heap.size (fun _ => True) v0_ r1 ∧ Below w.heap.size w w' := by
 have hu33 := Try.underlying33
 have HR0_0 := Aside0.mk hr0_0
 have HC0_0 := Aside0.mk hc0_0
 clear hr0_0 hc0_0
 have HR0_1 := Aside0.mk hr0_1
 have HC0_1 := Aside0.mk hc0_1
 clear hr0_1 hc0_1
 have HB := Aside0.mk (Below.refl w.heap.size w)
 unfold impl_LabelOfRegion.f at h
 have H := h; clear h
 obtain ⟨t349, A2, H⟩ := ob_ H
 by_cases c3 : t349 = true
 ·
  subst c3
  rw [if_pos rfl] at H
  by_cases c4 : 0 ≤ (l0_0.length : Int)
  ·
   rw [if_pos c4] at H
   have c4b0 := eq_true c4
   have c4b1 := decide_eq_true c4
   clear c4
   by_cases c5 : ((l0_0.length : Int) : Int).toNat ≤ 35184372088832
   ·
    rw [if_pos c5] at H
    have c5b0 := eq_true c5
    have c5b1 := decide_eq_true c5
    clear c5
    obtain ⟨y350, hy350⟩ : ∃ y_ : List Int, y_ = (List.replicate ((l0_0.length : Int) : Int).toNat 0) := ⟨_, rfl⟩
    replace H : (impl_LabelOfRegion.l0 k y350 l0_0 (l0_0.length : Int) 0 l0_0 l0_1) = some (r1, r2) := by first | (rw [hy350]; with_reducible exact H) | (have H2_ := (Option.bind_some _ _).symm.trans H; rw [hy350]; with_reducible exact H2_) | (have H2_ := (Option.bind_some _ _).symm.trans H; with_reducible exact H2_) | with_reducible exact H | (rw [hy350]; exact H) | exact H
    have Ny350 := Aside0.mk hy350
    clear hy350
    have H' := Aside0.mk H
    clear H
    go_enter Try.func9, Try.ntmps9
    go_wp2_with (first | ((with_reducible refine gate_dst (N := 1) rfl ?_); refine box_event ?hg (N := 1) ?hd (cs := #[.slice A0_0 l0_0.length c0_0, .slice A0_1 l0_1.length c0_1]) (t := 33) ?hr ?_; (case hd => rfl); (case hg => rfl); (case hr => exact qba7_); intro gb348 hg w6 hbox hb; have n0_ := Aside0.mk (below_step q0c4_ hb); have n1_ := Aside0.mk (hbox); have n2_ := Aside0.mk ((by rw [hg]; exact (below_size q0c4_) : w.heap.size ≤ gb348)); have n3_ := Aside0.mk ((by rw [hg]; exact (below_size q0c4_) : w.heap.size ≤ gb348)); replace HB := n0_; have BK348 := n1_; have GW348 := n2_; have GE348 := n3_; clear n0_ n1_ n2_ n3_; clear hb hbox hg; have hcz7_0 : w6.cell? ⟨gb348, 0, none⟩ = some (.slice A0_0 l0_0.length c0_0) := (blk_cell BK348.out 0).trans rfl; have hcz7_1 : w6.cell? ⟨gb348, 1, none⟩ = some (.slice A0_1 l0_1.length c0_1) := (blk_cell BK348.out 1).trans rfl; have hfz7_0 := blk_frozen BK348.out 0; have hfz7_1 := blk_frozen BK348.out 1) | ((with_reducible refine gate_callee (f := 21) rfl ?_); refine gl_ 8 Try.func21 #[.agg #[.slice A0_0 l0_0.length c0_0, .slice A0_1 l0_1.length c0_1]] ?_; (with_reducible refine (impl_isRegion.calls k _ _ l0_0 _ _ l0_1 true _ ?s1 ?s2 ?s3 ?s4 A2.out).mono ?_); (case s1 => exact qe02_ HR0_0.out); (case s2 => exact HC0_0.out); (case s3 => exact qe02_ HR0_1.out); (case s4 => exact HC0_1.out); rintro e w8 ⟨rfl, hb⟩; refine ⟨_, rfl, ?_⟩; replace BK348 := Aside0.mk (blk_below (g := gb348) (o := .cells #[.slice A0_0 l0_0.length c0_0, .slice A0_1 l0_1.length c0_1] 33 (0, 0)) qe34_ hb); replace HB := Aside0.mk (below_step q805_ hb); clear hb; have hcz9_0 : w8.cell? ⟨gb348, 0, none⟩ = some (.slice A0_0 l0_0.length c0_0) := (blk_cell BK348.out 0).trans rfl; have hcz9_1 : w8.cell? ⟨gb348, 1, none⟩ = some (.slice A0_1 l0_1.length c0_1) := (blk_cell BK348.out 1).trans rfl; have hfz9_0 := blk_frozen BK348.out 0; have hfz9_1 := blk_frozen BK348.out 1) | ((with_reducible refine gate_dst (N := 13) rfl ?_); refine Kd.R_make (Kd.int .i64) _ 3 rfl (N := 13) rfl 31 _ _ rfl (l0_0.length : Int) rfl rfl Try.underlying31 (.int .i64 0) 8 info3 rfl (by decide) (by omega) 0 (ok := fun _ => True) (okp := fun _ => True) rfl (fun _ hk => hk) trivial (of_decide_eq_true qe84_) (Nat.le_trans (Nat.mul_le_mul_right _ (of_decide_eq_true qe84_ : (l0_0.length : Int).toNat ≤ 35184372088832)) (by omega)) (Below.refl _ _) (Nat.le_refl _) ?_; intro v351 w10 ho11 hb hg_ hnew_; clear hg_ hnew_; (first | rw [← Ny350.out] at ho11 | (simp only [Int.reduceToNat] at ho11; rw [← Ny350.out] at ho11)); have HO352 := Aside0.mk (Kd.R_lower ho11 (below_size q805_)); replace BK348 := Aside0.mk (blk_below (g := gb348) (o := .cells #[.slice A0_0 l0_0.length c0_0, .slice A0_1 l0_1.length c0_1] 33 (0, 0)) qe34_ hb); replace HB := Aside0.mk (below_step q805_ hb); clear hb ho11; have hcz12_0 : w10.cell? ⟨gb348, 0, none⟩ = some (.slice A0_0 l0_0.length c0_0) := (blk_cell BK348.out 0).trans rfl; have hcz12_1 : w10.cell? ⟨gb348, 1, none⟩ = some (.slice A0_1 l0_1.length c0_1) := (blk_cell BK348.out 1).trans rfl; have hfz12_0 := blk_frozen BK348.out 0; have hfz12_1 := blk_frozen BK348.out 1))
    go_loopg [17] k (fun kq v17 w' => ∃ (x4_1 : List Int) (x17_1 : Int), v17 = .int .i64 x17_1 ∧ Aside0 (impl_LabelOfRegion.l0 kq x4_1 l0_0 (l0_0.length : Int) x17_1 l0_0 l0_1 = some (r1, r2)) ∧ Aside0 (kq ≤ k) ∧ Aside0 (Kd.R (Kd.int .i64) 3 w' w.heap.size (fun _ => True) v351 x4_1) ∧ Aside0 (w'.heap[gb348]? = some (.cells #[(.slice A0_0 l0_0.length c0_0), (.slice A0_1 l0_1.length c0_1)] 33 (0, 0))) ∧ Aside0 (Below w.heap.size w w'))
    case atStart => exact ⟨(y350), (0), qc8f_, H', ⟨Nat.le_refl _⟩, ⟨q9d5_ HO352.out⟩, ⟨qe34_⟩, ⟨q805_⟩⟩
    case round =>
     clear H'; try clear c2; try clear p2; try clear c3; try clear c4; try clear c4b0; try clear c4b1; try clear c5; try clear c5b0; try clear c5b1; try clear c9; try clear hcz12_0; try clear hcz12_1; try clear hcz7_0; try clear hcz7_1; try clear hcz9_0; try clear hcz9_1; try clear hfz12_0; try clear hfz12_1; try clear hfz7_0; try clear hfz7_1; try clear hfz9_0; try clear hfz9_1
     obtain ⟨x4_1, x17_1, rfl, HA, HK1, HO_4, BK348, HB⟩ := hrel
     cases gk with
     | zero => exact absurd HA.out (by simp [impl_LabelOfRegion.l0])
     | succ k1 =>
      have H := HA.out
      clear HA
      simp only [impl_LabelOfRegion.l0] at H
      by_cases c13 : x17_1 < (l0_0.length : Int)
      ·
       rw [if_pos c13] at H
       have c13b0 := decide_eq_true c13
       clear c13
       by_cases c14 : 0 ≤ x17_1
       ·
        rw [if_pos c14] at H
        have c14b0 := decide_eq_true c14
        clear c14
        by_cases c15 : x17_1 < (l0_0.length : Int)
        ·
         rw [if_pos c15] at H
         have c15b0 := decide_eq_true c15
         clear c15
         have c16b0 := eq_true (of_decide_eq_true qe84_ : 0 ≤ x17_1)
         by_cases c17 : x17_1 ≤ (l0_0.length : Int)
         ·
          rw [if_pos c17] at H
          have c17b0 := eq_true c17
          have c17b1 := decide_eq_true c17
          clear c17
          by_cases c18 : x17_1 < (l0_1.length : Int)
          ·
           rw [if_pos c18] at H
           have c18b0 := decide_eq_true c18
           clear c18
           obtain ⟨t356, A19, H⟩ := ob_ H
           by_cases c20 : 0 ≤ (rd l0_0 x17_1)
           ·
            rw [if_pos c20] at H
            have c20b0 := decide_eq_true c20
            clear c20
            by_cases c21 : (rd l0_0 x17_1) < (x4_1.length : Int)
            ·
             rw [if_pos c21] at H
             have c21b0 := decide_eq_true c21
             clear c21
             obtain ⟨y357, hy357⟩ : ∃ y_ : List Int, y_ = (x4_1.set ((rd l0_0 x17_1) : Int).toNat t356) := ⟨_, rfl⟩
             replace H : (impl_LabelOfRegion.l0 k1 y357 l0_0 (l0_0.length : Int) (wrap64 (x17_1 + 1)) l0_0 l0_1) = some (r1, r2) := by first | (rw [hy357]; with_reducible exact H) | (have H2_ := (Option.bind_some _ _).symm.trans H; rw [hy357]; with_reducible exact H2_) | (have H2_ := (Option.bind_some _ _).symm.trans H; with_reducible exact H2_) | with_reducible exact H | (rw [hy357]; exact H) | exact H
             have Ny357 := Aside0.mk hy357
             clear hy357
             have H' := Aside0.mk H
             clear H
             have p353 : 0 ≤ (x17_1 : Int) := of_decide_eq_true qe84_
             have q353 : x17_1 < (l0_0.length : Int) := of_decide_eq_true qe84_
             obtain ⟨ad353, e353, hx353_0⟩ := Kd.at_int HR0_0.out x17_1 p353 q353
             cases e353
             (try (replace hx353_0 := (HB.out.cell (World.block_lt_of_cell? w _ hx353_0)).trans hx353_0))
             replace p353 := eq_true p353
             replace q353 := eq_true q353
             try go_wp2
             have n0_ := Aside0.mk (Kd.R_drew HO_4.out)
             have n1_ := Aside0.mk (blk_drew BK348.out)
             have n2_ := Aside0.mk (below_drew1 HB.out)
             clear HO_4 BK348 HB; have HO_4 := n0_; have BK348 := n1_; have HB := n2_; clear n0_ n1_ n2_
             obtain ⟨i024, hi024, _, hsz24, _⟩ := info_parts info3
             obtain ⟨hcut24, hA24, hC24⟩ := print_take_of (P := Try.prog) (Value.int .i64) 0 31 3 .i64 Try.underlying31 hi024 hsz24 (some ad353) c0_0 l0_0 x17_1 (of_decide_eq_true qe84_) (of_decide_eq_true qe84_) HC0_0.out
             have HR354 := Aside0.mk (Kd.C_of_reads (h1 := fun _ => rfl) (hA24 _ (Kd.reads_of_C HR0_0.out)))
             have HC354 := Aside0.mk hC24
             clear hA24 hC24 hi024 hsz24
             have p355 : 0 ≤ (x17_1 : Int) := of_decide_eq_true qe84_
             have q355 : x17_1 < (l0_1.length : Int) := of_decide_eq_true qe84_
             obtain ⟨ad355, e355, hx355_0⟩ := Kd.at_int HR0_1.out x17_1 p355 q355
             have hw355_0 := hx355_0
             cases e355
             (try (replace hx355_0 := (HB.out.cell (World.block_lt_of_cell? w _ hx355_0)).trans hx355_0))
             replace p355 := eq_true p355
             replace q355 := eq_true q355
             refine start_ (n := 15) (S := fun w' => w'.cell? ⟨gb348, 0, none⟩ = some (.slice (some ad353) l0_0.length c0_0) ∧ w'.cell? ⟨gb348, 1, none⟩ = some (.slice (some ad355) l0_1.length c0_1) ∧ w'.cell? (ad355.add (x17_1).toNat) = some (.int .i64 (rd l0_1 x17_1))) (ds := [14]) #[false, false, false, false, false, false, false, false, false, false, false, false, false, false, false] (by kernel_rfl) rfl rfl ⟨(blk_cell BK348.out 0).trans rfl, (blk_cell BK348.out 1).trans rfl, ((HB.out.cell (World.block_lt_of_cell? w _ hw355_0)).trans hw355_0)⟩ (fun hHeld => ?_); refine with_tabW impl_LabelOfRegion.tab7 impl_LabelOfRegion.bits7 (fun HT_ HW_ => ?_)
             generalize wr.drew = w23 at HO_4 BK348 HB HR354 hx355_0 hHeld ⊢
             refine pure_ (i := 0) (N := some 22) (v := ?_) (a' := ?_) #[true, false, false, false, false, false, false, false, false, false, false, false, false, false, false] rfl rfl (any_of HT_.out (by kernel_rfl)) (fun _ _ _ h => h) (Or.inl ⟨by rfl, ?_⟩) ?_ ?_
             rotate_left
             ·
              intro w'
              go_simp
              with_reducible rfl
             rotate_left
             ·
              simp only [Act.put, List.setIfInBounds_toArray, List.set_cons_zero, List.set_cons_succ, i64_w, i32_w]
              rfl
             refine pure_ (i := 1) (N := some 23) (v := ?_) (a' := ?_) #[true, true, false, false, false, false, false, false, false, false, false, false, false, false, false] rfl rfl (any_of HT_.out (by kernel_rfl)) (fun _ _ _ h => h) (Or.inl ⟨by rfl, ?_⟩) ?_ ?_
             rotate_left
             ·
              intro w'
              go_simp
              with_reducible rfl
             rotate_left
             ·
              simp only [Act.put, List.setIfInBounds_toArray, List.set_cons_zero, List.set_cons_succ, i64_w, i32_w]
              rfl
             refine pure_ (i := 2) (N := some 24) (v := ?_) (a' := ?_) #[true, true, true, false, false, false, false, false, false, false, false, false, false, false, false] rfl rfl (any_of HT_.out (by kernel_rfl)) (fun _ _ _ h => h) (Or.inl ⟨by rfl, ?_⟩) ?_ ?_
             rotate_left
             ·
              intro w'
              go_simp
              with_reducible rfl
             rotate_left
             ·
              simp only [Act.put, List.setIfInBounds_toArray, List.set_cons_zero, List.set_cons_succ, i64_w, i32_w]
              rfl
             refine pure_ (i := 4) (N := some 26) (v := ?_) (a' := ?_) #[true, true, true, false, true, false, false, false, false, false, false, false, false, false, false] rfl rfl (any_of HT_.out (by kernel_rfl)) (fun _ _ _ h => h) (Or.inl ⟨by rfl, ?_⟩) ?_ ?_
             rotate_left
             ·
              intro w'
              go_simp
              with_reducible rfl
             rotate_left
             ·
              simp only [Act.put, List.setIfInBounds_toArray, List.set_cons_zero, List.set_cons_succ, i64_w, i32_w]
              rfl
             refine pure_ (i := 6) (N := some 28) (v := ?_) (a' := ?_) #[true, true, true, false, true, false, true, false, false, false, false, false, false, false, false] rfl rfl (any_of HT_.out (by kernel_rfl)) (fun _ _ _ h => h) (Or.inl ⟨by rfl, ?_⟩) ?_ ?_
             rotate_left
             ·
              intro w'
              go_simp
              with_reducible rfl
             rotate_left
             ·
              simp only [Act.put, List.setIfInBounds_toArray, List.set_cons_zero, List.set_cons_succ, i64_w, i32_w]
              rfl
             refine pure_ (i := 8) (N := some 30) (v := ?_) (a' := ?_) #[true, true, true, false, true, false, true, false, true, false, false, false, false, false, false] rfl rfl (any_of HT_.out (by kernel_rfl)) (fun _ _ _ h => h) (Or.inl ⟨by rfl, ?_⟩) ?_ ?_
             rotate_left
             ·
              intro w'
              go_simp
              with_reducible rfl
             rotate_left
             ·
              simp only [Act.put, List.setIfInBounds_toArray, List.set_cons_zero, List.set_cons_succ, i64_w, i32_w]
              rfl
             refine pure_ (i := 11) (N := some 33) (v := ?_) (a' := ?_) #[true, true, true, false, true, false, true, false, true, false, false, true, false, false, false] rfl rfl (any_of HT_.out (by kernel_rfl)) (fun _ _ _ h => h) (Or.inl ⟨by rfl, ?_⟩) ?_ ?_
             rotate_left
             ·
              intro w'
              go_simp
              with_reducible rfl
             rotate_left
             ·
              simp only [Act.put, List.setIfInBounds_toArray, List.set_cons_zero, List.set_cons_succ, i64_w, i32_w]
              rfl
             refine take_ (i := 3) (N := some 25) (v := ?_) (a' := ?_) #[true, true, true, true, true, false, true, false, true, false, false, true, false, false, false] rfl rfl (take_ofW HT_.out HW_.out (by kernel_rfl)) (fun _ _ _ h => h) (Or.inl ⟨by rfl, ?_⟩) hHeld ?_ ?_
             rotate_left
             ·
              rintro w' ⟨s0, s1, s2⟩
              go_simp
              with_reducible rfl
             rotate_left
             ·
              simp only [Act.put, List.setIfInBounds_toArray, List.set_cons_zero, List.set_cons_succ, i64_w, i32_w]
              rfl
             refine pure_ (i := 5) (N := some 27) (v := ?_) (a' := ?_) #[true, true, true, true, true, true, true, false, true, false, false, true, false, false, false] rfl rfl (any_of HT_.out (by kernel_rfl)) (fun _ _ _ h => h) (Or.inl ⟨by rfl, ?_⟩) ?_ ?_
             rotate_left
             ·
              intro w'
              go_simp
              with_reducible rfl
             rotate_left
             ·
              simp only [Act.put, List.setIfInBounds_toArray, List.set_cons_zero, List.set_cons_succ, i64_w, i32_w]
              rfl
             refine take_ (i := 7) (N := some 29) (v := ?_) (a' := ?_) #[true, true, true, true, true, true, true, true, true, false, false, true, false, false, false] rfl rfl (take_ofW HT_.out HW_.out (by kernel_rfl)) (fun _ _ _ h => h) (Or.inl ⟨by rfl, ?_⟩) hHeld ?_ ?_
             rotate_left
             ·
              rintro w' ⟨s0, s1, s2⟩
              go_simp
              with_reducible rfl
             rotate_left
             ·
              simp only [Act.put, List.setIfInBounds_toArray, List.set_cons_zero, List.set_cons_succ, i64_w, i32_w]
              rfl
             refine pure_ (i := 9) (N := some 31) (v := ?_) (a' := ?_) #[true, true, true, true, true, true, true, true, true, true, false, true, false, false, false] rfl rfl (any_of HT_.out (by kernel_rfl)) (fun _ _ _ h => h) (Or.inl ⟨by rfl, ?_⟩) ?_ ?_
             rotate_left
             ·
              intro w'
              go_simp
              with_reducible rfl
             rotate_left
             ·
              simp only [Act.put, List.setIfInBounds_toArray, List.set_cons_zero, List.set_cons_succ, i64_w, i32_w]
              rfl
             refine take_ (i := 10) (N := some 32) (v := ?_) (a' := ?_) #[true, true, true, true, true, true, true, true, true, true, true, true, false, false, false] rfl rfl (take_ofW HT_.out HW_.out (by kernel_rfl)) (fun _ _ _ h => h) (Or.inl ⟨by rfl, ?_⟩) hHeld ?_ ?_
             rotate_left
             ·
              rintro w' ⟨s0, s1, s2⟩
              go_simp
              with_reducible rfl
             rotate_left
             ·
              simp only [Act.put, List.setIfInBounds_toArray, List.set_cons_zero, List.set_cons_succ, i64_w, i32_w]
              rfl
             refine one_ (i := 12) (N := some 34) #[true, true, true, true, true, true, true, true, true, true, true, true, true, false, false] rfl rfl (one_of HT_.out (by kernel_rfl)) (by decide) (fun K hK => ?_)
             refine goes_ Try.func22 (by kernel_rfl) rfl #[.slice (some ad353) (l0_0.take (x17_1 : Int).toNat).length c0_0, .int .i64 (rd l0_1 x17_1), .int .i64 (rd l0_0 x17_1)] (by rfl) rfl rfl (by (try simp only [List.map_toArray, List.map_cons, List.map_nil]); first | done | (rw [show (l0_0.take (x17_1 : Int).toNat).length = x17_1.toNat from (by rw [List.length_take]; have h_ : (x17_1 : Int) ≤ (l0_0.length : Int) := of_decide_eq_true qe84_; omega)] <;> rfl) | rfl | (simp only [List.length_drop, List.length_take]; rfl)) ?_
             with_reducible refine (impl_labelAt.calls _ _ (l0_0.take (x17_1 : Int).toNat) (rd l0_1 x17_1) (rd l0_0 x17_1) t356 _ ?s1 ?s2 A19.out).mono ?_
             (case s1 => exact qe02_ HR354.out)
             (case s2 => exact HC354.out)
             rintro e w25 ⟨rfl, hb⟩
             refine ⟨_, rfl, ?_⟩
             have n0_ := Aside0.mk (Kd.R_below (q9d5_ HO_4.out) hb)
             have n1_ := Aside0.mk (blk_below (g := gb348) (o := .cells #[.slice (some ad353) l0_0.length c0_0, .slice (some ad355) l0_1.length c0_1] 33 (0, 0)) qe34_ hb)
             have n2_ := Aside0.mk (below_step q805_ hb)
             clear HO_4 BK348 HB; have HO_4 := n0_; have BK348 := n1_; have HB := n2_; clear n0_ n1_ n2_
             (try clear hb)
             (try clear hb2)
             (try clear hk)
             (try clear hi)
             have p22 : 0 ≤ ((rd l0_0 x17_1) : Int) := of_decide_eq_true qe84_
             have q22 : ((rd l0_0 x17_1) : Int) < ((x4_1.length : Int) : Int) := of_decide_eq_true qe84_
             obtain ⟨go22, co22, eo22, gb22, gl22, cl22, HG22⟩ := Kd.R_form HO_4.out (by omega)
             (first | cases eo22 | (injection eo22 with ea_ en_ ec_; (first | subst ea_ | (injection ea_ with ea_; subst ea_)); subst ec_; clear en_))
             have GB22 := Aside0.mk gb22
             have GG22 := Aside0.mk HG22
             clear gb22 gl22 HG22
             obtain ⟨hx22_0, hf22_0⟩ := Kd.R_celln 0 HO_4.out ((rd l0_0 x17_1) : Int) p22 q22
             replace p22 := eq_true p22
             replace q22 := eq_true q22
             have HP26 := Kd.R_putn HO_4.out ((rd l0_0 x17_1) : Int) t356
             rw [← Ny357.out] at HP26
             have HQ26 := Aside0.mk HP26
             clear HP26
             refine hK.out _ _ ⟨(blk_cell BK348.out 0).trans rfl, (blk_cell BK348.out 1).trans rfl, ((HB.out.cell (World.block_lt_of_cell? w _ hw355_0)).trans hw355_0)⟩ (fun hHeld => ?_)
             clear hK K
             refine norm_ (a' := ?_) ?_ ?_
             rotate_left
             ·
              show Act.put _ (some 34) _ = _
              simp only [Act.put, List.setIfInBounds_toArray, List.set_cons_zero, List.set_cons_succ, i64_w, i32_w]
              rfl
             refine pure_ (i := 13) (N := some 35) (v := ?_) (a' := ?_) #[true, true, true, true, true, true, true, true, true, true, true, true, true, true, false] rfl rfl (any_of HT_.out (by kernel_rfl)) (fun _ _ _ h => h) (Or.inl ⟨by rfl, ?_⟩) ?_ ?_
             rotate_left
             ·
              intro w'
              go_simp
              with_reducible rfl
             rotate_left
             ·
              simp only [Act.put, List.setIfInBounds_toArray, List.set_cons_zero, List.set_cons_succ, i64_w, i32_w]
              rfl
             refine last_ (i := 14) (N := none) #[true, true, true, true, true, true, true, true, true, true, true, true, true, true, true] rfl rfl (one_of HT_.out (by kernel_rfl)) (by decide) (fun K hK => ?_)
             refine skip_ (w1 := ?_) (by rfl) rfl ?_ ?_
             rotate_left
             ·
              go_simp
              rfl
             refine hK.out _ _ ?_
             clear hK K
             refine done_ (done_of HT_.out (by kernel_rfl)) ?_
             try go_wp2
             go_roundg k1
             case measure => have := HK1.out; omega
             case rel => exact ⟨(y357), (wrap64 (x17_1 + 1)), qc8f_, H', ⟨by have := HK1.out; omega⟩, ⟨q9d5_ HQ26.out⟩, ⟨by (with_reducible repeat (first | refine blk_drewN ?_ _ | refine blk_drew ?_ | refine blk_alloc ?_ _)); refine blk_far ?_ (by have h_ := Kd.R_ne HO_4.out BK348.out (by decide); intro e_; exact h_ (by rw [e_]; rfl)) _; (with_reducible repeat (first | refine blk_drewN ?_ _ | refine blk_drew ?_ | refine blk_alloc ?_ _)); exact BK348.out⟩, ⟨by repeat (first | (with_reducible first | exact HB.out | apply below_alloc | apply pw_below_drewN | apply below_drew1 | refine below_set ?_ GB22.out | refine below_set ?_ GE348.out) | exact HB.out)⟩⟩
            ·
             rw [if_neg c21] at H
             exact absurd H (by simp)
           ·
            rw [if_neg c20] at H
            exact absurd H (by simp)
          ·
           rw [if_neg c18] at H
           exact absurd H (by simp)
         ·
          rw [if_neg c17] at H
          exact absurd H (by simp)
        ·
         rw [if_neg c15] at H
         exact absurd H (by simp)
       ·
        rw [if_neg c14] at H
        exact absurd H (by simp)
      ·
       rw [if_neg c13] at H
       have c13b0 := decide_eq_false c13
       clear c13
       simp only [Option.some.injEq, Prod.mk.injEq] at H
       obtain ⟨rfl, rfl⟩ := H
       go_wp2
       go_ret2
       exact ⟨_, qce7_, q9d5_ HO_4.out, q805_⟩
   ·
    rw [if_neg c5] at H
    exact absurd H (by simp)
  ·
   rw [if_neg c4] at H
   exact absurd H (by simp)
 ·
  replace c3 := Bool.eq_false_iff.mpr c3
  subst c3
  rw [if_neg nf_] at H
  simp only [Option.some.injEq, Prod.mk.injEq] at H
  obtain ⟨rfl, rfl⟩ := H
  go_enter Try.func9, Try.ntmps9
  go_wp2_with (first | ((with_reducible refine gate_dst (N := 1) rfl ?_); refine box_event ?hg (N := 1) ?hd (cs := #[.slice A0_0 l0_0.length c0_0, .slice A0_1 l0_1.length c0_1]) (t := 33) ?hr ?_; (case hd => rfl); (case hg => rfl); (case hr => exact qba7_); intro gb348 hg w27 hbox hb; have n0_ := Aside0.mk (below_step q0c4_ hb); have n1_ := Aside0.mk (hbox); have n2_ := Aside0.mk ((by rw [hg]; exact (below_size q0c4_) : w.heap.size ≤ gb348)); have n3_ := Aside0.mk ((by rw [hg]; exact (below_size q0c4_) : w.heap.size ≤ gb348)); replace HB := n0_; have BK348 := n1_; have GW348 := n2_; have GE348 := n3_; clear n0_ n1_ n2_ n3_; clear hb hbox hg; have hcz28_0 : w27.cell? ⟨gb348, 0, none⟩ = some (.slice A0_0 l0_0.length c0_0) := (blk_cell BK348.out 0).trans rfl; have hcz28_1 : w27.cell? ⟨gb348, 1, none⟩ = some (.slice A0_1 l0_1.length c0_1) := (blk_cell BK348.out 1).trans rfl; have hfz28_0 := blk_frozen BK348.out 0; have hfz28_1 := blk_frozen BK348.out 1) | ((with_reducible refine gate_callee (f := 21) rfl ?_); refine gl_ 8 Try.func21 #[.agg #[.slice A0_0 l0_0.length c0_0, .slice A0_1 l0_1.length c0_1]] ?_; (with_reducible refine (impl_isRegion.calls k _ _ l0_0 _ _ l0_1 false _ ?s1 ?s2 ?s3 ?s4 A2.out).mono ?_); (case s1 => exact qe02_ HR0_0.out); (case s2 => exact HC0_0.out); (case s3 => exact qe02_ HR0_1.out); (case s4 => exact HC0_1.out); rintro e w29 ⟨rfl, hb⟩; refine ⟨_, rfl, ?_⟩; replace BK348 := Aside0.mk (blk_below (g := gb348) (o := .cells #[.slice A0_0 l0_0.length c0_0, .slice A0_1 l0_1.length c0_1] 33 (0, 0)) qe34_ hb); replace HB := Aside0.mk (below_step q805_ hb); clear hb))
  go_ret2
  exact ⟨_, qce7_, qf62_, q805_⟩

/-! ### laws_wSame: function 10 -/
def laws_wSame.l0 : Nat → List Int → List Int → Int → Int → Option (Bool)
 | 0, _, _, _, _ => none
 | k + 1, x0, x1, x12, x13 => if x13 < x12 then (if 0 ≤ x13 then (if x13 < (x0.length : Int) then (if x13 < (x1.length : Int) then (if (rd x0 x13) = (rd x1 x13) then (laws_wSame.l0 k x0 x1 x12 (wrap64 (x13 + 1))) else (some false)) else (none)) else (none)) else (none)) else (some true)
def laws_wSame.f (k : Nat) (l0 : List Int) (l1 : List Int) : Option (Bool) := if (l0.length : Int) = (l1.length : Int) then (laws_wSame.l0 k l0 l1 (l0.length : Int) 0) else (some false)
theorem laws_wSame.mono_l : ∀ k, (∀ y0 y1 y2 y3, LeO (laws_wSame.l0 k y0 y1 y2 y3) (laws_wSame.l0 (k + 1) y0 y1 y2 y3))
 | 0 => fun _ _ _ _ r h => by simp [laws_wSame.l0] at h
 | k + 1 => by
  have ih0 := laws_wSame.mono_l k
  ·
   intro y0 y1 y2 y3
   unfold laws_wSame.l0
   repeat' (with_reducible first | exact ih0 _ _ _ _ | exact LeO.refl _ | exact LeO.none _ | refine LeO.ite ?_ ?_ | refine LeO.bind ?_ (fun _ => ?_))
theorem laws_wSame.mono : ∀ a0 a1 k, LeO (laws_wSame.f k a0 a1) (laws_wSame.f (k + 1) a0 a1) := by
 intro a0 a1 k
 have ih0 := laws_wSame.mono_l k
 unfold laws_wSame.f
 repeat' (with_reducible first | exact ih0 _ _ _ _ | exact LeO.refl _ | exact LeO.none _ | refine LeO.ite ?_ ?_ | refine LeO.bind ?_ (fun _ => ?_))
theorem laws_wSame.calls (k : Nat) (A0 : Option Addr) (c0 : Nat) (l0 : List Int) (A1 : Option Addr) (c1 : Nat) (l1 : List Int) (r : Bool) (w : World) (hr0 : Kd.C (Kd.int .i64) w A0 l0.length l0) (hc0 : l0.length ≤ c0) (hr1 : Kd.C (Kd.int .i64) w A1 l1.length l1) (hc1 : l1.length ≤ c1) (h : laws_wSame.f k l0 l1 = some r) :
  Calls Try.prog 10 #[.slice A0 l0.length c0, .slice A1 l1.length c1] w fun e w' => e = .returned (.bool r) ∧ Drawn0 w w' := by
 have HR0 := Aside0.mk hr0
 have HC0 := Aside0.mk hc0
 clear hr0 hc0
 have HR1 := Aside0.mk hr1
 have HC1 := Aside0.mk hc1
 clear hr1 hc1
 unfold laws_wSame.f at h
 have H := h; clear h
 by_cases c3 : (l0.length : Int) = (l1.length : Int)
 ·
  rw [if_pos c3] at H
  have c3b0 := beq_iff_eq.mpr c3
  have c3b1 := bne_eq_false_iff_eq.mpr c3
  have c3b2 : (l0.length == l1.length) = true := q02f_
  clear c3
  have H' := Aside0.mk H
  clear H
  go_enter Try.func10, Try.ntmps10
  go_wp2
  repeat (go_quiet (fail); try go_wp2)
  go_loopg [13] k (fun kq v13 w' => ∃ (x13_1 : Int), v13 = .int .i64 x13_1 ∧ Aside0 (laws_wSame.l0 kq l0 l1 (l0.length : Int) x13_1 = some r) ∧ Aside0 (kq ≤ k) ∧ Drawn0 w w')
  case atStart => exact ⟨(0), qc8f_, H', ⟨Nat.le_refl _⟩, qffa_⟩
  case round =>
   clear H'; try clear c1; try clear p2; try clear c3; try clear c3b0; try clear c3b1; try clear c3b2
   obtain ⟨x13_1, rfl, HA, HK1, ⟨m1, rfl⟩⟩ := hrel
   cases gk with
   | zero => exact absurd HA.out (by simp [laws_wSame.l0])
   | succ k1 =>
    have H := HA.out
    clear HA
    simp only [laws_wSame.l0] at H
    by_cases c4 : x13_1 < (l0.length : Int)
    ·
     rw [if_pos c4] at H
     have c4b0 := decide_eq_true c4
     clear c4
     by_cases c5 : 0 ≤ x13_1
     ·
      rw [if_pos c5] at H
      have c5b0 := decide_eq_true c5
      clear c5
      by_cases c6 : x13_1 < (l0.length : Int)
      ·
       rw [if_pos c6] at H
       have c6b0 := decide_eq_true c6
       clear c6
       by_cases c7 : x13_1 < (l1.length : Int)
       ·
        rw [if_pos c7] at H
        have c7b0 := decide_eq_true c7
        clear c7
        by_cases c8 : (rd l0 x13_1) = (rd l1 x13_1)
        ·
         rw [if_pos c8] at H
         have c8b0 := beq_iff_eq.mpr c8
         have c8b1 := bne_eq_false_iff_eq.mpr c8
         clear c8
         have H' := Aside0.mk H
         clear H
         have p358 : 0 ≤ (x13_1 : Int) := of_decide_eq_true qe84_
         have q358 : x13_1 < (l0.length : Int) := of_decide_eq_true qe84_
         obtain ⟨ad358, e358, hx358_0⟩ := Kd.at_int HR0.out x13_1 p358 q358
         cases e358
         replace p358 := eq_true p358
         replace q358 := eq_true q358
         have p359 : 0 ≤ (x13_1 : Int) := of_decide_eq_true qe84_
         have q359 : x13_1 < (l1.length : Int) := of_decide_eq_true qe84_
         obtain ⟨ad359, e359, hx359_0⟩ := Kd.at_int HR1.out x13_1 p359 q359
         cases e359
         replace p359 := eq_true p359
         replace q359 := eq_true q359
         go_wp2
         repeat (go_quiet (fail); try go_wp2)
         go_roundg k1
         case measure => have := HK1.out; omega
         case rel => exact ⟨(wrap64 (x13_1 + 1)), qc8f_, H', ⟨by have := HK1.out; omega⟩, qffa_⟩
        ·
         rw [if_neg c8] at H
         have c8b0 := beq_eq_false_iff_ne.mpr c8
         have c8b1 := bne_iff_ne.mpr c8
         obtain rfl := Option.some.inj H
         have p358 : 0 ≤ (x13_1 : Int) := of_decide_eq_true qe84_
         have q358 : x13_1 < (l0.length : Int) := of_decide_eq_true qe84_
         obtain ⟨ad358, e358, hx358_0⟩ := Kd.at_int HR0.out x13_1 p358 q358
         cases e358
         replace p358 := eq_true p358
         replace q358 := eq_true q358
         have p359 : 0 ≤ (x13_1 : Int) := of_decide_eq_true qe84_
         have q359 : x13_1 < (l1.length : Int) := of_decide_eq_true qe84_
         obtain ⟨ad359, e359, hx359_0⟩ := Kd.at_int HR1.out x13_1 p359 q359
         cases e359
         replace p359 := eq_true p359
         replace q359 := eq_true q359
         go_wp2
         repeat (go_quiet (fail); try go_wp2)
         go_ret
         exact ⟨qc8f_, qffa_⟩
       ·
        rw [if_neg c7] at H
        exact absurd H (by simp)
      ·
       rw [if_neg c6] at H
       exact absurd H (by simp)
     ·
      rw [if_neg c5] at H
      exact absurd H (by simp)
    ·
     rw [if_neg c4] at H
     have c4b0 := decide_eq_false c4
     clear c4
     obtain rfl := Option.some.inj H
     go_wp2
     repeat (go_quiet (fail); try go_wp2)
     go_ret
     exact ⟨qc8f_, qffa_⟩
 ·
  rw [if_neg c3] at H
  have c3b0 := beq_eq_false_iff_ne.mpr c3
  have c3b1 := bne_iff_ne.mpr c3
  have c3b2 : (l0.length == l1.length) = false := q02f_
  obtain rfl := Option.some.inj H
  go_enter Try.func10, Try.ntmps10
  go_wp2
  repeat (go_quiet (fail); try go_wp2)
  go_ret
  exact ⟨qc8f_, qffa_⟩

/-! ### laws_wSameRegion: function 11 -/
def laws_wSameRegion.f (k : Nat) (l0_0 : List Int) (l0_1 : List Int) (l1_0 : List Int) (l1_1 : List Int) : Option (Bool) := (laws_wSame.f k l0_0 l1_0).bind fun t362 => (if t362 = true then ((laws_wSame.f k l0_1 l1_1).bind fun t363 => (some t363)) else (some false))
theorem laws_wSameRegion.mono : ∀ a0 a1 a2 a3 k, LeO (laws_wSameRegion.f k a0 a1 a2 a3) (laws_wSameRegion.f (k + 1) a0 a1 a2 a3) := by
 intro a0 a1 a2 a3 k
 unfold laws_wSameRegion.f
 repeat' (with_reducible first | exact laws_wSame.mono _ _ _ | exact LeO.refl _ | exact LeO.none _ | refine LeO.ite ?_ ?_ | refine LeO.bind ?_ (fun _ => ?_))
theorem laws_wSameRegion.calls (k : Nat) (A0_0 : Option Addr) (c0_0 : Nat) (l0_0 : List Int) (A0_1 : Option Addr) (c0_1 : Nat) (l0_1 : List Int) (A1_0 : Option Addr) (c1_0 : Nat) (l1_0 : List Int) (A1_1 : Option Addr) (c1_1 : Nat) (l1_1 : List Int) (r : Bool) (w : World) (hr0_0 : Kd.C (Kd.int .i64) w A0_0 l0_0.length l0_0) (hc0_0 : l0_0.length ≤ c0_0) (hr0_1 : Kd.C (Kd.int .i64) w A0_1 l0_1.length l0_1) (hc0_1 : l0_1.length ≤ c0_1) (hr1_0 : Kd.C (Kd.int .i64) w A1_0 l1_0.length l1_0) (hc1_0 : l1_0.length ≤ c1_0) (hr1_1 : Kd.C (Kd.int .i64) w A1_1 l1_1.length l1_1) (hc1_1 : l1_1.length ≤ c1_1) (h : laws_wSameRegion.f k l0_0 l0_1 l1_0 l1_1 = some r) :
  Calls Try.prog 11 #[.agg #[.slice A0_0 l0_0.length c0_0, .slice A0_1 l0_1.length c0_1], .agg #[.slice A1_0 l1_0.length c1_0, .slice A1_1 l1_1.length c1_1]] w fun e w' => e = .returned (.bool r) ∧ Below w.heap.size w w' := by
 have hu33 := Try.underlying33
 have HR0_0 := Aside0.mk hr0_0
 have HC0_0 := Aside0.mk hc0_0
 clear hr0_0 hc0_0
 have HR0_1 := Aside0.mk hr0_1
 have HC0_1 := Aside0.mk hc0_1
 clear hr0_1 hc0_1
 have HR1_0 := Aside0.mk hr1_0
 have HC1_0 := Aside0.mk hc1_0
 clear hr1_0 hc1_0
 have HR1_1 := Aside0.mk hr1_1
 have HC1_1 := Aside0.mk hc1_1
 clear hr1_1 hc1_1
 have HB := Aside0.mk (Below.refl w.heap.size w)
 unfold laws_wSameRegion.f at h
 have H := h; clear h
 obtain ⟨t362, A3, H⟩ := ob_ H
 by_cases c4 : t362 = true
 ·
  subst c4
  rw [if_pos rfl] at H
  obtain ⟨t363, A5, H⟩ := ob_ H
  obtain rfl := Option.some.inj H
  go_enter Try.func11, Try.ntmps11
  go_wp2_with (first | ((with_reducible refine gate_dst (N := 2) rfl ?_); refine box_event ?hg (N := 2) ?hd (cs := #[.slice A0_0 l0_0.length c0_0, .slice A0_1 l0_1.length c0_1]) (t := 33) ?hr ?_; (case hd => rfl); (case hg => rfl); (case hr => exact qba7_); intro gb360 hg w6 hbox hb; have n0_ := Aside0.mk (below_step q0c4_ hb); have n1_ := Aside0.mk (hbox); have n2_ := Aside0.mk ((by rw [hg]; exact (below_size q0c4_) : w.heap.size ≤ gb360)); have n3_ := Aside0.mk ((by rw [hg]; exact (below_size q0c4_) : w.heap.size ≤ gb360)); replace HB := n0_; have BK360 := n1_; have GW360 := n2_; have GE360 := n3_; clear n0_ n1_ n2_ n3_; clear hb hbox hg) | ((with_reducible refine gate_dst (N := 3) rfl ?_); refine box_event ?hg (N := 3) ?hd (cs := #[.slice A1_0 l1_0.length c1_0, .slice A1_1 l1_1.length c1_1]) (t := 33) ?hr ?_; (case hd => rfl); (case hg => rfl); (case hr => exact qba7_); intro gb361 hg w7 hbox hb; have n0_ := Aside0.mk (blk_below (g := gb360) (o := .cells #[.slice A0_0 l0_0.length c0_0, .slice A0_1 l0_1.length c0_1] 33 (0, 0)) q002_ hb); have n1_ := Aside0.mk (below_step q10a_ hb); have n2_ := Aside0.mk (hbox); have n3_ := Aside0.mk ((by rw [hg]; exact (below_size q10a_) : w.heap.size ≤ gb361)); have n4_ := Aside0.mk ((by rw [hg]; exact (below_size q10a_) : w.heap.size ≤ gb361)); have n5_ := Aside0.mk ((by rw [hg]; exact Nat.ne_of_lt (blk_lt (g := gb360) (o := .cells #[.slice A0_0 l0_0.length c0_0, .slice A0_1 l0_1.length c0_1] 33 (0, 0)) q002_) : gb360 ≠ gb361)); have n6_ := Aside0.mk ((by rw [hg]; exact Nat.ne_of_gt (blk_lt (g := gb360) (o := .cells #[.slice A0_0 l0_0.length c0_0, .slice A0_1 l0_1.length c0_1] 33 (0, 0)) q002_) : gb361 ≠ gb360)); replace BK360 := n0_; replace HB := n1_; have BK361 := n2_; have GW361 := n3_; have GE361 := n4_; have NB360_361 := n5_; have NB361_360 := n6_; clear n0_ n1_ n2_ n3_ n4_ n5_ n6_; clear hb hbox hg; have hnb8 := NB360_361.out; have hnc8 := NB361_360.out; have hcz9_0 : w7.cell? ⟨gb360, 0, none⟩ = some (.slice A0_0 l0_0.length c0_0) := (blk_cell BK360.out 0).trans rfl; have hcz9_1 : w7.cell? ⟨gb360, 1, none⟩ = some (.slice A0_1 l0_1.length c0_1) := (blk_cell BK360.out 1).trans rfl; have hfz9_0 := blk_frozen BK360.out 0; have hfz9_1 := blk_frozen BK360.out 1; have hcz10_0 : w7.cell? ⟨gb361, 0, none⟩ = some (.slice A1_0 l1_0.length c1_0) := (blk_cell BK361.out 0).trans rfl; have hcz10_1 : w7.cell? ⟨gb361, 1, none⟩ = some (.slice A1_1 l1_1.length c1_1) := (blk_cell BK361.out 1).trans rfl; have hfz10_0 := blk_frozen BK361.out 0; have hfz10_1 := blk_frozen BK361.out 1) | ((with_reducible refine gate_callee (f := 10) rfl ?_); refine gl_ 9 Try.func10 #[.slice A0_0 l0_0.length c0_0, .slice A1_0 l1_0.length c1_0] ?_; (with_reducible refine (laws_wSame.calls k _ _ l0_0 _ _ l1_0 true _ ?s1 ?s2 ?s3 ?s4 A3.out).mono ?_); (case s1 => exact qe02_ HR0_0.out); (case s2 => exact HC0_0.out); (case s3 => exact qe02_ HR1_0.out); (case s4 => exact HC1_0.out); rintro e w' ⟨rfl, ⟨nd, rfl⟩⟩; refine ⟨_, rfl, ?_⟩) | (go_at_call 10; (with_reducible refine (laws_wSame.calls k _ _ l0_1 _ _ l1_1 t363 _ ?s1 ?s2 ?s3 ?s4 A5.out).mono ?_); (case s1 => exact qe8f_ HR0_1.out); (case s2 => exact HC0_1.out); (case s3 => exact qe8f_ HR1_1.out); (case s4 => exact HC1_1.out); rintro e w' ⟨rfl, ⟨nd, rfl⟩⟩))
  go_ret
  exact ⟨qce7_, q875_⟩
 ·
  replace c4 := Bool.eq_false_iff.mpr c4
  subst c4
  rw [if_neg nf_] at H
  obtain rfl := Option.some.inj H
  go_enter Try.func11, Try.ntmps11
  go_wp2_with (first | ((with_reducible refine gate_dst (N := 2) rfl ?_); refine box_event ?hg (N := 2) ?hd (cs := #[.slice A0_0 l0_0.length c0_0, .slice A0_1 l0_1.length c0_1]) (t := 33) ?hr ?_; (case hd => rfl); (case hg => rfl); (case hr => exact qba7_); intro gb360 hg w11 hbox hb; have n0_ := Aside0.mk (below_step q0c4_ hb); have n1_ := Aside0.mk (hbox); have n2_ := Aside0.mk ((by rw [hg]; exact (below_size q0c4_) : w.heap.size ≤ gb360)); have n3_ := Aside0.mk ((by rw [hg]; exact (below_size q0c4_) : w.heap.size ≤ gb360)); replace HB := n0_; have BK360 := n1_; have GW360 := n2_; have GE360 := n3_; clear n0_ n1_ n2_ n3_; clear hb hbox hg) | ((with_reducible refine gate_dst (N := 3) rfl ?_); refine box_event ?hg (N := 3) ?hd (cs := #[.slice A1_0 l1_0.length c1_0, .slice A1_1 l1_1.length c1_1]) (t := 33) ?hr ?_; (case hd => rfl); (case hg => rfl); (case hr => exact qba7_); intro gb361 hg w12 hbox hb; have n0_ := Aside0.mk (blk_below (g := gb360) (o := .cells #[.slice A0_0 l0_0.length c0_0, .slice A0_1 l0_1.length c0_1] 33 (0, 0)) q002_ hb); have n1_ := Aside0.mk (below_step q10a_ hb); have n2_ := Aside0.mk (hbox); have n3_ := Aside0.mk ((by rw [hg]; exact (below_size q10a_) : w.heap.size ≤ gb361)); have n4_ := Aside0.mk ((by rw [hg]; exact (below_size q10a_) : w.heap.size ≤ gb361)); have n5_ := Aside0.mk ((by rw [hg]; exact Nat.ne_of_lt (blk_lt (g := gb360) (o := .cells #[.slice A0_0 l0_0.length c0_0, .slice A0_1 l0_1.length c0_1] 33 (0, 0)) q002_) : gb360 ≠ gb361)); have n6_ := Aside0.mk ((by rw [hg]; exact Nat.ne_of_gt (blk_lt (g := gb360) (o := .cells #[.slice A0_0 l0_0.length c0_0, .slice A0_1 l0_1.length c0_1] 33 (0, 0)) q002_) : gb361 ≠ gb360)); replace BK360 := n0_; replace HB := n1_; have BK361 := n2_; have GW361 := n3_; have GE361 := n4_; have NB360_361 := n5_; have NB361_360 := n6_; clear n0_ n1_ n2_ n3_ n4_ n5_ n6_; clear hb hbox hg; have hnb13 := NB360_361.out; have hnc13 := NB361_360.out; have hcz14_0 : w12.cell? ⟨gb360, 0, none⟩ = some (.slice A0_0 l0_0.length c0_0) := (blk_cell BK360.out 0).trans rfl; have hcz14_1 : w12.cell? ⟨gb360, 1, none⟩ = some (.slice A0_1 l0_1.length c0_1) := (blk_cell BK360.out 1).trans rfl; have hfz14_0 := blk_frozen BK360.out 0; have hfz14_1 := blk_frozen BK360.out 1; have hcz15_0 : w12.cell? ⟨gb361, 0, none⟩ = some (.slice A1_0 l1_0.length c1_0) := (blk_cell BK361.out 0).trans rfl; have hcz15_1 : w12.cell? ⟨gb361, 1, none⟩ = some (.slice A1_1 l1_1.length c1_1) := (blk_cell BK361.out 1).trans rfl; have hfz15_0 := blk_frozen BK361.out 0; have hfz15_1 := blk_frozen BK361.out 1) | ((with_reducible refine gate_callee (f := 10) rfl ?_); refine gl_ 9 Try.func10 #[.slice A0_0 l0_0.length c0_0, .slice A1_0 l1_0.length c1_0] ?_; (with_reducible refine (laws_wSame.calls k _ _ l0_0 _ _ l1_0 false _ ?s1 ?s2 ?s3 ?s4 A3.out).mono ?_); (case s1 => exact qe02_ HR0_0.out); (case s2 => exact HC0_0.out); (case s3 => exact qe02_ HR1_0.out); (case s4 => exact HC1_0.out); rintro e w' ⟨rfl, ⟨nd, rfl⟩⟩; refine ⟨_, rfl, ?_⟩))
  go_ret
  exact ⟨qce7_, q875_⟩

/-! ### impl_PointOfRegion: function 12 -/
theorem PtI_put {w0 w : World} {gb gm ga n : Nat} {c0 c1 v : Value} {xs : List Int} {b : Bool} (h : PtI w0 gb gm ga c0 c1 v n (xs, b) w) (b' : Bool) : PtI w0 gb gm ga c0 c1 v n (xs, b') (w.setCell ⟨ga, 0, none⟩ (.bool b')) := by
 obtain ⟨hB, hb, hm, ha, hR, hl, hA⟩ := h
 exact ⟨below_set hB hA, blk_far hb (p := ⟨ga, 0, none⟩) (blk_ne hb ha (by decide)) _, blk_far hm (p := ⟨ga, 0, none⟩) (blk_ne hm ha (by decide)) _, blk_set ha 0 _, Kd.R_set hR ha (by decide) 0 _, hl, hA⟩
theorem PtI_drewN {w0 w : World} {gb gm ga n : Nat} {c0 c1 v : Value} {s : List Int × Bool} (h : PtI w0 gb gm ga c0 c1 v n s w) (m : Nat) : PtI w0 gb gm ga c0 c1 v n s (w.drewN m) := by
 obtain ⟨hB, hb, hm, ha, hR, hl, hA⟩ := h
 exact ⟨pw_below_drewN hB m, blk_drewN hb m, blk_drewN hm m, blk_drewN ha m, Kd.R_drewN hR m, hl, hA⟩
/-- The box of 'again' is laid anew and holds what the elder one held. -/
theorem PtI_next {w0 w : World} {gb gm ga n : Nat} {c0 c1 v : Value} {s : List Int × Bool} (h : PtI w0 gb gm ga c0 c1 v n s w) : PtI w0 gb gm w.heap.size c0 c1 v n s (w.alloc (.cells #[.bool s.2] 4)) := by
 obtain ⟨hB, hb, hm, ha, hR, hl, hA⟩ := h
 exact ⟨below_alloc hB _, blk_alloc hb _, blk_alloc hm _, blk_new w _, Kd.R_alloc hR _, hl, hB.size⟩
theorem PtI_start {w0 w : World} {gb n : Nat} {c0 c1 v : Value} {s : List Int × Bool} (hB : Below w0.heap.size w0 w) (hb : w.heap[gb]? = some (.cells #[c0, c1] 33 (0, 0))) (hR : Kd.R (Kd.int .i64) 3 w w0.heap.size (fun _ => True) v s.1) (hl : s.1.length = n) :
  PtI w0 gb w.heap.size (w.heap.size + 1) c0 c1 v n s ((w.alloc (.cells #[v] 31)).alloc (.cells #[.bool s.2] 4)) := by
 have e : (w.alloc (.cells #[v] 31)).heap.size = w.heap.size + 1 := by simp
 rw [← e]
 exact ⟨below_alloc (below_alloc hB _) _, blk_alloc (blk_alloc hb _) _, blk_alloc (blk_new w _) _, blk_new _ _, Kd.R_alloc (Kd.R_alloc hR _) _, hl, by rw [e]; have := hB.size; omega⟩
theorem ptT_mono (far : List Int) (n : Nat) : ∀ k s, LeO (ptT far n k s) (ptT far n (k + 1) s)
 | 0, s => fun r h => by simp [ptT] at h
 | k + 1, s => by
  rw [ptT, ptT]
  exact LeO.ite (ptT_mono far n k _) (LeO.refl _)
/-- The last loop: out[order[p]] = most[p]. -/
def ptOut (o m : List Int) : Nat → List Int
 | 0 => List.replicate o.length 0
 | n + 1 => (ptOut o m n).set (rd o (n : Int)).toNat (rd m (n : Int))
theorem ptOut_length (o m : List Int) : ∀ n, (ptOut o m n).length = o.length
 | 0 => by rw [ptOut, List.length_replicate]
 | n + 1 => by rw [ptOut, List.length_set, ptOut_length o m n]
def impl_PointOfRegion.f (k : Nat) (l0_0 : List Int) (l0_1 : List Int) : Option (List Int × Bool) := (impl_isRegion.f k l0_0 l0_1).bind fun t => (if t = true then (if l0_0.length ≤ 8 ∧ l0_1.length = l0_0.length ∧ l0_0.all (fun x => decide (0 ≤ x ∧ x < (l0_0.length : Int))) = true then ((ptT l0_1 l0_0.length k (List.replicate l0_0.length 0, true)).bind fun m => some (ptOut l0_0 m l0_0.length, true)) else none) else (some (([] : List Int), false)))
theorem impl_PointOfRegion.mono : ∀ a0 a1 k, LeO (impl_PointOfRegion.f k a0 a1) (impl_PointOfRegion.f (k + 1) a0 a1) := by
 intro a0 a1 k
 unfold impl_PointOfRegion.f
 exact LeO.bind (impl_isRegion.mono a0 a1 k) (fun _ => LeO.ite (LeO.ite (LeO.bind (ptT_mono _ _ k _) (fun _ => LeO.refl _)) (LeO.refl _)) (LeO.refl _))
theorem impl_PointOfRegion.calls (k : Nat) (A0_0 : Option Addr) (c0_0 : Nat) (l0_0 : List Int) (A0_1 : Option Addr) (c0_1 : Nat) (l0_1 : List Int) (r1 : List Int) (r2 : Bool) (w : World) (hr0_0 : Kd.C (Kd.int .i64) w A0_0 l0_0.length l0_0) (hc0_0 : l0_0.length ≤ c0_0) (hr0_1 : Kd.C (Kd.int .i64) w A0_1 l0_1.length l0_1) (hc0_1 : l0_1.length ≤ c0_1) (h : impl_PointOfRegion.f k l0_0 l0_1 = some (r1, r2)) :
  Calls Try.prog 12 #[.agg #[.slice A0_0 l0_0.length c0_0, .slice A0_1 l0_1.length c0_1]] w fun e w' => ∃ v0_ : Value, e = .returned (.tuple #[v0_, .bool r2]) ∧ Kd.R (Kd.int .i64) 3 w' w.heap.size (fun _ => True) v0_ r1 ∧ Below w.heap.size w w' := by
 have hu45 := Try.underlying33
 have HR0 := Aside0.mk hr0_0
 have HC0 := Aside0.mk hc0_0
 have HR1 := Aside0.mk hr0_1
 have HC1 := Aside0.mk hc0_1
 clear hr0_0 hc0_0 hr0_1 hc0_1
 unfold impl_PointOfRegion.f at h
 obtain ⟨t, h1, h2⟩ := Option.bind_eq_some_iff.mp h
 clear h
 have A1 := Aside0.mk h1
 clear h1
 cases t with
 | false =>
  rw [if_neg (by decide)] at h2
  simp only [Option.some.injEq, Prod.mk.injEq] at h2
  obtain ⟨rfl, rfl⟩ := h2
  go_enter Try.func12, Try.ntmps12
  go_wp2_with (first | ((with_reducible refine gate_dst (N := 1) rfl ?_); refine box_event ?hg (N := 1) ?hd (cs := #[.slice A0_0 l0_0.length c0_0, .slice A0_1 l0_1.length c0_1]) (t := 33) ?hr ?_; (case hd => rfl); (case hg => rfl); (case hr => exact qba7_); intro gb hg w4 hbox hb; have BK := Aside0.mk hbox; have HB := Aside0.mk hb; clear hb hbox hg; have hcz0 : w4.cell? ⟨gb, 0, none⟩ = some (.slice A0_0 l0_0.length c0_0) := (blk_cell BK.out 0).trans rfl; have hcz1 : w4.cell? ⟨gb, 1, none⟩ = some (.slice A0_1 l0_1.length c0_1) := (blk_cell BK.out 1).trans rfl; have hfz0 := blk_frozen BK.out 0; have hfz1 := blk_frozen BK.out 1) | (go_at_call 21; refine (impl_isRegion.calls k _ _ l0_0 _ _ l0_1 false _ (Kd.C_below HR0.out HB.out) HC0.out (Kd.C_below HR1.out HB.out) HC1.out A1.out).mono ?_; rintro e w5 ⟨rfl, hb⟩; have HB2 := Aside0.mk (below_step HB.out hb); clear hb))
  go_ret2
  exact ⟨_, rfl, Kd.R_nil _ _ _ _ _, HB2.out⟩
 | true =>
  rw [if_pos rfl] at h2
  split at h2
  case isFalse => cases h2
  case isTrue hall =>
  obtain ⟨m, h3, h4⟩ := Option.bind_eq_some_iff.mp h2
  clear h2
  simp only [Option.some.injEq, Prod.mk.injEq] at h4
  obtain ⟨rfl, rfl⟩ := h4
  have HM := Aside0.mk h3
  clear h3
  have HALL := Aside0.mk hall
  clear hall
  obtain ⟨nz, hnz⟩ : ∃ nz, nz = l0_0.length := ⟨_, rfl⟩
  go_enter Try.func12, Try.ntmps12
  go_wp2_with (first | ((with_reducible refine gate_dst (N := 1) rfl ?_); refine box_event ?hg (N := 1) ?hd (cs := #[.slice A0_0 l0_0.length c0_0, .slice A0_1 l0_1.length c0_1]) (t := 33) ?hr ?_; (case hd => rfl); (case hg => rfl); (case hr => exact qba7_); intro gb hg w4 hbox hb; have BK := Aside0.mk hbox; have HB := Aside0.mk hb; clear hb hbox hg; have hcz0 : w4.cell? ⟨gb, 0, none⟩ = some (.slice A0_0 l0_0.length c0_0) := (blk_cell BK.out 0).trans rfl; have hcz1 : w4.cell? ⟨gb, 1, none⟩ = some (.slice A0_1 l0_1.length c0_1) := (blk_cell BK.out 1).trans rfl; have hfz0 := blk_frozen BK.out 0; have hfz1 := blk_frozen BK.out 1) | (go_at_call 21; refine (impl_isRegion.calls k _ _ l0_0 _ _ l0_1 true _ (Kd.C_below HR0.out HB.out) HC0.out (Kd.C_below HR1.out HB.out) HC1.out A1.out).mono ?_; rintro e w5 ⟨rfl, hb⟩; have BK2 := Aside0.mk (blk_below BK.out hb); have HB2 := Aside0.mk (below_step HB.out hb); clear hb; clear hcz0 hcz1 hfz0 hfz1 HB BK; have hcz0 : w5.cell? ⟨gb, 0, none⟩ = some (.slice A0_0 l0_0.length c0_0) := (blk_cell BK2.out 0).trans rfl; have hfz0 := blk_frozen BK2.out 0) | ((with_reducible refine gate_dst (N := 20) rfl ?_); refine Kd.R_make (Kd.int .i64) _ 3 rfl (N := 20) rfl 31 _ _ rfl (l0_0.length : Int) rfl rfl Try.underlying31 (.int .i64 0) 8 info_int rfl (by decide) (by omega) 0 (ok := fun _ => True) (okp := fun _ => True) rfl (fun _ hk => hk) trivial (by omega) (by have := HALL.out.1; omega) (Below.refl _ _) (Nat.le_refl _) ?_; intro vm w6 ho7 hb hg_ hnew_; clear hg_ hnew_; rw [Int.toNat_natCast] at ho7; have HR7 := Aside0.mk (Kd.R_lower ho7 HB2.out.size); have BK3 := Aside0.mk (blk_below BK2.out hb); have HB3 := Aside0.mk (below_step HB2.out hb); clear ho7 hb hcz0 hfz0 HB2 BK2; obtain ⟨Am, cm, em⟩ := Kd.R_slice HR7.out; rw [List.length_replicate] at em; subst em))
  have HI0 := Aside0.mk (PtI_start (gb := gb) (s := (List.replicate l0_0.length 0, true)) HB3.out BK3.out HR7.out List.length_replicate)
  go_loopg [6] k (fun kq v6 w' => ∃ (ga : Nat) (xs : List Int) (b : Bool), v6 = .pointer (some ⟨ga, 0, none⟩) ∧ Aside0 (ptT l0_1 l0_0.length kq (xs, b) = some m) ∧ Aside0 (PtI w gb w6.heap.size ga (.slice A0_0 l0_0.length c0_0) (.slice A0_1 l0_1.length c0_1) (.slice Am l0_0.length cm) l0_0.length (xs, b) w'))
  case atStart => exact ⟨_, _, _, rfl, HM, HI0⟩
  case round =>
   clear HI0 HM HB3 BK3 HR7
   obtain ⟨gm, hgm⟩ : ∃ gm, gm = w6.heap.size := ⟨_, rfl⟩
   obtain ⟨ga, xs, b, rfl, HM, HI⟩ := hrel
   have hca : wr.cell? ⟨ga, 0, none⟩ = some (.bool b) := (blk_cell HI.out.gagain 0).trans rfl
   have hfa : wr.frozen? ⟨ga, 0, none⟩ = false := blk_frozen HI.out.gagain 0
   cases gk with
   | zero => exact absurd HM.out (by simp [ptT])
   | succ k1 =>
   cases b with
   | false =>
    have hxs : xs = m := by have h := HM.out; rw [ptT, if_neg (by simp)] at h; injection h
    subst hxs
    clear HM
    go_wp2_with ((with_reducible refine gate_dst (N := 69) rfl ?_); refine Kd.R_make (Kd.int .i64) _ 3 rfl (N := 69) rfl 31 _ _ rfl (l0_0.length : Int) rfl rfl Try.underlying31 (.int .i64 0) 8 info_int rfl (by decide) (by omega) 0 (ok := fun _ => True) (okp := fun _ => True) rfl (fun _ hk => hk) trivial (by omega) (by have := HALL.out.1; omega) (Below.refl _ _) (Nat.le_refl _) ?_; intro vo w7 ho7 hb hg_ hnew_; clear hg_ hnew_; rw [Int.toNat_natCast] at ho7; have HO5 := Aside0.mk (Kd.R_lower ho7 HI.out.below.size); have HO6 := Aside0.mk (Kd.R_elder' HI.out.row (Kd.R_base ho7) hb); have BK7 := Aside0.mk (blk_below HI.out.box hb); have BM7 := Aside0.mk (blk_below HI.out.gmost hb); have HB7 := Aside0.mk (below_step HI.out.below hb); clear ho7 hb hca hfa HI; obtain ⟨Ao, co, eo⟩ := Kd.R_slice HO5.out; rw [List.length_replicate] at eo; subst eo; have hcz0 : w7.cell? ⟨gb, 0, none⟩ = some (.slice A0_0 l0_0.length c0_0) := (blk_cell BK7.out 0).trans rfl; have hfz0 := blk_frozen BK7.out 0)
    clear hcz0 hfz0 BK7
    go_loopg [73] l0_0.length (fun kq v73 w' => ∃ (i : Nat) (iz : Int), v73 = .int .i64 iz ∧ Aside0 (iz = (i : Int)) ∧ Aside0 (i + kq = l0_0.length) ∧ Aside0 (Kd.R (Kd.int .i64) 3 w' w.heap.size (fun k_ => True ∧ some k_ ≠ (Value.slice Ao l0_0.length co).ownBlock) (.slice Am l0_0.length cm) xs) ∧ Aside0 (Kd.R (Kd.int .i64) 3 w' w.heap.size (fun _ => True) (.slice Ao l0_0.length co) (ptOut l0_0 xs i)) ∧ Aside0 (w'.heap[w6.heap.size]? = some (.cells #[.slice Am l0_0.length cm] 31 (0, 0))) ∧ Aside0 (Below w.heap.size w w'))
    case atStart => exact ⟨0, 0, rfl, ⟨rfl⟩, ⟨by omega⟩, HO6, HO5, BM7, HB7⟩
    case round =>
     clear HO6 HO5 BM7 HB7
     obtain ⟨i, iz, rfl, NI, NK, HO6, HO5, BM7, HB7⟩ := hrel
     cases gk with
     | zero =>
      have hi : i = l0_0.length := by have := NK.out; omega
      subst hi
      have q1 : decide (iz < (l0_0.length : Int)) = false := decide_eq_false (by have := NI.out; omega)
      go_wp2
      go_ret2
      exact ⟨_, rfl, HO5.out, HB7.out⟩
     | succ d =>
      have hi0 : 0 ≤ iz := by have := NI.out; omega
      have hin : iz < (l0_0.length : Int) := by have := NI.out; have := NK.out; omega
      have q1 : decide (iz < (l0_0.length : Int)) = true := decide_eq_true hin
      have hl6 : xs.length = l0_0.length := (Kd.R_reads' HO6.out).1.symm
      obtain ⟨ad0, e0, hx0⟩ := Kd.at_int (Kd.C_below HR0.out HB7.out) iz hi0 hin
      cases e0
      obtain ⟨g6, cap6, ev, _, _, _⟩ := Kd.R_form HO6.out (by omega)
      injection ev with ea en ec
      subst ea
      clear en ec
      obtain ⟨go5, co5, eo5, gb5, gl5, cl5, HG5⟩ := Kd.R_form HO5.out (by rw [ptOut_length]; omega)
      injection eo5 with ea en ec
      subst ea
      clear en ec
      have BN5 := Aside0.mk (blk_ne BM7.out HG5 (by decide))
      have GB5 := Aside0.mk gb5
      clear gb5 gl5 HG5
      have hkb : 0 ≤ rd l0_0 iz ∧ rd l0_0 iz < (l0_0.length : Int) := by
       have hm : rd l0_0 iz ∈ l0_0 := by
        have hlt : i < l0_0.length := by have := NK.out; omega
        rw [NI.out]
        unfold rd
        rw [Int.toNat_natCast, List.getD_eq_getElem?_getD, List.getElem?_eq_getElem hlt]
        exact List.getElem_mem _
       exact of_decide_eq_true (List.all_eq_true.1 HALL.out.2.2 _ hm)
      obtain ⟨kk, hkk⟩ : ∃ kk, kk = rd l0_0 iz := ⟨_, rfl⟩
      rw [← hkk] at hx0 hkb
      obtain ⟨hk0, hk1⟩ := hkb
      have hcx : wr.cell? ⟨g6, iz.toNat, none⟩ = some (.int .i64 (rd xs iz)) := (Kd.R_celln 0 HO6.out iz hi0 hin).1
      obtain ⟨x, hx⟩ : ∃ x, x = rd xs iz := ⟨_, rfl⟩
      rw [← hx] at hcx
      obtain ⟨hx50, hf50⟩ := Kd.R_celln 0 HO5.out kk hk0 hk1
      have HP := Aside0.mk (Kd.R_putg HO5.out kk x)
      have NY := Aside0.mk (show (ptOut l0_0 xs i).set kk.toNat x = ptOut l0_0 xs (i + 1) by rw [hkk, hx, NI.out]; rfl)
      clear hkk hx
      have hcm : wr.cell? ⟨w6.heap.size, 0, none⟩ = some (.slice (some ⟨g6, 0, none⟩) l0_0.length cm) := (blk_cell BM7.out 0).trans rfl
      replace hi0 := eq_true hi0
      replace hin := eq_true hin
      replace hk0 := eq_true hk0
      replace hk1 := eq_true hk1
      go_wp2_with (first | ((with_reducible refine gate_store (t := 3) (p := 84) rfl ?_); refine store_event (t := 3) (p := 84) (v := ?vo_w21) (w1 := (wr.setCell ⟨go5, kk.toNat, none⟩ (.int .i64 x))) ?hg ?ho ?hn ?hr ?_; (case ho => rfl); (case hg => rfl); (case hn => rfl); (case hr => exact qba7_); intro w21 hw; have hg : wr.grownBy w21 (some go5) := (by rw [hw]; exact HP.out.2); have hp_ : Kd.R (Kd.int .i64) 3 w21 w.heap.size (fun _ => True) (.slice (some ⟨go5, 0, none⟩) l0_0.length co) (ptOut l0_0 xs (i + 1)) := (by rw [hw, ← NY.out]; exact HP.out.1); have n0_ := Aside0.mk hp_; have n1_ := Aside0.mk (Kd.R_after (v := (.slice (some ⟨go5, 0, none⟩) l0_0.length co)) (v1 := (.slice (some ⟨go5, 0, none⟩) l0_0.length co)) (ok := (fun _ => True)) HO6.out hg (.inl rfl)); have n2_ := Aside0.mk ((by rw [hw]; exact below_set (HB7.out) GB5.out : Below w.heap.size w w21)); have n3_ := Aside0.mk ((by rw [hw]; exact blk_far BM7.out (p := ⟨go5, kk.toNat, none⟩) BN5.out _ : w21.heap[w6.heap.size]? = some (.cells #[.slice (some ⟨g6, 0, none⟩) l0_0.length cm] 31 (0, 0)))); replace HO5 := n0_; replace HO6 := n1_; replace HB7 := n2_; replace BM7 := n3_; clear n0_ n1_ n2_ n3_; clear hg hw hp_))
      go_roundg d
      case measure => omega
      case rel => exact ⟨i + 1, _, rfl, ⟨by rw [NI.out]; have := NK.out; have := HALL.out.1; rw [wrap64_in _ (by omega) (by omega)]; omega⟩, ⟨by have := NK.out; omega⟩, HO6, HO5, BM7, HB7⟩
   | true =>
    have HM1 := Aside0.mk (show ptT l0_1 l0_0.length k1 (ptP l0_1 (l0_0.length - 1) 1 (xs, false)) = some m from by have h := HM.out; rw [ptT, if_pos rfl] at h; exact h)
    clear HM
    obtain ⟨sE, hsE⟩ : ∃ sE, sE = ptP l0_1 (l0_0.length - 1) 1 (xs, false) := ⟨_, rfl⟩
    rw [← hsE] at HM1
    have HSE := Aside0.mk hsE
    clear hsE
    go_wp2
    have HI1 := Aside0.mk (PtI_put HI.out false)
    clear HI hca hfa
    go_loopg [8] (l0_0.length - 1) (fun kq v8 w' => ∃ (p : Nat) (pz : Int) (s : List Int × Bool), v8 = .int .i64 pz ∧ Aside0 (pz = (p : Int)) ∧ Aside0 (1 ≤ p ∧ kq = l0_0.length - p) ∧ Aside0 (ptP l0_1 kq p s = sE) ∧ Aside0 (PtI w gb w6.heap.size ga (.slice A0_0 l0_0.length c0_0) (.slice A0_1 l0_1.length c0_1) (.slice Am l0_0.length cm) l0_0.length s w'))
    case atStart => exact ⟨1, 1, (xs, false), rfl, ⟨rfl⟩, ⟨Nat.le_refl _, rfl⟩, ⟨HSE.out.symm⟩, HI1⟩
    case round =>
     clear HI1 HSE
     obtain ⟨p, pz, s, rfl, NP, NK, HPS, HI⟩ := hrel
     cases gk with
     | zero =>
      have hq1 : decide (pz < (l0_0.length : Int)) = false := decide_eq_false (by have := NP.out; have := NK.out; omega)
      have e0 := Aside0.mk (show s = sE from HPS.out)
      have hca : wr.cell? ⟨ga, 0, none⟩ = some (.bool s.2) := (blk_cell HI.out.gagain 0).trans rfl
      go_wp2
      go_roundg k1
      case measure => omega
      case rel => exact ⟨_, s.1, s.2, rfl, ⟨by rw [← HM1.out, ← e0.out]⟩, ⟨PtI_next HI.out⟩⟩
     | succ d =>
      have hpn : p < l0_0.length := by have := NK.out; omega
      have HPN := Aside0.mk hpn
      clear hpn
      have hq1 : decide (pz < (l0_0.length : Int)) = true := decide_eq_true (by have := NP.out; have := HPN.out; omega)
      obtain ⟨g, cap, ev, _, _, _⟩ := Kd.R_form HI.out.row (by rw [HI.out.len]; have := HPN.out; omega)
      injection ev with ea en ec
      subst ea
      clear en ec
      obtain ⟨z1, hz1⟩ : ∃ z1 : Int, z1 = ((p - 1 : Nat) : Int) := ⟨_, rfl⟩
      have hw1 : wrap64 (pz - 1) = z1 := by have := NP.out; have := NK.out; have := HPN.out; have := HALL.out.1; rw [wrap64_in _ (by omega) (by omega)]; omega
      have hz0 : 0 ≤ z1 := by omega
      have hzn : z1 < (l0_0.length : Int) := by have := HPN.out; omega
      have hcx : wr.cell? ⟨g, z1.toNat, none⟩ = some (.int .i64 (rd s.1 z1)) := (Kd.R_celln 0 HI.out.row z1 hz0 hzn).1
      obtain ⟨x1, hx1⟩ : ∃ x1, x1 = rd s.1 z1 := ⟨_, rfl⟩
      rw [← hx1] at hcx
      have NX := Aside0.mk (show x1 = rd s.1 ((p - 1 : Nat) : Int) by rw [hx1, hz1])
      clear hx1 hz1
      replace hz0 := eq_true hz0
      replace hzn := eq_true hzn
      have hcm : wr.cell? ⟨w6.heap.size, 0, none⟩ = some (.slice (some ⟨g, 0, none⟩) l0_0.length cm) := (blk_cell HI.out.gmost 0).trans rfl
      have HC := Aside0.mk (least_inv w wr gb w6.heap.size ga l0_0.length _ _ _ s p (wrap64 (x1 - 1)) HI.out HPN.out)
      rw [← NP.out] at HC
      go_wp2_with (go_at_call 23; refine HC.out.mono ?_; rintro e w9 ⟨rfl, hI⟩; have HI9 := Aside0.mk hI; clear hI)
      obtain ⟨s3, hs3⟩ : ∃ s3, s3 = least p (wrap64 (x1 - 1)) s := ⟨_, rfl⟩
      rw [← hs3] at HI9
      have HPS1 := Aside0.mk (show ptP l0_1 d (p + 1) (ptQ l0_1 p p 0 s3) = sE from by have h := HPS.out; rw [ptP, ← NX.out, ← hs3] at h; exact h)
      obtain ⟨s4, hs4⟩ : ∃ s4, s4 = ptQ l0_1 p p 0 s3 := ⟨_, rfl⟩
      rw [← hs4] at HPS1
      have HS4 := Aside0.mk hs4
      clear hs3 hs4 hcx hcm hz0 hzn hw1 HC HI HPS NX hq1
      go_loopg [38] p (fun kq v38 w' => ∃ (q : Nat) (qz : Int) (s2 : List Int × Bool), v38 = .int .i64 qz ∧ Aside0 (qz = (q : Int)) ∧ Aside0 (q + kq = p) ∧ Aside0 (ptQ l0_1 p kq q s2 = s4) ∧ Aside0 (PtI w gb w6.heap.size ga (.slice A0_0 l0_0.length c0_0) (.slice A0_1 l0_1.length c0_1) (.slice (some ⟨g, 0, none⟩) l0_0.length cm) l0_0.length s2 w'))
      case atStart => exact ⟨0, 0, s3, rfl, ⟨rfl⟩, ⟨by omega⟩, ⟨HS4.out.symm⟩, HI9⟩
      case round =>
       clear HI9 HS4
       obtain ⟨q, qz, s2, rfl, NQ, NQK, HQS, HI⟩ := hrel
       cases gk with
       | zero =>
        have hq1 : decide (qz < pz) = false := decide_eq_false (by have := NP.out; have := NQ.out; have := NQK.out; omega)
        have e0 := Aside0.mk (show s2 = s4 from HQS.out)
        go_wp2
        go_roundg d
        case measure => omega
        case rel => exact ⟨p + 1, _, s4, rfl, ⟨by rw [NP.out]; have := HPN.out; have := HALL.out.1; rw [wrap64_in _ (by omega) (by omega)]; omega⟩, ⟨by omega, by have := NK.out; omega⟩, HPS1, ⟨by rw [← e0.out]; exact HI.out⟩⟩
       | succ dq =>
        have hq1 : decide (qz < pz) = true := decide_eq_true (by have := NP.out; have := NQ.out; have := NQK.out; omega)
        have hcz1 : wr.cell? ⟨gb, 1, none⟩ = some (.slice A0_1 l0_1.length c0_1) := (blk_cell HI.out.box 1).trans rfl
        have hp0 : 0 ≤ pz := by have := NP.out; omega
        have hpn : pz < (l0_0.length : Int) := by have := NP.out; have := HPN.out; omega
        have hpf : pz < (l0_1.length : Int) := by have := HALL.out.2.1; omega
        have hq0 : 0 ≤ qz := by have := NQ.out; omega
        have hqn : qz < (l0_0.length : Int) := by have := NQ.out; have := NQK.out; have := HPN.out; omega
        obtain ⟨ad, e6, hxf⟩ := Kd.at_int (Kd.C_below HR1.out HI.out.below) pz hp0 hpf
        cases e6
        have hcp : wr.cell? ⟨g, pz.toNat, none⟩ = some (.int .i64 (rd s2.1 pz)) := (Kd.R_celln 0 HI.out.row pz hp0 hpn).1
        have hcq : wr.cell? ⟨g, qz.toNat, none⟩ = some (.int .i64 (rd s2.1 qz)) := (Kd.R_celln 0 HI.out.row qz hq0 hqn).1
        obtain ⟨fp, hfp⟩ : ∃ fp, fp = rd l0_1 pz := ⟨_, rfl⟩
        obtain ⟨mp, hmp⟩ : ∃ mp, mp = rd s2.1 pz := ⟨_, rfl⟩
        obtain ⟨mq, hmq⟩ : ∃ mq, mq = rd s2.1 qz := ⟨_, rfl⟩
        rw [← hfp] at hxf
        rw [← hmp] at hcp
        rw [← hmq] at hcq
        have NM := Aside0.mk (show fp = rd l0_1 (p : Int) ∧ mp = rd s2.1 (p : Int) ∧ mq = rd s2.1 (q : Int) from ⟨by rw [hfp, NP.out], by rw [hmp, NP.out], by rw [hmq, NQ.out]⟩)
        clear hfp hmp hmq
        replace hp0 := eq_true hp0
        replace hpn := eq_true hpn
        replace hpf := eq_true hpf
        replace hq0 := eq_true hq0
        replace hqn := eq_true hqn
        have hcm : wr.cell? ⟨w6.heap.size, 0, none⟩ = some (.slice (some ⟨g, 0, none⟩) l0_0.length cm) := (blk_cell HI.out.gmost 0).trans rfl
        by_cases hc : qz < fp
        ·
         have hqc : decide (qz < fp) = true := decide_eq_true hc
         have HQ1 := Aside0.mk (show ptQ l0_1 p dq (q + 1) (least p (wrap64 (wrap64 (mq - 100) - 1)) s2) = s4 from by have h := HQS.out; rw [ptQ, ← NM.out.1, ← NM.out.2.2, ← NQ.out, if_pos hc] at h; exact h)
         clear hc HQS
         have HC := Aside0.mk (least_inv w wr gb w6.heap.size ga l0_0.length _ _ _ s2 p (wrap64 (wrap64 (mq - 100) - 1)) HI.out HPN.out)
         rw [← NP.out] at HC
         go_wp2_with (go_at_call 23; refine HC.out.mono ?_; rintro e w9 ⟨rfl, hI⟩; have HI9 := Aside0.mk hI; clear hI)
         go_roundg dq
         case measure => omega
         case rel => exact ⟨q + 1, _, _, rfl, ⟨by rw [NQ.out]; have := NQK.out; have := HPN.out; have := HALL.out.1; rw [wrap64_in _ (by omega) (by omega)]; omega⟩, ⟨by have := NQK.out; omega⟩, HQ1, HI9⟩
        ·
         have hqc : decide (qz < fp) = false := decide_eq_false hc
         have HQ1 := Aside0.mk (show ptQ l0_1 p dq (q + 1) (least q (wrap64 (wrap64 (mp + 100) - 1)) s2) = s4 from by have h := HQS.out; rw [ptQ, ← NM.out.1, ← NM.out.2.1, ← NQ.out, if_neg hc] at h; exact h)
         clear hc HQS
         have HC := Aside0.mk (least_inv w wr gb w6.heap.size ga l0_0.length _ _ _ s2 q (wrap64 (wrap64 (mp + 100) - 1)) HI.out (by have := NQK.out; have := HPN.out; omega))
         rw [← NQ.out] at HC
         go_wp2_with (go_at_call 23; refine HC.out.mono ?_; rintro e w9 ⟨rfl, hI⟩; have HI9 := Aside0.mk hI; clear hI)
         go_roundg dq
         case measure => omega
         case rel => exact ⟨q + 1, _, _, rfl, ⟨by rw [NQ.out]; have := NQK.out; have := HPN.out; have := HALL.out.1; rw [wrap64_in _ (by omega) (by omega)]; omega⟩, ⟨by have := NQK.out; omega⟩, HQ1, HI9⟩

/-! ### impl_isCars: function 40 -/
def impl_isCars.f (a0 : Int) : Option (Bool) := (impl_between.f a0 0 8).bind fun t364 => (some t364)
theorem impl_isCars.calls (a0 : Int) (r : Bool) (w : World) (h : impl_isCars.f a0 = some r) :
  Calls Try.prog 40 #[.int .i64 a0] w fun e w' => e = .returned (.bool r) ∧ Drawn0 w w' := by
 unfold impl_isCars.f at h
 have H := h; clear h
 obtain ⟨t364, A2, H⟩ := ob_ H
 obtain rfl := Option.some.inj H
 go_enter Try.func40, Try.ntmps40
 go_wp2_with (first | ((with_reducible refine gate_callee (f := 15) rfl ?_); refine gl_ 4 Try.func15 #[.int .i64 a0, .int .i64 0, .int .i64 8] ?_; (with_reducible refine (impl_between.calls a0 0 8 t364 _ A2.out).mono ?_); rintro e w' ⟨rfl, ⟨nd, rfl⟩⟩; refine ⟨_, rfl, ?_⟩))
 go_ret
 exact ⟨qc8f_, qffa_⟩

/-! ### impl_isPoint: function 24 -/
mutual
def impl_isPoint.j0 : Nat → List Int → Bool → Option (Bool)
 | 0, _, _ => none
 | k + 1, x0, x15 => if x15 = true then (some false) else (impl_isPoint.l0 k x0 x0 (x0.length : Int) 0)
def impl_isPoint.l0 : Nat → List Int → List Int → Int → Int → Option (Bool)
 | 0, _, _, _, _ => none
 | k + 1, x0, x16, x17, x18 => if x18 < x17 then (if 0 ≤ x18 then (if x18 < (x16.length : Int) then (if x18 ≤ (x0.length : Int) then (impl_isPoint.l1 k x0 (rd x16 x18) x16 x17 x18 (x0.take (x18 : Int).toNat) ((x0.take (x18 : Int).toNat).length : Int) 0) else (none)) else (none)) else (none)) else (some true)
def impl_isPoint.l1 : Nat → List Int → Int → List Int → Int → Int → List Int → Int → Int → Option (Bool)
 | 0, _, _, _, _, _, _, _, _ => none
 | k + 1, x0, x4, x16, x17, x18, x25, x26, x27 => if x27 < x26 then (if 0 ≤ x27 then (if x27 < (x25.length : Int) then (if (rd x25 x27) = x4 then (some false) else (if (rd x25 x27) = (wrap64 (x4 + 100)) then (some false) else (impl_isPoint.l1 k x0 x4 x16 x17 x18 x25 x26 (wrap64 (x27 + 1))))) else (none)) else (none)) else (impl_isPoint.l0 k x0 x16 x17 (wrap64 (x18 + 1)))
end
def impl_isPoint.f (k : Nat) (l0 : List Int) : Option (Bool) := (impl_isCars.f (l0.length : Int)).bind fun t365 => (if t365 = true then ((impl_areBetween.f l0 (-100000) 100000).bind fun t366 => (impl_isPoint.j0 k l0 (!t366))) else (impl_isPoint.j0 k l0 true))
theorem impl_isPoint.mono_l : ∀ k, (∀ y0 y1, LeO (impl_isPoint.j0 k y0 y1) (impl_isPoint.j0 (k + 1) y0 y1)) ∧ (∀ y0 y1 y2 y3, LeO (impl_isPoint.l0 k y0 y1 y2 y3) (impl_isPoint.l0 (k + 1) y0 y1 y2 y3)) ∧ (∀ y0 y1 y2 y3 y4 y5 y6 y7, LeO (impl_isPoint.l1 k y0 y1 y2 y3 y4 y5 y6 y7) (impl_isPoint.l1 (k + 1) y0 y1 y2 y3 y4 y5 y6 y7))
 | 0 => ⟨fun _ _ r h => by simp [impl_isPoint.j0] at h, fun _ _ _ _ r h => by simp [impl_isPoint.l0] at h, fun _ _ _ _ _ _ _ _ r h => by simp [impl_isPoint.l1] at h⟩
 | k + 1 => by
  obtain ⟨ih0, ih1, ih2⟩ := impl_isPoint.mono_l k
  refine ⟨?_, ?_, ?_⟩
  ·
   intro y0 y1
   unfold impl_isPoint.j0
   repeat' (with_reducible first | exact ih0 _ _ | exact ih1 _ _ _ _ | exact ih2 _ _ _ _ _ _ _ _ | exact LeO.refl _ | exact LeO.none _ | refine LeO.ite ?_ ?_ | refine LeO.bind ?_ (fun _ => ?_))
  ·
   intro y0 y1 y2 y3
   unfold impl_isPoint.l0
   repeat' (with_reducible first | exact ih0 _ _ | exact ih1 _ _ _ _ | exact ih2 _ _ _ _ _ _ _ _ | exact LeO.refl _ | exact LeO.none _ | refine LeO.ite ?_ ?_ | refine LeO.bind ?_ (fun _ => ?_))
  ·
   intro y0 y1 y2 y3 y4 y5 y6 y7
   unfold impl_isPoint.l1
   repeat' (with_reducible first | exact ih0 _ _ | exact ih1 _ _ _ _ | exact ih2 _ _ _ _ _ _ _ _ | exact LeO.refl _ | exact LeO.none _ | refine LeO.ite ?_ ?_ | refine LeO.bind ?_ (fun _ => ?_))
theorem impl_isPoint.mono : ∀ a0 k, LeO (impl_isPoint.f k a0) (impl_isPoint.f (k + 1) a0) := by
 intro a0 k
 obtain ⟨ih0, ih1, ih2⟩ := impl_isPoint.mono_l k
 unfold impl_isPoint.f
 repeat' (with_reducible first | exact ih0 _ _ | exact ih1 _ _ _ _ | exact ih2 _ _ _ _ _ _ _ _ | exact LeO.refl _ | exact LeO.none _ | refine LeO.ite ?_ ?_ | refine LeO.bind ?_ (fun _ => ?_))
theorem impl_isPoint.calls (k : Nat) (A0 : Option Addr) (c0 : Nat) (l0 : List Int) (r : Bool) (w : World) (hr0 : Kd.C (Kd.int .i64) w A0 l0.length l0) (hc0 : l0.length ≤ c0) (h : impl_isPoint.f k l0 = some r) :
  Calls Try.prog 24 #[.slice A0 l0.length c0] w fun e w' => e = .returned (.bool r) ∧ Below w.heap.size w w' := by
 have HR0 := Aside0.mk hr0
 have HC0 := Aside0.mk hc0
 clear hr0 hc0
 have HB := Aside0.mk (Below.refl w.heap.size w)
 unfold impl_isPoint.f at h
 have H := h; clear h
 have HC2 := Aside0.mk H
 clear H
 go_enter Try.func24, Try.ntmps24
 go_upto_region 1 with (fail)
 go_cut [15] (fun v15 wc => ∃ (kq : Nat) (x15_1 : Bool), v15 = .bool x15_1 ∧ Aside0 (impl_isPoint.j0 kq l0 x15_1 = some r) ∧ Aside0 (kq ≤ k) ∧ Aside0 (Below w.heap.size w wc))
 case first =>
  have H := HC2.out
  clear HC2
  obtain ⟨t365, A3, H⟩ := ob_ H
  by_cases c4 : t365 = true
  ·
   subst c4
   rw [if_pos rfl] at H
   obtain ⟨t366, A5, H⟩ := ob_ H
   have H' := Aside0.mk H
   clear H
   go_wp2_with (first | ((with_reducible refine gate_callee (f := 40) rfl ?_); refine gl_ 9 Try.func40 #[.int .i64 (l0.length : Int)] ?_; (with_reducible refine (impl_isCars.calls (l0.length : Int) true _ A3.out).mono ?_); rintro e w' ⟨rfl, ⟨nd, rfl⟩⟩; refine ⟨_, rfl, ?_⟩) | (go_at_call 41; (with_reducible refine (impl_areBetween.calls _ _ l0 (-100000) 100000 t366 _ ?s1 ?s2 A5.out).mono ?_); (case s1 => repeat (first | exact (Kd.C_below HR0.out q0c4_) | (with_reducible refine Kd.C_alloc ?_ _) | (with_reducible refine Kd.C_drewN ?_ _) | (with_reducible refine Kd.C_drew ?_))); (case s2 => exact HC0.out); rintro e w6 ⟨rfl, hb⟩; replace HB := Aside0.mk (below_step q0c4_ hb); clear hb))
   go_meet
   case rel => exact ⟨_, (!t366), qc8f_, H', ⟨by first | omega | exact Nat.le_refl _⟩, ⟨q0c4_⟩⟩
  ·
   replace c4 := Bool.eq_false_iff.mpr c4
   subst c4
   rw [if_neg nf_] at H
   have H' := Aside0.mk H
   clear H
   go_wp2_with (first | ((with_reducible refine gate_callee (f := 40) rfl ?_); refine gl_ 9 Try.func40 #[.int .i64 (l0.length : Int)] ?_; (with_reducible refine (impl_isCars.calls (l0.length : Int) false _ A3.out).mono ?_); rintro e w' ⟨rfl, ⟨nd, rfl⟩⟩; refine ⟨_, rfl, ?_⟩))
   go_meet
   case rel => exact ⟨_, (true), qc8f_, H', ⟨by first | omega | exact Nat.le_refl _⟩, ⟨q0c4_⟩⟩
 case rest =>
  clear HC2; try clear c2; try clear p2; try clear c4
  obtain ⟨kq, x15_1, rfl, HA, HJ1, HB⟩ := hcut
  cases kq with
  | zero => exact absurd HA.out (by simp [impl_isPoint.j0])
  | succ kj1 =>
   have H := HA.out
   clear HA
   simp only [impl_isPoint.j0] at H
   by_cases c7 : x15_1 = true
   ·
    subst c7
    rw [if_pos rfl] at H
    obtain rfl := Option.some.inj H
    go_wp2
    go_ret
    exact ⟨qce7_, q0c4_⟩
   ·
    replace c7 := Bool.eq_false_iff.mpr c7
    subst c7
    rw [if_neg nf_] at H
    have H' := Aside0.mk H
    clear H
    go_wp2
    go_loopg [18] kj1 (fun kq v18 w' => ∃ (x18_2 : Int), v18 = .int .i64 x18_2 ∧ Aside0 (impl_isPoint.l0 kq l0 l0 (l0.length : Int) x18_2 = some r) ∧ Aside0 (kq ≤ kj1) ∧ Aside0 (Below w.heap.size w w'))
    case atStart => exact ⟨(0), qc8f_, H', ⟨Nat.le_refl _⟩, ⟨q0c4_⟩⟩
    case round =>
     clear H'; try clear c2; try clear p2; try clear c4; try clear c7; try clear p2
     obtain ⟨x18_2, rfl, HA, HK2, HB⟩ := hrel
     cases gk with
     | zero => exact absurd HA.out (by simp [impl_isPoint.l0])
     | succ k2 =>
      have H := HA.out
      clear HA
      simp only [impl_isPoint.l0] at H
      by_cases c8 : x18_2 < (l0.length : Int)
      ·
       rw [if_pos c8] at H
       have c8b0 := decide_eq_true c8
       clear c8
       by_cases c9 : 0 ≤ x18_2
       ·
        rw [if_pos c9] at H
        have c9b0 := decide_eq_true c9
        clear c9
        by_cases c10 : x18_2 < (l0.length : Int)
        ·
         rw [if_pos c10] at H
         have c10b0 := decide_eq_true c10
         clear c10
         have c11b0 := eq_true (of_decide_eq_true qe84_ : 0 ≤ x18_2)
         by_cases c12 : x18_2 ≤ (l0.length : Int)
         ·
          rw [if_pos c12] at H
          have c12b0 := eq_true c12
          have c12b1 := decide_eq_true c12
          clear c12
          have H' := Aside0.mk H
          clear H
          have p367 : 0 ≤ (x18_2 : Int) := of_decide_eq_true qe84_
          have q367 : x18_2 < (l0.length : Int) := of_decide_eq_true qe84_
          obtain ⟨ad367, e367, hx367_0⟩ := Kd.at_int HR0.out x18_2 p367 q367
          cases e367
          (try (replace hx367_0 := (HB.out.cell (World.block_lt_of_cell? w _ hx367_0)).trans hx367_0))
          replace p367 := eq_true p367
          replace q367 := eq_true q367
          obtain ⟨i013, hi013, _, hsz13, _⟩ := info_parts info3
          obtain ⟨hcut13, hA13, hC13⟩ := print_take_of (P := Try.prog) (Value.int .i64) 0 31 3 .i64 Try.underlying31 hi013 hsz13 (some ad367) c0 l0 x18_2 (of_decide_eq_true qe84_) (of_decide_eq_true qe84_) HC0.out
          have hmx13 : ((l0.take (x18_2 : Int).toNat).length : Int) = max x18_2 0 := by
           have h1 : 0 ≤ (x18_2 : Int) := of_decide_eq_true qe84_
           have h2 : (x18_2 : Int) ≤ (l0.length : Int) := of_decide_eq_true qe84_
           rw [List.length_take]; omega
          have HR368 := Aside0.mk (Kd.C_of_reads (h1 := fun _ => rfl) (hA13 _ (Kd.reads_of_C HR0.out)))
          have HC368 := Aside0.mk hC13
          clear hA13 hC13 hi013 hsz13
          go_wp2
          go_loopg [27] k2 (fun kq v27 w' => ∃ (x27_3 : Int), v27 = .int .i64 x27_3 ∧ Aside0 (impl_isPoint.l1 kq l0 (rd l0 x18_2) l0 (l0.length : Int) x18_2 (l0.take (x18_2 : Int).toNat) ((l0.take (x18_2 : Int).toNat).length : Int) x27_3 = some r) ∧ Aside0 (kq ≤ k2) ∧ Aside0 (Below w.heap.size w w'))
          case atStart => exact ⟨(0), qc8f_, H', ⟨Nat.le_refl _⟩, ⟨q0c4_⟩⟩
          case round =>
           clear H'; try clear c1; try clear c2; try clear p2; try clear p3; try clear q3; try clear hx3; try clear c4; try clear c7; try clear c8; try clear c8b0; try clear c9; try clear c9b0; try clear c10; try clear c10b0; try clear c11; try clear c11b0; try clear c12; try clear c12b0; try clear c12b1; try clear hx367_0; try clear p2; try clear p367; try clear q367
           obtain ⟨x27_3, rfl, HA, HK3, HB⟩ := hrel
           cases gk with
           | zero => exact absurd HA.out (by simp [impl_isPoint.l1])
           | succ k3 =>
            have H := HA.out
            clear HA
            simp only [impl_isPoint.l1] at H
            by_cases c14 : x27_3 < ((l0.take (x18_2 : Int).toNat).length : Int)
            ·
             rw [if_pos c14] at H
             have c14b0 := decide_eq_true c14
             have c14m := c14b0; (try rw [hmx13] at c14m)
             clear c14
             by_cases c15 : 0 ≤ x27_3
             ·
              rw [if_pos c15] at H
              have c15b0 := decide_eq_true c15
              have c15m := c15b0; (try rw [hmx13] at c15m)
              clear c15
              by_cases c16 : x27_3 < ((l0.take (x18_2 : Int).toNat).length : Int)
              ·
               rw [if_pos c16] at H
               have c16b0 := decide_eq_true c16
               have c16m := c16b0; (try rw [hmx13] at c16m)
               clear c16
               by_cases c17 : (rd (l0.take (x18_2 : Int).toNat) x27_3) = (rd l0 x18_2)
               ·
                rw [if_pos c17] at H
                have c17b0 := beq_iff_eq.mpr c17
                have c17b1 := bne_eq_false_iff_eq.mpr c17
                clear c17
                obtain rfl := Option.some.inj H
                have p369 : 0 ≤ (x27_3 : Int) := of_decide_eq_true qe84_
                have q369 : x27_3 < ((l0.take (x18_2 : Int).toNat).length : Int) := of_decide_eq_true qe84_
                obtain ⟨ad369, e369, hx369_0⟩ := Kd.at_int HR368.out x27_3 p369 q369
                obtain rfl : ad367 = ad369 := (by injection e369)
                (try (replace hx369_0 := (HB.out.cell (World.block_lt_of_cell? w _ hx369_0)).trans hx369_0))
                replace p369 := eq_true p369
                replace q369 := eq_true q369
                have q369m := q369; (try rw [hmx13] at q369m)
                go_wp2
                go_ret
                exact ⟨qce7_, q0c4_⟩
               ·
                rw [if_neg c17] at H
                have c17b0 := beq_eq_false_iff_ne.mpr c17
                have c17b1 := bne_iff_ne.mpr c17
                by_cases c18 : (rd (l0.take (x18_2 : Int).toNat) x27_3) = (wrap64 ((rd l0 x18_2) + 100))
                ·
                 rw [if_pos c18] at H
                 have c18b0 := beq_iff_eq.mpr c18
                 have c18b1 := bne_eq_false_iff_eq.mpr c18
                 clear c18
                 obtain rfl := Option.some.inj H
                 have p369 : 0 ≤ (x27_3 : Int) := of_decide_eq_true qe84_
                 have q369 : x27_3 < ((l0.take (x18_2 : Int).toNat).length : Int) := of_decide_eq_true qe84_
                 obtain ⟨ad369, e369, hx369_0⟩ := Kd.at_int HR368.out x27_3 p369 q369
                 obtain rfl : ad367 = ad369 := (by injection e369)
                 (try (replace hx369_0 := (HB.out.cell (World.block_lt_of_cell? w _ hx369_0)).trans hx369_0))
                 replace p369 := eq_true p369
                 replace q369 := eq_true q369
                 have q369m := q369; (try rw [hmx13] at q369m)
                 go_wp2
                 go_ret
                 exact ⟨qce7_, q0c4_⟩
                ·
                 rw [if_neg c18] at H
                 have c18b0 := beq_eq_false_iff_ne.mpr c18
                 have c18b1 := bne_iff_ne.mpr c18
                 have H' := Aside0.mk H
                 clear H
                 have p369 : 0 ≤ (x27_3 : Int) := of_decide_eq_true qe84_
                 have q369 : x27_3 < ((l0.take (x18_2 : Int).toNat).length : Int) := of_decide_eq_true qe84_
                 obtain ⟨ad369, e369, hx369_0⟩ := Kd.at_int HR368.out x27_3 p369 q369
                 obtain rfl : ad367 = ad369 := (by injection e369)
                 (try (replace hx369_0 := (HB.out.cell (World.block_lt_of_cell? w _ hx369_0)).trans hx369_0))
                 replace p369 := eq_true p369
                 replace q369 := eq_true q369
                 have q369m := q369; (try rw [hmx13] at q369m)
                 go_wp2
                 go_roundg k3
                 case measure => have := HJ1.out; have := HK2.out; have := HK3.out; omega
                 case rel => exact ⟨(wrap64 (x27_3 + 1)), qc8f_, H', ⟨q0e9_ HJ1.out HK2.out HK3.out⟩, ⟨q0c4_⟩⟩
              ·
               rw [if_neg c16] at H
               exact absurd H (by simp)
             ·
              rw [if_neg c15] at H
              exact absurd H (by simp)
            ·
             rw [if_neg c14] at H
             have c14b0 := decide_eq_false c14
             have c14m := c14b0; (try rw [hmx13] at c14m)
             clear c14
             have H' := Aside0.mk H
             clear H
             go_wp2
             go_roundg k3
             case measure => have := HJ1.out; have := HK2.out; have := HK3.out; omega
             case rel => exact ⟨(wrap64 (x18_2 + 1)), qc8f_, H', ⟨q0e9_ HJ1.out HK2.out HK3.out⟩, ⟨q0c4_⟩⟩
         ·
          rw [if_neg c12] at H
          exact absurd H (by simp)
        ·
         rw [if_neg c10] at H
         exact absurd H (by simp)
       ·
        rw [if_neg c9] at H
        exact absurd H (by simp)
      ·
       rw [if_neg c8] at H
       have c8b0 := decide_eq_false c8
       have c8m := c8b0; (try rw [hmx13] at c8m)
       clear c8
       obtain rfl := Option.some.inj H
       go_wp2
       go_ret
       exact ⟨qce7_, q0c4_⟩

end Go.Proofs.Ythanbhbibjnmjaa.PAll
