-- written by a program of this session (wip/gen/xpatch.py over the translation); Lean checks it
import Derived.Test.YtgfcnfbbiaeboaaGreatPAllx0
import Derived.Test.YtgfcnfbbiaeboaaGreatPAllx2
import Derived.Test.YtgfcnfbbiaeboaaGreatPAllx5
namespace Go.Proofs.YtgfcnfbbiaeboaaGreat.PAll
open Go.RowKit Go.Proofs.YtgfcnfbbiaeboaaGreat.Hand Go.Proofs.YtgfcnfbbiaeboaaGreatW.PrintWords Go.Proofs.YtgfcnfbbiaeboaaGreatW.PrintLast Go.Proofs.YtgfcnfbbiaeboaaGreatW.PrintMore
attribute [local go_sem] max2_int min2_int max_two min_two max_three min_three max_four min_four   -- for this text's walks alone
set_option maxHeartbeats 8000000
set_option maxRecDepth 100000
set_option linter.unusedVariables false
set_option linter.unusedSimpArgs false

/-! ### impl_isRegion: function 26 -/
mutual
def impl_isRegion.j0 : Nat → Bool → List Int → List Int → Option (Bool)
 | 0, _, _, _ => none
 | k + 1, x18, x472000, x472001 => if x18 = true then (some false) else (impl_isRegion.l0 k 0 x472001 (x472001.length : Int) 0 x472000 x472001)
def impl_isRegion.l0 : Nat → Int → List Int → Int → Int → List Int → List Int → Option (Bool)
 | 0, _, _, _, _, _, _ => none
 | k + 1, x3, x20, x21, x22, x472000, x472001 => if x22 < x21 then (if 0 ≤ x22 then (if x22 < (x20.length : Int) then (if (rd x20 x22) < x3 then (some false) else (if (rd x20 x22) > x22 then (some false) else (if (rd x20 x22) > x3 then (if 0 ≤ (wrap64 ((rd x20 x22) - 1)) then (if (wrap64 ((rd x20 x22) - 1)) < (x472000.length : Int) then (if x22 < (x472000.length : Int) then (if (rd x472000 (wrap64 ((rd x20 x22) - 1))) > (rd x472000 x22) then (some false) else (impl_isRegion.l0 k (rd x20 x22) x20 x21 (wrap64 (x22 + 1)) x472000 x472001)) else (none)) else (none)) else (none)) else (impl_isRegion.l0 k (rd x20 x22) x20 x21 (wrap64 (x22 + 1)) x472000 x472001)))) else (none)) else (none)) else (some true)
end
def impl_isRegion.f (k : Nat) (l0_0 : List Int) (l0_1 : List Int) : Option (Bool) := (impl_isOrder.f k l0_0).bind fun t472 => (if t472 = true then (impl_isRegion.j0 k ((l0_1.length : Int) != (l0_0.length : Int)) l0_0 l0_1) else (impl_isRegion.j0 k true l0_0 l0_1))
theorem impl_isRegion.mono_l : ∀ k, (∀ y0 y1 y2, LeO (impl_isRegion.j0 k y0 y1 y2) (impl_isRegion.j0 (k + 1) y0 y1 y2)) ∧ (∀ y0 y1 y2 y3 y4 y5, LeO (impl_isRegion.l0 k y0 y1 y2 y3 y4 y5) (impl_isRegion.l0 (k + 1) y0 y1 y2 y3 y4 y5))
 | 0 => ⟨fun _ _ _ r h => by simp [impl_isRegion.j0] at h, fun _ _ _ _ _ _ r h => by simp [impl_isRegion.l0] at h⟩
 | k + 1 => by
  obtain ⟨ih0, ih1⟩ := impl_isRegion.mono_l k
  refine ⟨?_, ?_⟩
  ·
   intro y0 y1 y2
   unfold impl_isRegion.j0
   repeat' (with_reducible first | exact ih0 _ _ _ | exact ih1 _ _ _ _ _ _ | exact impl_isOrder.mono _ _ | exact LeO.refl _ | exact LeO.none _ | refine LeO.ite ?_ ?_ | refine LeO.bind ?_ (fun _ => ?_))
  ·
   intro y0 y1 y2 y3 y4 y5
   unfold impl_isRegion.l0
   repeat' (with_reducible first | exact ih0 _ _ _ | exact ih1 _ _ _ _ _ _ | exact impl_isOrder.mono _ _ | exact LeO.refl _ | exact LeO.none _ | refine LeO.ite ?_ ?_ | refine LeO.bind ?_ (fun _ => ?_))
theorem impl_isRegion.mono : ∀ a0 a1 k, LeO (impl_isRegion.f k a0 a1) (impl_isRegion.f (k + 1) a0 a1) := by
 intro a0 a1 k
 obtain ⟨ih0, ih1⟩ := impl_isRegion.mono_l k
 unfold impl_isRegion.f
 repeat' (with_reducible first | exact ih0 _ _ _ | exact ih1 _ _ _ _ _ _ | exact impl_isOrder.mono _ _ | exact LeO.refl _ | exact LeO.none _ | refine LeO.ite ?_ ?_ | refine LeO.bind ?_ (fun _ => ?_))
theorem impl_isRegion.calls (k : Nat) (A0_0 : Option Addr) (c0_0 : Nat) (l0_0 : List Int) (A0_1 : Option Addr) (c0_1 : Nat) (l0_1 : List Int) (r : Bool) (w : World) (hr0_0 : Kd.C (Kd.int .i64) w A0_0 l0_0.length l0_0) (hc0_0 : l0_0.length ≤ c0_0) (hr0_1 : Kd.C (Kd.int .i64) w A0_1 l0_1.length l0_1) (hc0_1 : l0_1.length ≤ c0_1) (h : impl_isRegion.f k l0_0 l0_1 = some r) :
  Calls Tryz.prog 26 #[.agg #[.slice A0_0 l0_0.length c0_0, .slice A0_1 l0_1.length c0_1]] w fun e w' => e = .returned (.bool r) ∧ Below w.heap.size w w' := by
 have hu27 := Tryz.underlying27
 have HR0_0 := Aside0.mk hr0_0
 have HC0_0 := Aside0.mk hc0_0
 clear hr0_0 hc0_0
 have HR0_1 := Aside0.mk hr0_1
 have HC0_1 := Aside0.mk hc0_1
 clear hr0_1 hc0_1
 have HB := Aside0.mk (Below.refl w.heap.size w)
 unfold impl_isRegion.f at h
 have H := h; clear h
 have HC2 := Aside0.mk H
 clear H
 go_enter Tryz.func26, Tryz.ntmps26
 have zz_ := trivial
 repeat (clear zz_; go_upto_region 1 with (first | ((with_reducible refine gate_dst (N := 1) rfl ?_); (try (refine gate_guard (by rfl) ?_; dsimp only)); refine box_event ?hg (N := 1) ?hd (cs := #[.slice A0_0 l0_0.length c0_0, .slice A0_1 l0_1.length c0_1]) (t := 27) ?hr ?_; (case hd => rfl); (case hg => rfl); (case hr => exact qfba_); intro gb471 hg w3 hbox hb; have n0_ := Aside0.mk (below_step q0c4_ hb); have n1_ := Aside0.mk (hbox); have n2_ := Aside0.mk ((by rw [hg]; exact (below_size q0c4_) : w.heap.size ≤ gb471)); have n3_ := Aside0.mk ((by rw [hg]; exact (below_size q0c4_) : w.heap.size ≤ gb471)); replace HB := n0_; have BK471 := n1_; have GW471 := n2_; have GE471 := n3_; clear n0_ n1_ n2_ n3_; clear hb hbox hg)); try (go_quiet (fail); have zz_ := trivial))
 (try simp only [Act.put, List.setIfInBounds_toArray, List.set_cons_zero, List.set_cons_succ])
 go_cut [18] (fun v18 wc => ∃ (kq : Nat) (x18_1 : Bool), v18 = .bool x18_1 ∧ Aside0 (impl_isRegion.j0 kq x18_1 l0_0 l0_1 = some r) ∧ Aside0 (kq ≤ k) ∧ Aside0 (wc.heap[gb471]? = some (.cells #[(.slice A0_0 l0_0.length c0_0), (.slice A0_1 l0_1.length c0_1)] 27 (0, 0))) ∧ Aside0 (Below w.heap.size w wc))
 case first =>
  have H := HC2.out
  clear HC2
  obtain ⟨t472, A4, H⟩ := ob_ H
  by_cases c5 : t472 = true
  ·
   subst c5
   rw [if_pos rfl] at H
   have H' := Aside0.mk H
   clear H
   have hcz6_0 : w3.cell? ⟨gb471, 0, none⟩ = some (.slice A0_0 l0_0.length c0_0) := (blk_cell BK471.out 0).trans rfl
   have hcz6_1 : w3.cell? ⟨gb471, 1, none⟩ = some (.slice A0_1 l0_1.length c0_1) := (blk_cell BK471.out 1).trans rfl
   have hfz6_0 := blk_frozen BK471.out 0
   have hfz6_1 := blk_frozen BK471.out 1
   have zz_ := trivial
   repeat (clear zz_; go_wp2_with (first | (go_at_call 48; (with_reducible refine (impl_isOrder.calls k _ _ l0_0 true _ ?s1 ?s2 A4.out).mono ?_); (case s1 => exact qe02_ HR0_0.out); (case s2 => exact HC0_0.out); rintro e w7 ⟨rfl, hb⟩; replace BK471 := Aside0.mk (blk_below (g := gb471) (o := .cells #[.slice A0_0 l0_0.length c0_0, .slice A0_1 l0_1.length c0_1] 27 (0, 0)) q4a6_ hb); replace HB := Aside0.mk (below_step qe7e_ hb); clear hb; have hcz8_0 : w7.cell? ⟨gb471, 0, none⟩ = some (.slice A0_0 l0_0.length c0_0) := (blk_cell BK471.out 0).trans rfl; have hcz8_1 : w7.cell? ⟨gb471, 1, none⟩ = some (.slice A0_1 l0_1.length c0_1) := (blk_cell BK471.out 1).trans rfl; have hfz8_0 := blk_frozen BK471.out 0; have hfz8_1 := blk_frozen BK471.out 1)); try (go_quiet (fail); have zz_ := trivial))
   go_meet
   case rel => exact ⟨_, (((l0_1.length : Int) != (l0_0.length : Int))), qc8f_, H', ⟨q821_⟩, ⟨q4a6_⟩, ⟨qe7e_⟩⟩
  ·
   replace c5 := Bool.eq_false_iff.mpr c5
   subst c5
   rw [if_neg nf_] at H
   have H' := Aside0.mk H
   clear H
   have hcz9_0 : w3.cell? ⟨gb471, 0, none⟩ = some (.slice A0_0 l0_0.length c0_0) := (blk_cell BK471.out 0).trans rfl
   have hcz9_1 : w3.cell? ⟨gb471, 1, none⟩ = some (.slice A0_1 l0_1.length c0_1) := (blk_cell BK471.out 1).trans rfl
   have hfz9_0 := blk_frozen BK471.out 0
   have hfz9_1 := blk_frozen BK471.out 1
   have zz_ := trivial
   repeat (clear zz_; go_wp2_with (first | (go_at_call 48; (with_reducible refine (impl_isOrder.calls k _ _ l0_0 false _ ?s1 ?s2 A4.out).mono ?_); (case s1 => exact qe02_ HR0_0.out); (case s2 => exact HC0_0.out); rintro e w10 ⟨rfl, hb⟩; replace BK471 := Aside0.mk (blk_below (g := gb471) (o := .cells #[.slice A0_0 l0_0.length c0_0, .slice A0_1 l0_1.length c0_1] 27 (0, 0)) q4a6_ hb); replace HB := Aside0.mk (below_step qe7e_ hb); clear hb)); try (go_quiet (fail); have zz_ := trivial))
   go_meet
   case rel => exact ⟨_, (true), qc8f_, H', ⟨q821_⟩, ⟨q4a6_⟩, ⟨qe7e_⟩⟩
 case rest =>
  clear HC2; try clear c2; try clear p2; try clear c5; try clear hcz6_0; try clear hcz6_1; try clear hcz8_0; try clear hcz8_1; try clear hcz9_0; try clear hcz9_1; try clear hfz6_0; try clear hfz6_1; try clear hfz8_0; try clear hfz8_1; try clear hfz9_0; try clear hfz9_1
  obtain ⟨kq, x18_1, rfl, HA, HJ1, BK471, HB⟩ := hcut
  cases kq with
  | zero => exact absurd HA.out (by simp [impl_isRegion.j0])
  | succ kj1 =>
   have H := HA.out
   clear HA
   simp only [impl_isRegion.j0] at H
   by_cases c11 : x18_1 = true
   ·
    subst c11
    rw [if_pos rfl] at H
    obtain rfl := Option.some.inj H
    go_wp2
    repeat (go_quiet (fail); try go_wp2)
    go_ret
    exact ⟨qce7_, qe7e_⟩
   ·
    replace c11 := Bool.eq_false_iff.mpr c11
    subst c11
    rw [if_neg nf_] at H
    have H' := Aside0.mk H
    clear H
    have hcz12_0 : wc.cell? ⟨gb471, 0, none⟩ = some (.slice A0_0 l0_0.length c0_0) := (blk_cell BK471.out 0).trans rfl
    have hcz12_1 : wc.cell? ⟨gb471, 1, none⟩ = some (.slice A0_1 l0_1.length c0_1) := (blk_cell BK471.out 1).trans rfl
    have hfz12_0 := blk_frozen BK471.out 0
    have hfz12_1 := blk_frozen BK471.out 1
    go_wp2
    repeat (go_quiet (fail); try go_wp2)
    go_loopg [3, 22] kj1 (fun kq v3 v22 w' => ∃ (x3_2 : Int) (x22_2 : Int), v3 = .int .i64 x3_2 ∧ v22 = .int .i64 x22_2 ∧ Aside0 (impl_isRegion.l0 kq x3_2 l0_1 (l0_1.length : Int) x22_2 l0_0 l0_1 = some r) ∧ Aside0 (kq ≤ kj1) ∧ Aside0 (w'.heap[gb471]? = some (.cells #[(.slice A0_0 l0_0.length c0_0), (.slice A0_1 l0_1.length c0_1)] 27 (0, 0))) ∧ Aside0 (Below w.heap.size w w'))
    case atStart => exact ⟨(0), (0), qc8f_, qc8f_, H', ⟨Nat.le_refl _⟩, ⟨q4a6_⟩, ⟨qe7e_⟩⟩
    case round =>
     clear H'; try clear c1; try clear c2; try clear p2; try clear c5; try clear c11; try clear hcz12_0; try clear hcz12_1; try clear hcz6_0; try clear hcz6_1; try clear hcz8_0; try clear hcz8_1; try clear hcz9_0; try clear hcz9_1; try clear hfz12_0; try clear hfz12_1; try clear hfz6_0; try clear hfz6_1; try clear hfz8_0; try clear hfz8_1; try clear hfz9_0; try clear hfz9_1; try clear p2
     obtain ⟨x3_2, x22_2, rfl, rfl, HA, HK2, BK471, HB⟩ := hrel
     cases gk with
     | zero => exact absurd HA.out (by simp [impl_isRegion.l0])
     | succ k2 =>
      have H := HA.out
      clear HA
      simp only [impl_isRegion.l0] at H
      by_cases c13 : x22_2 < (l0_1.length : Int)
      ·
       rw [if_pos c13] at H
       have c13b0 := decide_eq_true c13
       clear c13
       by_cases c14 : 0 ≤ x22_2
       ·
        rw [if_pos c14] at H
        have c14b0 := decide_eq_true c14
        clear c14
        by_cases c15 : x22_2 < (l0_1.length : Int)
        ·
         rw [if_pos c15] at H
         have c15b0 := decide_eq_true c15
         clear c15
         by_cases c16 : (rd l0_1 x22_2) < x3_2
         ·
          rw [if_pos c16] at H
          have c16b0 := decide_eq_true c16
          clear c16
          obtain rfl := Option.some.inj H
          have p473 : 0 ≤ (x22_2 : Int) := of_decide_eq_true qe84_
          have q473 : x22_2 < (l0_1.length : Int) := of_decide_eq_true qe84_
          obtain ⟨ad473, e473, hx473_0⟩ := Kd.at_int HR0_1.out x22_2 p473 q473
          cases e473
          (try (replace hx473_0 := (HB.out.cell (World.block_lt_of_cell? w _ hx473_0)).trans hx473_0))
          replace p473 := eq_true p473
          replace q473 := eq_true q473
          go_wp2
          repeat (go_quiet (fail); try go_wp2)
          go_ret
          exact ⟨qce7_, qe7e_⟩
         ·
          rw [if_neg c16] at H
          have c16b0 := decide_eq_false c16
          clear c16
          by_cases c17 : (rd l0_1 x22_2) > x22_2
          ·
           rw [if_pos c17] at H
           have c17b0 := decide_eq_true c17
           clear c17
           obtain rfl := Option.some.inj H
           have p473 : 0 ≤ (x22_2 : Int) := of_decide_eq_true qe84_
           have q473 : x22_2 < (l0_1.length : Int) := of_decide_eq_true qe84_
           obtain ⟨ad473, e473, hx473_0⟩ := Kd.at_int HR0_1.out x22_2 p473 q473
           cases e473
           (try (replace hx473_0 := (HB.out.cell (World.block_lt_of_cell? w _ hx473_0)).trans hx473_0))
           replace p473 := eq_true p473
           replace q473 := eq_true q473
           go_wp2
           repeat (go_quiet (fail); try go_wp2)
           go_ret
           exact ⟨qce7_, qe7e_⟩
          ·
           rw [if_neg c17] at H
           have c17b0 := decide_eq_false c17
           clear c17
           by_cases c18 : (rd l0_1 x22_2) > x3_2
           ·
            rw [if_pos c18] at H
            have c18b0 := decide_eq_true c18
            clear c18
            obtain ⟨ji19, hji19⟩ : ∃ j_ : Int, (wrap64 ((rd l0_1 x22_2) - 1)) = j_ := ⟨_, rfl⟩
            replace H : (if 0 ≤ (ji19) then (if (ji19) < (l0_0.length : Int) then (if x22_2 < (l0_0.length : Int) then (if (rd l0_0 (ji19)) > (rd l0_0 x22_2) then (some false) else (impl_isRegion.l0 k2 (rd l0_1 x22_2) l0_1 (l0_1.length : Int) (wrap64 (x22_2 + 1)) l0_0 l0_1)) else (none)) else (none)) else (none)) = some r := by first | (rw [hji19] at H; exact H) | (simp only [hji19] at H ⊢; exact H)
            have hji19w : (IntKind.i64.wrap ((rd l0_1 x22_2) - 1)) = ji19 := (i64_w _).trans hji19
            by_cases c20 : 0 ≤ (ji19)
            ·
             rw [if_pos c20] at H
             have c20b0 := decide_eq_true c20
             clear c20
             by_cases c21 : (ji19) < (l0_0.length : Int)
             ·
              rw [if_pos c21] at H
              have c21b0 := decide_eq_true c21
              clear c21
              by_cases c22 : x22_2 < (l0_0.length : Int)
              ·
               rw [if_pos c22] at H
               have c22b0 := decide_eq_true c22
               clear c22
               by_cases c23 : (rd l0_0 (ji19)) > (rd l0_0 x22_2)
               ·
                rw [if_pos c23] at H
                have c23b0 := decide_eq_true c23
                clear c23
                obtain rfl := Option.some.inj H
                have p473 : 0 ≤ (x22_2 : Int) := of_decide_eq_true qe84_
                have q473 : x22_2 < (l0_1.length : Int) := of_decide_eq_true qe84_
                obtain ⟨ad473, e473, hx473_0⟩ := Kd.at_int HR0_1.out x22_2 p473 q473
                cases e473
                (try (replace hx473_0 := (HB.out.cell (World.block_lt_of_cell? w _ hx473_0)).trans hx473_0))
                replace p473 := eq_true p473
                replace q473 := eq_true q473
                have hcz24_0 : wr.cell? ⟨gb471, 0, none⟩ = some (.slice A0_0 l0_0.length c0_0) := (blk_cell BK471.out 0).trans rfl
                have hcz24_1 : wr.cell? ⟨gb471, 1, none⟩ = some (.slice (some ad473) l0_1.length c0_1) := (blk_cell BK471.out 1).trans rfl
                have hfz24_0 := blk_frozen BK471.out 0
                have hfz24_1 := blk_frozen BK471.out 1
                have p474 : 0 ≤ ((ji19) : Int) := of_decide_eq_true qe84_
                have q474 : (ji19) < (l0_0.length : Int) := of_decide_eq_true qe84_
                obtain ⟨ad474, e474, hx474_0⟩ := Kd.at_int HR0_0.out (ji19) p474 q474
                cases e474
                (try (replace hx474_0 := (HB.out.cell (World.block_lt_of_cell? w _ hx474_0)).trans hx474_0))
                replace p474 := eq_true p474
                replace q474 := eq_true q474
                have p475 : 0 ≤ (x22_2 : Int) := of_decide_eq_true qe84_
                have q475 : x22_2 < (l0_0.length : Int) := of_decide_eq_true qe84_
                obtain ⟨ad475, e475, hx475_0⟩ := Kd.at_int HR0_0.out x22_2 p475 q475
                obtain rfl : ad474 = ad475 := (by injection e475)
                (try (replace hx475_0 := (HB.out.cell (World.block_lt_of_cell? w _ hx475_0)).trans hx475_0))
                replace p475 := eq_true p475
                replace q475 := eq_true q475
                go_wp2
                repeat (go_quiet (fail); try go_wp2)
                go_ret
                exact ⟨by first | rfl | (simp [errW_none, errW_some] <;> rfl) | (simp only [← hji19]; first | rfl | (simp [errW_none, errW_some] <;> rfl)) | (simp [*, errW_none, errW_some] <;> rfl), qe7e_⟩
               ·
                rw [if_neg c23] at H
                have c23b0 := decide_eq_false c23
                clear c23
                have H' := Aside0.mk H
                clear H
                have p473 : 0 ≤ (x22_2 : Int) := of_decide_eq_true qe84_
                have q473 : x22_2 < (l0_1.length : Int) := of_decide_eq_true qe84_
                obtain ⟨ad473, e473, hx473_0⟩ := Kd.at_int HR0_1.out x22_2 p473 q473
                cases e473
                (try (replace hx473_0 := (HB.out.cell (World.block_lt_of_cell? w _ hx473_0)).trans hx473_0))
                replace p473 := eq_true p473
                replace q473 := eq_true q473
                have hcz25_0 : wr.cell? ⟨gb471, 0, none⟩ = some (.slice A0_0 l0_0.length c0_0) := (blk_cell BK471.out 0).trans rfl
                have hcz25_1 : wr.cell? ⟨gb471, 1, none⟩ = some (.slice (some ad473) l0_1.length c0_1) := (blk_cell BK471.out 1).trans rfl
                have hfz25_0 := blk_frozen BK471.out 0
                have hfz25_1 := blk_frozen BK471.out 1
                have p474 : 0 ≤ ((ji19) : Int) := of_decide_eq_true qe84_
                have q474 : (ji19) < (l0_0.length : Int) := of_decide_eq_true qe84_
                obtain ⟨ad474, e474, hx474_0⟩ := Kd.at_int HR0_0.out (ji19) p474 q474
                cases e474
                (try (replace hx474_0 := (HB.out.cell (World.block_lt_of_cell? w _ hx474_0)).trans hx474_0))
                replace p474 := eq_true p474
                replace q474 := eq_true q474
                have p475 : 0 ≤ (x22_2 : Int) := of_decide_eq_true qe84_
                have q475 : x22_2 < (l0_0.length : Int) := of_decide_eq_true qe84_
                obtain ⟨ad475, e475, hx475_0⟩ := Kd.at_int HR0_0.out x22_2 p475 q475
                obtain rfl : ad474 = ad475 := (by injection e475)
                (try (replace hx475_0 := (HB.out.cell (World.block_lt_of_cell? w _ hx475_0)).trans hx475_0))
                replace p475 := eq_true p475
                replace q475 := eq_true q475
                go_wp2
                repeat (go_quiet (fail); try go_wp2)
                go_roundg k2
                case measure => have := HJ1.out; have := HK2.out; omega
                case rel => exact ⟨(rd l0_1 x22_2), (wrap64 (x22_2 + 1)), qc8f_, qc8f_, H', ⟨q37b_ HJ1.out HK2.out⟩, ⟨q4a6_⟩, ⟨qe7e_⟩⟩
              ·
               rw [if_neg c22] at H
               exact absurd H (by simp)
             ·
              rw [if_neg c21] at H
              exact absurd H (by simp)
            ·
             rw [if_neg c20] at H
             exact absurd H (by simp)
           ·
            rw [if_neg c18] at H
            have c18b0 := decide_eq_false c18
            clear c18
            have H' := Aside0.mk H
            clear H
            have p473 : 0 ≤ (x22_2 : Int) := of_decide_eq_true qe84_
            have q473 : x22_2 < (l0_1.length : Int) := of_decide_eq_true qe84_
            obtain ⟨ad473, e473, hx473_0⟩ := Kd.at_int HR0_1.out x22_2 p473 q473
            cases e473
            (try (replace hx473_0 := (HB.out.cell (World.block_lt_of_cell? w _ hx473_0)).trans hx473_0))
            replace p473 := eq_true p473
            replace q473 := eq_true q473
            go_wp2
            repeat (go_quiet (fail); try go_wp2)
            go_roundg k2
            case measure => have := HJ1.out; have := HK2.out; omega
            case rel => exact ⟨(rd l0_1 x22_2), (wrap64 (x22_2 + 1)), qc8f_, qc8f_, H', ⟨q37b_ HJ1.out HK2.out⟩, ⟨q4a6_⟩, ⟨qe7e_⟩⟩
        ·
         rw [if_neg c15] at H
         exact absurd H (by simp)
       ·
        rw [if_neg c14] at H
        exact absurd H (by simp)
      ·
       rw [if_neg c13] at H
       have c13b0 := decide_eq_false c13
       clear c13
       obtain rfl := Option.some.inj H
       go_wp2
       repeat (go_quiet (fail); try go_wp2)
       go_ret
       exact ⟨qce7_, qe7e_⟩

/-! ### impl_PointOfRegion: function 11 -/
theorem PtI_put {w0 w : World} {gb gm ga n : Nat} {c0 c1 v : Value} {xs : List Int} {b : Bool} (h : PtI w0 gb gm ga c0 c1 v n (xs, b) w) (b' : Bool) : PtI w0 gb gm ga c0 c1 v n (xs, b') (w.setCell ⟨ga, 0, none⟩ (.bool b')) := by
 obtain ⟨hB, hb, hm, ha, hR, hl, hA⟩ := h
 exact ⟨below_set hB hA, blk_far hb (p := ⟨ga, 0, none⟩) (blk_ne hb ha (by decide)) _, blk_far hm (p := ⟨ga, 0, none⟩) (blk_ne hm ha (by decide)) _, blk_set ha 0 _, Kd.R_set hR ha (by decide) 0 _, hl, hA⟩
/-- The box of 'again' is laid anew and holds what the elder one held. -/
theorem PtI_next {w0 w : World} {gb gm ga n : Nat} {c0 c1 v : Value} {s : List Int × Bool} (h : PtI w0 gb gm ga c0 c1 v n s w) : PtI w0 gb gm w.heap.size c0 c1 v n s (w.alloc (.cells #[.bool s.2] 4)) := by
 obtain ⟨hB, hb, hm, ha, hR, hl, hA⟩ := h
 exact ⟨below_alloc hB _, blk_alloc hb _, blk_alloc hm _, blk_new w _, Kd.R_alloc hR _, hl, hB.size⟩
theorem PtI_start {w0 w : World} {gb n : Nat} {c0 c1 v : Value} {s : List Int × Bool} (hB : Below w0.heap.size w0 w) (hb : w.heap[gb]? = some (.cells #[c0, c1] 27 (0, 0))) (hR : Kd.R (Kd.int .i64) 3 w w0.heap.size (fun _ => True) v s.1) (hl : s.1.length = n) :
  PtI w0 gb w.heap.size (w.heap.size + 1) c0 c1 v n s ((w.alloc (.cells #[v] 24)).alloc (.cells #[.bool s.2] 4)) := by
 have e : (w.alloc (.cells #[v] 24)).heap.size = w.heap.size + 1 := by simp
 rw [← e]
 exact ⟨below_alloc (below_alloc hB _) _, blk_alloc (blk_alloc hb _) _, blk_alloc (blk_new w _) _, blk_new _ _, Kd.R_alloc (Kd.R_alloc hR _) _, hl, by rw [e]; have := hB.size; omega⟩
theorem ptT_mono (far : List Int) (n : Nat) : ∀ k s, LeO (ptT far n k s) (ptT far n (k + 1) s)
 | 0, s => fun r h => by simp [ptT] at h
 | k + 1, s => by
  rw [ptT, ptT]
  exact LeO.ite (ptT_mono far n k _) (LeO.refl _)
/-- The last loop: out[order[p]] = most[p]. -/
def ptOut (o m : List Int) : Nat → List Int
 | 0 => List.replicate o.length 0
 | n + 1 => (ptOut o m n).set (rd o (n : Int)).toNat (rd m (n : Int))
theorem ptOut_length (o m : List Int) : ∀ n, (ptOut o m n).length = o.length
 | 0 => by rw [ptOut, List.length_replicate]
 | n + 1 => by rw [ptOut, List.length_set, ptOut_length o m n]
def impl_PointOfRegion.f (k : Nat) (l0_0 : List Int) (l0_1 : List Int) : Option (List Int × Bool) := (impl_isRegion.f k l0_0 l0_1).bind fun t => (if t = true then (if l0_0.length ≤ 8 ∧ l0_1.length = l0_0.length ∧ l0_0.all (fun x => decide (0 ≤ x ∧ x < (l0_0.length : Int))) = true then ((ptT l0_1 l0_0.length k (List.replicate l0_0.length 0, true)).bind fun m => some (ptOut l0_0 m l0_0.length, true)) else none) else (some (([] : List Int), false)))
theorem impl_PointOfRegion.mono : ∀ a0 a1 k, LeO (impl_PointOfRegion.f k a0 a1) (impl_PointOfRegion.f (k + 1) a0 a1) := by
 intro a0 a1 k
 unfold impl_PointOfRegion.f
 exact LeO.bind (impl_isRegion.mono a0 a1 k) (fun _ => LeO.ite (LeO.ite (LeO.bind (ptT_mono _ _ k _) (fun _ => LeO.refl _)) (LeO.refl _)) (LeO.refl _))
theorem impl_PointOfRegion.calls (k : Nat) (A0_0 : Option Addr) (c0_0 : Nat) (l0_0 : List Int) (A0_1 : Option Addr) (c0_1 : Nat) (l0_1 : List Int) (r1 : List Int) (r2 : Bool) (w : World) (hr0_0 : Kd.C (Kd.int .i64) w A0_0 l0_0.length l0_0) (hc0_0 : l0_0.length ≤ c0_0) (hr0_1 : Kd.C (Kd.int .i64) w A0_1 l0_1.length l0_1) (hc0_1 : l0_1.length ≤ c0_1) (h : impl_PointOfRegion.f k l0_0 l0_1 = some (r1, r2)) :
  Calls Tryz.prog 11 #[.agg #[.slice A0_0 l0_0.length c0_0, .slice A0_1 l0_1.length c0_1]] w fun e w' => ∃ v0_ : Value, e = .returned (.tuple #[v0_, .bool r2]) ∧ Kd.R (Kd.int .i64) 3 w' w.heap.size (fun _ => True) v0_ r1 ∧ Below w.heap.size w w' := by
 have hu45 := Tryz.underlying27
 have HR0 := Aside0.mk hr0_0
 have HC0 := Aside0.mk hc0_0
 have HR1 := Aside0.mk hr0_1
 have HC1 := Aside0.mk hc0_1
 clear hr0_0 hc0_0 hr0_1 hc0_1
 unfold impl_PointOfRegion.f at h
 obtain ⟨t, h1, h2⟩ := Option.bind_eq_some_iff.mp h
 clear h
 have A1 := Aside0.mk h1
 clear h1
 cases t with
 | false =>
  rw [if_neg (by decide)] at h2
  simp only [Option.some.injEq, Prod.mk.injEq] at h2
  obtain ⟨rfl, rfl⟩ := h2
  go_enter Tryz.func11, Tryz.ntmps11
  go_wp2_with (first | ((with_reducible refine gate_dst (N := 1) rfl ?_); refine box_event ?hg (N := 1) ?hd (cs := #[.slice A0_0 l0_0.length c0_0, .slice A0_1 l0_1.length c0_1]) (t := 27) ?hr ?_; (case hd => rfl); (case hg => rfl); (case hr => exact qfba_); intro gb hg w4 hbox hb; have BK := Aside0.mk hbox; have HB := Aside0.mk hb; clear hb hbox hg; have hcz0 : w4.cell? ⟨gb, 0, none⟩ = some (.slice A0_0 l0_0.length c0_0) := (blk_cell BK.out 0).trans rfl; have hcz1 : w4.cell? ⟨gb, 1, none⟩ = some (.slice A0_1 l0_1.length c0_1) := (blk_cell BK.out 1).trans rfl; have hfz0 := blk_frozen BK.out 0; have hfz1 := blk_frozen BK.out 1) | (go_at_call 26; refine (impl_isRegion.calls k _ _ l0_0 _ _ l0_1 false _ (Kd.C_below HR0.out HB.out) HC0.out (Kd.C_below HR1.out HB.out) HC1.out A1.out).mono ?_; rintro e w5 ⟨rfl, hb⟩; have HB2 := Aside0.mk (below_step HB.out hb); clear hb))
  go_ret2
  exact ⟨_, rfl, Kd.R_nil _ _ _ _ _, HB2.out⟩
 | true =>
  rw [if_pos rfl] at h2
  split at h2
  case isFalse => cases h2
  case isTrue hall =>
  obtain ⟨m, h3, h4⟩ := Option.bind_eq_some_iff.mp h2
  clear h2
  simp only [Option.some.injEq, Prod.mk.injEq] at h4
  obtain ⟨rfl, rfl⟩ := h4
  have HM := Aside0.mk h3
  clear h3
  have HALL := Aside0.mk hall
  clear hall
  obtain ⟨nz, hnz⟩ : ∃ nz, nz = l0_0.length := ⟨_, rfl⟩
  go_enter Tryz.func11, Tryz.ntmps11
  go_wp2_with (first | ((with_reducible refine gate_dst (N := 1) rfl ?_); refine box_event ?hg (N := 1) ?hd (cs := #[.slice A0_0 l0_0.length c0_0, .slice A0_1 l0_1.length c0_1]) (t := 27) ?hr ?_; (case hd => rfl); (case hg => rfl); (case hr => exact qfba_); intro gb hg w4 hbox hb; have BK := Aside0.mk hbox; have HB := Aside0.mk hb; clear hb hbox hg; have hcz0 : w4.cell? ⟨gb, 0, none⟩ = some (.slice A0_0 l0_0.length c0_0) := (blk_cell BK.out 0).trans rfl; have hcz1 : w4.cell? ⟨gb, 1, none⟩ = some (.slice A0_1 l0_1.length c0_1) := (blk_cell BK.out 1).trans rfl; have hfz0 := blk_frozen BK.out 0; have hfz1 := blk_frozen BK.out 1) | (go_at_call 26; refine (impl_isRegion.calls k _ _ l0_0 _ _ l0_1 true _ (Kd.C_below HR0.out HB.out) HC0.out (Kd.C_below HR1.out HB.out) HC1.out A1.out).mono ?_; rintro e w5 ⟨rfl, hb⟩; have BK2 := Aside0.mk (blk_below BK.out hb); have HB2 := Aside0.mk (below_step HB.out hb); clear hb; clear hcz0 hcz1 hfz0 hfz1 HB BK; have hcz0 : w5.cell? ⟨gb, 0, none⟩ = some (.slice A0_0 l0_0.length c0_0) := (blk_cell BK2.out 0).trans rfl; have hfz0 := blk_frozen BK2.out 0) | ((with_reducible refine gate_dst (N := 20) rfl ?_); refine Kd.R_make (Kd.int .i64) _ 3 rfl (N := 20) rfl 24 _ _ rfl (l0_0.length : Int) rfl rfl Tryz.underlying24 (.int .i64 0) 8 info_int rfl (by decide) (by omega) 0 (ok := fun _ => True) (okp := fun _ => True) rfl (fun _ hk => hk) trivial (by omega) (by have := HALL.out.1; omega) (Below.refl _ _) (Nat.le_refl _) ?_; intro vm w6 ho7 hb hg_ hnew_; clear hg_ hnew_; rw [Int.toNat_natCast] at ho7; have HR7 := Aside0.mk (Kd.R_lower ho7 HB2.out.size); have BK3 := Aside0.mk (blk_below BK2.out hb); have HB3 := Aside0.mk (below_step HB2.out hb); clear ho7 hb hcz0 hfz0 HB2 BK2; obtain ⟨Am, cm, em⟩ := Kd.R_slice HR7.out; rw [List.length_replicate] at em; subst em))
  have HI0 := Aside0.mk (PtI_start (gb := gb) (s := (List.replicate l0_0.length 0, true)) HB3.out BK3.out HR7.out List.length_replicate)
  go_loopg [6] k (fun kq v6 w' => ∃ (ga : Nat) (xs : List Int) (b : Bool), v6 = .pointer (some ⟨ga, 0, none⟩) ∧ Aside0 (ptT l0_1 l0_0.length kq (xs, b) = some m) ∧ Aside0 (PtI w gb w6.heap.size ga (.slice A0_0 l0_0.length c0_0) (.slice A0_1 l0_1.length c0_1) (.slice Am l0_0.length cm) l0_0.length (xs, b) w'))
  case atStart => exact ⟨_, _, _, rfl, HM, HI0⟩
  case round =>
   clear HI0 HM HB3 BK3 HR7
   obtain ⟨gm, hgm⟩ : ∃ gm, gm = w6.heap.size := ⟨_, rfl⟩
   obtain ⟨ga, xs, b, rfl, HM, HI⟩ := hrel
   have hca : wr.cell? ⟨ga, 0, none⟩ = some (.bool b) := (blk_cell HI.out.gagain 0).trans rfl
   have hfa : wr.frozen? ⟨ga, 0, none⟩ = false := blk_frozen HI.out.gagain 0
   cases gk with
   | zero => exact absurd HM.out (by simp [ptT])
   | succ k1 =>
   cases b with
   | false =>
    have hxs : xs = m := by have h := HM.out; rw [ptT, if_neg (by simp)] at h; injection h
    subst hxs
    clear HM
    go_wp2_with ((with_reducible refine gate_dst (N := 69) rfl ?_); refine Kd.R_make (Kd.int .i64) _ 3 rfl (N := 69) rfl 24 _ _ rfl (l0_0.length : Int) rfl rfl Tryz.underlying24 (.int .i64 0) 8 info_int rfl (by decide) (by omega) 0 (ok := fun _ => True) (okp := fun _ => True) rfl (fun _ hk => hk) trivial (by omega) (by have := HALL.out.1; omega) (Below.refl _ _) (Nat.le_refl _) ?_; intro vo w7 ho7 hb hg_ hnew_; clear hg_ hnew_; rw [Int.toNat_natCast] at ho7; have HO5 := Aside0.mk (Kd.R_lower ho7 HI.out.below.size); have HO6 := Aside0.mk (Kd.R_elder' HI.out.row (Kd.R_base ho7) hb); have BK7 := Aside0.mk (blk_below HI.out.box hb); have BM7 := Aside0.mk (blk_below HI.out.gmost hb); have HB7 := Aside0.mk (below_step HI.out.below hb); clear ho7 hb hca hfa HI; obtain ⟨Ao, co, eo⟩ := Kd.R_slice HO5.out; rw [List.length_replicate] at eo; subst eo; have hcz0 : w7.cell? ⟨gb, 0, none⟩ = some (.slice A0_0 l0_0.length c0_0) := (blk_cell BK7.out 0).trans rfl; have hfz0 := blk_frozen BK7.out 0)
    clear hcz0 hfz0 BK7
    go_loopg [73] l0_0.length (fun kq v73 w' => ∃ (i : Nat) (iz : Int), v73 = .int .i64 iz ∧ Aside0 (iz = (i : Int)) ∧ Aside0 (i + kq = l0_0.length) ∧ Aside0 (Kd.R (Kd.int .i64) 3 w' w.heap.size (fun k_ => True ∧ some k_ ≠ (Value.slice Ao l0_0.length co).ownBlock) (.slice Am l0_0.length cm) xs) ∧ Aside0 (Kd.R (Kd.int .i64) 3 w' w.heap.size (fun _ => True) (.slice Ao l0_0.length co) (ptOut l0_0 xs i)) ∧ Aside0 (w'.heap[w6.heap.size]? = some (.cells #[.slice Am l0_0.length cm] 24 (0, 0))) ∧ Aside0 (Below w.heap.size w w'))
    case atStart => exact ⟨0, 0, rfl, ⟨rfl⟩, ⟨by omega⟩, HO6, HO5, BM7, HB7⟩
    case round =>
     clear HO6 HO5 BM7 HB7
     obtain ⟨i, iz, rfl, NI, NK, HO6, HO5, BM7, HB7⟩ := hrel
     cases gk with
     | zero =>
      have hi : i = l0_0.length := by have := NK.out; omega
      subst hi
      have q1 : decide (iz < (l0_0.length : Int)) = false := decide_eq_false (by have := NI.out; omega)
      go_wp2
      go_ret2
      exact ⟨_, rfl, HO5.out, HB7.out⟩
     | succ d =>
      have hi0 : 0 ≤ iz := by have := NI.out; omega
      have hin : iz < (l0_0.length : Int) := by have := NI.out; have := NK.out; omega
      have q1 : decide (iz < (l0_0.length : Int)) = true := decide_eq_true hin
      have hl6 : xs.length = l0_0.length := (Kd.R_reads' HO6.out).1.symm
      obtain ⟨ad0, e0, hx0⟩ := Kd.at_int (Kd.C_below HR0.out HB7.out) iz hi0 hin
      cases e0
      obtain ⟨g6, cap6, ev, _, _, _⟩ := Kd.R_form HO6.out (by omega)
      injection ev with ea en ec
      subst ea
      clear en ec
      obtain ⟨go5, co5, eo5, gb5, gl5, cl5, HG5⟩ := Kd.R_form HO5.out (by rw [ptOut_length]; omega)
      injection eo5 with ea en ec
      subst ea
      clear en ec
      have BN5 := Aside0.mk (blk_ne BM7.out HG5 (by decide))
      have GB5 := Aside0.mk gb5
      clear gb5 gl5 HG5
      have hkb : 0 ≤ rd l0_0 iz ∧ rd l0_0 iz < (l0_0.length : Int) := by
       have hm : rd l0_0 iz ∈ l0_0 := by
        have hlt : i < l0_0.length := by have := NK.out; omega
        rw [NI.out]
        unfold rd
        rw [Int.toNat_natCast, List.getD_eq_getElem?_getD, List.getElem?_eq_getElem hlt]
        exact List.getElem_mem _
       exact of_decide_eq_true (List.all_eq_true.1 HALL.out.2.2 _ hm)
      obtain ⟨kk, hkk⟩ : ∃ kk, kk = rd l0_0 iz := ⟨_, rfl⟩
      rw [← hkk] at hx0 hkb
      obtain ⟨hk0, hk1⟩ := hkb
      have hcx : wr.cell? ⟨g6, iz.toNat, none⟩ = some (.int .i64 (rd xs iz)) := (Kd.R_celln 0 HO6.out iz hi0 hin).1
      obtain ⟨x, hx⟩ : ∃ x, x = rd xs iz := ⟨_, rfl⟩
      rw [← hx] at hcx
      obtain ⟨hx50, hf50⟩ := Kd.R_celln 0 HO5.out kk hk0 hk1
      have HP := Aside0.mk (Kd.R_putg HO5.out kk x)
      have NY := Aside0.mk (show (ptOut l0_0 xs i).set kk.toNat x = ptOut l0_0 xs (i + 1) by rw [hkk, hx, NI.out]; rfl)
      clear hkk hx
      have hcm : wr.cell? ⟨w6.heap.size, 0, none⟩ = some (.slice (some ⟨g6, 0, none⟩) l0_0.length cm) := (blk_cell BM7.out 0).trans rfl
      replace hi0 := eq_true hi0
      replace hin := eq_true hin
      replace hk0 := eq_true hk0
      replace hk1 := eq_true hk1
      go_wp2_with (first | ((with_reducible refine gate_store (t := 3) (p := 84) rfl ?_); refine store_event (t := 3) (p := 84) (v := ?vo_w21) (w1 := (wr.setCell ⟨go5, kk.toNat, none⟩ (.int .i64 x))) ?hg ?ho ?hn ?hr ?_; (case ho => rfl); (case hg => rfl); (case hn => rfl); (case hr => exact qfba_); intro w21 hw; have hg : wr.grownBy w21 (some go5) := (by rw [hw]; exact HP.out.2); have hp_ : Kd.R (Kd.int .i64) 3 w21 w.heap.size (fun _ => True) (.slice (some ⟨go5, 0, none⟩) l0_0.length co) (ptOut l0_0 xs (i + 1)) := (by rw [hw, ← NY.out]; exact HP.out.1); have n0_ := Aside0.mk hp_; have n1_ := Aside0.mk (Kd.R_after (v := (.slice (some ⟨go5, 0, none⟩) l0_0.length co)) (v1 := (.slice (some ⟨go5, 0, none⟩) l0_0.length co)) (ok := (fun _ => True)) HO6.out hg (.inl rfl)); have n2_ := Aside0.mk ((by rw [hw]; exact below_set (HB7.out) GB5.out : Below w.heap.size w w21)); have n3_ := Aside0.mk ((by rw [hw]; exact blk_far BM7.out (p := ⟨go5, kk.toNat, none⟩) BN5.out _ : w21.heap[w6.heap.size]? = some (.cells #[.slice (some ⟨g6, 0, none⟩) l0_0.length cm] 24 (0, 0)))); replace HO5 := n0_; replace HO6 := n1_; replace HB7 := n2_; replace BM7 := n3_; clear n0_ n1_ n2_ n3_; clear hg hw hp_))
      go_roundg d
      case measure => omega
      case rel => exact ⟨i + 1, _, rfl, ⟨by rw [NI.out]; have := NK.out; have := HALL.out.1; rw [wrap64_in _ (by omega) (by omega)]; omega⟩, ⟨by have := NK.out; omega⟩, HO6, HO5, BM7, HB7⟩
   | true =>
    have HM1 := Aside0.mk (show ptT l0_1 l0_0.length k1 (ptP l0_1 (l0_0.length - 1) 1 (xs, false)) = some m from by have h := HM.out; rw [ptT, if_pos rfl] at h; exact h)
    clear HM
    obtain ⟨sE, hsE⟩ : ∃ sE, sE = ptP l0_1 (l0_0.length - 1) 1 (xs, false) := ⟨_, rfl⟩
    rw [← hsE] at HM1
    have HSE := Aside0.mk hsE
    clear hsE
    go_wp2
    have HI1 := Aside0.mk (PtI_put HI.out false)
    clear HI hca hfa
    go_loopg [8] (l0_0.length - 1) (fun kq v8 w' => ∃ (p : Nat) (pz : Int) (s : List Int × Bool), v8 = .int .i64 pz ∧ Aside0 (pz = (p : Int)) ∧ Aside0 (1 ≤ p ∧ kq = l0_0.length - p) ∧ Aside0 (ptP l0_1 kq p s = sE) ∧ Aside0 (PtI w gb w6.heap.size ga (.slice A0_0 l0_0.length c0_0) (.slice A0_1 l0_1.length c0_1) (.slice Am l0_0.length cm) l0_0.length s w'))
    case atStart => exact ⟨1, 1, (xs, false), rfl, ⟨rfl⟩, ⟨Nat.le_refl _, rfl⟩, ⟨HSE.out.symm⟩, HI1⟩
    case round =>
     clear HI1 HSE
     obtain ⟨p, pz, s, rfl, NP, NK, HPS, HI⟩ := hrel
     cases gk with
     | zero =>
      have hq1 : decide (pz < (l0_0.length : Int)) = false := decide_eq_false (by have := NP.out; have := NK.out; omega)
      have e0 := Aside0.mk (show s = sE from HPS.out)
      have hca : wr.cell? ⟨ga, 0, none⟩ = some (.bool s.2) := (blk_cell HI.out.gagain 0).trans rfl
      go_wp2
      go_roundg k1
      case measure => omega
      case rel => exact ⟨_, s.1, s.2, rfl, ⟨by rw [← HM1.out, ← e0.out]⟩, ⟨PtI_next HI.out⟩⟩
     | succ d =>
      have hpn : p < l0_0.length := by have := NK.out; omega
      have HPN := Aside0.mk hpn
      clear hpn
      have hq1 : decide (pz < (l0_0.length : Int)) = true := decide_eq_true (by have := NP.out; have := HPN.out; omega)
      obtain ⟨g, cap, ev, _, _, _⟩ := Kd.R_form HI.out.row (by rw [HI.out.len]; have := HPN.out; omega)
      injection ev with ea en ec
      subst ea
      clear en ec
      obtain ⟨z1, hz1⟩ : ∃ z1 : Int, z1 = ((p - 1 : Nat) : Int) := ⟨_, rfl⟩
      have hw1 : wrap64 (pz - 1) = z1 := by have := NP.out; have := NK.out; have := HPN.out; have := HALL.out.1; rw [wrap64_in _ (by omega) (by omega)]; omega
      have hz0 : 0 ≤ z1 := by omega
      have hzn : z1 < (l0_0.length : Int) := by have := HPN.out; omega
      have hcx : wr.cell? ⟨g, z1.toNat, none⟩ = some (.int .i64 (rd s.1 z1)) := (Kd.R_celln 0 HI.out.row z1 hz0 hzn).1
      obtain ⟨x1, hx1⟩ : ∃ x1, x1 = rd s.1 z1 := ⟨_, rfl⟩
      rw [← hx1] at hcx
      have NX := Aside0.mk (show x1 = rd s.1 ((p - 1 : Nat) : Int) by rw [hx1, hz1])
      clear hx1 hz1
      replace hz0 := eq_true hz0
      replace hzn := eq_true hzn
      have hcm : wr.cell? ⟨w6.heap.size, 0, none⟩ = some (.slice (some ⟨g, 0, none⟩) l0_0.length cm) := (blk_cell HI.out.gmost 0).trans rfl
      have HC := Aside0.mk (least_inv w wr gb w6.heap.size ga l0_0.length _ _ _ s p (wrap64 (x1 - 1)) HI.out HPN.out)
      rw [← NP.out] at HC
      go_wp2_with (go_at_call 27; refine HC.out.mono ?_; rintro e w9 ⟨rfl, hI⟩; have HI9 := Aside0.mk hI; clear hI)
      obtain ⟨s3, hs3⟩ : ∃ s3, s3 = least p (wrap64 (x1 - 1)) s := ⟨_, rfl⟩
      rw [← hs3] at HI9
      have HPS1 := Aside0.mk (show ptP l0_1 d (p + 1) (ptQ l0_1 p p 0 s3) = sE from by have h := HPS.out; rw [ptP, ← NX.out, ← hs3] at h; exact h)
      obtain ⟨s4, hs4⟩ : ∃ s4, s4 = ptQ l0_1 p p 0 s3 := ⟨_, rfl⟩
      rw [← hs4] at HPS1
      have HS4 := Aside0.mk hs4
      clear hs3 hs4 hcx hcm hz0 hzn hw1 HC HI HPS NX hq1
      go_loopg [38] p (fun kq v38 w' => ∃ (q : Nat) (qz : Int) (s2 : List Int × Bool), v38 = .int .i64 qz ∧ Aside0 (qz = (q : Int)) ∧ Aside0 (q + kq = p) ∧ Aside0 (ptQ l0_1 p kq q s2 = s4) ∧ Aside0 (PtI w gb w6.heap.size ga (.slice A0_0 l0_0.length c0_0) (.slice A0_1 l0_1.length c0_1) (.slice (some ⟨g, 0, none⟩) l0_0.length cm) l0_0.length s2 w'))
      case atStart => exact ⟨0, 0, s3, rfl, ⟨rfl⟩, ⟨by omega⟩, ⟨HS4.out.symm⟩, HI9⟩
      case round =>
       clear HI9 HS4
       obtain ⟨q, qz, s2, rfl, NQ, NQK, HQS, HI⟩ := hrel
       cases gk with
       | zero =>
        have hq1 : decide (qz < pz) = false := decide_eq_false (by have := NP.out; have := NQ.out; have := NQK.out; omega)
        have e0 := Aside0.mk (show s2 = s4 from HQS.out)
        go_wp2
        go_roundg d
        case measure => omega
        case rel => exact ⟨p + 1, _, s4, rfl, ⟨by rw [NP.out]; have := HPN.out; have := HALL.out.1; rw [wrap64_in _ (by omega) (by omega)]; omega⟩, ⟨by omega, by have := NK.out; omega⟩, HPS1, ⟨by rw [← e0.out]; exact HI.out⟩⟩
       | succ dq =>
        have hq1 : decide (qz < pz) = true := decide_eq_true (by have := NP.out; have := NQ.out; have := NQK.out; omega)
        have hcz1 : wr.cell? ⟨gb, 1, none⟩ = some (.slice A0_1 l0_1.length c0_1) := (blk_cell HI.out.box 1).trans rfl
        have hp0 : 0 ≤ pz := by have := NP.out; omega
        have hpn : pz < (l0_0.length : Int) := by have := NP.out; have := HPN.out; omega
        have hpf : pz < (l0_1.length : Int) := by have := HALL.out.2.1; omega
        have hq0 : 0 ≤ qz := by have := NQ.out; omega
        have hqn : qz < (l0_0.length : Int) := by have := NQ.out; have := NQK.out; have := HPN.out; omega
        obtain ⟨ad, e6, hxf⟩ := Kd.at_int (Kd.C_below HR1.out HI.out.below) pz hp0 hpf
        cases e6
        have hcp : wr.cell? ⟨g, pz.toNat, none⟩ = some (.int .i64 (rd s2.1 pz)) := (Kd.R_celln 0 HI.out.row pz hp0 hpn).1
        have hcq : wr.cell? ⟨g, qz.toNat, none⟩ = some (.int .i64 (rd s2.1 qz)) := (Kd.R_celln 0 HI.out.row qz hq0 hqn).1
        obtain ⟨fp, hfp⟩ : ∃ fp, fp = rd l0_1 pz := ⟨_, rfl⟩
        obtain ⟨mp, hmp⟩ : ∃ mp, mp = rd s2.1 pz := ⟨_, rfl⟩
        obtain ⟨mq, hmq⟩ : ∃ mq, mq = rd s2.1 qz := ⟨_, rfl⟩
        rw [← hfp] at hxf
        rw [← hmp] at hcp
        rw [← hmq] at hcq
        have NM := Aside0.mk (show fp = rd l0_1 (p : Int) ∧ mp = rd s2.1 (p : Int) ∧ mq = rd s2.1 (q : Int) from ⟨by rw [hfp, NP.out], by rw [hmp, NP.out], by rw [hmq, NQ.out]⟩)
        clear hfp hmp hmq
        replace hp0 := eq_true hp0
        replace hpn := eq_true hpn
        replace hpf := eq_true hpf
        replace hq0 := eq_true hq0
        replace hqn := eq_true hqn
        have hcm : wr.cell? ⟨w6.heap.size, 0, none⟩ = some (.slice (some ⟨g, 0, none⟩) l0_0.length cm) := (blk_cell HI.out.gmost 0).trans rfl
        by_cases hc : qz < fp
        ·
         have hqc : decide (qz < fp) = true := decide_eq_true hc
         have HQ1 := Aside0.mk (show ptQ l0_1 p dq (q + 1) (least p (wrap64 (wrap64 (mq - 100) - 1)) s2) = s4 from by have h := HQS.out; rw [ptQ, ← NM.out.1, ← NM.out.2.2, ← NQ.out, if_pos hc] at h; exact h)
         clear hc HQS
         have HC := Aside0.mk (least_inv w wr gb w6.heap.size ga l0_0.length _ _ _ s2 p (wrap64 (wrap64 (mq - 100) - 1)) HI.out HPN.out)
         rw [← NP.out] at HC
         go_wp2_with (go_at_call 27; refine HC.out.mono ?_; rintro e w9 ⟨rfl, hI⟩; have HI9 := Aside0.mk hI; clear hI)
         go_roundg dq
         case measure => omega
         case rel => exact ⟨q + 1, _, _, rfl, ⟨by rw [NQ.out]; have := NQK.out; have := HPN.out; have := HALL.out.1; rw [wrap64_in _ (by omega) (by omega)]; omega⟩, ⟨by have := NQK.out; omega⟩, HQ1, HI9⟩
        ·
         have hqc : decide (qz < fp) = false := decide_eq_false hc
         have HQ1 := Aside0.mk (show ptQ l0_1 p dq (q + 1) (least q (wrap64 (wrap64 (mp + 100) - 1)) s2) = s4 from by have h := HQS.out; rw [ptQ, ← NM.out.1, ← NM.out.2.1, ← NQ.out, if_neg hc] at h; exact h)
         clear hc HQS
         have HC := Aside0.mk (least_inv w wr gb w6.heap.size ga l0_0.length _ _ _ s2 q (wrap64 (wrap64 (mp + 100) - 1)) HI.out (by have := NQK.out; have := HPN.out; omega))
         rw [← NQ.out] at HC
         go_wp2_with (go_at_call 27; refine HC.out.mono ?_; rintro e w9 ⟨rfl, hI⟩; have HI9 := Aside0.mk hI; clear hI)
         go_roundg dq
         case measure => omega
         case rel => exact ⟨q + 1, _, _, rfl, ⟨by rw [NQ.out]; have := NQK.out; have := HPN.out; have := HALL.out.1; rw [wrap64_in _ (by omega) (by omega)]; omega⟩, ⟨by have := NQK.out; omega⟩, HQ1, HI9⟩

/-! ### spec_reOrder: function 49 -/
mutual
def spec_reOrder.j0 : Nat → List Int → Bool → Option (Bool)
 | 0, _, _ => none
 | k + 1, x0, x15 => if x15 = true then (some false) else (spec_reOrder.l0 k x0 x0 (x0.length : Int) 0)
def spec_reOrder.l0 : Nat → List Int → List Int → Int → Int → Option (Bool)
 | 0, _, _, _, _ => none
 | k + 1, x0, x16, x17, x18 => if x18 < x17 then (if 0 ≤ x18 then (if x18 < (x16.length : Int) then (if x18 ≤ (x0.length : Int) then ((spec_l1Has.f k (x0.take (x18 : Int).toNat) (rd x16 x18)).bind fun t479 => (if t479 = true then (some false) else (spec_reOrder.l0 k x0 x16 x17 (wrap64 (x18 + 1))))) else (none)) else (none)) else (none)) else (some true)
end
def spec_reOrder.f (k : Nat) (l0 : List Int) : Option (Bool) := if (l0.length : Int) > 8 then (spec_reOrder.j0 k l0 true) else ((spec_l1All.f k l0 0 (wrap64 ((l0.length : Int) - 1))).bind fun t476 => (spec_reOrder.j0 k l0 (!t476)))
theorem spec_reOrder.mono_l : ∀ k, (∀ y0 y1, LeO (spec_reOrder.j0 k y0 y1) (spec_reOrder.j0 (k + 1) y0 y1)) ∧ (∀ y0 y1 y2 y3, LeO (spec_reOrder.l0 k y0 y1 y2 y3) (spec_reOrder.l0 (k + 1) y0 y1 y2 y3))
 | 0 => ⟨fun _ _ r h => by simp [spec_reOrder.j0] at h, fun _ _ _ _ r h => by simp [spec_reOrder.l0] at h⟩
 | k + 1 => by
  obtain ⟨ih0, ih1⟩ := spec_reOrder.mono_l k
  refine ⟨?_, ?_⟩
  ·
   intro y0 y1
   unfold spec_reOrder.j0
   repeat' (with_reducible first | exact ih0 _ _ | exact ih1 _ _ _ _ | exact spec_l1All.mono _ _ _ _ | exact spec_l1Has.mono _ _ _ | exact LeO.refl _ | exact LeO.none _ | refine LeO.ite ?_ ?_ | refine LeO.bind ?_ (fun _ => ?_))
  ·
   intro y0 y1 y2 y3
   unfold spec_reOrder.l0
   repeat' (with_reducible first | exact ih0 _ _ | exact ih1 _ _ _ _ | exact spec_l1All.mono _ _ _ _ | exact spec_l1Has.mono _ _ _ | exact LeO.refl _ | exact LeO.none _ | refine LeO.ite ?_ ?_ | refine LeO.bind ?_ (fun _ => ?_))
theorem spec_reOrder.mono : ∀ a0 k, LeO (spec_reOrder.f k a0) (spec_reOrder.f (k + 1) a0) := by
 intro a0 k
 obtain ⟨ih0, ih1⟩ := spec_reOrder.mono_l k
 unfold spec_reOrder.f
 repeat' (with_reducible first | exact ih0 _ _ | exact ih1 _ _ _ _ | exact spec_l1All.mono _ _ _ _ | exact spec_l1Has.mono _ _ _ | exact LeO.refl _ | exact LeO.none _ | refine LeO.ite ?_ ?_ | refine LeO.bind ?_ (fun _ => ?_))
theorem spec_reOrder.calls (k : Nat) (A0 : Option Addr) (c0 : Nat) (l0 : List Int) (r : Bool) (w : World) (hr0 : Kd.C (Kd.int .i64) w A0 l0.length l0) (hc0 : l0.length ≤ c0) (h : spec_reOrder.f k l0 = some r) :
  Calls Tryz.prog 49 #[.slice A0 l0.length c0] w fun e w' => e = .returned (.bool r) ∧ Drawn0 w w' := by
 have HR0 := Aside0.mk hr0
 have HC0 := Aside0.mk hc0
 clear hr0 hc0
 unfold spec_reOrder.f at h
 have H := h; clear h
 have HC2 := Aside0.mk H
 clear H
 go_enter Tryz.func49, Tryz.ntmps49
 go_upto_region 1 with (fail)
 go_cut [15] (fun v15 wc => ∃ (kq : Nat) (x15_1 : Bool), v15 = .bool x15_1 ∧ Aside0 (spec_reOrder.j0 kq l0 x15_1 = some r) ∧ Aside0 (kq ≤ k) ∧ Drawn0 w wc)
 case first =>
  have H := HC2.out
  clear HC2
  by_cases c3 : (l0.length : Int) > 8
  ·
   rw [if_pos c3] at H
   have c3b0 := decide_eq_true c3
   have c3b1 : decide (8 < l0.length) = true := decide_eq_true (by omega)
   clear c3
   (first | rw [c3b0] | (simp only [i64_w, i32_w]; rw [c3b0]) | skip)
   have H' := Aside0.mk H
   clear H
   go_wp2
   go_meet
   case rel => exact ⟨_, (true), qc8f_, H', ⟨q821_⟩, qffa_⟩
  ·
   rw [if_neg c3] at H
   have c3b0 := decide_eq_false c3
   have c3b1 : decide (8 < l0.length) = false := decide_eq_false (by omega)
   clear c3
   (first | rw [c3b0] | (simp only [i64_w, i32_w]; rw [c3b0]) | skip)
   obtain ⟨t476, A4, H⟩ := ob_ H
   have H' := Aside0.mk H
   clear H
   go_wp2_with (first | (go_at_call 42; (with_reducible refine (spec_l1All.calls k _ _ l0 0 (wrap64 ((l0.length : Int) - 1)) t476 _ ?s1 ?s2 A4.out).mono ?_); (case s1 => exact q201_ HR0.out); (case s2 => exact HC0.out); rintro e w' ⟨rfl, ⟨nd, rfl⟩⟩))
   go_meet
   case rel => exact ⟨_, (!t476), qc8f_, H', ⟨q821_⟩, qffa_⟩
 case rest =>
  clear HC2; try clear p2; try clear c3; try clear c3b0; try clear c3b1; try clear c4
  obtain ⟨kq, x15_1, rfl, HA, HJ1, ⟨mc1, rfl⟩⟩ := hcut
  cases kq with
  | zero => exact absurd HA.out (by simp [spec_reOrder.j0])
  | succ kj1 =>
   have H := HA.out
   clear HA
   simp only [spec_reOrder.j0] at H
   by_cases c5 : x15_1 = true
   ·
    subst c5
    rw [if_pos rfl] at H
    obtain rfl := Option.some.inj H
    go_wp2
    go_ret
    exact ⟨qc8f_, qffa_⟩
   ·
    replace c5 := Bool.eq_false_iff.mpr c5
    subst c5
    rw [if_neg nf_] at H
    have H' := Aside0.mk H
    clear H
    go_wp2
    go_loopg [18] kj1 (fun kq v18 w' => ∃ (x18_2 : Int), v18 = .int .i64 x18_2 ∧ Aside0 (spec_reOrder.l0 kq l0 l0 (l0.length : Int) x18_2 = some r) ∧ Aside0 (kq ≤ kj1) ∧ Drawn0 w w')
    case atStart => exact ⟨(0), qc8f_, H', ⟨Nat.le_refl _⟩, qffa_⟩
    case round =>
     clear H'; try clear c1; try clear p2; try clear c3; try clear c3b0; try clear c3b1; try clear c4; try clear c5; try clear p2
     obtain ⟨x18_2, rfl, HA, HK2, ⟨m2, rfl⟩⟩ := hrel
     cases gk with
     | zero => exact absurd HA.out (by simp [spec_reOrder.l0])
     | succ k2 =>
      have H := HA.out
      clear HA
      simp only [spec_reOrder.l0] at H
      by_cases c6 : x18_2 < (l0.length : Int)
      ·
       rw [if_pos c6] at H
       have c6b0 := decide_eq_true c6
       clear c6
       by_cases c7 : 0 ≤ x18_2
       ·
        rw [if_pos c7] at H
        have c7b0 := decide_eq_true c7
        clear c7
        by_cases c8 : x18_2 < (l0.length : Int)
        ·
         rw [if_pos c8] at H
         have c8b0 := decide_eq_true c8
         clear c8
         have c9b0 := eq_true (of_decide_eq_true qe84_ : 0 ≤ x18_2)
         by_cases c10 : x18_2 ≤ (l0.length : Int)
         ·
          rw [if_pos c10] at H
          have c10b0 := eq_true c10
          have c10b1 := decide_eq_true c10
          clear c10
          obtain ⟨t479, A11, H⟩ := ob_ H
          by_cases c12 : t479 = true
          ·
           subst c12
           rw [if_pos rfl] at H
           obtain rfl := Option.some.inj H
           have p477 : 0 ≤ (x18_2 : Int) := of_decide_eq_true qe84_
           have q477 : x18_2 < (l0.length : Int) := of_decide_eq_true qe84_
           obtain ⟨ad477, e477, hx477_0⟩ := Kd.at_int HR0.out x18_2 p477 q477
           cases e477
           replace p477 := eq_true p477
           replace q477 := eq_true q477
           obtain ⟨i013, hi013, _, hsz13, _⟩ := info_parts info3
           obtain ⟨hcut13, hA13, hC13⟩ := print_take_of (P := Tryz.prog) (Value.int .i64) 0 24 3 .i64 Tryz.underlying24 hi013 hsz13 (some ad477) c0 l0 x18_2 (of_decide_eq_true qe84_) (of_decide_eq_true qe84_) HC0.out
           have HR478 := Aside0.mk (Kd.C_of_reads (h1 := fun _ => rfl) (hA13 _ (Kd.reads_of_C HR0.out)))
           have HC478 := Aside0.mk hC13
           clear hA13 hC13 hi013 hsz13
           go_wp2_with (first | ((with_reducible refine gate_callee (f := 44) rfl ?_); refine goesL_ (some 27) rfl rfl Tryz.func44 (by kernel_rfl) rfl #[.slice (some ad477) (l0.take (x18_2 : Int).toNat).length c0, .int .i64 (rd l0 x18_2)] rfl q8a0_ ?_; (with_reducible refine (spec_l1Has.calls k2 _ _ (l0.take (x18_2 : Int).toNat) (rd l0 x18_2) true _ ?s1 ?s2 A11.out).mono ?_); (case s1 => exact q201_ HR478.out); (case s2 => exact HC478.out); rintro e w' ⟨rfl, ⟨nd, rfl⟩⟩; refine ⟨_, rfl, ?_⟩))
           go_ret
           exact ⟨qc8f_, qffa_⟩
          ·
           replace c12 := Bool.eq_false_iff.mpr c12
           subst c12
           rw [if_neg nf_] at H
           have H' := Aside0.mk H
           clear H
           have p477 : 0 ≤ (x18_2 : Int) := of_decide_eq_true qe84_
           have q477 : x18_2 < (l0.length : Int) := of_decide_eq_true qe84_
           obtain ⟨ad477, e477, hx477_0⟩ := Kd.at_int HR0.out x18_2 p477 q477
           cases e477
           replace p477 := eq_true p477
           replace q477 := eq_true q477
           obtain ⟨i014, hi014, _, hsz14, _⟩ := info_parts info3
           obtain ⟨hcut14, hA14, hC14⟩ := print_take_of (P := Tryz.prog) (Value.int .i64) 0 24 3 .i64 Tryz.underlying24 hi014 hsz14 (some ad477) c0 l0 x18_2 (of_decide_eq_true qe84_) (of_decide_eq_true qe84_) HC0.out
           have HR478 := Aside0.mk (Kd.C_of_reads (h1 := fun _ => rfl) (hA14 _ (Kd.reads_of_C HR0.out)))
           have HC478 := Aside0.mk hC14
           clear hA14 hC14 hi014 hsz14
           go_wp2_with (first | ((with_reducible refine gate_callee (f := 44) rfl ?_); refine goesL_ (some 27) rfl rfl Tryz.func44 (by kernel_rfl) rfl #[.slice (some ad477) (l0.take (x18_2 : Int).toNat).length c0, .int .i64 (rd l0 x18_2)] rfl q8a0_ ?_; (with_reducible refine (spec_l1Has.calls k2 _ _ (l0.take (x18_2 : Int).toNat) (rd l0 x18_2) false _ ?s1 ?s2 A11.out).mono ?_); (case s1 => exact q201_ HR478.out); (case s2 => exact HC478.out); rintro e w' ⟨rfl, ⟨nd, rfl⟩⟩; refine ⟨_, rfl, ?_⟩))
           go_roundg k2
           case measure => have := HJ1.out; have := HK2.out; omega
           case rel => exact ⟨(wrap64 (x18_2 + 1)), qc8f_, H', ⟨q37b_ HJ1.out HK2.out⟩, qffa_⟩
         ·
          rw [if_neg c10] at H
          exact absurd H (by simp)
        ·
         rw [if_neg c8] at H
         exact absurd H (by simp)
       ·
        rw [if_neg c7] at H
        exact absurd H (by simp)
      ·
       rw [if_neg c6] at H
       have c6b0 := decide_eq_false c6
       clear c6
       obtain rfl := Option.some.inj H
       go_wp2
       go_ret
       exact ⟨qc8f_, qffa_⟩

/-! ### spec_reGood: function 28 -/
mutual
def spec_reGood.j0 : Nat → Bool → List Int → List Int → Option (Bool)
 | 0, _, _, _ => none
 | k + 1, x18, x481000, x481001 => if x18 = true then (some false) else (spec_reGood.l0 k 0 x481001 (x481001.length : Int) 0 x481000 x481001)
def spec_reGood.l0 : Nat → Int → List Int → Int → Int → List Int → List Int → Option (Bool)
 | 0, _, _, _, _, _, _ => none
 | k + 1, x3, x20, x21, x22, x481000, x481001 => if x22 < x21 then (if 0 ≤ x22 then (if x22 < (x20.length : Int) then ((spec_l1In.f (rd x20 x22) x3 x22).bind fun t483 => (if t483 = true then (if (rd x20 x22) > x3 then (if 0 ≤ (wrap64 ((rd x20 x22) - 1)) then (if (wrap64 ((rd x20 x22) - 1)) < (x481000.length : Int) then (if x22 < (x481000.length : Int) then (if (rd x481000 (wrap64 ((rd x20 x22) - 1))) > (rd x481000 x22) then (some false) else (spec_reGood.l0 k (rd x20 x22) x20 x21 (wrap64 (x22 + 1)) x481000 x481001)) else (none)) else (none)) else (none)) else (spec_reGood.l0 k (rd x20 x22) x20 x21 (wrap64 (x22 + 1)) x481000 x481001)) else (some false))) else (none)) else (none)) else (some true)
end
def spec_reGood.f (k : Nat) (l0_0 : List Int) (l0_1 : List Int) : Option (Bool) := (spec_reOrder.f k l0_0).bind fun t481 => (if t481 = true then (spec_reGood.j0 k ((l0_1.length : Int) != (l0_0.length : Int)) l0_0 l0_1) else (spec_reGood.j0 k true l0_0 l0_1))
theorem spec_reGood.mono_l : ∀ k, (∀ y0 y1 y2, LeO (spec_reGood.j0 k y0 y1 y2) (spec_reGood.j0 (k + 1) y0 y1 y2)) ∧ (∀ y0 y1 y2 y3 y4 y5, LeO (spec_reGood.l0 k y0 y1 y2 y3 y4 y5) (spec_reGood.l0 (k + 1) y0 y1 y2 y3 y4 y5))
 | 0 => ⟨fun _ _ _ r h => by simp [spec_reGood.j0] at h, fun _ _ _ _ _ _ r h => by simp [spec_reGood.l0] at h⟩
 | k + 1 => by
  obtain ⟨ih0, ih1⟩ := spec_reGood.mono_l k
  refine ⟨?_, ?_⟩
  ·
   intro y0 y1 y2
   unfold spec_reGood.j0
   repeat' (with_reducible first | exact ih0 _ _ _ | exact ih1 _ _ _ _ _ _ | exact spec_reOrder.mono _ _ | exact LeO.refl _ | exact LeO.none _ | refine LeO.ite ?_ ?_ | refine LeO.bind ?_ (fun _ => ?_))
  ·
   intro y0 y1 y2 y3 y4 y5
   unfold spec_reGood.l0
   repeat' (with_reducible first | exact ih0 _ _ _ | exact ih1 _ _ _ _ _ _ | exact spec_reOrder.mono _ _ | exact LeO.refl _ | exact LeO.none _ | refine LeO.ite ?_ ?_ | refine LeO.bind ?_ (fun _ => ?_))
theorem spec_reGood.mono : ∀ a0 a1 k, LeO (spec_reGood.f k a0 a1) (spec_reGood.f (k + 1) a0 a1) := by
 intro a0 a1 k
 obtain ⟨ih0, ih1⟩ := spec_reGood.mono_l k
 unfold spec_reGood.f
 repeat' (with_reducible first | exact ih0 _ _ _ | exact ih1 _ _ _ _ _ _ | exact spec_reOrder.mono _ _ | exact LeO.refl _ | exact LeO.none _ | refine LeO.ite ?_ ?_ | refine LeO.bind ?_ (fun _ => ?_))
theorem spec_reGood.calls (k : Nat) (A0_0 : Option Addr) (c0_0 : Nat) (l0_0 : List Int) (A0_1 : Option Addr) (c0_1 : Nat) (l0_1 : List Int) (r : Bool) (w : World) (hr0_0 : Kd.C (Kd.int .i64) w A0_0 l0_0.length l0_0) (hc0_0 : l0_0.length ≤ c0_0) (hr0_1 : Kd.C (Kd.int .i64) w A0_1 l0_1.length l0_1) (hc0_1 : l0_1.length ≤ c0_1) (h : spec_reGood.f k l0_0 l0_1 = some r) :
  Calls Tryz.prog 28 #[.agg #[.slice A0_0 l0_0.length c0_0, .slice A0_1 l0_1.length c0_1]] w fun e w' => e = .returned (.bool r) ∧ Below w.heap.size w w' := by
 have hu27 := Tryz.underlying27
 have HR0_0 := Aside0.mk hr0_0
 have HC0_0 := Aside0.mk hc0_0
 clear hr0_0 hc0_0
 have HR0_1 := Aside0.mk hr0_1
 have HC0_1 := Aside0.mk hc0_1
 clear hr0_1 hc0_1
 have HB := Aside0.mk (Below.refl w.heap.size w)
 unfold spec_reGood.f at h
 have H := h; clear h
 have HC2 := Aside0.mk H
 clear H
 go_enter Tryz.func28, Tryz.ntmps28
 have zz_ := trivial
 repeat (clear zz_; go_upto_region 1 with (first | ((with_reducible refine gate_dst (N := 1) rfl ?_); (try (refine gate_guard (by rfl) ?_; dsimp only)); refine box_event ?hg (N := 1) ?hd (cs := #[.slice A0_0 l0_0.length c0_0, .slice A0_1 l0_1.length c0_1]) (t := 27) ?hr ?_; (case hd => rfl); (case hg => rfl); (case hr => exact qfba_); intro gb480 hg w3 hbox hb; have n0_ := Aside0.mk (below_step q0c4_ hb); have n1_ := Aside0.mk (hbox); have n2_ := Aside0.mk ((by rw [hg]; exact (below_size q0c4_) : w.heap.size ≤ gb480)); have n3_ := Aside0.mk ((by rw [hg]; exact (below_size q0c4_) : w.heap.size ≤ gb480)); replace HB := n0_; have BK480 := n1_; have GW480 := n2_; have GE480 := n3_; clear n0_ n1_ n2_ n3_; clear hb hbox hg)); try (go_quiet (fail); have zz_ := trivial))
 (try simp only [Act.put, List.setIfInBounds_toArray, List.set_cons_zero, List.set_cons_succ])
 go_cut [18] (fun v18 wc => ∃ (kq : Nat) (x18_1 : Bool), v18 = .bool x18_1 ∧ Aside0 (spec_reGood.j0 kq x18_1 l0_0 l0_1 = some r) ∧ Aside0 (kq ≤ k) ∧ Aside0 (wc.heap[gb480]? = some (.cells #[(.slice A0_0 l0_0.length c0_0), (.slice A0_1 l0_1.length c0_1)] 27 (0, 0))) ∧ Aside0 (Below w.heap.size w wc))
 case first =>
  have H := HC2.out
  clear HC2
  obtain ⟨t481, A4, H⟩ := ob_ H
  by_cases c5 : t481 = true
  ·
   subst c5
   rw [if_pos rfl] at H
   have H' := Aside0.mk H
   clear H
   have hcz6_0 : w3.cell? ⟨gb480, 0, none⟩ = some (.slice A0_0 l0_0.length c0_0) := (blk_cell BK480.out 0).trans rfl
   have hcz6_1 : w3.cell? ⟨gb480, 1, none⟩ = some (.slice A0_1 l0_1.length c0_1) := (blk_cell BK480.out 1).trans rfl
   have hfz6_0 := blk_frozen BK480.out 0
   have hfz6_1 := blk_frozen BK480.out 1
   have zz_ := trivial
   repeat (clear zz_; go_wp2_with (first | (go_at_call 49; (with_reducible refine (spec_reOrder.calls k _ _ l0_0 true _ ?s1 ?s2 A4.out).mono ?_); (case s1 => exact qe02_ HR0_0.out); (case s2 => exact HC0_0.out); rintro e w' ⟨rfl, ⟨nd, rfl⟩⟩; (try exact q447_))); try (go_quiet ((go_at_call 49; (with_reducible refine (spec_reOrder.calls k _ _ l0_0 true _ ?s1 ?s2 A4.out).mono ?_); (case s1 => exact qe02_ HR0_0.out); (case s2 => exact HC0_0.out); rintro e w' ⟨rfl, ⟨nd, rfl⟩⟩; (try exact q447_))); have zz_ := trivial))
   go_meet
   case rel => exact ⟨_, (((l0_1.length : Int) != (l0_0.length : Int))), qc8f_, H', ⟨q821_⟩, ⟨q05c_⟩, ⟨q8fc_⟩⟩
  ·
   replace c5 := Bool.eq_false_iff.mpr c5
   subst c5
   rw [if_neg nf_] at H
   have H' := Aside0.mk H
   clear H
   have hcz7_0 : w3.cell? ⟨gb480, 0, none⟩ = some (.slice A0_0 l0_0.length c0_0) := (blk_cell BK480.out 0).trans rfl
   have hcz7_1 : w3.cell? ⟨gb480, 1, none⟩ = some (.slice A0_1 l0_1.length c0_1) := (blk_cell BK480.out 1).trans rfl
   have hfz7_0 := blk_frozen BK480.out 0
   have hfz7_1 := blk_frozen BK480.out 1
   have zz_ := trivial
   repeat (clear zz_; go_wp2_with (first | (go_at_call 49; (with_reducible refine (spec_reOrder.calls k _ _ l0_0 false _ ?s1 ?s2 A4.out).mono ?_); (case s1 => exact qe02_ HR0_0.out); (case s2 => exact HC0_0.out); rintro e w' ⟨rfl, ⟨nd, rfl⟩⟩; (try exact q447_))); try (go_quiet ((go_at_call 49; (with_reducible refine (spec_reOrder.calls k _ _ l0_0 false _ ?s1 ?s2 A4.out).mono ?_); (case s1 => exact qe02_ HR0_0.out); (case s2 => exact HC0_0.out); rintro e w' ⟨rfl, ⟨nd, rfl⟩⟩; (try exact q447_))); have zz_ := trivial))
   go_meet
   case rel => exact ⟨_, (true), qc8f_, H', ⟨q821_⟩, ⟨q05c_⟩, ⟨q8fc_⟩⟩
 case rest =>
  clear HC2; try clear c2; try clear p2; try clear c5; try clear hcz6_0; try clear hcz6_1; try clear hcz7_0; try clear hcz7_1; try clear hfz6_0; try clear hfz6_1; try clear hfz7_0; try clear hfz7_1
  obtain ⟨kq, x18_1, rfl, HA, HJ1, BK480, HB⟩ := hcut
  cases kq with
  | zero => exact absurd HA.out (by simp [spec_reGood.j0])
  | succ kj1 =>
   have H := HA.out
   clear HA
   simp only [spec_reGood.j0] at H
   by_cases c8 : x18_1 = true
   ·
    subst c8
    rw [if_pos rfl] at H
    obtain rfl := Option.some.inj H
    go_wp2
    repeat (go_quiet (fail); try go_wp2)
    go_ret
    exact ⟨qce7_, q8fc_⟩
   ·
    replace c8 := Bool.eq_false_iff.mpr c8
    subst c8
    rw [if_neg nf_] at H
    have H' := Aside0.mk H
    clear H
    have hcz9_0 : wc.cell? ⟨gb480, 0, none⟩ = some (.slice A0_0 l0_0.length c0_0) := (blk_cell BK480.out 0).trans rfl
    have hcz9_1 : wc.cell? ⟨gb480, 1, none⟩ = some (.slice A0_1 l0_1.length c0_1) := (blk_cell BK480.out 1).trans rfl
    have hfz9_0 := blk_frozen BK480.out 0
    have hfz9_1 := blk_frozen BK480.out 1
    go_wp2
    repeat (go_quiet (fail); try go_wp2)
    go_loopg [3, 22] kj1 (fun kq v3 v22 w' => ∃ (x3_2 : Int) (x22_2 : Int), v3 = .int .i64 x3_2 ∧ v22 = .int .i64 x22_2 ∧ Aside0 (spec_reGood.l0 kq x3_2 l0_1 (l0_1.length : Int) x22_2 l0_0 l0_1 = some r) ∧ Aside0 (kq ≤ kj1) ∧ Aside0 (w'.heap[gb480]? = some (.cells #[(.slice A0_0 l0_0.length c0_0), (.slice A0_1 l0_1.length c0_1)] 27 (0, 0))) ∧ Aside0 (Below w.heap.size w w'))
    case atStart => exact ⟨(0), (0), qc8f_, qc8f_, H', ⟨Nat.le_refl _⟩, ⟨q05c_⟩, ⟨q8fc_⟩⟩
    case round =>
     clear H'; try clear c2; try clear p2; try clear c5; try clear c8; try clear hcz6_0; try clear hcz6_1; try clear hcz7_0; try clear hcz7_1; try clear hcz9_0; try clear hcz9_1; try clear hfz6_0; try clear hfz6_1; try clear hfz7_0; try clear hfz7_1; try clear hfz9_0; try clear hfz9_1; try clear p2
     obtain ⟨x3_2, x22_2, rfl, rfl, HA, HK2, BK480, HB⟩ := hrel
     cases gk with
     | zero => exact absurd HA.out (by simp [spec_reGood.l0])
     | succ k2 =>
      have H := HA.out
      clear HA
      simp only [spec_reGood.l0] at H
      by_cases c10 : x22_2 < (l0_1.length : Int)
      ·
       rw [if_pos c10] at H
       have c10b0 := decide_eq_true c10
       clear c10
       by_cases c11 : 0 ≤ x22_2
       ·
        rw [if_pos c11] at H
        have c11b0 := decide_eq_true c11
        clear c11
        by_cases c12 : x22_2 < (l0_1.length : Int)
        ·
         rw [if_pos c12] at H
         have c12b0 := decide_eq_true c12
         clear c12
         obtain ⟨t483, A13, H⟩ := ob_ H
         by_cases c14 : t483 = true
         ·
          subst c14
          rw [if_pos rfl] at H
          by_cases c15 : (rd l0_1 x22_2) > x3_2
          ·
           rw [if_pos c15] at H
           have c15b0 := decide_eq_true c15
           clear c15
           obtain ⟨ji16, hji16⟩ : ∃ j_ : Int, (wrap64 ((rd l0_1 x22_2) - 1)) = j_ := ⟨_, rfl⟩
           replace H : (if 0 ≤ (ji16) then (if (ji16) < (l0_0.length : Int) then (if x22_2 < (l0_0.length : Int) then (if (rd l0_0 (ji16)) > (rd l0_0 x22_2) then (some false) else (spec_reGood.l0 k2 (rd l0_1 x22_2) l0_1 (l0_1.length : Int) (wrap64 (x22_2 + 1)) l0_0 l0_1)) else (none)) else (none)) else (none)) = some r := by first | (rw [hji16] at H; exact H) | (simp only [hji16] at H ⊢; exact H)
           (try rw [hji16] at A13)
           have hji16w : (IntKind.i64.wrap ((rd l0_1 x22_2) - 1)) = ji16 := (i64_w _).trans hji16
           by_cases c17 : 0 ≤ (ji16)
           ·
            rw [if_pos c17] at H
            have c17b0 := decide_eq_true c17
            clear c17
            by_cases c18 : (ji16) < (l0_0.length : Int)
            ·
             rw [if_pos c18] at H
             have c18b0 := decide_eq_true c18
             clear c18
             by_cases c19 : x22_2 < (l0_0.length : Int)
             ·
              rw [if_pos c19] at H
              have c19b0 := decide_eq_true c19
              clear c19
              by_cases c20 : (rd l0_0 (ji16)) > (rd l0_0 x22_2)
              ·
               rw [if_pos c20] at H
               have c20b0 := decide_eq_true c20
               clear c20
               obtain rfl := Option.some.inj H
               have p482 : 0 ≤ (x22_2 : Int) := of_decide_eq_true qe84_
               have q482 : x22_2 < (l0_1.length : Int) := of_decide_eq_true qe84_
               obtain ⟨ad482, e482, hx482_0⟩ := Kd.at_int HR0_1.out x22_2 p482 q482
               cases e482
               (try (replace hx482_0 := (HB.out.cell (World.block_lt_of_cell? w _ hx482_0)).trans hx482_0))
               replace p482 := eq_true p482
               replace q482 := eq_true q482
               have zz_ := trivial
               repeat (clear zz_; go_wp2_with (first | (go_at_call 50; (with_reducible refine (spec_l1In.calls (rd l0_1 x22_2) x3_2 x22_2 true _ A13.out).mono ?_); rintro e w' ⟨rfl, ⟨nd, rfl⟩⟩; (try exact q447_); have hcz21_0 : wr.cell? ⟨gb480, 0, none⟩ = some (.slice A0_0 l0_0.length c0_0) := (blk_cell BK480.out 0).trans rfl; have hcz21_1 : wr.cell? ⟨gb480, 1, none⟩ = some (.slice (some ad482) l0_1.length c0_1) := (blk_cell BK480.out 1).trans rfl; have hfz21_0 := blk_frozen BK480.out 0; have hfz21_1 := blk_frozen BK480.out 1; have p484 : 0 ≤ ((ji16) : Int) := of_decide_eq_true qe84_; have q484 : (ji16) < (l0_0.length : Int) := of_decide_eq_true qe84_; obtain ⟨ad484, e484, hx484_0⟩ := Kd.at_int HR0_0.out (ji16) p484 q484; cases e484; replace hx484_0 := (HB.out.cell (World.block_lt_of_cell? w _ hx484_0)).trans hx484_0; replace p484 := eq_true p484; replace q484 := eq_true q484; have p485 : 0 ≤ (x22_2 : Int) := of_decide_eq_true qe84_; have q485 : x22_2 < (l0_0.length : Int) := of_decide_eq_true qe84_; obtain ⟨ad485, e485, hx485_0⟩ := Kd.at_int HR0_0.out x22_2 p485 q485; obtain rfl : ad484 = ad485 := (by injection e485); replace hx485_0 := (HB.out.cell (World.block_lt_of_cell? w _ hx485_0)).trans hx485_0; replace p485 := eq_true p485; replace q485 := eq_true q485)); try (go_quiet ((go_at_call 50; (with_reducible refine (spec_l1In.calls (rd l0_1 x22_2) x3_2 x22_2 true _ A13.out).mono ?_); rintro e w' ⟨rfl, ⟨nd, rfl⟩⟩; (try exact q447_); have hcz21_0 : wr.cell? ⟨gb480, 0, none⟩ = some (.slice A0_0 l0_0.length c0_0) := (blk_cell BK480.out 0).trans rfl; have hcz21_1 : wr.cell? ⟨gb480, 1, none⟩ = some (.slice (some ad482) l0_1.length c0_1) := (blk_cell BK480.out 1).trans rfl; have hfz21_0 := blk_frozen BK480.out 0; have hfz21_1 := blk_frozen BK480.out 1; have p484 : 0 ≤ ((ji16) : Int) := of_decide_eq_true qe84_; have q484 : (ji16) < (l0_0.length : Int) := of_decide_eq_true qe84_; obtain ⟨ad484, e484, hx484_0⟩ := Kd.at_int HR0_0.out (ji16) p484 q484; cases e484; replace hx484_0 := (HB.out.cell (World.block_lt_of_cell? w _ hx484_0)).trans hx484_0; replace p484 := eq_true p484; replace q484 := eq_true q484; have p485 : 0 ≤ (x22_2 : Int) := of_decide_eq_true qe84_; have q485 : x22_2 < (l0_0.length : Int) := of_decide_eq_true qe84_; obtain ⟨ad485, e485, hx485_0⟩ := Kd.at_int HR0_0.out x22_2 p485 q485; obtain rfl : ad484 = ad485 := (by injection e485); replace hx485_0 := (HB.out.cell (World.block_lt_of_cell? w _ hx485_0)).trans hx485_0; replace p485 := eq_true p485; replace q485 := eq_true q485)); have zz_ := trivial))
               go_ret
               exact ⟨by first | rfl | (simp [errW_none, errW_some] <;> rfl) | (simp only [← hji16]; first | rfl | (simp [errW_none, errW_some] <;> rfl)) | (simp [*, errW_none, errW_some] <;> rfl), q8fc_⟩
              ·
               rw [if_neg c20] at H
               have c20b0 := decide_eq_false c20
               clear c20
               have H' := Aside0.mk H
               clear H
               have p482 : 0 ≤ (x22_2 : Int) := of_decide_eq_true qe84_
               have q482 : x22_2 < (l0_1.length : Int) := of_decide_eq_true qe84_
               obtain ⟨ad482, e482, hx482_0⟩ := Kd.at_int HR0_1.out x22_2 p482 q482
               cases e482
               (try (replace hx482_0 := (HB.out.cell (World.block_lt_of_cell? w _ hx482_0)).trans hx482_0))
               replace p482 := eq_true p482
               replace q482 := eq_true q482
               have zz_ := trivial
               repeat (clear zz_; go_wp2_with (first | (go_at_call 50; (with_reducible refine (spec_l1In.calls (rd l0_1 x22_2) x3_2 x22_2 true _ A13.out).mono ?_); rintro e w' ⟨rfl, ⟨nd, rfl⟩⟩; (try exact q447_); have hcz22_0 : wr.cell? ⟨gb480, 0, none⟩ = some (.slice A0_0 l0_0.length c0_0) := (blk_cell BK480.out 0).trans rfl; have hcz22_1 : wr.cell? ⟨gb480, 1, none⟩ = some (.slice (some ad482) l0_1.length c0_1) := (blk_cell BK480.out 1).trans rfl; have hfz22_0 := blk_frozen BK480.out 0; have hfz22_1 := blk_frozen BK480.out 1; have p484 : 0 ≤ ((ji16) : Int) := of_decide_eq_true qe84_; have q484 : (ji16) < (l0_0.length : Int) := of_decide_eq_true qe84_; obtain ⟨ad484, e484, hx484_0⟩ := Kd.at_int HR0_0.out (ji16) p484 q484; cases e484; replace hx484_0 := (HB.out.cell (World.block_lt_of_cell? w _ hx484_0)).trans hx484_0; replace p484 := eq_true p484; replace q484 := eq_true q484; have p485 : 0 ≤ (x22_2 : Int) := of_decide_eq_true qe84_; have q485 : x22_2 < (l0_0.length : Int) := of_decide_eq_true qe84_; obtain ⟨ad485, e485, hx485_0⟩ := Kd.at_int HR0_0.out x22_2 p485 q485; obtain rfl : ad484 = ad485 := (by injection e485); replace hx485_0 := (HB.out.cell (World.block_lt_of_cell? w _ hx485_0)).trans hx485_0; replace p485 := eq_true p485; replace q485 := eq_true q485)); try (go_quiet ((go_at_call 50; (with_reducible refine (spec_l1In.calls (rd l0_1 x22_2) x3_2 x22_2 true _ A13.out).mono ?_); rintro e w' ⟨rfl, ⟨nd, rfl⟩⟩; (try exact q447_); have hcz22_0 : wr.cell? ⟨gb480, 0, none⟩ = some (.slice A0_0 l0_0.length c0_0) := (blk_cell BK480.out 0).trans rfl; have hcz22_1 : wr.cell? ⟨gb480, 1, none⟩ = some (.slice (some ad482) l0_1.length c0_1) := (blk_cell BK480.out 1).trans rfl; have hfz22_0 := blk_frozen BK480.out 0; have hfz22_1 := blk_frozen BK480.out 1; have p484 : 0 ≤ ((ji16) : Int) := of_decide_eq_true qe84_; have q484 : (ji16) < (l0_0.length : Int) := of_decide_eq_true qe84_; obtain ⟨ad484, e484, hx484_0⟩ := Kd.at_int HR0_0.out (ji16) p484 q484; cases e484; replace hx484_0 := (HB.out.cell (World.block_lt_of_cell? w _ hx484_0)).trans hx484_0; replace p484 := eq_true p484; replace q484 := eq_true q484; have p485 : 0 ≤ (x22_2 : Int) := of_decide_eq_true qe84_; have q485 : x22_2 < (l0_0.length : Int) := of_decide_eq_true qe84_; obtain ⟨ad485, e485, hx485_0⟩ := Kd.at_int HR0_0.out x22_2 p485 q485; obtain rfl : ad484 = ad485 := (by injection e485); replace hx485_0 := (HB.out.cell (World.block_lt_of_cell? w _ hx485_0)).trans hx485_0; replace p485 := eq_true p485; replace q485 := eq_true q485)); have zz_ := trivial))
               go_roundg k2
               case measure => have := HJ1.out; have := HK2.out; omega
               case rel => exact ⟨(rd l0_1 x22_2), (wrap64 (x22_2 + 1)), qc8f_, qc8f_, H', ⟨q37b_ HJ1.out HK2.out⟩, ⟨q05c_⟩, ⟨q8fc_⟩⟩
             ·
              rw [if_neg c19] at H
              exact absurd H (by simp)
            ·
             rw [if_neg c18] at H
             exact absurd H (by simp)
           ·
            rw [if_neg c17] at H
            exact absurd H (by simp)
          ·
           rw [if_neg c15] at H
           have c15b0 := decide_eq_false c15
           clear c15
           have H' := Aside0.mk H
           clear H
           have p482 : 0 ≤ (x22_2 : Int) := of_decide_eq_true qe84_
           have q482 : x22_2 < (l0_1.length : Int) := of_decide_eq_true qe84_
           obtain ⟨ad482, e482, hx482_0⟩ := Kd.at_int HR0_1.out x22_2 p482 q482
           cases e482
           (try (replace hx482_0 := (HB.out.cell (World.block_lt_of_cell? w _ hx482_0)).trans hx482_0))
           replace p482 := eq_true p482
           replace q482 := eq_true q482
           have zz_ := trivial
           repeat (clear zz_; go_wp2_with (first | (go_at_call 50; (with_reducible refine (spec_l1In.calls (rd l0_1 x22_2) x3_2 x22_2 true _ A13.out).mono ?_); rintro e w' ⟨rfl, ⟨nd, rfl⟩⟩; (try exact q447_))); try (go_quiet ((go_at_call 50; (with_reducible refine (spec_l1In.calls (rd l0_1 x22_2) x3_2 x22_2 true _ A13.out).mono ?_); rintro e w' ⟨rfl, ⟨nd, rfl⟩⟩; (try exact q447_))); have zz_ := trivial))
           go_roundg k2
           case measure => have := HJ1.out; have := HK2.out; omega
           case rel => exact ⟨(rd l0_1 x22_2), (wrap64 (x22_2 + 1)), qc8f_, qc8f_, H', ⟨q37b_ HJ1.out HK2.out⟩, ⟨q05c_⟩, ⟨q8fc_⟩⟩
         ·
          replace c14 := Bool.eq_false_iff.mpr c14
          subst c14
          rw [if_neg nf_] at H
          obtain rfl := Option.some.inj H
          have p482 : 0 ≤ (x22_2 : Int) := of_decide_eq_true qe84_
          have q482 : x22_2 < (l0_1.length : Int) := of_decide_eq_true qe84_
          obtain ⟨ad482, e482, hx482_0⟩ := Kd.at_int HR0_1.out x22_2 p482 q482
          cases e482
          (try (replace hx482_0 := (HB.out.cell (World.block_lt_of_cell? w _ hx482_0)).trans hx482_0))
          replace p482 := eq_true p482
          replace q482 := eq_true q482
          have zz_ := trivial
          repeat (clear zz_; go_wp2_with (first | (go_at_call 50; (with_reducible refine (spec_l1In.calls (rd l0_1 x22_2) x3_2 x22_2 false _ A13.out).mono ?_); rintro e w' ⟨rfl, ⟨nd, rfl⟩⟩; (try exact q447_))); try (go_quiet ((go_at_call 50; (with_reducible refine (spec_l1In.calls (rd l0_1 x22_2) x3_2 x22_2 false _ A13.out).mono ?_); rintro e w' ⟨rfl, ⟨nd, rfl⟩⟩; (try exact q447_))); have zz_ := trivial))
          go_ret
          exact ⟨qce7_, q8fc_⟩
        ·
         rw [if_neg c12] at H
         exact absurd H (by simp)
       ·
        rw [if_neg c11] at H
        exact absurd H (by simp)
      ·
       rw [if_neg c10] at H
       have c10b0 := decide_eq_false c10
       clear c10
       obtain rfl := Option.some.inj H
       go_wp2
       repeat (go_quiet (fail); try go_wp2)
       go_ret
       exact ⟨qce7_, q8fc_⟩

end Go.Proofs.YtgfcnfbbiaeboaaGreat.PAll
