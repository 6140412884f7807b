-- written by a program of this session (wip/gen/xpatch.py over the translation); Lean checks it
import Derived.Test.YthanbhbibjnmjaaPAllx0
import Derived.Test.YthanbhbibjnmjaaPAllx1
import Derived.Test.YthanbhbibjnmjaaPAllx2
import Derived.Test.YthanbhbibjnmjaaPAllx4
import Derived.Test.YthanbhbibjnmjaaPAllx5
namespace Go.Proofs.Ythanbhbibjnmjaa.PAll
open Go.RowKit Go.Proofs.Ythanbhbibjnmjaa.Hand Go.Proofs.YthanbhbibjnmjaaW.PrintWords Go.Proofs.YthanbhbibjnmjaaW.PrintLast Go.Proofs.YthanbhbibjnmjaaW.PrintMore
attribute [local go_sem] max2_int min2_int max_two min_two max_three min_three max_four min_four   -- for this text's walks alone
set_option maxHeartbeats 8000000
set_option maxRecDepth 100000
set_option linter.unusedVariables false
set_option linter.unusedSimpArgs false

/-! ### impl_PlanesBetween: function 13 -/
mutual
def impl_PlanesBetween.j0 : Nat → List Int → List Int → Bool → Option (Int × Bool)
 | 0, _, _, _ => none
 | k + 1, x0, x1, x25 => if x25 = true then (some (0, false)) else (impl_PlanesBetween.l0 k x0 x1 0 (x0.length : Int) 0)
def impl_PlanesBetween.l0 : Nat → List Int → List Int → Int → Int → Int → Option (Int × Bool)
 | 0, _, _, _, _, _ => none
 | k + 1, x0, x1, x6, x27, x28 => if x28 < x27 then (impl_PlanesBetween.l1 k x0 x1 x6 x28 x27 x28 x28 0) else (some (x6, true))
def impl_PlanesBetween.l1 : Nat → List Int → List Int → Int → Int → Int → Int → Int → Int → Option (Int × Bool)
 | 0, _, _, _, _, _, _, _, _ => none
 | k + 1, x0, x1, x6, x7, x27, x28, x31, x32 => if x32 < x31 then ((some (([0, 100] : List Int) : List Int)).bind fun y372 => (impl_PlanesBetween.l2 k x0 x1 x6 x7 x32 x27 x28 x31 x32 y372 (y372.length : Int) 0)) else (impl_PlanesBetween.l0 k x0 x1 x6 x27 (wrap64 (x28 + 1)))
def impl_PlanesBetween.l2 : Nat → List Int → List Int → Int → Int → Int → Int → Int → Int → Int → List Int → Int → Int → Option (Int × Bool)
 | 0, _, _, _, _, _, _, _, _, _, _, _, _ => none
 | k + 1, x0, x1, x6, x7, x8, x27, x28, x31, x32, x35, x36, x37 => if x37 < x36 then (if 0 ≤ x37 then (if x37 < (x35.length : Int) then (if 0 ≤ x8 then (if x8 < (x0.length : Int) then (if 0 ≤ x7 then (if x7 < (x0.length : Int) then (if x8 < (x1.length : Int) then (if x7 < (x1.length : Int) then (if ((decide ((wrap64 ((rd x0 x8) - (rd x0 x7))) > (rd x35 x37))) != (decide ((wrap64 ((rd x1 x8) - (rd x1 x7))) > (rd x35 x37)))) = true then (impl_PlanesBetween.l2 k x0 x1 (wrap64 (x6 + 1)) x7 x8 x27 x28 x31 x32 x35 x36 (wrap64 (x37 + 1))) else (impl_PlanesBetween.l2 k x0 x1 x6 x7 x8 x27 x28 x31 x32 x35 x36 (wrap64 (x37 + 1)))) else (none)) else (none)) else (none)) else (none)) else (none)) else (none)) else (none)) else (none)) else (impl_PlanesBetween.l1 k x0 x1 x6 x7 x27 x28 x31 (wrap64 (x32 + 1)))
end
def impl_PlanesBetween.f (k : Nat) (l0 : List Int) (l1 : List Int) : Option (Int × Bool) := (impl_isPoint.f k l0).bind fun t370 => (if t370 = true then ((impl_isPoint.f k l1).bind fun t371 => (if t371 = true then (impl_PlanesBetween.j0 k l0 l1 ((l0.length : Int) != (l1.length : Int))) else (impl_PlanesBetween.j0 k l0 l1 true))) else (impl_PlanesBetween.j0 k l0 l1 true))
theorem impl_PlanesBetween.mono_l : ∀ k, (∀ y0 y1 y2, LeO (impl_PlanesBetween.j0 k y0 y1 y2) (impl_PlanesBetween.j0 (k + 1) y0 y1 y2)) ∧ (∀ y0 y1 y2 y3 y4, LeO (impl_PlanesBetween.l0 k y0 y1 y2 y3 y4) (impl_PlanesBetween.l0 (k + 1) y0 y1 y2 y3 y4)) ∧ (∀ y0 y1 y2 y3 y4 y5 y6 y7, LeO (impl_PlanesBetween.l1 k y0 y1 y2 y3 y4 y5 y6 y7) (impl_PlanesBetween.l1 (k + 1) y0 y1 y2 y3 y4 y5 y6 y7)) ∧ (∀ y0 y1 y2 y3 y4 y5 y6 y7 y8 y9 y10 y11, LeO (impl_PlanesBetween.l2 k y0 y1 y2 y3 y4 y5 y6 y7 y8 y9 y10 y11) (impl_PlanesBetween.l2 (k + 1) y0 y1 y2 y3 y4 y5 y6 y7 y8 y9 y10 y11))
 | 0 => ⟨fun _ _ _ r h => by simp [impl_PlanesBetween.j0] at h, fun _ _ _ _ _ r h => by simp [impl_PlanesBetween.l0] at h, fun _ _ _ _ _ _ _ _ r h => by simp [impl_PlanesBetween.l1] at h, fun _ _ _ _ _ _ _ _ _ _ _ _ r h => by simp [impl_PlanesBetween.l2] at h⟩
 | k + 1 => by
  obtain ⟨ih0, ih1, ih2, ih3⟩ := impl_PlanesBetween.mono_l k
  refine ⟨?_, ?_, ?_, ?_⟩
  ·
   intro y0 y1 y2
   unfold impl_PlanesBetween.j0
   repeat' (with_reducible first | exact ih0 _ _ _ | exact ih1 _ _ _ _ _ | exact ih2 _ _ _ _ _ _ _ _ | exact ih3 _ _ _ _ _ _ _ _ _ _ _ _ | exact impl_isPoint.mono _ _ | exact LeO.refl _ | exact LeO.none _ | refine LeO.ite ?_ ?_ | refine LeO.bind ?_ (fun _ => ?_))
  ·
   intro y0 y1 y2 y3 y4
   unfold impl_PlanesBetween.l0
   repeat' (with_reducible first | exact ih0 _ _ _ | exact ih1 _ _ _ _ _ | exact ih2 _ _ _ _ _ _ _ _ | exact ih3 _ _ _ _ _ _ _ _ _ _ _ _ | exact impl_isPoint.mono _ _ | exact LeO.refl _ | exact LeO.none _ | refine LeO.ite ?_ ?_ | refine LeO.bind ?_ (fun _ => ?_))
  ·
   intro y0 y1 y2 y3 y4 y5 y6 y7
   unfold impl_PlanesBetween.l1
   repeat' (with_reducible first | exact ih0 _ _ _ | exact ih1 _ _ _ _ _ | exact ih2 _ _ _ _ _ _ _ _ | exact ih3 _ _ _ _ _ _ _ _ _ _ _ _ | exact impl_isPoint.mono _ _ | exact LeO.refl _ | exact LeO.none _ | refine LeO.ite ?_ ?_ | refine LeO.bind ?_ (fun _ => ?_))
  ·
   intro y0 y1 y2 y3 y4 y5 y6 y7 y8 y9 y10 y11
   unfold impl_PlanesBetween.l2
   repeat' (with_reducible first | exact ih0 _ _ _ | exact ih1 _ _ _ _ _ | exact ih2 _ _ _ _ _ _ _ _ | exact ih3 _ _ _ _ _ _ _ _ _ _ _ _ | exact impl_isPoint.mono _ _ | exact LeO.refl _ | exact LeO.none _ | refine LeO.ite ?_ ?_ | refine LeO.bind ?_ (fun _ => ?_))
theorem impl_PlanesBetween.mono : ∀ a0 a1 k, LeO (impl_PlanesBetween.f k a0 a1) (impl_PlanesBetween.f (k + 1) a0 a1) := by
 intro a0 a1 k
 obtain ⟨ih0, ih1, ih2, ih3⟩ := impl_PlanesBetween.mono_l k
 unfold impl_PlanesBetween.f
 repeat' (with_reducible first | exact ih0 _ _ _ | exact ih1 _ _ _ _ _ | exact ih2 _ _ _ _ _ _ _ _ | exact ih3 _ _ _ _ _ _ _ _ _ _ _ _ | exact impl_isPoint.mono _ _ | exact LeO.refl _ | exact LeO.none _ | refine LeO.ite ?_ ?_ | refine LeO.bind ?_ (fun _ => ?_))
theorem impl_PlanesBetween.calls (k : Nat) (A0 : Option Addr) (c0 : Nat) (l0 : List Int) (A1 : Option Addr) (c1 : Nat) (l1 : List Int) (r1 : Int) (r2 : Bool) (w : World) (hr0 : Kd.C (Kd.int .i64) w A0 l0.length l0) (hc0 : l0.length ≤ c0) (hr1 : Kd.C (Kd.int .i64) w A1 l1.length l1) (hc1 : l1.length ≤ c1) (h : impl_PlanesBetween.f k l0 l1 = some (r1, r2)) :
  Calls Try.prog 13 #[.slice A0 l0.length c0, .slice A1 l1.length c1] w fun e w' => e = .returned (.tuple #[.int .i64 r1, .bool r2]) ∧ Below w.heap.size w w' := by
 have HR0 := Aside0.mk hr0
 have HC0 := Aside0.mk hc0
 clear hr0 hc0
 have HR1 := Aside0.mk hr1
 have HC1 := Aside0.mk hc1
 clear hr1 hc1
 have HB := Aside0.mk (Below.refl w.heap.size w)
 unfold impl_PlanesBetween.f at h
 have H := h; clear h
 have HC3 := Aside0.mk H
 clear H
 go_enter Try.func13, Try.ntmps13
 go_upto_region 1 with (fail)
 repeat (go_quiet (fail); try go_upto_region 1 with (fail))
 go_cut [25] (fun v25 wc => ∃ (kq : Nat) (x25_2 : Bool), v25 = .bool x25_2 ∧ Aside0 (impl_PlanesBetween.j0 kq l0 l1 x25_2 = some (r1, r2)) ∧ Aside0 (kq ≤ k) ∧ Aside0 (Below w.heap.size w wc))
 case first =>
  have H := HC3.out
  clear HC3
  obtain ⟨t370, A4, H⟩ := ob_ H
  by_cases c5 : t370 = true
  ·
   subst c5
   rw [if_pos rfl] at H
   obtain ⟨t371, A6, H⟩ := ob_ H
   by_cases c7 : t371 = true
   ·
    subst c7
    rw [if_pos rfl] at H
    have H' := Aside0.mk H
    clear H; have zz_ := trivial
    repeat (clear zz_; go_wp2_with (first | (go_at_call 24; (with_reducible refine (impl_isPoint.calls k _ _ l0 true _ ?s1 ?s2 A4.out).mono ?_); (case s1 => exact qe02_ HR0.out); (case s2 => exact HC0.out); rintro e w8 ⟨rfl, hb⟩; replace HB := Aside0.mk (below_step q0c4_ hb); clear hb) | (go_at_call 24; (with_reducible refine (impl_isPoint.calls k _ _ l1 true _ ?s1 ?s2 A6.out).mono ?_); (case s1 => exact qe02_ HR1.out); (case s2 => exact HC1.out); rintro e w9 ⟨rfl, hb⟩; replace HB := Aside0.mk (below_step q0c4_ hb); clear hb)); try (go_quiet (fail); have zz_ := trivial))
    go_meet
    case rel => exact ⟨_, (((l0.length : Int) != (l1.length : Int))), qc8f_, H', ⟨by first | omega | exact Nat.le_refl _⟩, ⟨q0c4_⟩⟩
   ·
    replace c7 := Bool.eq_false_iff.mpr c7
    subst c7
    rw [if_neg nf_] at H
    have H' := Aside0.mk H
    clear H; have zz_ := trivial
    repeat (clear zz_; go_wp2_with (first | (go_at_call 24; (with_reducible refine (impl_isPoint.calls k _ _ l0 true _ ?s1 ?s2 A4.out).mono ?_); (case s1 => exact qe02_ HR0.out); (case s2 => exact HC0.out); rintro e w10 ⟨rfl, hb⟩; replace HB := Aside0.mk (below_step q0c4_ hb); clear hb) | (go_at_call 24; (with_reducible refine (impl_isPoint.calls k _ _ l1 false _ ?s1 ?s2 A6.out).mono ?_); (case s1 => exact qe02_ HR1.out); (case s2 => exact HC1.out); rintro e w11 ⟨rfl, hb⟩; replace HB := Aside0.mk (below_step q0c4_ hb); clear hb)); try (go_quiet (fail); have zz_ := trivial))
    go_meet
    case rel => exact ⟨_, (true), qc8f_, H', ⟨by first | omega | exact Nat.le_refl _⟩, ⟨q0c4_⟩⟩
  ·
   replace c5 := Bool.eq_false_iff.mpr c5
   subst c5
   rw [if_neg nf_] at H
   have H' := Aside0.mk H
   clear H; have zz_ := trivial
   repeat (clear zz_; go_wp2_with (first | (go_at_call 24; (with_reducible refine (impl_isPoint.calls k _ _ l0 false _ ?s1 ?s2 A4.out).mono ?_); (case s1 => exact qe02_ HR0.out); (case s2 => exact HC0.out); rintro e w12 ⟨rfl, hb⟩; replace HB := Aside0.mk (below_step q0c4_ hb); clear hb)); try (go_quiet (fail); have zz_ := trivial))
   go_meet
   case rel => exact ⟨_, (true), qc8f_, H', ⟨by first | omega | exact Nat.le_refl _⟩, ⟨q0c4_⟩⟩
 case rest =>
  clear HC3; try clear c1; try clear p2; try clear c5; try clear c7
  obtain ⟨kq, x25_2, rfl, HA, HJ2, HB⟩ := hcut
  cases kq with
  | zero => exact absurd HA.out (by simp [impl_PlanesBetween.j0])
  | succ kj2 =>
   have H := HA.out
   clear HA
   simp only [impl_PlanesBetween.j0] at H
   by_cases c13 : x25_2 = true
   ·
    subst c13
    rw [if_pos rfl] at H
    simp only [Option.some.injEq, Prod.mk.injEq] at H
    obtain ⟨rfl, rfl⟩ := H
    go_wp2
    repeat (go_quiet (fail); try go_wp2)
    go_ret2
    exact ⟨qce7_, q0c4_⟩
   ·
    replace c13 := Bool.eq_false_iff.mpr c13
    subst c13
    rw [if_neg nf_] at H
    have H' := Aside0.mk H
    clear H
    go_wp2
    repeat (go_quiet (fail); try go_wp2)
    go_loopg [6, 28] kj2 (fun kq v6 v28 w' => ∃ (x6_2 : Int) (x28_2 : Int), v6 = .int .i64 x6_2 ∧ v28 = .int .i64 x28_2 ∧ Aside0 (impl_PlanesBetween.l0 kq l0 l1 x6_2 (l0.length : Int) x28_2 = some (r1, r2)) ∧ Aside0 (kq ≤ kj2) ∧ Aside0 (Below w.heap.size w w'))
    case atStart => exact ⟨(0), (0), qc8f_, qc8f_, H', ⟨Nat.le_refl _⟩, ⟨q0c4_⟩⟩
    case round =>
     clear H'; try clear c1; try clear p2; try clear c5; try clear c7; try clear c13; try clear p2
     obtain ⟨x6_2, x28_2, rfl, rfl, HA, HK2, HB⟩ := hrel
     cases gk with
     | zero => exact absurd HA.out (by simp [impl_PlanesBetween.l0])
     | succ k2 =>
      have H := HA.out
      clear HA
      simp only [impl_PlanesBetween.l0] at H
      by_cases c14 : x28_2 < (l0.length : Int)
      ·
       rw [if_pos c14] at H
       have c14b0 := decide_eq_true c14
       clear c14
       have H' := Aside0.mk H
       clear H
       go_wp2
       repeat (go_quiet (fail); try go_wp2)
       go_loopg [6, 32] k2 (fun kq v6 v32 w' => ∃ (x6_3 : Int) (x32_3 : Int), v6 = .int .i64 x6_3 ∧ v32 = .int .i64 x32_3 ∧ Aside0 (impl_PlanesBetween.l1 kq l0 l1 x6_3 x28_2 (l0.length : Int) x28_2 x28_2 x32_3 = some (r1, r2)) ∧ Aside0 (kq ≤ k2) ∧ Aside0 (Below w.heap.size w w'))
       case atStart => exact ⟨(x6_2), (0), qc8f_, qc8f_, H', ⟨Nat.le_refl _⟩, ⟨q0c4_⟩⟩
       case round =>
        clear H'; try clear c1; try clear p2; try clear c5; try clear c7; try clear c13; try clear c14; try clear c14b0; try clear p2
        obtain ⟨x6_3, x32_3, rfl, rfl, HA, HK3, HB⟩ := hrel
        cases gk with
        | zero => exact absurd HA.out (by simp [impl_PlanesBetween.l1])
        | succ k3 =>
         have H := HA.out
         clear HA
         simp only [impl_PlanesBetween.l1] at H
         by_cases c15 : x32_3 < x28_2
         ·
          rw [if_pos c15] at H
          have c15b0 := decide_eq_true c15
          clear c15
          obtain ⟨y372, hy372⟩ : ∃ y_ : List Int, y_ = (([0, 100] : List Int)) := ⟨_, rfl⟩
          replace H : (impl_PlanesBetween.l2 k3 l0 l1 x6_3 x28_2 x32_3 (l0.length : Int) x28_2 x28_2 x32_3 y372 (y372.length : Int) 0) = some (r1, r2) := by first | (rw [hy372]; with_reducible exact H) | (have H2_ := (Option.bind_some _ _).symm.trans H; rw [hy372]; with_reducible exact H2_) | (have H2_ := (Option.bind_some _ _).symm.trans H; with_reducible exact H2_) | with_reducible exact H | (rw [hy372]; exact H) | exact H
          have Ny372 := Aside0.mk hy372
          clear hy372
          have H' := Aside0.mk H
          clear H; have zz_ := trivial
          repeat (clear zz_; go_wp2_with (first | ((with_reducible refine gate_dst (N := 35) rfl ?_); (try (refine gate_guard (by rfl) ?_; dsimp only)); refine Kd.R_lit (Kd.int .i64) _ 3 ?hg (N := 35) ?hd (xs := ([0, 100] : List Int)) (inner := [.int .i64 0, .int .i64 100]) (ok := fun _ => True) (okp := fun _ => True) ?hr ?hp (fun _ hk => hk) trivial (Below.refl _ _) (Nat.le_refl _) (by simp) ?_; (case hd => rfl); (case hg => rfl); (case hr => exact qba7_); (case hp => exact (Reps.one (show Kd.M (Kd.int .i64) _ _ _ 0 [.int .i64 0] from rfl) (Reps.one (show Kd.M (Kd.int .i64) _ _ _ 100 [.int .i64 100] from rfl) (Reps.none _ _)))); intro v373 w16 ho17 hb hg_ hnew_; clear hg_ hnew_; (first | rw [← Ny372.out] at ho17 | (simp only [Int.reduceToNat] at ho17; rw [← Ny372.out] at ho17)); have HO374 := Aside0.mk (Kd.R_lower ho17 (below_size q0c4_)); replace HB := Aside0.mk (below_step q0c4_ hb); clear hb ho17; obtain ⟨Ao18, co18, eo18⟩ := Kd.R_slice HO374.out; subst eo18)); try (go_quiet (fail); have zz_ := trivial))
          go_loopg [6, 37] k3 (fun kq v6 v37 w' => ∃ (x6_4 : Int) (x37_4 : Int), v6 = .int .i64 x6_4 ∧ v37 = .int .i64 x37_4 ∧ Aside0 (impl_PlanesBetween.l2 kq l0 l1 x6_4 x28_2 x32_3 (l0.length : Int) x28_2 x28_2 x32_3 y372 (y372.length : Int) x37_4 = some (r1, r2)) ∧ Aside0 (kq ≤ k3) ∧ Aside0 (Kd.R (Kd.int .i64) 3 w' w.heap.size (fun _ => True) (.slice Ao18 y372.length co18) y372) ∧ Aside0 (Below w.heap.size w w'))
          case atStart => exact ⟨(x6_3), (0), qc8f_, qc8f_, H', ⟨Nat.le_refl _⟩, ⟨q9d5_ HO374.out⟩, ⟨q0c4_⟩⟩
          case round =>
           clear H'; try clear c1; try clear p2; try clear c5; try clear c7; try clear c13; try clear c14; try clear c14b0; try clear c15; try clear c15b0; try clear p2
           obtain ⟨x6_4, x37_4, rfl, rfl, HA, HK4, HO_35, HB⟩ := hrel
           cases gk with
           | zero => exact absurd HA.out (by simp [impl_PlanesBetween.l2])
           | succ k4 =>
            have H := HA.out
            clear HA
            simp only [impl_PlanesBetween.l2] at H
            by_cases c19 : x37_4 < (y372.length : Int)
            ·
             rw [if_pos c19] at H
             have c19b0 := decide_eq_true c19
             clear c19
             by_cases c20 : 0 ≤ x37_4
             ·
              rw [if_pos c20] at H
              have c20b0 := decide_eq_true c20
              clear c20
              by_cases c21 : x37_4 < (y372.length : Int)
              ·
               rw [if_pos c21] at H
               have c21b0 := decide_eq_true c21
               clear c21
               by_cases c22 : 0 ≤ x32_3
               ·
                rw [if_pos c22] at H
                have c22b0 := decide_eq_true c22
                clear c22
                by_cases c23 : x32_3 < (l0.length : Int)
                ·
                 rw [if_pos c23] at H
                 have c23b0 := decide_eq_true c23
                 clear c23
                 by_cases c24 : 0 ≤ x28_2
                 ·
                  rw [if_pos c24] at H
                  have c24b0 := decide_eq_true c24
                  clear c24
                  by_cases c25 : x28_2 < (l0.length : Int)
                  ·
                   rw [if_pos c25] at H
                   have c25b0 := decide_eq_true c25
                   clear c25
                   by_cases c26 : x32_3 < (l1.length : Int)
                   ·
                    rw [if_pos c26] at H
                    have c26b0 := decide_eq_true c26
                    clear c26
                    by_cases c27 : x28_2 < (l1.length : Int)
                    ·
                     rw [if_pos c27] at H
                     have c27b0 := decide_eq_true c27
                     clear c27
                     by_cases c28 : ((decide ((wrap64 ((rd l0 x32_3) - (rd l0 x28_2))) > (rd y372 x37_4))) != (decide ((wrap64 ((rd l1 x32_3) - (rd l1 x28_2))) > (rd y372 x37_4)))) = true
                     ·
                      rw [if_pos c28] at H
                      have c28b0 : ((decide ((wrap64 ((rd l0 x32_3) - (rd l0 x28_2))) > (rd y372 x37_4))) != (decide ((wrap64 ((rd l1 x32_3) - (rd l1 x28_2))) > (rd y372 x37_4)))) = true := c28
                      (try (have c28b1 : decide ((decide ((wrap64 ((rd l0 x32_3) - (rd l0 x28_2))) > (rd y372 x37_4))) = (decide ((wrap64 ((rd l1 x32_3) - (rd l1 x28_2))) > (rd y372 x37_4)))) = false := by simpa using c28))
                      (try (have c28b2 : ((decide ((wrap64 ((rd l0 x32_3) - (rd l0 x28_2))) > (rd y372 x37_4))) == (decide ((wrap64 ((rd l1 x32_3) - (rd l1 x28_2))) > (rd y372 x37_4)))) = false := by simpa using c28))
                      (try (have c28b3 : ¬ ((decide ((wrap64 ((rd l0 x32_3) - (rd l0 x28_2))) > (rd y372 x37_4))) = (decide ((wrap64 ((rd l1 x32_3) - (rd l1 x28_2))) > (rd y372 x37_4)))) := by simpa using c28))
                      clear c28
                      have H' := Aside0.mk H
                      clear H
                      have p375 : 0 ≤ (x37_4 : Int) := of_decide_eq_true qe84_
                      have q375 : x37_4 < (y372.length : Int) := of_decide_eq_true qe84_
                      obtain ⟨ad375, e375, hx375_0⟩ := Kd.at_int (Kd.R_reads' HO_35.out).2.2 x37_4 p375 q375
                      cases e375
                      replace p375 := eq_true p375
                      replace q375 := eq_true q375
                      have p376 : 0 ≤ (x32_3 : Int) := of_decide_eq_true qe84_
                      have q376 : x32_3 < (l0.length : Int) := of_decide_eq_true qe84_
                      obtain ⟨ad376, e376, hx376_0⟩ := Kd.at_int HR0.out x32_3 p376 q376
                      cases e376
                      (try (replace hx376_0 := (HB.out.cell (World.block_lt_of_cell? w _ hx376_0)).trans hx376_0))
                      replace p376 := eq_true p376
                      replace q376 := eq_true q376
                      have p377 : 0 ≤ (x28_2 : Int) := of_decide_eq_true qe84_
                      have q377 : x28_2 < (l0.length : Int) := of_decide_eq_true qe84_
                      obtain ⟨ad377, e377, hx377_0⟩ := Kd.at_int HR0.out x28_2 p377 q377
                      obtain rfl : ad376 = ad377 := (by injection e377)
                      (try (replace hx377_0 := (HB.out.cell (World.block_lt_of_cell? w _ hx377_0)).trans hx377_0))
                      replace p377 := eq_true p377
                      replace q377 := eq_true q377
                      have p378 : 0 ≤ (x32_3 : Int) := of_decide_eq_true qe84_
                      have q378 : x32_3 < (l1.length : Int) := of_decide_eq_true qe84_
                      obtain ⟨ad378, e378, hx378_0⟩ := Kd.at_int HR1.out x32_3 p378 q378
                      cases e378
                      (try (replace hx378_0 := (HB.out.cell (World.block_lt_of_cell? w _ hx378_0)).trans hx378_0))
                      replace p378 := eq_true p378
                      replace q378 := eq_true q378
                      have p379 : 0 ≤ (x28_2 : Int) := of_decide_eq_true qe84_
                      have q379 : x28_2 < (l1.length : Int) := of_decide_eq_true qe84_
                      obtain ⟨ad379, e379, hx379_0⟩ := Kd.at_int HR1.out x28_2 p379 q379
                      obtain rfl : ad378 = ad379 := (by injection e379)
                      (try (replace hx379_0 := (HB.out.cell (World.block_lt_of_cell? w _ hx379_0)).trans hx379_0))
                      replace p379 := eq_true p379
                      replace q379 := eq_true q379
                      go_wp2
                      repeat (go_quiet (fail); try go_wp2)
                      go_roundg k4
                      case measure => have := HJ2.out; have := HK2.out; have := HK3.out; have := HK4.out; omega
                      case rel => exact ⟨(wrap64 (x6_4 + 1)), (wrap64 (x37_4 + 1)), qc8f_, qc8f_, H', ⟨q3e9_ HJ2.out HK2.out HK3.out HK4.out⟩, ⟨q9d5_ HO_35.out⟩, ⟨q0c4_⟩⟩
                     ·
                      rw [if_neg c28] at H
                      have c28b0 : ((decide ((wrap64 ((rd l0 x32_3) - (rd l0 x28_2))) > (rd y372 x37_4))) != (decide ((wrap64 ((rd l1 x32_3) - (rd l1 x28_2))) > (rd y372 x37_4)))) = false := by simpa using c28
                      (try (have c28b1 : decide ((decide ((wrap64 ((rd l0 x32_3) - (rd l0 x28_2))) > (rd y372 x37_4))) = (decide ((wrap64 ((rd l1 x32_3) - (rd l1 x28_2))) > (rd y372 x37_4)))) = true := by simpa using c28))
                      (try (have c28b2 : ((decide ((wrap64 ((rd l0 x32_3) - (rd l0 x28_2))) > (rd y372 x37_4))) == (decide ((wrap64 ((rd l1 x32_3) - (rd l1 x28_2))) > (rd y372 x37_4)))) = true := by simpa using c28))
                      clear c28
                      have H' := Aside0.mk H
                      clear H
                      have p375 : 0 ≤ (x37_4 : Int) := of_decide_eq_true qe84_
                      have q375 : x37_4 < (y372.length : Int) := of_decide_eq_true qe84_
                      obtain ⟨ad375, e375, hx375_0⟩ := Kd.at_int (Kd.R_reads' HO_35.out).2.2 x37_4 p375 q375
                      cases e375
                      replace p375 := eq_true p375
                      replace q375 := eq_true q375
                      have p376 : 0 ≤ (x32_3 : Int) := of_decide_eq_true qe84_
                      have q376 : x32_3 < (l0.length : Int) := of_decide_eq_true qe84_
                      obtain ⟨ad376, e376, hx376_0⟩ := Kd.at_int HR0.out x32_3 p376 q376
                      cases e376
                      (try (replace hx376_0 := (HB.out.cell (World.block_lt_of_cell? w _ hx376_0)).trans hx376_0))
                      replace p376 := eq_true p376
                      replace q376 := eq_true q376
                      have p377 : 0 ≤ (x28_2 : Int) := of_decide_eq_true qe84_
                      have q377 : x28_2 < (l0.length : Int) := of_decide_eq_true qe84_
                      obtain ⟨ad377, e377, hx377_0⟩ := Kd.at_int HR0.out x28_2 p377 q377
                      obtain rfl : ad376 = ad377 := (by injection e377)
                      (try (replace hx377_0 := (HB.out.cell (World.block_lt_of_cell? w _ hx377_0)).trans hx377_0))
                      replace p377 := eq_true p377
                      replace q377 := eq_true q377
                      have p378 : 0 ≤ (x32_3 : Int) := of_decide_eq_true qe84_
                      have q378 : x32_3 < (l1.length : Int) := of_decide_eq_true qe84_
                      obtain ⟨ad378, e378, hx378_0⟩ := Kd.at_int HR1.out x32_3 p378 q378
                      cases e378
                      (try (replace hx378_0 := (HB.out.cell (World.block_lt_of_cell? w _ hx378_0)).trans hx378_0))
                      replace p378 := eq_true p378
                      replace q378 := eq_true q378
                      have p379 : 0 ≤ (x28_2 : Int) := of_decide_eq_true qe84_
                      have q379 : x28_2 < (l1.length : Int) := of_decide_eq_true qe84_
                      obtain ⟨ad379, e379, hx379_0⟩ := Kd.at_int HR1.out x28_2 p379 q379
                      obtain rfl : ad378 = ad379 := (by injection e379)
                      (try (replace hx379_0 := (HB.out.cell (World.block_lt_of_cell? w _ hx379_0)).trans hx379_0))
                      replace p379 := eq_true p379
                      replace q379 := eq_true q379
                      go_wp2
                      repeat (go_quiet (fail); try go_wp2)
                      go_roundg k4
                      case measure => have := HJ2.out; have := HK2.out; have := HK3.out; have := HK4.out; omega
                      case rel => exact ⟨(x6_4), (wrap64 (x37_4 + 1)), qc8f_, qc8f_, H', ⟨q3e9_ HJ2.out HK2.out HK3.out HK4.out⟩, ⟨q9d5_ HO_35.out⟩, ⟨q0c4_⟩⟩
                    ·
                     rw [if_neg c27] at H
                     exact absurd H (by simp)
                   ·
                    rw [if_neg c26] at H
                    exact absurd H (by simp)
                  ·
                   rw [if_neg c25] at H
                   exact absurd H (by simp)
                 ·
                  rw [if_neg c24] at H
                  exact absurd H (by simp)
                ·
                 rw [if_neg c23] at H
                 exact absurd H (by simp)
               ·
                rw [if_neg c22] at H
                exact absurd H (by simp)
              ·
               rw [if_neg c21] at H
               exact absurd H (by simp)
             ·
              rw [if_neg c20] at H
              exact absurd H (by simp)
            ·
             rw [if_neg c19] at H
             have c19b0 := decide_eq_false c19
             clear c19
             have H' := Aside0.mk H
             clear H
             go_wp2
             repeat (go_quiet (fail); try go_wp2)
             go_roundg k4
             case measure => have := HJ2.out; have := HK2.out; have := HK3.out; have := HK4.out; omega
             case rel => exact ⟨(x6_4), (wrap64 (x32_3 + 1)), qc8f_, qc8f_, H', ⟨q3e9_ HJ2.out HK2.out HK3.out HK4.out⟩, ⟨q0c4_⟩⟩
         ·
          rw [if_neg c15] at H
          have c15b0 := decide_eq_false c15
          clear c15
          have H' := Aside0.mk H
          clear H
          go_wp2
          repeat (go_quiet (fail); try go_wp2)
          go_roundg k3
          case measure => have := HJ2.out; have := HK2.out; have := HK3.out; omega
          case rel => exact ⟨(x6_3), (wrap64 (x28_2 + 1)), qc8f_, qc8f_, H', ⟨q0e9_ HJ2.out HK2.out HK3.out⟩, ⟨q0c4_⟩⟩
      ·
       rw [if_neg c14] at H
       have c14b0 := decide_eq_false c14
       clear c14
       simp only [Option.some.injEq, Prod.mk.injEq] at H
       obtain ⟨rfl, rfl⟩ := H
       go_wp2
       repeat (go_quiet (fail); try go_wp2)
       go_ret2
       exact ⟨qce7_, q0c4_⟩

/-! ### laws_FnAllRegionsListed: function 3 -/
def laws_FnAllRegionsListed.l0 : Nat → List Int → List Int → List (S33) → List (S33) → List (List Int) → List (S33) → Int → Int → Option (Bool)
 | 0, _, _, _, _, _, _, _, _ => none
 | k + 1, x0, x1, x6, x8, x10, x65, x66, x67 => if x67 < x66 then (if 0 ≤ x67 then (if x67 < (x65.length : Int) then ((impl_LabelOfRegion.f k ((rd_T33 x65 x67).f0) ((rd_T33 x65 x67).f1)).bind fun bt408 => (if bt408.2 = true then (if x67 < (x10.length : Int) then ((laws_wSame.f k bt408.1 (rd_L2 x10 x67)).bind fun t413 => (if t413 = true then (if x67 < (x8.length : Int) then ((laws_wSameRegion.f k ((rd_T33 x65 x67).f0) ((rd_T33 x65 x67).f1) ((rd_T33 x8 x67).f0) ((rd_T33 x8 x67).f1)).bind fun t415 => (if t415 = true then (laws_FnAllRegionsListed.l0 k x0 x1 x6 x8 x10 x65 x66 (wrap64 (x67 + 1))) else (none))) else (none)) else (none))) else (none)) else (none))) else (none)) else (none)) else (if (x6.length : Int) = 0 then (none) else (if 0 ≤ ((x1.length : Int) % (x6.length : Int)) then (if ((x1.length : Int) % (x6.length : Int)) < (x6.length : Int) then ((impl_PointOfRegion.f k ((rd_T33 x6 ((x1.length : Int) % (x6.length : Int))).f0) ((rd_T33 x6 ((x1.length : Int) % (x6.length : Int))).f1)).bind fun bt395 => (if 0 ≤ (Int.tmod (wrap64 ((x1.length : Int) + (x0.length : Int))) (x6.length : Int)) then (if (Int.tmod (wrap64 ((x1.length : Int) + (x0.length : Int))) (x6.length : Int)) < (x6.length : Int) then ((impl_PointOfRegion.f k ((rd_T33 x6 (Int.tmod (wrap64 ((x1.length : Int) + (x0.length : Int))) (x6.length : Int))).f0) ((rd_T33 x6 (Int.tmod (wrap64 ((x1.length : Int) + (x0.length : Int))) (x6.length : Int))).f1)).bind fun bt400 => ((impl_PlanesBetween.f k bt395.1 bt400.1).bind fun bt404 => (if bt395.2 = true then (if bt400.2 = true then (if bt404.2 = true then (some ((bt404.1 == 0) == (((x1.length : Int) % (x6.length : Int)) == (Int.tmod (wrap64 ((x1.length : Int) + (x0.length : Int))) (x6.length : Int))))) else (none)) else (none)) else (none)))) else (none)) else (none))) else (none)) else (none)))
def laws_FnAllRegionsListed.f (k : Nat) (l0 : List Int) (l1 : List Int) : Option (Bool) := (laws_big.f l0 l1).bind fun t380 => (if t380 = true then (some true) else ((spec_DrawAllRegions.f l0).bind fun t381 => ((impl_AllRegions.f k t381).bind fun bt382 => ((spec_AllRegions.f k t381).bind fun bt386 => (if (bt382.2 != bt386.2) = true then (none) else (if (bt382.1.length : Int) = (bt386.1.length : Int) then (if bt386.2 = true then ((impl_AllParking.f k t381).bind fun bt390 => (if bt390.2 = true then (if (bt382.1.length : Int) = (bt390.1.length : Int) then (laws_FnAllRegionsListed.l0 k l0 l1 bt382.1 bt386.1 bt390.1 bt382.1 (bt382.1.length : Int) 0) else (none)) else (none))) else (some true)) else (none)))))))
theorem laws_FnAllRegionsListed.mono_l : ∀ k, (∀ y0 y1 y2 y3 y4 y5 y6 y7, LeO (laws_FnAllRegionsListed.l0 k y0 y1 y2 y3 y4 y5 y6 y7) (laws_FnAllRegionsListed.l0 (k + 1) y0 y1 y2 y3 y4 y5 y6 y7))
 | 0 => fun _ _ _ _ _ _ _ _ r h => by simp [laws_FnAllRegionsListed.l0] at h
 | k + 1 => by
  have ih0 := laws_FnAllRegionsListed.mono_l k
  ·
   intro y0 y1 y2 y3 y4 y5 y6 y7
   unfold laws_FnAllRegionsListed.l0
   repeat' (with_reducible first | exact ih0 _ _ _ _ _ _ _ _ | exact impl_AllParking.mono _ _ | exact impl_AllRegions.mono _ _ | exact impl_LabelOfRegion.mono _ _ _ | exact impl_PlanesBetween.mono _ _ _ | exact impl_PointOfRegion.mono _ _ _ | exact laws_wSame.mono _ _ _ | exact laws_wSameRegion.mono _ _ _ _ _ | exact spec_AllRegions.mono _ _ | exact LeO.refl _ | exact LeO.none _ | refine LeO.ite ?_ ?_ | refine LeO.bind ?_ (fun _ => ?_))
theorem laws_FnAllRegionsListed.mono : ∀ a0 a1 k, LeO (laws_FnAllRegionsListed.f k a0 a1) (laws_FnAllRegionsListed.f (k + 1) a0 a1) := by
 intro a0 a1 k
 have ih0 := laws_FnAllRegionsListed.mono_l k
 unfold laws_FnAllRegionsListed.f
 repeat' (with_reducible first | exact ih0 _ _ _ _ _ _ _ _ | exact impl_AllParking.mono _ _ | exact impl_AllRegions.mono _ _ | exact impl_LabelOfRegion.mono _ _ _ | exact impl_PlanesBetween.mono _ _ _ | exact impl_PointOfRegion.mono _ _ _ | exact laws_wSame.mono _ _ _ | exact laws_wSameRegion.mono _ _ _ _ _ | exact spec_AllRegions.mono _ _ | exact LeO.refl _ | exact LeO.none _ | refine LeO.ite ?_ ?_ | refine LeO.bind ?_ (fun _ => ?_))
def laws_FnAllRegionsListed.T17 : Bool × List (List Nat × List Nat) := (true, [([], []), ([0], [0]), ([1], [1]), ([2], [2]), ([2], [2]), ([2], [2]), ([4, 5, 2], [2, 4, 5]), ([6, 2], [2, 6]), ([3, 7, 2, 2], [2, 3, 7]), ([8, 2], [2, 8]), ([2, 9], [2, 9]), ([10, 8], [10]), ([11], [11]), ([11], [11]), ([11], [11]), ([13, 14, 11], [11, 13, 14]), ([15, 11], [11, 15]), ([12, 16, 11, 11], [11, 12, 16]), ([17, 11], [11, 17]), ([11, 18], [11, 18])])
def laws_FnAllRegionsListed.B17 : List Nat := [0, 1, 3, 7, 7, 7, 55, 119, 255, 511, 1023, 2047, 4095, 4095, 4095, 28671, 61439, 131071, 262143, 524287]
theorem laws_FnAllRegionsListed.tab17 : rtab .any (opsOf Try.f3 17) = laws_FnAllRegionsListed.T17 := by kernel_rfl
theorem laws_FnAllRegionsListed.bits17 : waitsOk laws_FnAllRegionsListed.T17.2 laws_FnAllRegionsListed.B17 = true := by kernel_rfl
theorem laws_FnAllRegionsListed.calls (k : Nat) (A0 : Option Addr) (c0 : Nat) (l0 : List Int) (A1 : Option Addr) (c1 : Nat) (l1 : List Int) (r : Bool) (w : World) (hr0 : Kd.C (Kd.int .u8) w A0 l0.length l0) (hc0 : l0.length ≤ c0) (hr1 : Kd.C (Kd.int .u8) w A1 l1.length l1) (hc1 : l1.length ≤ c1) (h : laws_FnAllRegionsListed.f k l0 l1 = some r) :
  Calls Try.prog 3 #[.slice A0 l0.length c0, .slice A1 l1.length c1] w fun e w' => e = .returned (.bool r) ∧ Below w.heap.size w w' := by
 have hu33 := Try.underlying33
 have HR0 := Aside0.mk hr0
 have HC0 := Aside0.mk hc0
 clear hr0 hc0
 have HR1 := Aside0.mk hr1
 have HC1 := Aside0.mk hc1
 clear hr1 hc1
 have HB := Aside0.mk (Below.refl w.heap.size w)
 unfold laws_FnAllRegionsListed.f at h
 have H := h; clear h
 obtain ⟨t380, A3, H⟩ := ob_ H
 by_cases c4 : t380 = true
 ·
  subst c4
  rw [if_pos rfl] at H
  obtain rfl := Option.some.inj H
  go_enter Try.func3, Try.ntmps3
  go_wp2_with (first | ((with_reducible refine gate_callee (f := 4) rfl ?_); refine gl_ 26 Try.func4 #[.slice A0 l0.length c0, .slice A1 l1.length c1] ?_; (with_reducible refine (laws_big.calls _ _ l0 _ _ l1 true _ ?s1 ?s2 ?s3 ?s4 A3.out).mono ?_); (case s1 => exact q201_ HR0.out); (case s2 => exact HC0.out); (case s3 => exact q201_ HR1.out); (case s4 => exact HC1.out); rintro e w' ⟨rfl, ⟨nd, rfl⟩⟩; refine ⟨_, rfl, ?_⟩))
  go_ret
  exact ⟨qce7_, q0c4_⟩
 ·
  replace c4 := Bool.eq_false_iff.mpr c4
  subst c4
  rw [if_neg nf_] at H
  obtain ⟨t381, A5, H⟩ := ob_ H
  obtain ⟨⟨t382, t383⟩, A6, H⟩ := ob_ H
  dsimp only at H
  obtain ⟨⟨t386, t389⟩, A7, H⟩ := ob_ H
  dsimp only at H
  by_cases c8 : (t383 != t389) = true
  ·
   rw [if_pos c8] at H
   exact absurd H (by simp)
  ·
   rw [if_neg c8] at H
   have c8b0 : (t383 != t389) = false := by simpa using c8
   (try (have c8b1 : decide (t383 = t389) = true := by simpa using c8))
   (try (have c8b2 : (t383 == t389) = true := by simpa using c8))
   clear c8
   by_cases c9 : (t382.length : Int) = (t386.length : Int)
   ·
    rw [if_pos c9] at H
    have c9b0 := beq_iff_eq.mpr c9
    have c9b1 := bne_eq_false_iff_eq.mpr c9
    have c9b2 : (t382.length == t386.length) = true := by first | simpa using c9 | (simp at c9 ⊢; omega)
    clear c9
    by_cases c10 : t389 = true
    ·
     subst c10
     rw [if_pos rfl] at H
     obtain ⟨⟨t390, t391⟩, A11, H⟩ := ob_ H
     dsimp only at H
     by_cases c12 : t391 = true
     ·
      subst c12
      rw [if_pos rfl] at H
      by_cases c13 : (t382.length : Int) = (t390.length : Int)
      ·
       rw [if_pos c13] at H
       have c13b0 := beq_iff_eq.mpr c13
       have c13b1 := bne_eq_false_iff_eq.mpr c13
       have c13b2 : (t382.length == t390.length) = true := by first | simpa using c13 | (simp at c13 ⊢; omega)
       clear c13
       have H' := Aside0.mk H
       clear H
       go_enter Try.func3, Try.ntmps3
       go_wp2_with (first | ((with_reducible refine gate_callee (f := 4) rfl ?_); refine gl_ 26 Try.func4 #[.slice A0 l0.length c0, .slice A1 l1.length c1] ?_; (with_reducible refine (laws_big.calls _ _ l0 _ _ l1 false _ ?s1 ?s2 ?s3 ?s4 A3.out).mono ?_); (case s1 => exact q201_ HR0.out); (case s2 => exact HC0.out); (case s3 => exact q201_ HR1.out); (case s4 => exact HC1.out); rintro e w' ⟨rfl, ⟨nd, rfl⟩⟩; refine ⟨_, rfl, ?_⟩) | ((with_reducible refine gate_callee (f := 5) rfl ?_); refine gl_ 28 Try.func5 #[.slice A0 l0.length c0] ?_; (with_reducible refine (spec_DrawAllRegions.calls _ _ l0 t381 _ ?s1 ?s2 A5.out).mono ?_); (case s1 => exact q201_ HR0.out); (case s2 => exact HC0.out); rintro e w14 ⟨rfl, hb⟩; refine ⟨_, rfl, ?_⟩; replace HB := Aside0.mk (below_step q0c4_ hb); clear hb) | ((with_reducible refine gate_callee (f := 6) rfl ?_); refine gl_ 31 Try.func6 #[.int .i64 t381] ?_; (with_reducible refine (impl_AllRegions.calls k t381 t382 t383 _ A6.out).mono ?_); rintro e w15 ⟨v384, rfl, ho0, hb⟩; refine ⟨_, rfl, ?_⟩; have HO385 := Aside0.mk (Kd.N_lower (Kd.N_mono (ok' := fun k_ => True) (Kd.S_N (Kd.S_bound ho0)) (fun k_ hk_ => trivial)) (below_size q0c4_)); replace HB := Aside0.mk (below_step q0c4_ hb); clear hb ho0) | ((with_reducible refine gate_callee (f := 7) rfl ?_); refine gl_ 36 Try.func7 #[.int .i64 t381] ?_; (with_reducible refine (spec_AllRegions.calls k t381 t386 true _ A7.out).mono ?_); rintro e w16 ⟨v387, rfl, ho0, hb⟩; refine ⟨_, rfl, ?_⟩; have n0_ := Aside0.mk (Kd.N_elder' (qfba_ HO385.out) (by first | exact Kd.N_base ho0 | exact Kd.S_base ho0) hb); have n1_ := Aside0.mk (Kd.N_lower (Kd.N_mono (ok' := fun k_ => some k_ ≠ (v384 : Value).ownBlock) ho0 (fun k_ hk_ => (Kd.fresh' (Kd.N_lt (qfba_ HO385.out)) k_ hk_))) (below_size q0c4_)); have n2_ := Aside0.mk (below_step q0c4_ hb); replace HO385 := n0_; have HO388 := n1_; replace HB := n2_; clear n0_ n1_ n2_; clear hb ho0; obtain ⟨Ao17, co17, eo17⟩ := Kd.N_slice HO385.out; subst eo17; obtain ⟨Ao18, co18, eo18⟩ := Kd.N_slice HO388.out; subst eo18) | ((with_reducible refine gate_callee (f := 8) rfl ?_); refine gl_ 53 Try.func8 #[.int .i64 t381] ?_; (with_reducible refine (impl_AllParking.calls k t381 t390 true _ A11.out).mono ?_); rintro e w19 ⟨v392, rfl, ho0, hb⟩; refine ⟨_, rfl, ?_⟩; have n0_ := Aside0.mk (Kd.N_elder' (qfba_ HO385.out) (by first | exact Kd.N_base ho0 | exact Kd.S_base ho0) hb); have n1_ := Aside0.mk (Kd.N_elder' (qfba_ HO388.out) (by first | exact Kd.N_base ho0 | exact Kd.S_base ho0) hb); have n2_ := Aside0.mk (Kd.N_lower (Kd.N_mono (ok' := fun k_ => some k_ ≠ (.slice Ao17 t382.length co17 : Value).ownBlock ∧ some k_ ≠ (.slice Ao18 t386.length co18 : Value).ownBlock) (Kd.S_N (Kd.S_bound ho0)) (fun k_ hk_ => ⟨(Kd.fresh' (Kd.N_lt (qfba_ HO385.out)) k_ hk_.2.1), (Kd.fresh' (Kd.N_lt (qfba_ HO388.out)) k_ hk_.2.1)⟩)) (below_size q0c4_)); have n3_ := Aside0.mk (below_step q0c4_ hb); replace HO385 := n0_; replace HO388 := n1_; have HO393 := n2_; replace HB := n3_; clear n0_ n1_ n2_ n3_; clear hb ho0; obtain ⟨Ao20, co20, eo20⟩ := Kd.N_slice HO393.out; subst eo20))
       go_loopg [67] k (fun kq v67 w' => ∃ (x67_1 : Int), v67 = .int .i64 x67_1 ∧ Aside0 (laws_FnAllRegionsListed.l0 kq l0 l1 t382 t386 t390 t382 (t382.length : Int) x67_1 = some r) ∧ Aside0 (kq ≤ k) ∧ Aside0 (Kd.N k33 33 w' w.heap.size (fun k_ => some k_ ≠ ((.slice Ao18 t386.length co18) : Value).ownBlock ∧ some k_ ≠ ((.slice Ao20 t390.length co20) : Value).ownBlock) (.slice Ao17 t382.length co17) t382) ∧ Aside0 (Kd.N k33 33 w' w.heap.size (fun k_ => some k_ ≠ ((.slice Ao17 t382.length co17) : Value).ownBlock ∧ some k_ ≠ ((.slice Ao20 t390.length co20) : Value).ownBlock ∧ some k_ ≠ ((.slice Ao17 t382.length co17) : Value).ownBlock) (.slice Ao18 t386.length co18) t386) ∧ Aside0 (Kd.N (Kd.slice 3 (Kd.int .i64)) 31 w' w.heap.size (fun k_ => some k_ ≠ ((.slice Ao17 t382.length co17) : Value).ownBlock ∧ some k_ ≠ ((.slice Ao18 t386.length co18) : Value).ownBlock ∧ some k_ ≠ ((.slice Ao17 t382.length co17) : Value).ownBlock) (.slice Ao20 t390.length co20) t390) ∧ Aside0 (Kd.N k33 33 w' w.heap.size (fun k_ => some k_ ≠ ((.slice Ao18 t386.length co18) : Value).ownBlock ∧ some k_ ≠ ((.slice Ao20 t390.length co20) : Value).ownBlock) (.slice Ao17 t382.length co17) t382) ∧ Aside0 (Below w.heap.size w w'))
       case atStart => exact ⟨(0), qc8f_, H', ⟨Nat.le_refl _⟩, ⟨qcfd_ HO385.out⟩, ⟨qd88_ HO388.out⟩, ⟨qd88_ HO393.out⟩, ⟨qcfd_ HO385.out⟩, ⟨q0c4_⟩⟩
       case round =>
        clear H'; try clear c1; try clear p2; try clear c3; try clear c4; try clear c5; try clear c6; try clear c7; try clear c8; try clear c8b0; try clear c8b1; try clear c8b2; try clear c9; try clear c9b0; try clear c9b1; try clear c9b2; try clear c10; try clear c12; try clear c13; try clear c13b0; try clear c13b1; try clear c13b2
        obtain ⟨x67_1, rfl, HA, HK1, HO_6, HO_8, HO_10, HO_65, HB⟩ := hrel
        cases gk with
        | zero => exact absurd HA.out (by simp [laws_FnAllRegionsListed.l0])
        | succ k1 =>
         have H := HA.out
         clear HA
         simp only [laws_FnAllRegionsListed.l0] at H
         by_cases c21 : x67_1 < (t382.length : Int)
         ·
          rw [if_pos c21] at H
          have c21b0 := decide_eq_true c21
          clear c21
          by_cases c22 : 0 ≤ x67_1
          ·
           rw [if_pos c22] at H
           have c22b0 := decide_eq_true c22
           clear c22
           by_cases c23 : x67_1 < (t382.length : Int)
           ·
            rw [if_pos c23] at H
            have c23b0 := decide_eq_true c23
            clear c23
            obtain ⟨⟨t408, t411⟩, A24, H⟩ := ob_ H
            dsimp only at H
            by_cases c25 : t411 = true
            ·
             subst c25
             rw [if_pos rfl] at H
             by_cases c26 : x67_1 < (t390.length : Int)
             ·
              rw [if_pos c26] at H
              have c26b0 := decide_eq_true c26
              clear c26
              obtain ⟨t413, A27, H⟩ := ob_ H
              by_cases c28 : t413 = true
              ·
               subst c28
               rw [if_pos rfl] at H
               by_cases c29 : x67_1 < (t386.length : Int)
               ·
                rw [if_pos c29] at H
                have c29b0 := decide_eq_true c29
                clear c29
                obtain ⟨t415, A30, H⟩ := ob_ H
                by_cases c31 : t415 = true
                ·
                 subst c31
                 rw [if_pos rfl] at H
                 have H' := Aside0.mk H
                 clear H
                 have p406 : 0 ≤ (x67_1 : Int) := of_decide_eq_true qe84_
                 have q406 : x67_1 < (t382.length : Int) := of_decide_eq_true qe84_
                 obtain ⟨ad406, A406_0, c406_0, A406_1, c406_1, e406, hx406_0, hx406_1, hl406_0, hi406_0, hl406_1, hi406_1⟩ := at_T33 (Kd.N_reads' HO_65.out).2.2 x67_1 p406 q406
                 cases e406
                 obtain ⟨ce406, hce406, hMe406, hcc406⟩ := Kd.N_get HO_65.out z33 x67_1 p406 (by first | exact q406 | exact of_decide_eq_true qe84_ | (have e_ := (Kd.N_reads' HO_65.out).1; omega))
                 obtain ⟨ua406_0, uc406_0, ua406_1, uc406_1, rfl, ul406_0, ge406_0, ul406_1, ge406_1⟩ := k33_openF hMe406
                 have hv406_0 := hcc406 0 _ rfl
                 rw [Nat.add_zero] at hv406_0
                 replace hv406_0 := Option.some.inj (hv406_0.symm.trans hx406_0)
                 injection hv406_0 with hva_ hvn_ hvc_
                 rw [hva_] at ge406_0
                 rw [hvc_] at ul406_0
                 have HL406_0 := Aside0.mk (show Kd.V (Kd.int .i64) 3 _ w.heap.size _ _ ((rd_T33 t382 x67_1).f0) from Kd.V_mk ul406_0 ge406_0)
                 clear hva_ hvn_ hvc_ ge406_0 ul406_0
                 have hv406_1 := hcc406 1 _ rfl
                 rw [add_field _ _ 1 (by omega)] at hv406_1
                 replace hv406_1 := Option.some.inj (hv406_1.symm.trans hx406_1)
                 injection hv406_1 with hva_ hvn_ hvc_
                 rw [hva_] at ge406_1
                 rw [hvc_] at ul406_1
                 have HL406_1 := Aside0.mk (show Kd.V (Kd.int .i64) 3 _ w.heap.size _ _ ((rd_T33 t382 x67_1).f1) from Kd.V_mk ul406_1 ge406_1)
                 clear hva_ hvn_ hvc_ ge406_1 ul406_1 hcc406 hce406
                 have HR406_0 := Aside0.mk hi406_0
                 have HC406_0 := Aside0.mk hl406_0
                 clear hi406_0 hl406_0
                 have HR406_1 := Aside0.mk hi406_1
                 have HC406_1 := Aside0.mk hl406_1
                 clear hi406_1 hl406_1
                 replace p406 := eq_true p406
                 replace q406 := eq_true q406
                 try go_wp2_with (first | ((with_reducible refine gate_dst (N := 13) rfl ?_); (try (refine gate_guard (by rfl) ?_; dsimp only)); refine box_event ?hg (N := 13) ?hd (cs := #[.slice none 0 0, .slice none 0 0]) (t := 33) ?hr ?_; (case hd => rfl); (case hg => rfl); (case hr => exact qba7_); intro gb407 hg w32 hbox hb; have n0_ := Aside0.mk (Kd.N_below (Kd.N_elderB (qfba_ HO_6.out) gb407 (Nat.le_of_eq hg.symm)) hb); have n1_ := Aside0.mk (Kd.N_below (Kd.N_elderB (qfba_ HO_8.out) gb407 (Nat.le_of_eq hg.symm)) hb); have n2_ := Aside0.mk (Kd.N_below (Kd.N_elderB (qfba_ HO_10.out) gb407 (Nat.le_of_eq hg.symm)) hb); have n3_ := Aside0.mk (Kd.N_below (Kd.N_elderB (qfba_ HO_65.out) gb407 (Nat.le_of_eq hg.symm)) hb); have n4_ := Aside0.mk (Kd.V_below (Kd.V_elderB (q16c_ HL406_0.out) gb407 (Nat.le_of_eq hg.symm)) hb); have n5_ := Aside0.mk (Kd.V_below (Kd.V_elderB (q16c_ HL406_1.out) gb407 (Nat.le_of_eq hg.symm)) hb); have n6_ := Aside0.mk (Kd.C_below (q75a_ HR406_0.out) hb); have n7_ := Aside0.mk (Kd.C_below (q75a_ HR406_1.out) hb); have n8_ := Aside0.mk (below_step q0c4_ hb); have n9_ := Aside0.mk (hbox); have n10_ := Aside0.mk ((by rw [hg]; exact (below_size q0c4_) : w.heap.size ≤ gb407)); have n11_ := Aside0.mk ((by rw [hg]; exact (below_size q0c4_) : w.heap.size ≤ gb407)); replace HO_6 := n0_; replace HO_8 := n1_; replace HO_10 := n2_; replace HO_65 := n3_; replace HL406_0 := n4_; replace HL406_1 := n5_; replace HR406_0 := n6_; replace HR406_1 := n7_; replace HB := n8_; have BK407 := n9_; have GW407 := n10_; have GE407 := n11_; clear n0_ n1_ n2_ n3_ n4_ n5_ n6_ n7_ n8_ n9_ n10_ n11_; clear hb hbox hg; have hcz33_0 : w32.cell? ⟨gb407, 0, none⟩ = some (.slice none 0 0) := (blk_cell BK407.out 0).trans rfl; have hcz33_1 : w32.cell? ⟨gb407, 1, none⟩ = some (.slice none 0 0) := (blk_cell BK407.out 1).trans rfl; have hfz33_0 := blk_frozen BK407.out 0; have hfz33_1 := blk_frozen BK407.out 1) | ((with_reducible refine gate_callee (f := 9) rfl ?_); refine gl_ 74 Try.func9 #[.agg #[.slice A406_0 ((rd_T33 t382 x67_1).f0).length c406_0, .slice A406_1 ((rd_T33 t382 x67_1).f1).length c406_1]] ?_; (with_reducible refine (impl_LabelOfRegion.calls k1 _ _ ((rd_T33 t382 x67_1).f0) _ _ ((rd_T33 t382 x67_1).f1) t408 true _ ?s1 ?s2 ?s3 ?s4 A24.out).mono ?_); (case s1 => exact q018_ HL406_0.out); (case s2 => exact HC406_0.out); (case s3 => exact q018_ HL406_1.out); (case s4 => exact HC406_1.out); rintro e w34 ⟨v409, rfl, ho0, hb⟩; refine ⟨_, rfl, ?_⟩; have n0_ := Aside0.mk (Kd.N_elder' (q7f8_ HO_6.out) (Kd.R_base ho0) hb); have n1_ := Aside0.mk (Kd.N_elder' (q7f8_ HO_8.out) (Kd.R_base ho0) hb); have n2_ := Aside0.mk (Kd.N_elder' (q7f8_ HO_10.out) (Kd.R_base ho0) hb); have n3_ := Aside0.mk (Kd.N_elder' (q7f8_ HO_65.out) (Kd.R_base ho0) hb); have n4_ := Aside0.mk (Kd.V_elder' (q35c_ HL406_0.out) (Kd.R_base ho0) hb); have n5_ := Aside0.mk (Kd.V_elder' (q35c_ HL406_1.out) (Kd.R_base ho0) hb); have n6_ := Aside0.mk (Kd.R_lower ho0 (below_size qf5b_)); have n7_ := Aside0.mk (Kd.C_below ((Kd.V_reads' (q35c_ HL406_0.out)).2.2) hb); have n8_ := Aside0.mk (Kd.C_below ((Kd.V_reads' (q35c_ HL406_1.out)).2.2) hb); have n9_ := Aside0.mk (blk_below (g := gb407) (o := .cells #[.slice A406_0 ((rd_T33 t382 x67_1).f0).length c406_0, .slice A406_1 ((rd_T33 t382 x67_1).f1).length c406_1] 33 (0, 0)) (by (with_reducible repeat (first | refine blk_drewN ?_ _ | refine blk_drew ?_ | refine blk_alloc ?_ _)); refine blk_put (cs := #[.slice A406_0 ((rd_T33 t382 x67_1).f0).length c406_0, .slice none 0 0]) ?_ 1 _ rfl; (with_reducible repeat (first | refine blk_drewN ?_ _ | refine blk_drew ?_ | refine blk_alloc ?_ _)); refine blk_put (cs := #[.slice none 0 0, .slice none 0 0]) ?_ 0 _ rfl; (with_reducible repeat (first | refine blk_drewN ?_ _ | refine blk_drew ?_ | refine blk_alloc ?_ _)); exact BK407.out) hb); have n10_ := Aside0.mk (below_step qf5b_ hb); replace HO_6 := n0_; replace HO_8 := n1_; replace HO_10 := n2_; replace HO_65 := n3_; replace HL406_0 := n4_; replace HL406_1 := n5_; have HO410 := n6_; replace HR406_0 := n7_; replace HR406_1 := n8_; replace BK407 := n9_; replace HB := n10_; clear n0_ n1_ n2_ n3_ n4_ n5_ n6_ n7_ n8_ n9_ n10_; clear hb ho0))
                 have n0_ := Aside0.mk (Kd.N_drew HO_6.out)
                 have n1_ := Aside0.mk (Kd.N_drew HO_8.out)
                 have n2_ := Aside0.mk (Kd.N_drew HO_10.out)
                 have n3_ := Aside0.mk (Kd.N_drew HO_65.out)
                 have n4_ := Aside0.mk (Kd.V_drew HL406_0.out)
                 have n5_ := Aside0.mk (Kd.V_drew HL406_1.out)
                 have n6_ := Aside0.mk (Kd.R_drew HO410.out)
                 have n7_ := Aside0.mk (blk_drew BK407.out)
                 have n8_ := Aside0.mk (Kd.C_drew HR406_0.out)
                 have n9_ := Aside0.mk (Kd.C_drew HR406_1.out)
                 have n10_ := Aside0.mk (below_drew1 HB.out)
                 clear HO_6 HO_8 HO_10 HO_65 HL406_0 HL406_1 HO410 BK407 HR406_0 HR406_1 HB; have HO_6 := n0_; have HO_8 := n1_; have HO_10 := n2_; have HO_65 := n3_; have HL406_0 := n4_; have HL406_1 := n5_; have HO410 := n6_; have BK407 := n7_; have HR406_0 := n8_; have HR406_1 := n9_; have HB := n10_; clear n0_ n1_ n2_ n3_ n4_ n5_ n6_ n7_ n8_ n9_ n10_
                 have p412 : 0 ≤ (x67_1 : Int) := of_decide_eq_true qe84_
                 have q412 : x67_1 < (t390.length : Int) := of_decide_eq_true qe84_
                 obtain ⟨ad412, A412_0, c412_0, e412, hx412_0, hl412_0, hi412_0⟩ := at_L2 (Kd.N_reads' HO_10.out).2.2 x67_1 p412 q412
                 cases e412
                 obtain ⟨ce412, hce412, hMe412, hcc412⟩ := Kd.N_get HO_10.out [] x67_1 p412 (by first | exact q412 | exact of_decide_eq_true qe84_ | (have e_ := (Kd.N_reads' HO_10.out).1; omega))
                 obtain ⟨ua412_0, uc412_0, rfl, ul412_0, ge412_0⟩ := Kd.FK_slice_open hMe412
                 have hv412_0 := hcc412 0 _ rfl
                 rw [Nat.add_zero, show ((Kd.slice 3 (Kd.int .i64))).sz = 1 from rfl, Nat.mul_one] at hv412_0
                 replace hv412_0 := Option.some.inj (hv412_0.symm.trans hx412_0)
                 injection hv412_0 with hva_ hvn_ hvc_
                 rw [hva_] at ge412_0
                 rw [hvc_] at ul412_0
                 have HL412_0 := Aside0.mk (show Kd.V (Kd.int .i64) 3 _ w.heap.size _ _ (rd_L2 t390 x67_1) from Kd.V_mk ul412_0 ge412_0)
                 clear hva_ hvn_ hvc_ ge412_0 ul412_0 hcc412 hce412
                 have HR412_0 := Aside0.mk hi412_0
                 have HC412_0 := Aside0.mk hl412_0
                 clear hi412_0 hl412_0
                 replace p412 := eq_true p412
                 replace q412 := eq_true q412
                 obtain ⟨Ao36, co36, eo36⟩ := Kd.R_slice HO410.out
                 (first | subst eo36 | (injection eo36 with f1_ f2_ f3_; have f4_ := f1_.symm; have f5_ := f3_.symm; clear f1_ f2_ f3_; subst f4_; subst f5_))
                 have p414 : 0 ≤ (x67_1 : Int) := of_decide_eq_true qe84_
                 have q414 : x67_1 < (t386.length : Int) := of_decide_eq_true qe84_
                 obtain ⟨ad414, A414_0, c414_0, A414_1, c414_1, e414, hx414_0, hx414_1, hl414_0, hi414_0, hl414_1, hi414_1⟩ := at_T33 (Kd.N_reads' HO_8.out).2.2 x67_1 p414 q414
                 cases e414
                 obtain ⟨ce414, hce414, hMe414, hcc414⟩ := Kd.N_get HO_8.out z33 x67_1 p414 (by first | exact q414 | exact of_decide_eq_true qe84_ | (have e_ := (Kd.N_reads' HO_8.out).1; omega))
                 obtain ⟨ua414_0, uc414_0, ua414_1, uc414_1, rfl, ul414_0, ge414_0, ul414_1, ge414_1⟩ := k33_openF hMe414
                 have hv414_0 := hcc414 0 _ rfl
                 rw [Nat.add_zero] at hv414_0
                 replace hv414_0 := Option.some.inj (hv414_0.symm.trans hx414_0)
                 injection hv414_0 with hva_ hvn_ hvc_
                 rw [hva_] at ge414_0
                 rw [hvc_] at ul414_0
                 have HL414_0 := Aside0.mk (show Kd.V (Kd.int .i64) 3 _ w.heap.size _ _ ((rd_T33 t386 x67_1).f0) from Kd.V_mk ul414_0 ge414_0)
                 clear hva_ hvn_ hvc_ ge414_0 ul414_0
                 have hv414_1 := hcc414 1 _ rfl
                 rw [add_field _ _ 1 (by omega)] at hv414_1
                 replace hv414_1 := Option.some.inj (hv414_1.symm.trans hx414_1)
                 injection hv414_1 with hva_ hvn_ hvc_
                 rw [hva_] at ge414_1
                 rw [hvc_] at ul414_1
                 have HL414_1 := Aside0.mk (show Kd.V (Kd.int .i64) 3 _ w.heap.size _ _ ((rd_T33 t386 x67_1).f1) from Kd.V_mk ul414_1 ge414_1)
                 clear hva_ hvn_ hvc_ ge414_1 ul414_1 hcc414 hce414
                 have HR414_0 := Aside0.mk hi414_0
                 have HC414_0 := Aside0.mk hl414_0
                 clear hi414_0 hl414_0
                 have HR414_1 := Aside0.mk hi414_1
                 have HC414_1 := Aside0.mk hl414_1
                 clear hi414_1 hl414_1
                 replace p414 := eq_true p414
                 replace q414 := eq_true q414
                 refine start_ (n := 20) (S := fun w' => w'.cell? ⟨gb407, 0, none⟩ = some (.slice A406_0 ((rd_T33 t382 x67_1).f0).length c406_0) ∧ w'.cell? ⟨gb407, 1, none⟩ = some (.slice A406_1 ((rd_T33 t382 x67_1).f1).length c406_1) ∧ w'.cell? (ad412.add (x67_1).toNat) = some (.slice A412_0 (rd_L2 t390 x67_1).length c412_0) ∧ w'.cell? (ad414.add ((x67_1).toNat * 2)) = some (.slice A414_0 ((rd_T33 t386 x67_1).f0).length c414_0) ∧ w'.cell? ⟨(ad414.add ((x67_1).toNat * 2)).block, (ad414.add ((x67_1).toNat * 2)).off + 1, none⟩ = some (.slice A414_1 ((rd_T33 t386 x67_1).f1).length c414_1)) (ds := []) #[false, false, false, false, false, false, false, false, false, false, false, false, false, false, false, false, false, false, false, false] (by kernel_rfl) rfl rfl ⟨(blk_cell BK407.out 0).trans rfl, (blk_cell BK407.out 1).trans rfl, hx412_0, hx414_0, hx414_1⟩ (fun hHeld => ?_); refine with_tabW laws_FnAllRegionsListed.tab17 laws_FnAllRegionsListed.bits17 (fun HT_ HW_ => ?_)
                 generalize w34.drew = w35 at HO_6 HO_8 HO_10 HO_65 HL406_0 HL406_1 HO410 BK407 HR406_0 HR406_1 HB HL412_0 HL414_0 HL414_1 HR412_0 HR414_0 HR414_1 hx412_0 hx414_0 hx414_1 hHeld ⊢
                 refine pure_ (i := 0) (N := some 77) (v := ?_) (a' := ?_) #[true, false, false, false, false, false, false, false, false, false, false, false, false, false, false, false, false, false, false, false] rfl rfl (any_of HT_.out (by kernel_rfl)) (fun _ _ _ h => h) (Or.inl ⟨by rfl, ?_⟩) ?_ ?_
                 rotate_left
                 ·
                  intro w'
                  go_simp
                  with_reducible rfl
                 rotate_left
                 ·
                  simp only [Act.put, List.setIfInBounds_toArray, List.set_cons_zero, List.set_cons_succ, i64_w, i32_w]
                  rfl
                 refine pure_ (i := 1) (N := some 78) (v := ?_) (a' := ?_) #[true, true, false, false, false, false, false, false, false, false, false, false, false, false, false, false, false, false, false, false] rfl rfl (any_of HT_.out (by kernel_rfl)) (fun _ _ _ h => h) (Or.inl ⟨by rfl, ?_⟩) ?_ ?_
                 rotate_left
                 ·
                  intro w'
                  go_simp
                  with_reducible rfl
                 rotate_left
                 ·
                  simp only [Act.put, List.setIfInBounds_toArray, List.set_cons_zero, List.set_cons_succ, i64_w, i32_w]
                  rfl
                 refine pure_ (i := 2) (N := some 79) (v := ?_) (a' := ?_) #[true, true, true, false, false, false, false, false, false, false, false, false, false, false, false, false, false, false, false, false] rfl rfl (any_of HT_.out (by kernel_rfl)) (fun _ _ _ h => h) (Or.inl ⟨by rfl, ?_⟩) ?_ ?_
                 rotate_left
                 ·
                  intro w'
                  go_simp
                  with_reducible rfl
                 rotate_left
                 ·
                  simp only [Act.put, List.setIfInBounds_toArray, List.set_cons_zero, List.set_cons_succ, i64_w, i32_w]
                  rfl
                 refine pure_ (i := 3) (N := some 80) (v := ?_) (a' := ?_) #[true, true, true, true, false, false, false, false, false, false, false, false, false, false, false, false, false, false, false, false] rfl rfl (any_of HT_.out (by kernel_rfl)) (fun _ _ _ h => h) (Or.inl ⟨by rfl, ?_⟩) ?_ ?_
                 rotate_left
                 ·
                  intro w'
                  go_simp
                  with_reducible rfl
                 rotate_left
                 ·
                  simp only [Act.put, List.setIfInBounds_toArray, List.set_cons_zero, List.set_cons_succ, i64_w, i32_w]
                  rfl
                 refine pure_ (i := 4) (N := some 81) (v := ?_) (a' := ?_) #[true, true, true, true, true, false, false, false, false, false, false, false, false, false, false, false, false, false, false, false] rfl rfl (any_of HT_.out (by kernel_rfl)) (fun _ _ _ h => h) (Or.inl ⟨by rfl, ?_⟩) ?_ ?_
                 rotate_left
                 ·
                  intro w'
                  go_simp
                  with_reducible rfl
                 rotate_left
                 ·
                  simp only [Act.put, List.setIfInBounds_toArray, List.set_cons_zero, List.set_cons_succ, i64_w, i32_w]
                  rfl
                 refine pure_ (i := 5) (N := some 82) (v := ?_) (a' := ?_) #[true, true, true, true, true, true, false, false, false, false, false, false, false, false, false, false, false, false, false, false] rfl rfl (any_of HT_.out (by kernel_rfl)) (fun _ _ _ h => h) (Or.inl ⟨by rfl, ?_⟩) ?_ ?_
                 rotate_left
                 ·
                  intro w'
                  go_simp
                  with_reducible rfl
                 rotate_left
                 ·
                  simp only [Act.put, List.setIfInBounds_toArray, List.set_cons_zero, List.set_cons_succ, i64_w, i32_w]
                  rfl
                 refine pure_ (i := 6) (N := some 83) (v := ?_) (a' := ?_) #[true, true, true, true, true, true, true, false, false, false, false, false, false, false, false, false, false, false, false, false] rfl rfl (any_of HT_.out (by kernel_rfl)) (fun _ _ _ h => h) (Or.inl ⟨by rfl, ?_⟩) ?_ ?_
                 rotate_left
                 ·
                  intro w'
                  go_simp
                  with_reducible rfl
                 rotate_left
                 ·
                  simp only [Act.put, List.setIfInBounds_toArray, List.set_cons_zero, List.set_cons_succ, i64_w, i32_w]
                  rfl
                 refine take_ (i := 7) (N := some 84) (v := ?_) (a' := ?_) #[true, true, true, true, true, true, true, true, false, false, false, false, false, false, false, false, false, false, false, false] rfl rfl (take_ofW HT_.out HW_.out (by kernel_rfl)) (fun _ _ _ h => h) (Or.inl ⟨by rfl, ?_⟩) hHeld ?_ ?_
                 rotate_left
                 ·
                  rintro w' ⟨s0, s1, s2, s3, s4⟩
                  go_simp
                  with_reducible rfl
                 rotate_left
                 ·
                  simp only [Act.put, List.setIfInBounds_toArray, List.set_cons_zero, List.set_cons_succ, i64_w, i32_w]
                  rfl
                 refine one_ (i := 8) (N := some 85) #[true, true, true, true, true, true, true, true, true, false, false, false, false, false, false, false, false, false, false, false] rfl rfl (one_of HT_.out (by kernel_rfl)) (by decide) (fun K hK => ?_)
                 refine goes_ Try.func10 (by kernel_rfl) rfl #[.slice Ao36 t408.length co36, .slice A412_0 (rd_L2 t390 x67_1).length c412_0] (by rfl) rfl rfl qef5_ ?_
                 with_reducible refine (laws_wSame.calls k1 _ _ t408 _ _ (rd_L2 t390 x67_1) true _ ?s1 ?s2 ?s3 ?s4 A27.out).mono ?_
                 (case s1 => exact q5a8_ HO410.out)
                 (case s2 => exact (Kd.R_reads' HO410.out).2.1)
                 (case s3 => exact qe8c_ HR412_0.out)
                 (case s4 => exact HC412_0.out)
                 rintro e w' ⟨rfl, ⟨nd, rfl⟩⟩
                 refine ⟨_, rfl, ?_⟩
                 refine hK.out _ _ ⟨(blk_cell BK407.out 0).trans rfl, (blk_cell BK407.out 1).trans rfl, hHeld.2.2.1, hHeld.2.2.2.1, hHeld.2.2.2.2⟩ (fun hHeld => ?_)
                 clear hK K
                 refine norm_ (a' := ?_) ?_ ?_
                 rotate_left
                 ·
                  show Act.put _ (some 85) _ = _
                  simp only [Act.put, List.setIfInBounds_toArray, List.set_cons_zero, List.set_cons_succ, i64_w, i32_w]
                  rfl
                 refine pure_ (i := 9) (N := some 86) (v := ?_) (a' := ?_) #[true, true, true, true, true, true, true, true, true, true, false, false, false, false, false, false, false, false, false, false] rfl rfl (any_of HT_.out (by kernel_rfl)) (fun _ _ _ h => h) (Or.inl ⟨by rfl, ?_⟩) ?_ ?_
                 rotate_left
                 ·
                  intro w'
                  go_simp
                  with_reducible rfl
                 rotate_left
                 ·
                  simp only [Act.put, List.setIfInBounds_toArray, List.set_cons_zero, List.set_cons_succ, i64_w, i32_w]
                  rfl
                 refine pure_ (i := 10) (N := some 87) (v := ?_) (a' := ?_) #[true, true, true, true, true, true, true, true, true, true, true, false, false, false, false, false, false, false, false, false] rfl rfl (any_of HT_.out (by kernel_rfl)) (fun _ _ _ h => h) (Or.inl ⟨by rfl, ?_⟩) ?_ ?_
                 rotate_left
                 ·
                  intro w'
                  go_simp
                  with_reducible rfl
                 rotate_left
                 ·
                  simp only [Act.put, List.setIfInBounds_toArray, List.set_cons_zero, List.set_cons_succ, i64_w, i32_w]
                  rfl
                 refine pure_ (i := 11) (N := some 88) (v := ?_) (a' := ?_) #[true, true, true, true, true, true, true, true, true, true, true, true, false, false, false, false, false, false, false, false] rfl rfl (any_of HT_.out (by kernel_rfl)) (fun _ _ _ h => h) (Or.inl ⟨by rfl, ?_⟩) ?_ ?_
                 rotate_left
                 ·
                  intro w'
                  go_simp
                  with_reducible rfl
                 rotate_left
                 ·
                  simp only [Act.put, List.setIfInBounds_toArray, List.set_cons_zero, List.set_cons_succ, i64_w, i32_w]
                  rfl
                 refine pure_ (i := 13) (N := some 90) (v := ?_) (a' := ?_) #[true, true, true, true, true, true, true, true, true, true, true, true, false, true, false, false, false, false, false, false] rfl rfl (any_of HT_.out (by kernel_rfl)) (fun _ _ _ h => h) (Or.inl ⟨by rfl, ?_⟩) ?_ ?_
                 rotate_left
                 ·
                  intro w'
                  go_simp
                  with_reducible rfl
                 rotate_left
                 ·
                  simp only [Act.put, List.setIfInBounds_toArray, List.set_cons_zero, List.set_cons_succ, i64_w, i32_w]
                  rfl
                 refine pure_ (i := 14) (N := some 91) (v := ?_) (a' := ?_) #[true, true, true, true, true, true, true, true, true, true, true, true, false, true, true, false, false, false, false, false] rfl rfl (any_of HT_.out (by kernel_rfl)) (fun _ _ _ h => h) (Or.inl ⟨by rfl, ?_⟩) ?_ ?_
                 rotate_left
                 ·
                  intro w'
                  go_simp
                  with_reducible rfl
                 rotate_left
                 ·
                  simp only [Act.put, List.setIfInBounds_toArray, List.set_cons_zero, List.set_cons_succ, i64_w, i32_w]
                  rfl
                 refine pure_ (i := 15) (N := some 92) (v := ?_) (a' := ?_) #[true, true, true, true, true, true, true, true, true, true, true, true, false, true, true, true, false, false, false, false] rfl rfl (any_of HT_.out (by kernel_rfl)) (fun _ _ _ h => h) (Or.inl ⟨by rfl, ?_⟩) ?_ ?_
                 rotate_left
                 ·
                  intro w'
                  go_simp
                  with_reducible rfl
                 rotate_left
                 ·
                  simp only [Act.put, List.setIfInBounds_toArray, List.set_cons_zero, List.set_cons_succ, i64_w, i32_w]
                  rfl
                 refine take_ (i := 12) (N := some 89) (v := ?_) (a' := ?_) #[true, true, true, true, true, true, true, true, true, true, true, true, true, true, true, true, false, false, false, false] rfl rfl (take_ofW HT_.out HW_.out (by kernel_rfl)) (fun _ _ _ h => h) (Or.inl ⟨by rfl, ?_⟩) hHeld ?_ ?_
                 rotate_left
                 ·
                  rintro w' ⟨s0, s1, s2, s3, s4⟩
                  go_simp
                  with_reducible rfl
                 rotate_left
                 ·
                  simp only [Act.put, List.setIfInBounds_toArray, List.set_cons_zero, List.set_cons_succ, i64_w, i32_w]
                  rfl
                 refine take_ (i := 16) (N := some 93) (v := ?_) (a' := ?_) #[true, true, true, true, true, true, true, true, true, true, true, true, true, true, true, true, true, false, false, false] rfl rfl (take_ofW HT_.out HW_.out (by kernel_rfl)) (fun _ _ _ h => h) (Or.inl ⟨by rfl, ?_⟩) hHeld ?_ ?_
                 rotate_left
                 ·
                  rintro w' ⟨s0, s1, s2, s3, s4⟩
                  go_simp
                  with_reducible rfl
                 rotate_left
                 ·
                  simp only [Act.put, List.setIfInBounds_toArray, List.set_cons_zero, List.set_cons_succ, i64_w, i32_w]
                  rfl
                 refine one_ (i := 17) (N := some 94) #[true, true, true, true, true, true, true, true, true, true, true, true, true, true, true, true, true, true, false, false] rfl rfl (one_of HT_.out (by kernel_rfl)) (by decide) (fun K hK => ?_)
                 refine goes_ Try.func11 (by kernel_rfl) rfl #[.agg #[.slice A406_0 ((rd_T33 t382 x67_1).f0).length c406_0, .slice A406_1 ((rd_T33 t382 x67_1).f1).length c406_1], .agg #[.slice A414_0 ((rd_T33 t386 x67_1).f0).length c414_0, .slice A414_1 ((rd_T33 t386 x67_1).f1).length c414_1]] (by rfl) rfl rfl qef5_ ?_
                 with_reducible refine (laws_wSameRegion.calls k1 _ _ ((rd_T33 t382 x67_1).f0) _ _ ((rd_T33 t382 x67_1).f1) _ _ ((rd_T33 t386 x67_1).f0) _ _ ((rd_T33 t386 x67_1).f1) true _ ?s1 ?s2 ?s3 ?s4 ?s5 ?s6 ?s7 ?s8 A30.out).mono ?_
                 (case s1 => exact qe8c_ HR406_0.out)
                 (case s2 => exact HC406_0.out)
                 (case s3 => exact qe8c_ HR406_1.out)
                 (case s4 => exact HC406_1.out)
                 (case s5 => exact qe8c_ HR414_0.out)
                 (case s6 => exact HC414_0.out)
                 (case s7 => exact qe8c_ HR414_1.out)
                 (case s8 => exact HC414_1.out)
                 rintro e w37 ⟨rfl, hb⟩
                 have HS2_ := (hb.cell (World.block_lt_of_cell? _ _ (hHeld.2.2.1))).trans (hHeld.2.2.1)
                 have HS3_ := (hb.cell (World.block_lt_of_cell? _ _ (hHeld.2.2.2.1))).trans (hHeld.2.2.2.1)
                 have HS4_ := (hb.cell (World.block_lt_of_cell? _ _ (hHeld.2.2.2.2))).trans (hHeld.2.2.2.2)
                 refine ⟨_, rfl, ?_⟩
                 have n0_ := Aside0.mk (Kd.N_below (qfba_ HO_6.out) hb)
                 have n1_ := Aside0.mk (Kd.N_below (qfba_ HO_8.out) hb)
                 have n2_ := Aside0.mk (Kd.N_below (qfba_ HO_10.out) hb)
                 have n3_ := Aside0.mk (Kd.N_below (qfba_ HO_65.out) hb)
                 have n4_ := Aside0.mk (Kd.V_below (q16c_ HL406_0.out) hb)
                 have n5_ := Aside0.mk (Kd.V_below (q16c_ HL406_1.out) hb)
                 have n6_ := Aside0.mk (Kd.R_below (q9d5_ HO410.out) hb)
                 have n7_ := Aside0.mk (Kd.V_below (q16c_ HL412_0.out) hb)
                 have n8_ := Aside0.mk (Kd.V_below (q16c_ HL414_0.out) hb)
                 have n9_ := Aside0.mk (Kd.V_below (q16c_ HL414_1.out) hb)
                 have n10_ := Aside0.mk (Kd.C_below (q75a_ HR406_0.out) hb)
                 have n11_ := Aside0.mk (Kd.C_below (q75a_ HR406_1.out) hb)
                 have n12_ := Aside0.mk (blk_below (g := gb407) (o := .cells #[.slice A406_0 ((rd_T33 t382 x67_1).f0).length c406_0, .slice A406_1 ((rd_T33 t382 x67_1).f1).length c406_1] 33 (0, 0)) (by (with_reducible repeat (first | refine blk_drewN ?_ _ | refine blk_drew ?_ | refine blk_alloc ?_ _)); exact BK407.out) hb)
                 have n13_ := Aside0.mk (Kd.C_below (q75a_ HR412_0.out) hb)
                 have n14_ := Aside0.mk (Kd.C_below (q75a_ HR414_0.out) hb)
                 have n15_ := Aside0.mk (Kd.C_below (q75a_ HR414_1.out) hb)
                 have n16_ := Aside0.mk (below_step qf5b_ hb)
                 clear HO_6 HO_8 HO_10 HO_65 HL406_0 HL406_1 HO410 HL412_0 HL414_0 HL414_1 HR406_0 HR406_1 BK407 HR412_0 HR414_0 HR414_1 HB; have HO_6 := n0_; have HO_8 := n1_; have HO_10 := n2_; have HO_65 := n3_; have HL406_0 := n4_; have HL406_1 := n5_; have HO410 := n6_; have HL412_0 := n7_; have HL414_0 := n8_; have HL414_1 := n9_; have HR406_0 := n10_; have HR406_1 := n11_; have BK407 := n12_; have HR412_0 := n13_; have HR414_0 := n14_; have HR414_1 := n15_; have HB := n16_; clear n0_ n1_ n2_ n3_ n4_ n5_ n6_ n7_ n8_ n9_ n10_ n11_ n12_ n13_ n14_ n15_ n16_
                 (try clear hb)
                 (try clear hb2)
                 (try clear hk)
                 (try clear hi)
                 refine hK.out _ _ ⟨(blk_cell BK407.out 0).trans rfl, (blk_cell BK407.out 1).trans rfl, HS2_, HS3_, HS4_⟩ (fun hHeld => ?_)
                 clear hK K
                 refine norm_ (a' := ?_) ?_ ?_
                 rotate_left
                 ·
                  show Act.put _ (some 94) _ = _
                  simp only [Act.put, List.setIfInBounds_toArray, List.set_cons_zero, List.set_cons_succ, i64_w, i32_w]
                  rfl
                 refine pure_ (i := 18) (N := some 95) (v := ?_) (a' := ?_) #[true, true, true, true, true, true, true, true, true, true, true, true, true, true, true, true, true, true, true, false] rfl rfl (any_of HT_.out (by kernel_rfl)) (fun _ _ _ h => h) (Or.inl ⟨by rfl, ?_⟩) ?_ ?_
                 rotate_left
                 ·
                  intro w'
                  go_simp
                  with_reducible rfl
                 rotate_left
                 ·
                  simp only [Act.put, List.setIfInBounds_toArray, List.set_cons_zero, List.set_cons_succ, i64_w, i32_w]
                  rfl
                 refine pure_ (i := 19) (N := some 96) (v := ?_) (a' := ?_) #[true, true, true, true, true, true, true, true, true, true, true, true, true, true, true, true, true, true, true, true] rfl rfl (any_of HT_.out (by kernel_rfl)) (fun _ _ _ h => h) (Or.inl ⟨by rfl, ?_⟩) ?_ ?_
                 rotate_left
                 ·
                  intro w'
                  go_simp
                  with_reducible rfl
                 rotate_left
                 ·
                  simp only [Act.put, List.setIfInBounds_toArray, List.set_cons_zero, List.set_cons_succ, i64_w, i32_w]
                  rfl
                 refine done_ (done_of HT_.out (by kernel_rfl)) ?_
                 try go_wp2
                 go_roundg k1
                 case measure => have := HK1.out; omega
                 case rel => exact ⟨(wrap64 (x67_1 + 1)), qc8f_, H', ⟨by have := HK1.out; omega⟩, ⟨q2ae_ HO_6.out⟩, ⟨q01a_ HO_8.out⟩, ⟨q01a_ HO_10.out⟩, ⟨q2ae_ HO_65.out⟩, ⟨qf5b_⟩⟩
                ·
                 replace c31 := Bool.eq_false_iff.mpr c31
                 subst c31
                 rw [if_neg nf_] at H
                 exact absurd H (by simp)
               ·
                rw [if_neg c29] at H
                exact absurd H (by simp)
              ·
               replace c28 := Bool.eq_false_iff.mpr c28
               subst c28
               rw [if_neg nf_] at H
               exact absurd H (by simp)
             ·
              rw [if_neg c26] at H
              exact absurd H (by simp)
            ·
             replace c25 := Bool.eq_false_iff.mpr c25
             subst c25
             rw [if_neg nf_] at H
             exact absurd H (by simp)
           ·
            rw [if_neg c23] at H
            exact absurd H (by simp)
          ·
           rw [if_neg c22] at H
           exact absurd H (by simp)
         ·
          rw [if_neg c21] at H
          have c21b0 := decide_eq_false c21
          clear c21
          by_cases c38 : (t382.length : Int) = 0
          ·
           rw [if_pos c38] at H
           exact absurd H (by simp)
          ·
           rw [if_neg c38] at H
           have c38b0 := beq_eq_false_iff_ne.mpr c38
           have c38b1 := bne_iff_ne.mpr c38
           have c38b2 : ¬ (t382 = []) := fun h_ => c38 (by rw [h_]; rfl)
           obtain ⟨ji39, hji39⟩ : ∃ j_ : Int, ((l1.length : Int) % (t382.length : Int)) = j_ := ⟨_, rfl⟩
           replace H : (if 0 ≤ (ji39) then (if (ji39) < (t382.length : Int) then ((impl_PointOfRegion.f k1 ((rd_T33 t382 (ji39)).f0) ((rd_T33 t382 (ji39)).f1)).bind fun bt395 => (if 0 ≤ (Int.tmod (wrap64 ((l1.length : Int) + (l0.length : Int))) (t382.length : Int)) then (if (Int.tmod (wrap64 ((l1.length : Int) + (l0.length : Int))) (t382.length : Int)) < (t382.length : Int) then ((impl_PointOfRegion.f k1 ((rd_T33 t382 (Int.tmod (wrap64 ((l1.length : Int) + (l0.length : Int))) (t382.length : Int))).f0) ((rd_T33 t382 (Int.tmod (wrap64 ((l1.length : Int) + (l0.length : Int))) (t382.length : Int))).f1)).bind fun bt400 => ((impl_PlanesBetween.f k1 bt395.1 bt400.1).bind fun bt404 => (if bt395.2 = true then (if bt400.2 = true then (if bt404.2 = true then (some ((bt404.1 == 0) == ((ji39) == (Int.tmod (wrap64 ((l1.length : Int) + (l0.length : Int))) (t382.length : Int))))) else (none)) else (none)) else (none)))) else (none)) else (none))) else (none)) else (none)) = some r := by first | (rw [hji39] at H; exact H) | (simp only [hji39] at H ⊢; exact H)
           by_cases c40 : 0 ≤ (ji39)
           ·
            rw [if_pos c40] at H
            have c40b0 := decide_eq_true c40
            clear c40
            by_cases c41 : (ji39) < (t382.length : Int)
            ·
             rw [if_pos c41] at H
             have c41b0 := decide_eq_true c41
             clear c41
             obtain ⟨⟨t395, t398⟩, A42, H⟩ := ob_ H
             dsimp only at H
             obtain ⟨ji43, hji43⟩ : ∃ j_ : Int, (Int.tmod (wrap64 ((l1.length : Int) + (l0.length : Int))) (t382.length : Int)) = j_ := ⟨_, rfl⟩
             replace H : (if 0 ≤ (ji43) then (if (ji43) < (t382.length : Int) then ((impl_PointOfRegion.f k1 ((rd_T33 t382 (ji43)).f0) ((rd_T33 t382 (ji43)).f1)).bind fun bt400 => ((impl_PlanesBetween.f k1 t395 bt400.1).bind fun bt404 => (if t398 = true then (if bt400.2 = true then (if bt404.2 = true then (some ((bt404.1 == 0) == ((ji39) == (ji43)))) else (none)) else (none)) else (none)))) else (none)) else (none)) = some r := by first | (rw [hji43] at H; exact H) | (simp only [hji43] at H ⊢; exact H)
             (try rw [hji43] at A42)
             by_cases c44 : 0 ≤ (ji43)
             ·
              rw [if_pos c44] at H
              have c44b0 := decide_eq_true c44
              clear c44
              by_cases c45 : (ji43) < (t382.length : Int)
              ·
               rw [if_pos c45] at H
               have c45b0 := decide_eq_true c45
               clear c45
               obtain ⟨⟨t400, t403⟩, A46, H⟩ := ob_ H
               dsimp only at H
               obtain ⟨⟨t404, t405⟩, A47, H⟩ := ob_ H
               dsimp only at H
               by_cases c48 : t398 = true
               ·
                subst c48
                rw [if_pos rfl] at H
                by_cases c49 : t403 = true
                ·
                 subst c49
                 rw [if_pos rfl] at H
                 by_cases c50 : t405 = true
                 ·
                  subst c50
                  rw [if_pos rfl] at H
                  obtain rfl := Option.some.inj H
                  have p394 : 0 ≤ ((ji39) : Int) := of_decide_eq_true qe84_
                  have q394 : (ji39) < (t382.length : Int) := of_decide_eq_true qe84_
                  obtain ⟨ad394, A394_0, c394_0, A394_1, c394_1, e394, hx394_0, hx394_1, hl394_0, hi394_0, hl394_1, hi394_1⟩ := at_T33 (Kd.N_reads' HO_6.out).2.2 (ji39) p394 q394
                  cases e394
                  obtain ⟨ce394, hce394, hMe394, hcc394⟩ := Kd.N_get HO_6.out z33 (ji39) p394 (by first | exact q394 | exact of_decide_eq_true qe84_ | (have e_ := (Kd.N_reads' HO_6.out).1; omega))
                  obtain ⟨ua394_0, uc394_0, ua394_1, uc394_1, rfl, ul394_0, ge394_0, ul394_1, ge394_1⟩ := k33_openF hMe394
                  have hv394_0 := hcc394 0 _ rfl
                  rw [Nat.add_zero] at hv394_0
                  replace hv394_0 := Option.some.inj (hv394_0.symm.trans hx394_0)
                  injection hv394_0 with hva_ hvn_ hvc_
                  rw [hva_] at ge394_0
                  rw [hvc_] at ul394_0
                  have HL394_0 := Aside0.mk (show Kd.V (Kd.int .i64) 3 _ w.heap.size _ _ ((rd_T33 t382 (ji39)).f0) from Kd.V_mk ul394_0 ge394_0)
                  clear hva_ hvn_ hvc_ ge394_0 ul394_0
                  have hv394_1 := hcc394 1 _ rfl
                  rw [add_field _ _ 1 (by omega)] at hv394_1
                  replace hv394_1 := Option.some.inj (hv394_1.symm.trans hx394_1)
                  injection hv394_1 with hva_ hvn_ hvc_
                  rw [hva_] at ge394_1
                  rw [hvc_] at ul394_1
                  have HL394_1 := Aside0.mk (show Kd.V (Kd.int .i64) 3 _ w.heap.size _ _ ((rd_T33 t382 (ji39)).f1) from Kd.V_mk ul394_1 ge394_1)
                  clear hva_ hvn_ hvc_ ge394_1 ul394_1 hcc394 hce394
                  have HR394_0 := Aside0.mk hi394_0
                  have HC394_0 := Aside0.mk hl394_0
                  clear hi394_0 hl394_0
                  have HR394_1 := Aside0.mk hi394_1
                  have HC394_1 := Aside0.mk hl394_1
                  clear hi394_1 hl394_1
                  replace p394 := eq_true p394
                  replace q394 := eq_true q394
                  go_wp2_with (first | ((with_reducible refine gate_callee (f := 12) rfl ?_); refine goesL_ (some 116) rfl rfl Try.func12 (by kernel_rfl) rfl #[.agg #[.slice A394_0 ((rd_T33 t382 (ji39)).f0).length c394_0, .slice A394_1 ((rd_T33 t382 (ji39)).f1).length c394_1]] rfl (by (try simp only [List.map_toArray, List.map_cons, List.map_nil]); first | done | (simp only [hji39]; rfl) | rfl | (simp only [List.length_drop, List.length_take]; rfl)) ?_; (with_reducible refine (impl_PointOfRegion.calls k1 _ _ ((rd_T33 t382 (ji39)).f0) _ _ ((rd_T33 t382 (ji39)).f1) t395 true _ ?s1 ?s2 ?s3 ?s4 A42.out).mono ?_); (case s1 => exact qe8c_ HR394_0.out); (case s2 => exact HC394_0.out); (case s3 => exact qe8c_ HR394_1.out); (case s4 => exact HC394_1.out); rintro e w51 ⟨v396, rfl, ho0, hb⟩; refine ⟨_, rfl, ?_⟩; replace HO_6 := Aside0.mk (Kd.N_elder' (qfba_ HO_6.out) (Kd.R_base ho0) hb); replace HO_8 := Aside0.mk (Kd.N_elder' (qfba_ HO_8.out) (Kd.R_base ho0) hb); replace HO_10 := Aside0.mk (Kd.N_elder' (qfba_ HO_10.out) (Kd.R_base ho0) hb); replace HO_65 := Aside0.mk (Kd.N_elder' (qfba_ HO_65.out) (Kd.R_base ho0) hb); replace HL394_0 := Aside0.mk (Kd.V_elder' (q16c_ HL394_0.out) (Kd.R_base ho0) hb); replace HL394_1 := Aside0.mk (Kd.V_elder' (q16c_ HL394_1.out) (Kd.R_base ho0) hb); have HO397 := Aside0.mk (Kd.R_lower ho0 (below_size q0c4_)); replace HR394_0 := Aside0.mk (Kd.C_below (q75a_ HR394_0.out) hb); replace HR394_1 := Aside0.mk (Kd.C_below (q75a_ HR394_1.out) hb); replace HB := Aside0.mk (below_step q0c4_ hb); clear hb ho0; have p399 : 0 ≤ ((ji43) : Int) := of_decide_eq_true qe84_; have q399 : (ji43) < (t382.length : Int) := of_decide_eq_true qe84_; obtain ⟨ad399, A399_0, c399_0, A399_1, c399_1, e399, hx399_0, hx399_1, hl399_0, hi399_0, hl399_1, hi399_1⟩ := at_T33 (Kd.N_reads' HO_6.out).2.2 (ji43) p399 q399; obtain rfl : ad394 = ad399 := (by injection e399); obtain ⟨ce399, hce399, hMe399, hcc399⟩ := Kd.N_get HO_6.out z33 (ji43) p399 (by first | exact q399 | exact of_decide_eq_true qe84_ | (have e_ := (Kd.N_reads' HO_6.out).1; omega)); obtain ⟨ua399_0, uc399_0, ua399_1, uc399_1, rfl, ul399_0, ge399_0, ul399_1, ge399_1⟩ := k33_openF hMe399; have hv399_0 := hcc399 0 _ rfl; rw [Nat.add_zero] at hv399_0; replace hv399_0 := Option.some.inj (hv399_0.symm.trans hx399_0); injection hv399_0 with hva_ hvn_ hvc_; rw [hva_] at ge399_0; rw [hvc_] at ul399_0; have HL399_0 := Aside0.mk (show Kd.V (Kd.int .i64) 3 _ w.heap.size _ _ ((rd_T33 t382 (ji43)).f0) from Kd.V_mk ul399_0 ge399_0); clear hva_ hvn_ hvc_ ge399_0 ul399_0; have hv399_1 := hcc399 1 _ rfl; rw [add_field _ _ 1 (by omega)] at hv399_1; replace hv399_1 := Option.some.inj (hv399_1.symm.trans hx399_1); injection hv399_1 with hva_ hvn_ hvc_; rw [hva_] at ge399_1; rw [hvc_] at ul399_1; have HL399_1 := Aside0.mk (show Kd.V (Kd.int .i64) 3 _ w.heap.size _ _ ((rd_T33 t382 (ji43)).f1) from Kd.V_mk ul399_1 ge399_1); clear hva_ hvn_ hvc_ ge399_1 ul399_1; clear hcc399 hce399; have HR399_0 := Aside0.mk hi399_0; have HC399_0 := Aside0.mk hl399_0; clear hi399_0 hl399_0; have HR399_1 := Aside0.mk hi399_1; have HC399_1 := Aside0.mk hl399_1; clear hi399_1 hl399_1; replace p399 := eq_true p399; replace q399 := eq_true q399) | ((with_reducible refine gate_callee (f := 12) rfl ?_); refine goesL_ (some 124) rfl rfl Try.func12 (by kernel_rfl) rfl #[.agg #[.slice A399_0 ((rd_T33 t382 (ji43)).f0).length c399_0, .slice A399_1 ((rd_T33 t382 (ji43)).f1).length c399_1]] rfl (by (try simp only [List.map_toArray, List.map_cons, List.map_nil]); first | done | (simp only [hji43]; rfl) | rfl | (simp only [List.length_drop, List.length_take]; rfl)) ?_; (with_reducible refine (impl_PointOfRegion.calls k1 _ _ ((rd_T33 t382 (ji43)).f0) _ _ ((rd_T33 t382 (ji43)).f1) t400 true _ ?s1 ?s2 ?s3 ?s4 A46.out).mono ?_); (case s1 => exact qe8c_ HR399_0.out); (case s2 => exact HC399_0.out); (case s3 => exact qe8c_ HR399_1.out); (case s4 => exact HC399_1.out); rintro e w52 ⟨v401, rfl, ho0, hb⟩; refine ⟨_, rfl, ?_⟩; have n0_ := Aside0.mk (Kd.N_elder' (qfba_ HO_6.out) (Kd.R_base ho0) hb); have n1_ := Aside0.mk (Kd.N_elder' (qfba_ HO_8.out) (Kd.R_base ho0) hb); have n2_ := Aside0.mk (Kd.N_elder' (qfba_ HO_10.out) (Kd.R_base ho0) hb); have n3_ := Aside0.mk (Kd.N_elder' (qfba_ HO_65.out) (Kd.R_base ho0) hb); have n4_ := Aside0.mk (Kd.V_elder' (q16c_ HL394_0.out) (Kd.R_base ho0) hb); have n5_ := Aside0.mk (Kd.V_elder' (q16c_ HL394_1.out) (Kd.R_base ho0) hb); have n6_ := Aside0.mk (Kd.R_elder' (q9d5_ HO397.out) (Kd.R_base ho0) hb); have n7_ := Aside0.mk (Kd.V_elder' (q16c_ HL399_0.out) (Kd.R_base ho0) hb); have n8_ := Aside0.mk (Kd.V_elder' (q16c_ HL399_1.out) (Kd.R_base ho0) hb); have n9_ := Aside0.mk (Kd.R_lower (Kd.R_new' ho0 (Kd.R_lt (q9d5_ HO397.out))) (below_size q0c4_)); have n10_ := Aside0.mk (Kd.C_below (q75a_ HR394_0.out) hb); have n11_ := Aside0.mk (Kd.C_below (q75a_ HR394_1.out) hb); have n12_ := Aside0.mk (Kd.C_below (q75a_ HR399_0.out) hb); have n13_ := Aside0.mk (Kd.C_below (q75a_ HR399_1.out) hb); have n14_ := Aside0.mk (below_step q0c4_ hb); replace HO_6 := n0_; replace HO_8 := n1_; replace HO_10 := n2_; replace HO_65 := n3_; replace HL394_0 := n4_; replace HL394_1 := n5_; replace HO397 := n6_; replace HL399_0 := n7_; replace HL399_1 := n8_; have HO402 := n9_; replace HR394_0 := n10_; replace HR394_1 := n11_; replace HR399_0 := n12_; replace HR399_1 := n13_; replace HB := n14_; clear n0_ n1_ n2_ n3_ n4_ n5_ n6_ n7_ n8_ n9_ n10_ n11_ n12_ n13_ n14_; clear hb ho0; obtain ⟨Ao53, co53, eo53⟩ := Kd.R_slice HO397.out; subst eo53; obtain ⟨Ao54, co54, eo54⟩ := Kd.R_slice HO402.out; subst eo54) | ((with_reducible refine gate_callee (f := 13) rfl ?_); refine gl_ 130 Try.func13 #[.slice Ao53 t395.length co53, .slice Ao54 t400.length co54] ?_; (with_reducible refine (impl_PlanesBetween.calls k1 _ _ t395 _ _ t400 t404 true _ ?s1 ?s2 ?s3 ?s4 A47.out).mono ?_); (case s1 => exact q5a8_ HO397.out); (case s2 => exact (Kd.R_reads' HO397.out).2.1); (case s3 => exact q5a8_ HO402.out); (case s4 => exact (Kd.R_reads' HO402.out).2.1); rintro e w55 ⟨rfl, hb⟩; refine ⟨_, rfl, ?_⟩; replace HO_6 := Aside0.mk (Kd.N_below (qfba_ HO_6.out) hb); replace HO_8 := Aside0.mk (Kd.N_below (qfba_ HO_8.out) hb); replace HO_10 := Aside0.mk (Kd.N_below (qfba_ HO_10.out) hb); replace HO_65 := Aside0.mk (Kd.N_below (qfba_ HO_65.out) hb); replace HL394_0 := Aside0.mk (Kd.V_below (q16c_ HL394_0.out) hb); replace HL394_1 := Aside0.mk (Kd.V_below (q16c_ HL394_1.out) hb); replace HO397 := Aside0.mk (Kd.R_below (q9d5_ HO397.out) hb); replace HL399_0 := Aside0.mk (Kd.V_below (q16c_ HL399_0.out) hb); replace HL399_1 := Aside0.mk (Kd.V_below (q16c_ HL399_1.out) hb); replace HO402 := Aside0.mk (Kd.R_below (q9d5_ HO402.out) hb); replace HR394_0 := Aside0.mk (Kd.C_below (q75a_ HR394_0.out) hb); replace HR394_1 := Aside0.mk (Kd.C_below (q75a_ HR394_1.out) hb); replace HR399_0 := Aside0.mk (Kd.C_below (q75a_ HR399_0.out) hb); replace HR399_1 := Aside0.mk (Kd.C_below (q75a_ HR399_1.out) hb); replace HB := Aside0.mk (below_step q0c4_ hb); clear hb))
                  go_ret
                  exact ⟨by first | rfl | (simp [errW_none, errW_some] <;> rfl) | (simp only [← hji39, ← hji43]; first | rfl | (simp [errW_none, errW_some] <;> rfl)) | (simp [*, errW_none, errW_some] <;> rfl), q0c4_⟩
                 ·
                  replace c50 := Bool.eq_false_iff.mpr c50
                  subst c50
                  rw [if_neg nf_] at H
                  exact absurd H (by simp)
                ·
                 replace c49 := Bool.eq_false_iff.mpr c49
                 subst c49
                 rw [if_neg nf_] at H
                 exact absurd H (by simp)
               ·
                replace c48 := Bool.eq_false_iff.mpr c48
                subst c48
                rw [if_neg nf_] at H
                exact absurd H (by simp)
              ·
               rw [if_neg c45] at H
               exact absurd H (by simp)
             ·
              rw [if_neg c44] at H
              exact absurd H (by simp)
            ·
             rw [if_neg c41] at H
             exact absurd H (by simp)
           ·
            rw [if_neg c40] at H
            exact absurd H (by simp)
      ·
       rw [if_neg c13] at H
       exact absurd H (by simp)
     ·
      replace c12 := Bool.eq_false_iff.mpr c12
      subst c12
      rw [if_neg nf_] at H
      exact absurd H (by simp)
    ·
     replace c10 := Bool.eq_false_iff.mpr c10
     subst c10
     rw [if_neg nf_] at H
     obtain rfl := Option.some.inj H
     go_enter Try.func3, Try.ntmps3
     go_wp2_with (first | ((with_reducible refine gate_callee (f := 4) rfl ?_); refine gl_ 26 Try.func4 #[.slice A0 l0.length c0, .slice A1 l1.length c1] ?_; (with_reducible refine (laws_big.calls _ _ l0 _ _ l1 false _ ?s1 ?s2 ?s3 ?s4 A3.out).mono ?_); (case s1 => exact q201_ HR0.out); (case s2 => exact HC0.out); (case s3 => exact q201_ HR1.out); (case s4 => exact HC1.out); rintro e w' ⟨rfl, ⟨nd, rfl⟩⟩; refine ⟨_, rfl, ?_⟩) | ((with_reducible refine gate_callee (f := 5) rfl ?_); refine gl_ 28 Try.func5 #[.slice A0 l0.length c0] ?_; (with_reducible refine (spec_DrawAllRegions.calls _ _ l0 t381 _ ?s1 ?s2 A5.out).mono ?_); (case s1 => exact q201_ HR0.out); (case s2 => exact HC0.out); rintro e w56 ⟨rfl, hb⟩; refine ⟨_, rfl, ?_⟩; replace HB := Aside0.mk (below_step q0c4_ hb); clear hb) | ((with_reducible refine gate_callee (f := 6) rfl ?_); refine gl_ 31 Try.func6 #[.int .i64 t381] ?_; (with_reducible refine (impl_AllRegions.calls k t381 t382 t383 _ A6.out).mono ?_); rintro e w57 ⟨v384, rfl, ho0, hb⟩; refine ⟨_, rfl, ?_⟩; have HO385 := Aside0.mk (Kd.N_lower (Kd.N_mono (ok' := fun k_ => True) (Kd.S_N (Kd.S_bound ho0)) (fun k_ hk_ => trivial)) (below_size q0c4_)); replace HB := Aside0.mk (below_step q0c4_ hb); clear hb ho0) | ((with_reducible refine gate_callee (f := 7) rfl ?_); refine gl_ 36 Try.func7 #[.int .i64 t381] ?_; (with_reducible refine (spec_AllRegions.calls k t381 t386 false _ A7.out).mono ?_); rintro e w58 ⟨v387, rfl, ho0, hb⟩; refine ⟨_, rfl, ?_⟩; have n0_ := Aside0.mk (Kd.N_elder' (qfba_ HO385.out) (by first | exact Kd.N_base ho0 | exact Kd.S_base ho0) hb); have n1_ := Aside0.mk (Kd.N_lower (Kd.N_mono (ok' := fun k_ => some k_ ≠ (v384 : Value).ownBlock) ho0 (fun k_ hk_ => (Kd.fresh' (Kd.N_lt (qfba_ HO385.out)) k_ hk_))) (below_size q0c4_)); have n2_ := Aside0.mk (below_step q0c4_ hb); replace HO385 := n0_; have HO388 := n1_; replace HB := n2_; clear n0_ n1_ n2_; clear hb ho0; obtain ⟨Ao59, co59, eo59⟩ := Kd.N_slice HO385.out; subst eo59; obtain ⟨Ao60, co60, eo60⟩ := Kd.N_slice HO388.out; subst eo60))
     go_ret
     exact ⟨qce7_, q0c4_⟩
   ·
    rw [if_neg c9] at H
    exact absurd H (by simp)

/-- THE ONE PURE STATEMENT of laws_FnAllRegionsListed: yours. -/
def laws_FnAllRegionsListed.Pure : Prop := ∀ (l0 : List Int) (l1 : List Int), l0.length ≤ maxLen → l0.length * 1 ≤ 140737488351232 → (∀ x ∈ l0, (Lit.int .u8 x).wf = true) → l1.length ≤ maxLen → l1.length * 1 ≤ 140737488351232 → (∀ x ∈ l1, (Lit.int .u8 x).wf = true) → ∃ k, laws_FnAllRegionsListed.f k l0 l1 = some true
theorem laws_FnAllRegionsListed.walk (P : laws_FnAllRegionsListed.Pure) (a0 : Option Addr) (len0 cap0 : Nat) (z0 : List Int) (a1 : Option Addr) (len1 cap1 : Nat) (z1 : List Int) (w : World) (w0 : (a0 = none ∧ len0 = 0 ∧ cap0 = 0 ∧ z0 = []) ∨ ∃ x, a0 = some x ∧ len0 ≤ cap0 ∧ cap0 ≤ maxLen ∧ z0.length = cap0 ∧ (∀ i, i < z0.length → w.cell? (x.add i) = some (.int .u8 (z0.getD i 0))) ∧ ∀ n ∈ z0, (Lit.int .u8 n).wf = true) (y0 : len0 * 1 ≤ 140737488351232) (w1 : (a1 = none ∧ len1 = 0 ∧ cap1 = 0 ∧ z1 = []) ∨ ∃ x, a1 = some x ∧ len1 ≤ cap1 ∧ cap1 ≤ maxLen ∧ z1.length = cap1 ∧ (∀ i, i < z1.length → w.cell? (x.add i) = some (.int .u8 (z1.getD i 0))) ∧ ∀ n ∈ z1, (Lit.int .u8 n).wf = true) (y1 : len1 * 1 ≤ 140737488351232) :
  Calls Try.prog 3 #[.slice a0 len0 cap0, .slice a1 len1 cap1] w fun e w' => e = .returned (.bool true) ∧ Below w.heap.size w w' := by
 obtain ⟨l0, rfl, hr0, hm0, hw0, hc0⟩ := ReadsInt.ofRowC w0
 obtain ⟨l1, rfl, hr1, hm1, hw1, hc1⟩ := ReadsInt.ofRowC w1
 obtain ⟨k, h⟩ := P l0 l1 hm0 y0 hw0 hm1 y1 hw1
 refine (laws_FnAllRegionsListed.calls k _ _ l0 _ _ l1 true w (Kd.C_of_reads (d := (0 : Int)) (h1 := fun _ => rfl) hr0) hc0 (Kd.C_of_reads (d := (0 : Int)) (h1 := fun _ => rfl) hr1) hc1 h).mono ?_
 rintro e w' ⟨rfl, hd⟩
 exact ⟨rfl, hd⟩

end Go.Proofs.Ythanbhbibjnmjaa.PAll
