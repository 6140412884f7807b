-- written by a program of this session (wip/gen/xpatch.py over the translation); Lean checks it
import Derived.Test.YtgfedgnpffockaaPAllx0
import Derived.Test.YtgfedgnpffockaaPAllx1
import Derived.Test.YtgfedgnpffockaaPAllx2
namespace Go.Proofs.Ytgfedgnpffockaa.PAll
open Go.RowKit Go.Proofs.Ytgfedgnpffockaa.Hand Go.Proofs.YtgfedgnpffockaaW.PrintWords Go.Proofs.YtgfedgnpffockaaW.PrintLast Go.Proofs.YtgfedgnpffockaaW.PrintMore
attribute [local go_sem] max2_int min2_int max_two min_two max_three min_three max_four min_four   -- for this text's walks alone
set_option maxHeartbeats 8000000
set_option maxRecDepth 100000
set_option linter.unusedVariables false
set_option linter.unusedSimpArgs false

/-! ### spec_PlanesBetween: function 7 -/
mutual
def spec_PlanesBetween.j0 : Nat → List Int → List Int → Bool → Option (Int × Bool)
 | 0, _, _, _ => none
 | k + 1, x0, x1, x25 => if x25 = true then (some (0, false)) else (spec_PlanesBetween.l0 k x0 x1 0 (x0.length : Int) 0)
def spec_PlanesBetween.l0 : Nat → List Int → List Int → Int → Int → Int → Option (Int × Bool)
 | 0, _, _, _, _, _ => none
 | k + 1, x0, x1, x6, x27, x28 => if x28 < x27 then (spec_PlanesBetween.l1 k x0 x1 x6 x28 (wrap64 (x28 + 1)) x27 x28) else (some (x6, true))
def spec_PlanesBetween.l1 : Nat → List Int → List Int → Int → Int → Int → Int → Int → Option (Int × Bool)
 | 0, _, _, _, _, _, _, _ => none
 | k + 1, x0, x1, x6, x7, x8, x27, x28 => if x8 < (x0.length : Int) then ((some (([0, 100] : List Int) : List Int)).bind fun y202 => (spec_PlanesBetween.l2 k x0 x1 x6 x7 x8 x27 x28 y202 (y202.length : Int) 0)) else (spec_PlanesBetween.l0 k x0 x1 x6 x27 (wrap64 (x28 + 1)))
def spec_PlanesBetween.l2 : Nat → List Int → List Int → Int → Int → Int → Int → Int → List Int → Int → Int → Option (Int × Bool)
 | 0, _, _, _, _, _, _, _, _, _, _ => none
 | k + 1, x0, x1, x6, x7, x8, x27, x28, x39, x40, x41 => if x41 < x40 then (if 0 ≤ x41 then (if x41 < (x39.length : Int) then (if 0 ≤ x7 then (if x7 < (x0.length : Int) then (if 0 ≤ x8 then (if x8 < (x0.length : Int) then (if x7 < (x1.length : Int) then (if x8 < (x1.length : Int) then (if ((decide ((wrap64 ((rd x0 x7) - (rd x0 x8))) > (rd x39 x41))) != (decide ((wrap64 ((rd x1 x7) - (rd x1 x8))) > (rd x39 x41)))) = true then (spec_PlanesBetween.l2 k x0 x1 (wrap64 (x6 + 1)) x7 x8 x27 x28 x39 x40 (wrap64 (x41 + 1))) else (spec_PlanesBetween.l2 k x0 x1 x6 x7 x8 x27 x28 x39 x40 (wrap64 (x41 + 1)))) else (none)) else (none)) else (none)) else (none)) else (none)) else (none)) else (none)) else (none)) else (spec_PlanesBetween.l1 k x0 x1 x6 x7 (wrap64 (x8 + 1)) x27 x28)
end
def spec_PlanesBetween.f (k : Nat) (l0 : List Int) (l1 : List Int) : Option (Int × Bool) := (spec_rePoint.f k l0).bind fun t200 => (if t200 = true then ((spec_rePoint.f k l1).bind fun t201 => (if t201 = true then (spec_PlanesBetween.j0 k l0 l1 ((l0.length : Int) != (l1.length : Int))) else (spec_PlanesBetween.j0 k l0 l1 true))) else (spec_PlanesBetween.j0 k l0 l1 true))
theorem spec_PlanesBetween.mono_l : ∀ k, (∀ y0 y1 y2, LeO (spec_PlanesBetween.j0 k y0 y1 y2) (spec_PlanesBetween.j0 (k + 1) y0 y1 y2)) ∧ (∀ y0 y1 y2 y3 y4, LeO (spec_PlanesBetween.l0 k y0 y1 y2 y3 y4) (spec_PlanesBetween.l0 (k + 1) y0 y1 y2 y3 y4)) ∧ (∀ y0 y1 y2 y3 y4 y5 y6, LeO (spec_PlanesBetween.l1 k y0 y1 y2 y3 y4 y5 y6) (spec_PlanesBetween.l1 (k + 1) y0 y1 y2 y3 y4 y5 y6)) ∧ (∀ y0 y1 y2 y3 y4 y5 y6 y7 y8 y9, LeO (spec_PlanesBetween.l2 k y0 y1 y2 y3 y4 y5 y6 y7 y8 y9) (spec_PlanesBetween.l2 (k + 1) y0 y1 y2 y3 y4 y5 y6 y7 y8 y9))
 | 0 => ⟨fun _ _ _ r h => by simp [spec_PlanesBetween.j0] at h, fun _ _ _ _ _ r h => by simp [spec_PlanesBetween.l0] at h, fun _ _ _ _ _ _ _ r h => by simp [spec_PlanesBetween.l1] at h, fun _ _ _ _ _ _ _ _ _ _ r h => by simp [spec_PlanesBetween.l2] at h⟩
 | k + 1 => by
  obtain ⟨ih0, ih1, ih2, ih3⟩ := spec_PlanesBetween.mono_l k
  refine ⟨?_, ?_, ?_, ?_⟩
  ·
   intro y0 y1 y2
   unfold spec_PlanesBetween.j0
   repeat' (with_reducible first | exact ih0 _ _ _ | exact ih1 _ _ _ _ _ | exact ih2 _ _ _ _ _ _ _ | exact ih3 _ _ _ _ _ _ _ _ _ _ | exact spec_rePoint.mono _ _ | exact LeO.refl _ | exact LeO.none _ | refine LeO.ite ?_ ?_ | refine LeO.bind ?_ (fun _ => ?_))
  ·
   intro y0 y1 y2 y3 y4
   unfold spec_PlanesBetween.l0
   repeat' (with_reducible first | exact ih0 _ _ _ | exact ih1 _ _ _ _ _ | exact ih2 _ _ _ _ _ _ _ | exact ih3 _ _ _ _ _ _ _ _ _ _ | exact spec_rePoint.mono _ _ | exact LeO.refl _ | exact LeO.none _ | refine LeO.ite ?_ ?_ | refine LeO.bind ?_ (fun _ => ?_))
  ·
   intro y0 y1 y2 y3 y4 y5 y6
   unfold spec_PlanesBetween.l1
   repeat' (with_reducible first | exact ih0 _ _ _ | exact ih1 _ _ _ _ _ | exact ih2 _ _ _ _ _ _ _ | exact ih3 _ _ _ _ _ _ _ _ _ _ | exact spec_rePoint.mono _ _ | exact LeO.refl _ | exact LeO.none _ | refine LeO.ite ?_ ?_ | refine LeO.bind ?_ (fun _ => ?_))
  ·
   intro y0 y1 y2 y3 y4 y5 y6 y7 y8 y9
   unfold spec_PlanesBetween.l2
   repeat' (with_reducible first | exact ih0 _ _ _ | exact ih1 _ _ _ _ _ | exact ih2 _ _ _ _ _ _ _ | exact ih3 _ _ _ _ _ _ _ _ _ _ | exact spec_rePoint.mono _ _ | exact LeO.refl _ | exact LeO.none _ | refine LeO.ite ?_ ?_ | refine LeO.bind ?_ (fun _ => ?_))
theorem spec_PlanesBetween.mono : ∀ a0 a1 k, LeO (spec_PlanesBetween.f k a0 a1) (spec_PlanesBetween.f (k + 1) a0 a1) := by
 intro a0 a1 k
 obtain ⟨ih0, ih1, ih2, ih3⟩ := spec_PlanesBetween.mono_l k
 unfold spec_PlanesBetween.f
 repeat' (with_reducible first | exact ih0 _ _ _ | exact ih1 _ _ _ _ _ | exact ih2 _ _ _ _ _ _ _ | exact ih3 _ _ _ _ _ _ _ _ _ _ | exact spec_rePoint.mono _ _ | exact LeO.refl _ | exact LeO.none _ | refine LeO.ite ?_ ?_ | refine LeO.bind ?_ (fun _ => ?_))
theorem spec_PlanesBetween.calls (k : Nat) (A0 : Option Addr) (c0 : Nat) (l0 : List Int) (A1 : Option Addr) (c1 : Nat) (l1 : List Int) (r1 : Int) (r2 : Bool) (w : World) (hr0 : Kd.C (Kd.int .i64) w A0 l0.length l0) (hc0 : l0.length ≤ c0) (hr1 : Kd.C (Kd.int .i64) w A1 l1.length l1) (hc1 : l1.length ≤ c1) (h : spec_PlanesBetween.f k l0 l1 = some (r1, r2)) :
  Calls Try.prog 7 #[.slice A0 l0.length c0, .slice A1 l1.length c1] w fun e w' => e = .returned (.tuple #[.int .i64 r1, .bool r2]) ∧ Below w.heap.size w w' := by
 have HR0 := Aside0.mk hr0
 have HC0 := Aside0.mk hc0
 clear hr0 hc0
 have HR1 := Aside0.mk hr1
 have HC1 := Aside0.mk hc1
 clear hr1 hc1
 have HB := Aside0.mk (Below.refl w.heap.size w)
 unfold spec_PlanesBetween.f at h
 have H := h; clear h
 have HC3 := Aside0.mk H
 clear H
 go_enter Try.func7, Try.ntmps7
 go_upto_region 1 with (fail)
 repeat (go_quiet (fail); try go_upto_region 1 with (fail))
 go_cut [25] (fun v25 wc => ∃ (kq : Nat) (x25_2 : Bool), v25 = .bool x25_2 ∧ Aside0 (spec_PlanesBetween.j0 kq l0 l1 x25_2 = some (r1, r2)) ∧ Aside0 (kq ≤ k) ∧ Aside0 (Below w.heap.size w wc))
 case first =>
  have H := HC3.out
  clear HC3
  obtain ⟨t200, A4, H⟩ := ob_ H
  by_cases c5 : t200 = true
  ·
   subst c5
   rw [if_pos rfl] at H
   obtain ⟨t201, A6, H⟩ := ob_ H
   by_cases c7 : t201 = true
   ·
    subst c7
    rw [if_pos rfl] at H
    have H' := Aside0.mk H
    clear H; have zz_ := trivial
    repeat (clear zz_; go_wp2_with (first | (go_at_call 22; (with_reducible refine (spec_rePoint.calls k _ _ l0 true _ ?s1 ?s2 A4.out).mono ?_); (case s1 => exact qe02_ HR0.out); (case s2 => exact HC0.out); rintro e w' ⟨rfl, ⟨nd, rfl⟩⟩; (try exact q447_)) | (go_at_call 22; (with_reducible refine (spec_rePoint.calls k _ _ l1 true _ ?s1 ?s2 A6.out).mono ?_); (case s1 => exact q749_ HR1.out); (case s2 => exact HC1.out); rintro e w' ⟨rfl, ⟨nd, rfl⟩⟩; (try exact q447_))); try (go_quiet (first | (go_at_call 22; (with_reducible refine (spec_rePoint.calls k _ _ l0 true _ ?s1 ?s2 A4.out).mono ?_); (case s1 => exact qe02_ HR0.out); (case s2 => exact HC0.out); rintro e w' ⟨rfl, ⟨nd, rfl⟩⟩; (try exact q447_)) | (go_at_call 22; (with_reducible refine (spec_rePoint.calls k _ _ l1 true _ ?s1 ?s2 A6.out).mono ?_); (case s1 => exact q749_ HR1.out); (case s2 => exact HC1.out); rintro e w' ⟨rfl, ⟨nd, rfl⟩⟩; (try exact q447_))); have zz_ := trivial))
    go_meet
    case rel => exact ⟨_, (((l0.length : Int) != (l1.length : Int))), qc8f_, H', ⟨q821_⟩, ⟨q0c4_⟩⟩
   ·
    replace c7 := Bool.eq_false_iff.mpr c7
    subst c7
    rw [if_neg nf_] at H
    have H' := Aside0.mk H
    clear H; have zz_ := trivial
    repeat (clear zz_; go_wp2_with (first | (go_at_call 22; (with_reducible refine (spec_rePoint.calls k _ _ l0 true _ ?s1 ?s2 A4.out).mono ?_); (case s1 => exact qe02_ HR0.out); (case s2 => exact HC0.out); rintro e w' ⟨rfl, ⟨nd, rfl⟩⟩; (try exact q447_)) | (go_at_call 22; (with_reducible refine (spec_rePoint.calls k _ _ l1 false _ ?s1 ?s2 A6.out).mono ?_); (case s1 => exact q749_ HR1.out); (case s2 => exact HC1.out); rintro e w' ⟨rfl, ⟨nd, rfl⟩⟩; (try exact q447_))); try (go_quiet (first | (go_at_call 22; (with_reducible refine (spec_rePoint.calls k _ _ l0 true _ ?s1 ?s2 A4.out).mono ?_); (case s1 => exact qe02_ HR0.out); (case s2 => exact HC0.out); rintro e w' ⟨rfl, ⟨nd, rfl⟩⟩; (try exact q447_)) | (go_at_call 22; (with_reducible refine (spec_rePoint.calls k _ _ l1 false _ ?s1 ?s2 A6.out).mono ?_); (case s1 => exact q749_ HR1.out); (case s2 => exact HC1.out); rintro e w' ⟨rfl, ⟨nd, rfl⟩⟩; (try exact q447_))); have zz_ := trivial))
    go_meet
    case rel => exact ⟨_, (true), qc8f_, H', ⟨q821_⟩, ⟨q0c4_⟩⟩
  ·
   replace c5 := Bool.eq_false_iff.mpr c5
   subst c5
   rw [if_neg nf_] at H
   have H' := Aside0.mk H
   clear H; have zz_ := trivial
   repeat (clear zz_; go_wp2_with (first | (go_at_call 22; (with_reducible refine (spec_rePoint.calls k _ _ l0 false _ ?s1 ?s2 A4.out).mono ?_); (case s1 => exact qe02_ HR0.out); (case s2 => exact HC0.out); rintro e w' ⟨rfl, ⟨nd, rfl⟩⟩; (try exact q447_))); try (go_quiet ((go_at_call 22; (with_reducible refine (spec_rePoint.calls k _ _ l0 false _ ?s1 ?s2 A4.out).mono ?_); (case s1 => exact qe02_ HR0.out); (case s2 => exact HC0.out); rintro e w' ⟨rfl, ⟨nd, rfl⟩⟩; (try exact q447_))); have zz_ := trivial))
   go_meet
   case rel => exact ⟨_, (true), qc8f_, H', ⟨q821_⟩, ⟨q0c4_⟩⟩
 case rest =>
  clear HC3; try clear c1; try clear p2; try clear c5; try clear c7
  obtain ⟨kq, x25_2, rfl, HA, HJ2, HB⟩ := hcut
  cases kq with
  | zero => exact absurd HA.out (by simp [spec_PlanesBetween.j0])
  | succ kj2 =>
   have H := HA.out
   clear HA
   simp only [spec_PlanesBetween.j0] at H
   by_cases c8 : x25_2 = true
   ·
    subst c8
    rw [if_pos rfl] at H
    simp only [Option.some.injEq, Prod.mk.injEq] at H
    obtain ⟨rfl, rfl⟩ := H
    go_wp2
    repeat (go_quiet (fail); try go_wp2)
    go_ret2
    exact ⟨qce7_, q0c4_⟩
   ·
    replace c8 := Bool.eq_false_iff.mpr c8
    subst c8
    rw [if_neg nf_] at H
    have H' := Aside0.mk H
    clear H
    go_wp2
    repeat (go_quiet (fail); try go_wp2)
    go_loopg [6, 28] kj2 (fun kq v6 v28 w' => ∃ (x6_2 : Int) (x28_2 : Int), v6 = .int .i64 x6_2 ∧ v28 = .int .i64 x28_2 ∧ Aside0 (spec_PlanesBetween.l0 kq l0 l1 x6_2 (l0.length : Int) x28_2 = some (r1, r2)) ∧ Aside0 (kq ≤ kj2) ∧ Aside0 (Below w.heap.size w w'))
    case atStart => exact ⟨(0), (0), qc8f_, qc8f_, H', ⟨Nat.le_refl _⟩, ⟨q0c4_⟩⟩
    case round =>
     clear H'; try clear c1; try clear p2; try clear c5; try clear c7; try clear c8; try clear p2
     obtain ⟨x6_2, x28_2, rfl, rfl, HA, HK2, HB⟩ := hrel
     cases gk with
     | zero => exact absurd HA.out (by simp [spec_PlanesBetween.l0])
     | succ k2 =>
      have H := HA.out
      clear HA
      simp only [spec_PlanesBetween.l0] at H
      by_cases c9 : x28_2 < (l0.length : Int)
      ·
       rw [if_pos c9] at H
       have c9b0 := decide_eq_true c9
       clear c9
       have H' := Aside0.mk H
       clear H
       go_wp2
       repeat (go_quiet (fail); try go_wp2)
       go_loopg [6, 8] k2 (fun kq v6 v8 w' => ∃ (x6_3 : Int) (x8_3 : Int), v6 = .int .i64 x6_3 ∧ v8 = .int .i64 x8_3 ∧ Aside0 (spec_PlanesBetween.l1 kq l0 l1 x6_3 x28_2 x8_3 (l0.length : Int) x28_2 = some (r1, r2)) ∧ Aside0 (kq ≤ k2) ∧ Aside0 (Below w.heap.size w w'))
       case atStart => exact ⟨(x6_2), (wrap64 (x28_2 + 1)), qc8f_, qc8f_, H', ⟨Nat.le_refl _⟩, ⟨q0c4_⟩⟩
       case round =>
        clear H'; try clear c1; try clear p2; try clear c5; try clear p6; try clear c7; try clear c8; try clear c9; try clear c9b0; try clear p2
        obtain ⟨x6_3, x8_3, rfl, rfl, HA, HK3, HB⟩ := hrel
        cases gk with
        | zero => exact absurd HA.out (by simp [spec_PlanesBetween.l1])
        | succ k3 =>
         have H := HA.out
         clear HA
         simp only [spec_PlanesBetween.l1] at H
         by_cases c10 : x8_3 < (l0.length : Int)
         ·
          rw [if_pos c10] at H
          have c10b0 := decide_eq_true c10
          clear c10
          obtain ⟨y202, hy202⟩ : ∃ y_ : List Int, y_ = (([0, 100] : List Int)) := ⟨_, rfl⟩
          replace H : (spec_PlanesBetween.l2 k3 l0 l1 x6_3 x28_2 x8_3 (l0.length : Int) x28_2 y202 (y202.length : Int) 0) = some (r1, r2) := by first | (rw [hy202]; with_reducible exact H) | (have H2_ := (Option.bind_some _ _).symm.trans H; rw [hy202]; with_reducible exact H2_) | (have H2_ := (Option.bind_some _ _).symm.trans H; with_reducible exact H2_) | with_reducible exact H | (rw [hy202]; exact H) | exact H
          have Ny202 := Aside0.mk hy202
          clear hy202
          have H' := Aside0.mk H
          clear H; have zz_ := trivial
          repeat (clear zz_; go_wp2_with (first | ((with_reducible refine gate_dst (N := 39) rfl ?_); (try (refine gate_guard (by rfl) ?_; dsimp only)); refine Kd.R_lit (Kd.int .i64) _ 3 ?hg (N := 39) ?hd (xs := ([0, 100] : List Int)) (inner := [.int .i64 0, .int .i64 100]) (ok := fun _ => True) (okp := fun _ => True) ?hr ?hp (fun _ hk => hk) trivial (Below.refl _ _) (Nat.le_refl _) (by simp) ?_; (case hd => rfl); (case hg => rfl); (case hr => exact qfba_); (case hp => exact (Reps.one (show Kd.M (Kd.int .i64) _ _ _ 0 [.int .i64 0] from rfl) (Reps.one (show Kd.M (Kd.int .i64) _ _ _ 100 [.int .i64 100] from rfl) (Reps.none _ _)))); intro v203 w11 ho12 hb hg_ hnew_; clear hg_ hnew_; (first | rw [← Ny202.out] at ho12 | (simp only [Int.reduceToNat] at ho12; rw [← Ny202.out] at ho12)); have HO204 := Aside0.mk (Kd.R_lower ho12 (below_size q0c4_)); replace HB := Aside0.mk (below_step q0c4_ hb); clear hb ho12; obtain ⟨Ao13, co13, eo13⟩ := Kd.R_slice HO204.out; subst eo13)); try (go_quiet (fail); have zz_ := trivial))
          go_loopg [6, 41] k3 (fun kq v6 v41 w' => ∃ (x6_4 : Int) (x41_4 : Int), v6 = .int .i64 x6_4 ∧ v41 = .int .i64 x41_4 ∧ Aside0 (spec_PlanesBetween.l2 kq l0 l1 x6_4 x28_2 x8_3 (l0.length : Int) x28_2 y202 (y202.length : Int) x41_4 = some (r1, r2)) ∧ Aside0 (kq ≤ k3) ∧ Aside0 (Kd.R (Kd.int .i64) 3 w' w.heap.size (fun _ => True) (.slice Ao13 y202.length co13) y202) ∧ Aside0 (Below w.heap.size w w'))
          case atStart => exact ⟨(x6_3), (0), qc8f_, qc8f_, H', ⟨Nat.le_refl _⟩, ⟨q9d5_ HO204.out⟩, ⟨q0c4_⟩⟩
          case round =>
           clear H'; try clear c1; try clear p2; try clear c5; try clear p6; try clear c7; try clear c8; try clear c9; try clear c9b0; try clear c10; try clear c10b0; try clear p2; try clear p6
           obtain ⟨x6_4, x41_4, rfl, rfl, HA, HK4, HO_39, HB⟩ := hrel
           cases gk with
           | zero => exact absurd HA.out (by simp [spec_PlanesBetween.l2])
           | succ k4 =>
            have H := HA.out
            clear HA
            simp only [spec_PlanesBetween.l2] at H
            by_cases c14 : x41_4 < (y202.length : Int)
            ·
             rw [if_pos c14] at H
             have c14b0 := decide_eq_true c14
             clear c14
             by_cases c15 : 0 ≤ x41_4
             ·
              rw [if_pos c15] at H
              have c15b0 := decide_eq_true c15
              clear c15
              by_cases c16 : x41_4 < (y202.length : Int)
              ·
               rw [if_pos c16] at H
               have c16b0 := decide_eq_true c16
               clear c16
               by_cases c17 : 0 ≤ x28_2
               ·
                rw [if_pos c17] at H
                have c17b0 := decide_eq_true c17
                clear c17
                by_cases c18 : x28_2 < (l0.length : Int)
                ·
                 rw [if_pos c18] at H
                 have c18b0 := decide_eq_true c18
                 clear c18
                 by_cases c19 : 0 ≤ x8_3
                 ·
                  rw [if_pos c19] at H
                  have c19b0 := decide_eq_true c19
                  clear c19
                  by_cases c20 : x8_3 < (l0.length : Int)
                  ·
                   rw [if_pos c20] at H
                   have c20b0 := decide_eq_true c20
                   clear c20
                   by_cases c21 : x28_2 < (l1.length : Int)
                   ·
                    rw [if_pos c21] at H
                    have c21b0 := decide_eq_true c21
                    clear c21
                    by_cases c22 : x8_3 < (l1.length : Int)
                    ·
                     rw [if_pos c22] at H
                     have c22b0 := decide_eq_true c22
                     clear c22
                     by_cases c23 : ((decide ((wrap64 ((rd l0 x28_2) - (rd l0 x8_3))) > (rd y202 x41_4))) != (decide ((wrap64 ((rd l1 x28_2) - (rd l1 x8_3))) > (rd y202 x41_4)))) = true
                     ·
                      rw [if_pos c23] at H
                      have c23b0 : ((decide ((wrap64 ((rd l0 x28_2) - (rd l0 x8_3))) > (rd y202 x41_4))) != (decide ((wrap64 ((rd l1 x28_2) - (rd l1 x8_3))) > (rd y202 x41_4)))) = true := c23
                      (try (have c23b1 : decide ((decide ((wrap64 ((rd l0 x28_2) - (rd l0 x8_3))) > (rd y202 x41_4))) = (decide ((wrap64 ((rd l1 x28_2) - (rd l1 x8_3))) > (rd y202 x41_4)))) = false := by simpa using c23))
                      (try (have c23b2 : ((decide ((wrap64 ((rd l0 x28_2) - (rd l0 x8_3))) > (rd y202 x41_4))) == (decide ((wrap64 ((rd l1 x28_2) - (rd l1 x8_3))) > (rd y202 x41_4)))) = false := by simpa using c23))
                      (try (have c23b3 : ¬ ((decide ((wrap64 ((rd l0 x28_2) - (rd l0 x8_3))) > (rd y202 x41_4))) = (decide ((wrap64 ((rd l1 x28_2) - (rd l1 x8_3))) > (rd y202 x41_4)))) := by simpa using c23))
                      clear c23
                      have H' := Aside0.mk H
                      clear H
                      have p205 : 0 ≤ (x41_4 : Int) := of_decide_eq_true qe84_
                      have q205 : x41_4 < (y202.length : Int) := of_decide_eq_true qe84_
                      obtain ⟨ad205, e205, hx205_0⟩ := Kd.at_int (Kd.R_reads' HO_39.out).2.2 x41_4 p205 q205
                      cases e205
                      replace p205 := eq_true p205
                      replace q205 := eq_true q205
                      have p206 : 0 ≤ (x28_2 : Int) := of_decide_eq_true qe84_
                      have q206 : x28_2 < (l0.length : Int) := of_decide_eq_true qe84_
                      obtain ⟨ad206, e206, hx206_0⟩ := Kd.at_int HR0.out x28_2 p206 q206
                      cases e206
                      (try (replace hx206_0 := (HB.out.cell (World.block_lt_of_cell? w _ hx206_0)).trans hx206_0))
                      replace p206 := eq_true p206
                      replace q206 := eq_true q206
                      have p207 : 0 ≤ (x8_3 : Int) := of_decide_eq_true qe84_
                      have q207 : x8_3 < (l0.length : Int) := of_decide_eq_true qe84_
                      obtain ⟨ad207, e207, hx207_0⟩ := Kd.at_int HR0.out x8_3 p207 q207
                      obtain rfl : ad206 = ad207 := (by injection e207)
                      (try (replace hx207_0 := (HB.out.cell (World.block_lt_of_cell? w _ hx207_0)).trans hx207_0))
                      replace p207 := eq_true p207
                      replace q207 := eq_true q207
                      have p208 : 0 ≤ (x28_2 : Int) := of_decide_eq_true qe84_
                      have q208 : x28_2 < (l1.length : Int) := of_decide_eq_true qe84_
                      obtain ⟨ad208, e208, hx208_0⟩ := Kd.at_int HR1.out x28_2 p208 q208
                      cases e208
                      (try (replace hx208_0 := (HB.out.cell (World.block_lt_of_cell? w _ hx208_0)).trans hx208_0))
                      replace p208 := eq_true p208
                      replace q208 := eq_true q208
                      have p209 : 0 ≤ (x8_3 : Int) := of_decide_eq_true qe84_
                      have q209 : x8_3 < (l1.length : Int) := of_decide_eq_true qe84_
                      obtain ⟨ad209, e209, hx209_0⟩ := Kd.at_int HR1.out x8_3 p209 q209
                      obtain rfl : ad208 = ad209 := (by injection e209)
                      (try (replace hx209_0 := (HB.out.cell (World.block_lt_of_cell? w _ hx209_0)).trans hx209_0))
                      replace p209 := eq_true p209
                      replace q209 := eq_true q209
                      go_wp2
                      repeat (go_quiet (fail); try go_wp2)
                      go_roundg k4
                      case measure => have := HJ2.out; have := HK2.out; have := HK3.out; have := HK4.out; omega
                      case rel => exact ⟨(wrap64 (x6_4 + 1)), (wrap64 (x41_4 + 1)), qc8f_, qc8f_, H', ⟨by have := HJ2.out; have := HK2.out; have := HK3.out; have := HK4.out; omega⟩, ⟨q9d5_ HO_39.out⟩, ⟨q0c4_⟩⟩
                     ·
                      rw [if_neg c23] at H
                      have c23b0 : ((decide ((wrap64 ((rd l0 x28_2) - (rd l0 x8_3))) > (rd y202 x41_4))) != (decide ((wrap64 ((rd l1 x28_2) - (rd l1 x8_3))) > (rd y202 x41_4)))) = false := by simpa using c23
                      (try (have c23b1 : decide ((decide ((wrap64 ((rd l0 x28_2) - (rd l0 x8_3))) > (rd y202 x41_4))) = (decide ((wrap64 ((rd l1 x28_2) - (rd l1 x8_3))) > (rd y202 x41_4)))) = true := by simpa using c23))
                      (try (have c23b2 : ((decide ((wrap64 ((rd l0 x28_2) - (rd l0 x8_3))) > (rd y202 x41_4))) == (decide ((wrap64 ((rd l1 x28_2) - (rd l1 x8_3))) > (rd y202 x41_4)))) = true := by simpa using c23))
                      clear c23
                      have H' := Aside0.mk H
                      clear H
                      have p205 : 0 ≤ (x41_4 : Int) := of_decide_eq_true qe84_
                      have q205 : x41_4 < (y202.length : Int) := of_decide_eq_true qe84_
                      obtain ⟨ad205, e205, hx205_0⟩ := Kd.at_int (Kd.R_reads' HO_39.out).2.2 x41_4 p205 q205
                      cases e205
                      replace p205 := eq_true p205
                      replace q205 := eq_true q205
                      have p206 : 0 ≤ (x28_2 : Int) := of_decide_eq_true qe84_
                      have q206 : x28_2 < (l0.length : Int) := of_decide_eq_true qe84_
                      obtain ⟨ad206, e206, hx206_0⟩ := Kd.at_int HR0.out x28_2 p206 q206
                      cases e206
                      (try (replace hx206_0 := (HB.out.cell (World.block_lt_of_cell? w _ hx206_0)).trans hx206_0))
                      replace p206 := eq_true p206
                      replace q206 := eq_true q206
                      have p207 : 0 ≤ (x8_3 : Int) := of_decide_eq_true qe84_
                      have q207 : x8_3 < (l0.length : Int) := of_decide_eq_true qe84_
                      obtain ⟨ad207, e207, hx207_0⟩ := Kd.at_int HR0.out x8_3 p207 q207
                      obtain rfl : ad206 = ad207 := (by injection e207)
                      (try (replace hx207_0 := (HB.out.cell (World.block_lt_of_cell? w _ hx207_0)).trans hx207_0))
                      replace p207 := eq_true p207
                      replace q207 := eq_true q207
                      have p208 : 0 ≤ (x28_2 : Int) := of_decide_eq_true qe84_
                      have q208 : x28_2 < (l1.length : Int) := of_decide_eq_true qe84_
                      obtain ⟨ad208, e208, hx208_0⟩ := Kd.at_int HR1.out x28_2 p208 q208
                      cases e208
                      (try (replace hx208_0 := (HB.out.cell (World.block_lt_of_cell? w _ hx208_0)).trans hx208_0))
                      replace p208 := eq_true p208
                      replace q208 := eq_true q208
                      have p209 : 0 ≤ (x8_3 : Int) := of_decide_eq_true qe84_
                      have q209 : x8_3 < (l1.length : Int) := of_decide_eq_true qe84_
                      obtain ⟨ad209, e209, hx209_0⟩ := Kd.at_int HR1.out x8_3 p209 q209
                      obtain rfl : ad208 = ad209 := (by injection e209)
                      (try (replace hx209_0 := (HB.out.cell (World.block_lt_of_cell? w _ hx209_0)).trans hx209_0))
                      replace p209 := eq_true p209
                      replace q209 := eq_true q209
                      go_wp2
                      repeat (go_quiet (fail); try go_wp2)
                      go_roundg k4
                      case measure => have := HJ2.out; have := HK2.out; have := HK3.out; have := HK4.out; omega
                      case rel => exact ⟨(x6_4), (wrap64 (x41_4 + 1)), qc8f_, qc8f_, H', ⟨by have := HJ2.out; have := HK2.out; have := HK3.out; have := HK4.out; omega⟩, ⟨q9d5_ HO_39.out⟩, ⟨q0c4_⟩⟩
                    ·
                     rw [if_neg c22] at H
                     exact absurd H (by simp)
                   ·
                    rw [if_neg c21] at H
                    exact absurd H (by simp)
                  ·
                   rw [if_neg c20] at H
                   exact absurd H (by simp)
                 ·
                  rw [if_neg c19] at H
                  exact absurd H (by simp)
                ·
                 rw [if_neg c18] at H
                 exact absurd H (by simp)
               ·
                rw [if_neg c17] at H
                exact absurd H (by simp)
              ·
               rw [if_neg c16] at H
               exact absurd H (by simp)
             ·
              rw [if_neg c15] at H
              exact absurd H (by simp)
            ·
             rw [if_neg c14] at H
             have c14b0 := decide_eq_false c14
             clear c14
             have H' := Aside0.mk H
             clear H
             go_wp2
             repeat (go_quiet (fail); try go_wp2)
             go_roundg k4
             case measure => have := HJ2.out; have := HK2.out; have := HK3.out; have := HK4.out; omega
             case rel => exact ⟨(x6_4), (wrap64 (x8_3 + 1)), qc8f_, qc8f_, H', ⟨by have := HJ2.out; have := HK2.out; have := HK3.out; have := HK4.out; omega⟩, ⟨q0c4_⟩⟩
         ·
          rw [if_neg c10] at H
          have c10b0 := decide_eq_false c10
          clear c10
          have H' := Aside0.mk H
          clear H
          go_wp2
          repeat (go_quiet (fail); try go_wp2)
          go_roundg k3
          case measure => have := HJ2.out; have := HK2.out; have := HK3.out; omega
          case rel => exact ⟨(x6_3), (wrap64 (x28_2 + 1)), qc8f_, qc8f_, H', ⟨q0e9_ HJ2.out HK2.out HK3.out⟩, ⟨q0c4_⟩⟩
      ·
       rw [if_neg c9] at H
       have c9b0 := decide_eq_false c9
       clear c9
       simp only [Option.some.injEq, Prod.mk.injEq] at H
       obtain ⟨rfl, rfl⟩ := H
       go_wp2
       repeat (go_quiet (fail); try go_wp2)
       go_ret2
       exact ⟨qce7_, q0c4_⟩

/-! ### spec_DrawLabelOfPoint: function 8 -/
def spec_DrawLabelOfPoint.f (k : Nat) (l0 : List Int) : Option (List Int) := (spec_l1Cur_pick.f l0 0 0 9).bind fun bt211 => ((spec_l1Cur_point.f k l0 bt211.2.1 bt211.2.2 bt211.1).bind fun bt214 => (some bt214.1))
theorem spec_DrawLabelOfPoint.mono : ∀ a0 k, LeO (spec_DrawLabelOfPoint.f k a0) (spec_DrawLabelOfPoint.f (k + 1) a0) := by
 intro a0 k
 unfold spec_DrawLabelOfPoint.f
 repeat' (with_reducible first | exact spec_l1Cur_point.mono _ _ _ _ _ | exact LeO.refl _ | exact LeO.none _ | refine LeO.ite ?_ ?_ | refine LeO.bind ?_ (fun _ => ?_))
theorem spec_DrawLabelOfPoint.calls (k : Nat) (A0 : Option Addr) (c0 : Nat) (l0 : List Int) (r : List Int) (w : World) (hr0 : Kd.C (Kd.int .u8) w A0 l0.length l0) (hc0 : l0.length ≤ c0) (h : spec_DrawLabelOfPoint.f k l0 = some r) :
  Calls Try.prog 8 #[.slice A0 l0.length c0] w fun e w' => ∃ v0_ : Value, e = .returned (v0_) ∧ Kd.R (Kd.int .i64) 3 w' w.heap.size (fun _ => True) v0_ r ∧ Below w.heap.size w w' := by
 have hu44 := Try.underlying44
 have HR0 := Aside0.mk hr0
 have HC0 := Aside0.mk hc0
 clear hr0 hc0
 have HB := Aside0.mk (Below.refl w.heap.size w)
 unfold spec_DrawLabelOfPoint.f at h
 have H := h; clear h
 obtain ⟨⟨t211, t212, t213⟩, A2, H⟩ := ob_ H
 dsimp only at H
 obtain ⟨⟨t214, t217, t218⟩, A3, H⟩ := ob_ H
 dsimp only at H
 obtain rfl := Option.some.inj H
 go_enter Try.func8, Try.ntmps8
 go_wp2_with (first | ((with_reducible refine gate_dst (N := 6) rfl ?_); refine box_event ?hg (N := 6) ?hd (cs := #[.slice A0 l0.length c0, .int .i64 0, .int .u64 0]) (t := 44) ?hr ?_; (case hd => rfl); (case hg => rfl); (case hr => exact qfba_); intro gb210 hg w4 hbox hb; have n0_ := Aside0.mk (below_step q0c4_ hb); have n1_ := Aside0.mk (hbox); have n2_ := Aside0.mk ((by rw [hg]; exact (below_size q0c4_) : w.heap.size ≤ gb210)); have n3_ := Aside0.mk ((by rw [hg]; exact (below_size q0c4_) : w.heap.size ≤ gb210)); have n4_ := Aside0.mk ((show IsS44 w w4 gb210 l0 0 0 from ⟨_, _, hbox, (by rw [hg]; exact (below_size q0c4_) : w.heap.size ≤ gb210), HR0.out⟩)); replace HB := n0_; have BK210 := n1_; have GW210 := n2_; have GE210 := n3_; have HI210 := n4_; clear n0_ n1_ n2_ n3_ n4_; clear hb hbox hg) | ((with_reducible refine gate_callee (f := 19) rfl ?_); refine gl_ 9 Try.func19 #[.pointer (some ⟨gb210, 0, none⟩), .int .i64 9] ?_; (with_reducible refine (spec_l1Cur_pick.calls gb210 l0 0 0 9 t211 t212 t213 w _ ?s1 ?s2 A2.out).mono ?_); (case s1 => exact q7be_ HI210.out); (case s2 => exact q687_ HI210.out); rintro e w5 ⟨rfl, hi, hb, hk⟩; refine ⟨_, rfl, ?_⟩; replace HB := Aside0.mk (hb); replace HI210 := Aside0.mk (hi); clear hb hk hi) | ((with_reducible refine gate_callee (f := 20) rfl ?_); refine gl_ 10 Try.func20 #[.pointer (some ⟨gb210, 0, none⟩), .int .i64 t211] ?_; (with_reducible refine (spec_l1Cur_point.calls k gb210 l0 t212 t213 t211 t214 t217 t218 w _ ?s1 ?s2 A3.out).mono ?_); (case s1 => exact q7be_ HI210.out); (case s2 => exact q687_ HI210.out); rintro e w6 ⟨v215, rfl, ho0, hi, hb, hk⟩; refine ⟨_, rfl, ?_⟩; have HO216 := Aside0.mk (Kd.R_lower ho0 (below_size (q687_ HI210.out))); replace HB := Aside0.mk (hb); replace HI210 := Aside0.mk (hi); clear hb hk hi ho0))
 go_ret
 exact ⟨_, qce7_, q9d5_ HO216.out, q687_ HI210.out⟩

/-! ### impl_LabelOfPoint: function 9 -/
mutual
def impl_LabelOfPoint.l0 : Nat → List Int → List Int → List Int → Int → Int → Option (List Int × Bool)
 | 0, _, _, _, _, _ => none
 | k + 1, x0, x4, x15, x16, x17 => if x17 < x16 then (if 0 ≤ x17 then (if x17 < (x15.length : Int) then (impl_LabelOfPoint.l1 k x0 x4 x17 (rd x15 x17) x15 x16 x17 x0 (x0.length : Int) 0) else (none)) else (none)) else (some (x4, true))
def impl_LabelOfPoint.l1 : Nat → List Int → List Int → Int → Int → List Int → Int → Int → List Int → Int → Int → Option (List Int × Bool)
 | 0, _, _, _, _, _, _, _, _, _, _ => none
 | k + 1, x0, x4, x5, x6, x15, x16, x17, x22, x23, x24 => if x24 < x23 then (if 0 ≤ x24 then (if x24 < (x22.length : Int) then (if x24 < x5 then (if (rd x22 x24) > (wrap64 (x6 + 100)) then (if 0 ≤ x5 then (if x5 < (x4.length : Int) then (impl_LabelOfPoint.l1 k x0 (x4.set (x5 : Int).toNat (wrap64 ((rd x4 x5) + 1))) x5 x6 x15 x16 x17 x22 x23 (wrap64 (x24 + 1))) else (none)) else (none)) else (if x24 > x5 then (if (rd x22 x24) > x6 then (if 0 ≤ x5 then (if x5 < (x4.length : Int) then (impl_LabelOfPoint.l1 k x0 (x4.set (x5 : Int).toNat (wrap64 ((rd x4 x5) + 1))) x5 x6 x15 x16 x17 x22 x23 (wrap64 (x24 + 1))) else (none)) else (none)) else (impl_LabelOfPoint.l1 k x0 x4 x5 x6 x15 x16 x17 x22 x23 (wrap64 (x24 + 1)))) else (impl_LabelOfPoint.l1 k x0 x4 x5 x6 x15 x16 x17 x22 x23 (wrap64 (x24 + 1))))) else (if x24 > x5 then (if (rd x22 x24) > x6 then (if 0 ≤ x5 then (if x5 < (x4.length : Int) then (impl_LabelOfPoint.l1 k x0 (x4.set (x5 : Int).toNat (wrap64 ((rd x4 x5) + 1))) x5 x6 x15 x16 x17 x22 x23 (wrap64 (x24 + 1))) else (none)) else (none)) else (impl_LabelOfPoint.l1 k x0 x4 x5 x6 x15 x16 x17 x22 x23 (wrap64 (x24 + 1)))) else (impl_LabelOfPoint.l1 k x0 x4 x5 x6 x15 x16 x17 x22 x23 (wrap64 (x24 + 1))))) else (none)) else (none)) else (impl_LabelOfPoint.l0 k x0 x4 x15 x16 (wrap64 (x17 + 1)))
end
def impl_LabelOfPoint.f (k : Nat) (l0 : List Int) : Option (List Int × Bool) := (impl_isPoint.f k l0).bind fun t219 => (if t219 = true then (if 0 ≤ (l0.length : Int) then (if ((l0.length : Int) : Int).toNat ≤ 35184372088832 then (impl_LabelOfPoint.l0 k l0 (List.replicate ((l0.length : Int) : Int).toNat 0) l0 (l0.length : Int) 0) else (none)) else (none)) else (some (([] : List Int), false)))
theorem impl_LabelOfPoint.mono_l : ∀ k, (∀ y0 y1 y2 y3 y4, LeO (impl_LabelOfPoint.l0 k y0 y1 y2 y3 y4) (impl_LabelOfPoint.l0 (k + 1) y0 y1 y2 y3 y4)) ∧ (∀ y0 y1 y2 y3 y4 y5 y6 y7 y8 y9, LeO (impl_LabelOfPoint.l1 k y0 y1 y2 y3 y4 y5 y6 y7 y8 y9) (impl_LabelOfPoint.l1 (k + 1) y0 y1 y2 y3 y4 y5 y6 y7 y8 y9))
 | 0 => ⟨fun _ _ _ _ _ r h => by simp [impl_LabelOfPoint.l0] at h, fun _ _ _ _ _ _ _ _ _ _ r h => by simp [impl_LabelOfPoint.l1] at h⟩
 | k + 1 => by
  obtain ⟨ih0, ih1⟩ := impl_LabelOfPoint.mono_l k
  refine ⟨?_, ?_⟩
  ·
   intro y0 y1 y2 y3 y4
   unfold impl_LabelOfPoint.l0
   repeat' (with_reducible first | exact ih0 _ _ _ _ _ | exact ih1 _ _ _ _ _ _ _ _ _ _ | exact impl_isPoint.mono _ _ | exact LeO.refl _ | exact LeO.none _ | refine LeO.ite ?_ ?_ | refine LeO.bind ?_ (fun _ => ?_))
  ·
   intro y0 y1 y2 y3 y4 y5 y6 y7 y8 y9
   unfold impl_LabelOfPoint.l1
   repeat' (with_reducible first | exact ih0 _ _ _ _ _ | exact ih1 _ _ _ _ _ _ _ _ _ _ | exact impl_isPoint.mono _ _ | exact LeO.refl _ | exact LeO.none _ | refine LeO.ite ?_ ?_ | refine LeO.bind ?_ (fun _ => ?_))
theorem impl_LabelOfPoint.mono : ∀ a0 k, LeO (impl_LabelOfPoint.f k a0) (impl_LabelOfPoint.f (k + 1) a0) := by
 intro a0 k
 obtain ⟨ih0, ih1⟩ := impl_LabelOfPoint.mono_l k
 unfold impl_LabelOfPoint.f
 repeat' (with_reducible first | exact ih0 _ _ _ _ _ | exact ih1 _ _ _ _ _ _ _ _ _ _ | exact impl_isPoint.mono _ _ | exact LeO.refl _ | exact LeO.none _ | refine LeO.ite ?_ ?_ | refine LeO.bind ?_ (fun _ => ?_))
theorem impl_LabelOfPoint.calls (k : Nat) (A0 : Option Addr) (c0 : Nat) (l0 : List Int) (r1 : List Int) (r2 : Bool) (w : World) (hr0 : Kd.C (Kd.int .i64) w A0 l0.length l0) (hc0 : l0.length ≤ c0) (h : impl_LabelOfPoint.f k l0 = some (r1, r2)) :
  Calls Try.prog 9 #[.slice A0 l0.length c0] w fun e w' => ∃ v0_ : Value, e = .returned (.tuple #[v0_, .bool r2]) ∧ Kd.R (Kd.int .i64) 3 w' w.heap.size (fun _ => True) v0_ r1 ∧ Below w.heap.size w w' := by
 have HR0 := Aside0.mk hr0
 have HC0 := Aside0.mk hc0
 clear hr0 hc0
 have HB := Aside0.mk (Below.refl w.heap.size w)
 unfold impl_LabelOfPoint.f at h
 have H := h; clear h
 obtain ⟨t219, A2, H⟩ := ob_ H
 by_cases c3 : t219 = true
 ·
  subst c3
  rw [if_pos rfl] at H
  by_cases c4 : 0 ≤ (l0.length : Int)
  ·
   rw [if_pos c4] at H
   have c4b0 := eq_true c4
   have c4b1 := decide_eq_true c4
   clear c4
   by_cases c5 : ((l0.length : Int) : Int).toNat ≤ 35184372088832
   ·
    rw [if_pos c5] at H
    have c5b0 := eq_true c5
    have c5b1 := decide_eq_true c5
    clear c5
    obtain ⟨y220, hy220⟩ : ∃ y_ : List Int, y_ = (List.replicate ((l0.length : Int) : Int).toNat 0) := ⟨_, rfl⟩
    replace H : (impl_LabelOfPoint.l0 k l0 y220 l0 (l0.length : Int) 0) = some (r1, r2) := by first | (rw [hy220]; with_reducible exact H) | (have H2_ := (Option.bind_some _ _).symm.trans H; rw [hy220]; with_reducible exact H2_) | (have H2_ := (Option.bind_some _ _).symm.trans H; with_reducible exact H2_) | with_reducible exact H | (rw [hy220]; exact H) | exact H
    have Ny220 := Aside0.mk hy220
    clear hy220
    have H' := Aside0.mk H
    clear H
    go_enter Try.func9, Try.ntmps9
    go_wp2_with (first | ((with_reducible refine gate_callee (f := 21) rfl ?_); refine gl_ 10 Try.func21 #[.slice A0 l0.length c0] ?_; (with_reducible refine (impl_isPoint.calls k _ _ l0 true _ ?s1 ?s2 A2.out).mono ?_); (case s1 => exact q201_ HR0.out); (case s2 => exact HC0.out); rintro e w6 ⟨rfl, hb⟩; refine ⟨_, rfl, ?_⟩; replace HB := Aside0.mk (below_step q0c4_ hb); clear hb) | ((with_reducible refine gate_dst (N := 14) rfl ?_); refine Kd.R_make (Kd.int .i64) _ 3 rfl (N := 14) rfl 24 _ _ rfl (l0.length : Int) rfl rfl Try.underlying24 (.int .i64 0) 8 info3 rfl (by decide) (by omega) 0 (ok := fun _ => True) (okp := fun _ => True) rfl (fun _ hk => hk) trivial (of_decide_eq_true qe84_) (Nat.le_trans (Nat.mul_le_mul_right _ (of_decide_eq_true qe84_ : (l0.length : Int).toNat ≤ 35184372088832)) (by omega)) (Below.refl _ _) (Nat.le_refl _) ?_; intro v221 w7 ho8 hb hg_ hnew_; clear hg_ hnew_; (first | rw [← Ny220.out] at ho8 | (simp only [Int.reduceToNat] at ho8; rw [← Ny220.out] at ho8)); have HO222 := Aside0.mk (Kd.R_lower ho8 (below_size q0c4_)); replace HB := Aside0.mk (below_step q0c4_ hb); clear hb ho8))
    go_loopg [17] k (fun kq v17 w' => ∃ (x4_1 : List Int) (x17_1 : Int), v17 = .int .i64 x17_1 ∧ Aside0 (impl_LabelOfPoint.l0 kq l0 x4_1 l0 (l0.length : Int) x17_1 = some (r1, r2)) ∧ Aside0 (kq ≤ k) ∧ Aside0 (Kd.R (Kd.int .i64) 3 w' w.heap.size (fun _ => True) v221 x4_1) ∧ Aside0 (Below w.heap.size w w'))
    case atStart => exact ⟨(y220), (0), qc8f_, H', ⟨Nat.le_refl _⟩, ⟨q9d5_ HO222.out⟩, ⟨q0c4_⟩⟩
    case round =>
     clear H'; try clear c2; try clear p2; try clear c3; try clear c4; try clear c4b0; try clear c4b1; try clear c5; try clear c5b0; try clear c5b1
     obtain ⟨x4_1, x17_1, rfl, HA, HK1, HO_4, HB⟩ := hrel
     cases gk with
     | zero => exact absurd HA.out (by simp [impl_LabelOfPoint.l0])
     | succ k1 =>
      have H := HA.out
      clear HA
      simp only [impl_LabelOfPoint.l0] at H
      by_cases c9 : x17_1 < (l0.length : Int)
      ·
       rw [if_pos c9] at H
       have c9b0 := decide_eq_true c9
       clear c9
       by_cases c10 : 0 ≤ x17_1
       ·
        rw [if_pos c10] at H
        have c10b0 := decide_eq_true c10
        clear c10
        by_cases c11 : x17_1 < (l0.length : Int)
        ·
         rw [if_pos c11] at H
         have c11b0 := decide_eq_true c11
         clear c11
         have H' := Aside0.mk H
         clear H
         have p223 : 0 ≤ (x17_1 : Int) := of_decide_eq_true qe84_
         have q223 : x17_1 < (l0.length : Int) := of_decide_eq_true qe84_
         obtain ⟨ad223, e223, hx223_0⟩ := Kd.at_int HR0.out x17_1 p223 q223
         cases e223
         (try (replace hx223_0 := (HB.out.cell (World.block_lt_of_cell? w _ hx223_0)).trans hx223_0))
         replace p223 := eq_true p223
         replace q223 := eq_true q223
         go_wp2
         go_loopg [24] k1 (fun kq v24 w' => ∃ (x4_2 : List Int) (x24_2 : Int), v24 = .int .i64 x24_2 ∧ Aside0 (impl_LabelOfPoint.l1 kq l0 x4_2 x17_1 (rd l0 x17_1) l0 (l0.length : Int) x17_1 l0 (l0.length : Int) x24_2 = some (r1, r2)) ∧ Aside0 (kq ≤ k1) ∧ Aside0 (Kd.R (Kd.int .i64) 3 w' w.heap.size (fun _ => True) v221 x4_2) ∧ Aside0 (Below w.heap.size w w'))
         case atStart => exact ⟨(x4_1), (0), qc8f_, H', ⟨Nat.le_refl _⟩, ⟨q9d5_ HO_4.out⟩, ⟨q0c4_⟩⟩
         case round =>
          clear H'; try clear c1; try clear c2; try clear p2; try clear q2; try clear hx2; try clear c3; try clear c4; try clear c4b0; try clear c4b1; try clear c5; try clear c5b0; try clear c5b1; try clear c9; try clear c9b0; try clear c10; try clear c10b0; try clear c11; try clear c11b0; try clear hx223_0; try clear p2; try clear p223; try clear q223
          obtain ⟨x4_2, x24_2, rfl, HA, HK2, HO_4, HB⟩ := hrel
          cases gk with
          | zero => exact absurd HA.out (by simp [impl_LabelOfPoint.l1])
          | succ k2 =>
           have H := HA.out
           clear HA
           simp only [impl_LabelOfPoint.l1] at H
           by_cases c12 : x24_2 < (l0.length : Int)
           ·
            rw [if_pos c12] at H
            have c12b0 := decide_eq_true c12
            clear c12
            by_cases c13 : 0 ≤ x24_2
            ·
             rw [if_pos c13] at H
             have c13b0 := decide_eq_true c13
             clear c13
             by_cases c14 : x24_2 < (l0.length : Int)
             ·
              rw [if_pos c14] at H
              have c14b0 := decide_eq_true c14
              clear c14
              by_cases c15 : x24_2 < x17_1
              ·
               rw [if_pos c15] at H
               have c15b0 := decide_eq_true c15
               clear c15
               by_cases c16 : (rd l0 x24_2) > (wrap64 ((rd l0 x17_1) + 100))
               ·
                rw [if_pos c16] at H
                have c16b0 := decide_eq_true c16
                clear c16
                by_cases c17 : 0 ≤ x17_1
                ·
                 rw [if_pos c17] at H
                 have c17b0 := decide_eq_true c17
                 clear c17
                 by_cases c18 : x17_1 < (x4_2.length : Int)
                 ·
                  rw [if_pos c18] at H
                  have c18b0 := decide_eq_true c18
                  clear c18
                  obtain ⟨y226, hy226⟩ : ∃ y_ : List Int, y_ = (x4_2.set (x17_1 : Int).toNat (wrap64 ((rd x4_2 x17_1) + 1))) := ⟨_, rfl⟩
                  replace H : (impl_LabelOfPoint.l1 k2 l0 y226 x17_1 (rd l0 x17_1) l0 (l0.length : Int) x17_1 l0 (l0.length : Int) (wrap64 (x24_2 + 1))) = some (r1, r2) := by first | (rw [hy226]; with_reducible exact H) | (have H2_ := (Option.bind_some _ _).symm.trans H; rw [hy226]; with_reducible exact H2_) | (have H2_ := (Option.bind_some _ _).symm.trans H; with_reducible exact H2_) | with_reducible exact H | (rw [hy226]; exact H) | exact H
                  have Ny226 := Aside0.mk hy226
                  clear hy226
                  have H' := Aside0.mk H
                  clear H
                  have p224 : 0 ≤ (x24_2 : Int) := of_decide_eq_true qe84_
                  have q224 : x24_2 < (l0.length : Int) := of_decide_eq_true qe84_
                  obtain ⟨ad224, e224, hx224_0⟩ := Kd.at_int HR0.out x24_2 p224 q224
                  obtain rfl : ad223 = ad224 := (by injection e224)
                  (try (replace hx224_0 := (HB.out.cell (World.block_lt_of_cell? w _ hx224_0)).trans hx224_0))
                  replace p224 := eq_true p224
                  replace q224 := eq_true q224
                  obtain ⟨Ao20, co20, eo20⟩ := Kd.R_slice HO_4.out
                  subst eo20
                  have p225 : 0 ≤ (x17_1 : Int) := of_decide_eq_true qe84_
                  have q225 : x17_1 < (x4_2.length : Int) := of_decide_eq_true qe84_
                  obtain ⟨ad225, e225, hx225_0⟩ := Kd.at_int (Kd.R_reads' HO_4.out).2.2 x17_1 p225 q225
                  cases e225
                  replace p225 := eq_true p225
                  replace q225 := eq_true q225
                  have p19 : 0 ≤ (x17_1 : Int) := of_decide_eq_true qe84_
                  have q19 : (x17_1 : Int) < ((x4_2.length : Int) : Int) := of_decide_eq_true qe84_
                  obtain ⟨go19, co19, eo19, gb19, gl19, cl19, HG19⟩ := Kd.R_form HO_4.out (by omega)
                  (first | cases eo19 | (injection eo19 with ea_ en_ ec_; (first | subst ea_ | (injection ea_ with ea_; subst ea_)); subst ec_; clear en_))
                  have GB19 := Aside0.mk gb19
                  have GG19 := Aside0.mk HG19
                  clear gb19 gl19 HG19
                  (first | simp only [add_plain] at hx225_0 | skip)
                  obtain ⟨hx19_0, hf19_0⟩ := Kd.R_celln 0 HO_4.out (x17_1 : Int) p19 q19
                  replace p19 := eq_true p19
                  replace q19 := eq_true q19
                  have HP21 := Kd.R_putg HO_4.out (x17_1 : Int) (wrap64 ((rd x4_2 x17_1) + 1))
                  go_wp2_with (first | ((with_reducible refine gate_store (t := 3) (p := 53) rfl ?_); refine store_event (t := 3) (p := 53) (v := ?vo_w22) (w1 := (wr.setCell ⟨go19, (x17_1 : Int).toNat, none⟩ (.int .i64 (wrap64 ((rd x4_2 x17_1) + 1))))) ?hg ?ho ?hn ?hr ?_; (case ho => rfl); (case hg => rfl); (case hn => rfl); (case hr => exact qfba_); intro w22 hw; have hg : wr.grownBy w22 (some go19) := (by rw [hw]; exact HP21.2); have hp_ : Kd.R (Kd.int .i64) 3 w22 w.heap.size (fun _ => True) (.slice (some ⟨go19, 0, none⟩) x4_2.length co20) y226 := (by rw [hw, Ny226.out]; exact HP21.1); clear HP21; replace HO_4 := Aside0.mk (hp_); replace HB := Aside0.mk ((by rw [hw]; exact below_set (HB.out) GB19.out : Below w.heap.size w w22)); clear hg hw hp_))
                  go_roundg k2
                  case measure => have := HK1.out; have := HK2.out; omega
                  case rel => exact ⟨(y226), (wrap64 (x24_2 + 1)), qc8f_, H', ⟨q37b_ HK1.out HK2.out⟩, ⟨q9d5_ HO_4.out⟩, ⟨q0c4_⟩⟩
                 ·
                  rw [if_neg c18] at H
                  exact absurd H (by simp)
                ·
                 rw [if_neg c17] at H
                 exact absurd H (by simp)
               ·
                rw [if_neg c16] at H
                have c16b0 := decide_eq_false c16
                clear c16
                by_cases c23 : x24_2 > x17_1
                ·
                 rw [if_pos c23] at H
                 have c23b0 := decide_eq_true c23
                 clear c23
                 by_cases c24 : (rd l0 x24_2) > (rd l0 x17_1)
                 ·
                  rw [if_pos c24] at H
                  have c24b0 := decide_eq_true c24
                  clear c24
                  by_cases c25 : 0 ≤ x17_1
                  ·
                   rw [if_pos c25] at H
                   have c25b0 := decide_eq_true c25
                   clear c25
                   by_cases c26 : x17_1 < (x4_2.length : Int)
                   ·
                    rw [if_pos c26] at H
                    have c26b0 := decide_eq_true c26
                    clear c26
                    obtain ⟨y228, hy228⟩ : ∃ y_ : List Int, y_ = (x4_2.set (x17_1 : Int).toNat (wrap64 ((rd x4_2 x17_1) + 1))) := ⟨_, rfl⟩
                    replace H : (impl_LabelOfPoint.l1 k2 l0 y228 x17_1 (rd l0 x17_1) l0 (l0.length : Int) x17_1 l0 (l0.length : Int) (wrap64 (x24_2 + 1))) = some (r1, r2) := by first | (rw [hy228]; with_reducible exact H) | (have H2_ := (Option.bind_some _ _).symm.trans H; rw [hy228]; with_reducible exact H2_) | (have H2_ := (Option.bind_some _ _).symm.trans H; with_reducible exact H2_) | with_reducible exact H | (rw [hy228]; exact H) | exact H
                    have Ny228 := Aside0.mk hy228
                    clear hy228
                    have H' := Aside0.mk H
                    clear H
                    have p224 : 0 ≤ (x24_2 : Int) := of_decide_eq_true qe84_
                    have q224 : x24_2 < (l0.length : Int) := of_decide_eq_true qe84_
                    obtain ⟨ad224, e224, hx224_0⟩ := Kd.at_int HR0.out x24_2 p224 q224
                    obtain rfl : ad223 = ad224 := (by injection e224)
                    (try (replace hx224_0 := (HB.out.cell (World.block_lt_of_cell? w _ hx224_0)).trans hx224_0))
                    replace p224 := eq_true p224
                    replace q224 := eq_true q224
                    obtain ⟨Ao28, co28, eo28⟩ := Kd.R_slice HO_4.out
                    subst eo28
                    have p227 : 0 ≤ (x17_1 : Int) := of_decide_eq_true qe84_
                    have q227 : x17_1 < (x4_2.length : Int) := of_decide_eq_true qe84_
                    obtain ⟨ad227, e227, hx227_0⟩ := Kd.at_int (Kd.R_reads' HO_4.out).2.2 x17_1 p227 q227
                    cases e227
                    replace p227 := eq_true p227
                    replace q227 := eq_true q227
                    have p27 : 0 ≤ (x17_1 : Int) := of_decide_eq_true qe84_
                    have q27 : (x17_1 : Int) < ((x4_2.length : Int) : Int) := of_decide_eq_true qe84_
                    obtain ⟨go27, co27, eo27, gb27, gl27, cl27, HG27⟩ := Kd.R_form HO_4.out (by omega)
                    (first | cases eo27 | (injection eo27 with ea_ en_ ec_; (first | subst ea_ | (injection ea_ with ea_; subst ea_)); subst ec_; clear en_))
                    have GB27 := Aside0.mk gb27
                    have GG27 := Aside0.mk HG27
                    clear gb27 gl27 HG27
                    (first | simp only [add_plain] at hx227_0 | skip)
                    obtain ⟨hx27_0, hf27_0⟩ := Kd.R_celln 0 HO_4.out (x17_1 : Int) p27 q27
                    replace p27 := eq_true p27
                    replace q27 := eq_true q27
                    have HP29 := Kd.R_putg HO_4.out (x17_1 : Int) (wrap64 ((rd x4_2 x17_1) + 1))
                    go_wp2_with (first | ((with_reducible refine gate_store (t := 3) (p := 53) rfl ?_); refine store_event (t := 3) (p := 53) (v := ?vo_w30) (w1 := (wr.setCell ⟨go27, (x17_1 : Int).toNat, none⟩ (.int .i64 (wrap64 ((rd x4_2 x17_1) + 1))))) ?hg ?ho ?hn ?hr ?_; (case ho => rfl); (case hg => rfl); (case hn => rfl); (case hr => exact qfba_); intro w30 hw; have hg : wr.grownBy w30 (some go27) := (by rw [hw]; exact HP29.2); have hp_ : Kd.R (Kd.int .i64) 3 w30 w.heap.size (fun _ => True) (.slice (some ⟨go27, 0, none⟩) x4_2.length co28) y228 := (by rw [hw, Ny228.out]; exact HP29.1); clear HP29; replace HO_4 := Aside0.mk (hp_); replace HB := Aside0.mk ((by rw [hw]; exact below_set (HB.out) GB27.out : Below w.heap.size w w30)); clear hg hw hp_))
                    go_roundg k2
                    case measure => have := HK1.out; have := HK2.out; omega
                    case rel => exact ⟨(y228), (wrap64 (x24_2 + 1)), qc8f_, H', ⟨q37b_ HK1.out HK2.out⟩, ⟨q9d5_ HO_4.out⟩, ⟨q0c4_⟩⟩
                   ·
                    rw [if_neg c26] at H
                    exact absurd H (by simp)
                  ·
                   rw [if_neg c25] at H
                   exact absurd H (by simp)
                 ·
                  rw [if_neg c24] at H
                  have c24b0 := decide_eq_false c24
                  clear c24
                  have H' := Aside0.mk H
                  clear H
                  have p224 : 0 ≤ (x24_2 : Int) := of_decide_eq_true qe84_
                  have q224 : x24_2 < (l0.length : Int) := of_decide_eq_true qe84_
                  obtain ⟨ad224, e224, hx224_0⟩ := Kd.at_int HR0.out x24_2 p224 q224
                  obtain rfl : ad223 = ad224 := (by injection e224)
                  (try (replace hx224_0 := (HB.out.cell (World.block_lt_of_cell? w _ hx224_0)).trans hx224_0))
                  replace p224 := eq_true p224
                  replace q224 := eq_true q224
                  go_wp2
                  go_roundg k2
                  case measure => have := HK1.out; have := HK2.out; omega
                  case rel => exact ⟨(x4_2), (wrap64 (x24_2 + 1)), qc8f_, H', ⟨q37b_ HK1.out HK2.out⟩, ⟨q9d5_ HO_4.out⟩, ⟨q0c4_⟩⟩
                ·
                 rw [if_neg c23] at H
                 have c23b0 := decide_eq_false c23
                 clear c23
                 have H' := Aside0.mk H
                 clear H
                 have p224 : 0 ≤ (x24_2 : Int) := of_decide_eq_true qe84_
                 have q224 : x24_2 < (l0.length : Int) := of_decide_eq_true qe84_
                 obtain ⟨ad224, e224, hx224_0⟩ := Kd.at_int HR0.out x24_2 p224 q224
                 obtain rfl : ad223 = ad224 := (by injection e224)
                 (try (replace hx224_0 := (HB.out.cell (World.block_lt_of_cell? w _ hx224_0)).trans hx224_0))
                 replace p224 := eq_true p224
                 replace q224 := eq_true q224
                 go_wp2
                 go_roundg k2
                 case measure => have := HK1.out; have := HK2.out; omega
                 case rel => exact ⟨(x4_2), (wrap64 (x24_2 + 1)), qc8f_, H', ⟨q37b_ HK1.out HK2.out⟩, ⟨q9d5_ HO_4.out⟩, ⟨q0c4_⟩⟩
              ·
               rw [if_neg c15] at H
               have c15b0 := decide_eq_false c15
               clear c15
               by_cases c31 : x24_2 > x17_1
               ·
                rw [if_pos c31] at H
                have c31b0 := decide_eq_true c31
                clear c31
                by_cases c32 : (rd l0 x24_2) > (rd l0 x17_1)
                ·
                 rw [if_pos c32] at H
                 have c32b0 := decide_eq_true c32
                 clear c32
                 by_cases c33 : 0 ≤ x17_1
                 ·
                  rw [if_pos c33] at H
                  have c33b0 := decide_eq_true c33
                  clear c33
                  by_cases c34 : x17_1 < (x4_2.length : Int)
                  ·
                   rw [if_pos c34] at H
                   have c34b0 := decide_eq_true c34
                   clear c34
                   obtain ⟨y230, hy230⟩ : ∃ y_ : List Int, y_ = (x4_2.set (x17_1 : Int).toNat (wrap64 ((rd x4_2 x17_1) + 1))) := ⟨_, rfl⟩
                   replace H : (impl_LabelOfPoint.l1 k2 l0 y230 x17_1 (rd l0 x17_1) l0 (l0.length : Int) x17_1 l0 (l0.length : Int) (wrap64 (x24_2 + 1))) = some (r1, r2) := by first | (rw [hy230]; with_reducible exact H) | (have H2_ := (Option.bind_some _ _).symm.trans H; rw [hy230]; with_reducible exact H2_) | (have H2_ := (Option.bind_some _ _).symm.trans H; with_reducible exact H2_) | with_reducible exact H | (rw [hy230]; exact H) | exact H
                   have Ny230 := Aside0.mk hy230
                   clear hy230
                   have H' := Aside0.mk H
                   clear H
                   have p224 : 0 ≤ (x24_2 : Int) := of_decide_eq_true qe84_
                   have q224 : x24_2 < (l0.length : Int) := of_decide_eq_true qe84_
                   obtain ⟨ad224, e224, hx224_0⟩ := Kd.at_int HR0.out x24_2 p224 q224
                   obtain rfl : ad223 = ad224 := (by injection e224)
                   (try (replace hx224_0 := (HB.out.cell (World.block_lt_of_cell? w _ hx224_0)).trans hx224_0))
                   replace p224 := eq_true p224
                   replace q224 := eq_true q224
                   obtain ⟨Ao36, co36, eo36⟩ := Kd.R_slice HO_4.out
                   subst eo36
                   have p229 : 0 ≤ (x17_1 : Int) := of_decide_eq_true qe84_
                   have q229 : x17_1 < (x4_2.length : Int) := of_decide_eq_true qe84_
                   obtain ⟨ad229, e229, hx229_0⟩ := Kd.at_int (Kd.R_reads' HO_4.out).2.2 x17_1 p229 q229
                   cases e229
                   replace p229 := eq_true p229
                   replace q229 := eq_true q229
                   have p35 : 0 ≤ (x17_1 : Int) := of_decide_eq_true qe84_
                   have q35 : (x17_1 : Int) < ((x4_2.length : Int) : Int) := of_decide_eq_true qe84_
                   obtain ⟨go35, co35, eo35, gb35, gl35, cl35, HG35⟩ := Kd.R_form HO_4.out (by omega)
                   (first | cases eo35 | (injection eo35 with ea_ en_ ec_; (first | subst ea_ | (injection ea_ with ea_; subst ea_)); subst ec_; clear en_))
                   have GB35 := Aside0.mk gb35
                   have GG35 := Aside0.mk HG35
                   clear gb35 gl35 HG35
                   (first | simp only [add_plain] at hx229_0 | skip)
                   obtain ⟨hx35_0, hf35_0⟩ := Kd.R_celln 0 HO_4.out (x17_1 : Int) p35 q35
                   replace p35 := eq_true p35
                   replace q35 := eq_true q35
                   have HP37 := Kd.R_putg HO_4.out (x17_1 : Int) (wrap64 ((rd x4_2 x17_1) + 1))
                   go_wp2_with (first | ((with_reducible refine gate_store (t := 3) (p := 53) rfl ?_); refine store_event (t := 3) (p := 53) (v := ?vo_w38) (w1 := (wr.setCell ⟨go35, (x17_1 : Int).toNat, none⟩ (.int .i64 (wrap64 ((rd x4_2 x17_1) + 1))))) ?hg ?ho ?hn ?hr ?_; (case ho => rfl); (case hg => rfl); (case hn => rfl); (case hr => exact qfba_); intro w38 hw; have hg : wr.grownBy w38 (some go35) := (by rw [hw]; exact HP37.2); have hp_ : Kd.R (Kd.int .i64) 3 w38 w.heap.size (fun _ => True) (.slice (some ⟨go35, 0, none⟩) x4_2.length co36) y230 := (by rw [hw, Ny230.out]; exact HP37.1); clear HP37; replace HO_4 := Aside0.mk (hp_); replace HB := Aside0.mk ((by rw [hw]; exact below_set (HB.out) GB35.out : Below w.heap.size w w38)); clear hg hw hp_))
                   go_roundg k2
                   case measure => have := HK1.out; have := HK2.out; omega
                   case rel => exact ⟨(y230), (wrap64 (x24_2 + 1)), qc8f_, H', ⟨q37b_ HK1.out HK2.out⟩, ⟨q9d5_ HO_4.out⟩, ⟨q0c4_⟩⟩
                  ·
                   rw [if_neg c34] at H
                   exact absurd H (by simp)
                 ·
                  rw [if_neg c33] at H
                  exact absurd H (by simp)
                ·
                 rw [if_neg c32] at H
                 have c32b0 := decide_eq_false c32
                 clear c32
                 have H' := Aside0.mk H
                 clear H
                 have p224 : 0 ≤ (x24_2 : Int) := of_decide_eq_true qe84_
                 have q224 : x24_2 < (l0.length : Int) := of_decide_eq_true qe84_
                 obtain ⟨ad224, e224, hx224_0⟩ := Kd.at_int HR0.out x24_2 p224 q224
                 obtain rfl : ad223 = ad224 := (by injection e224)
                 (try (replace hx224_0 := (HB.out.cell (World.block_lt_of_cell? w _ hx224_0)).trans hx224_0))
                 replace p224 := eq_true p224
                 replace q224 := eq_true q224
                 go_wp2
                 go_roundg k2
                 case measure => have := HK1.out; have := HK2.out; omega
                 case rel => exact ⟨(x4_2), (wrap64 (x24_2 + 1)), qc8f_, H', ⟨q37b_ HK1.out HK2.out⟩, ⟨q9d5_ HO_4.out⟩, ⟨q0c4_⟩⟩
               ·
                rw [if_neg c31] at H
                have c31b0 := decide_eq_false c31
                clear c31
                have H' := Aside0.mk H
                clear H
                have p224 : 0 ≤ (x24_2 : Int) := of_decide_eq_true qe84_
                have q224 : x24_2 < (l0.length : Int) := of_decide_eq_true qe84_
                obtain ⟨ad224, e224, hx224_0⟩ := Kd.at_int HR0.out x24_2 p224 q224
                obtain rfl : ad223 = ad224 := (by injection e224)
                (try (replace hx224_0 := (HB.out.cell (World.block_lt_of_cell? w _ hx224_0)).trans hx224_0))
                replace p224 := eq_true p224
                replace q224 := eq_true q224
                go_wp2
                go_roundg k2
                case measure => have := HK1.out; have := HK2.out; omega
                case rel => exact ⟨(x4_2), (wrap64 (x24_2 + 1)), qc8f_, H', ⟨q37b_ HK1.out HK2.out⟩, ⟨q9d5_ HO_4.out⟩, ⟨q0c4_⟩⟩
             ·
              rw [if_neg c14] at H
              exact absurd H (by simp)
            ·
             rw [if_neg c13] at H
             exact absurd H (by simp)
           ·
            rw [if_neg c12] at H
            have c12b0 := decide_eq_false c12
            clear c12
            have H' := Aside0.mk H
            clear H
            go_wp2
            go_roundg k2
            case measure => have := HK1.out; have := HK2.out; omega
            case rel => exact ⟨(x4_2), (wrap64 (x17_1 + 1)), qc8f_, H', ⟨q37b_ HK1.out HK2.out⟩, ⟨q9d5_ HO_4.out⟩, ⟨q0c4_⟩⟩
        ·
         rw [if_neg c11] at H
         exact absurd H (by simp)
       ·
        rw [if_neg c10] at H
        exact absurd H (by simp)
      ·
       rw [if_neg c9] at H
       have c9b0 := decide_eq_false c9
       clear c9
       simp only [Option.some.injEq, Prod.mk.injEq] at H
       obtain ⟨rfl, rfl⟩ := H
       go_wp2
       go_ret2
       exact ⟨_, qce7_, q9d5_ HO_4.out, q0c4_⟩
   ·
    rw [if_neg c5] at H
    exact absurd H (by simp)
  ·
   rw [if_neg c4] at H
   exact absurd H (by simp)
 ·
  replace c3 := Bool.eq_false_iff.mpr c3
  subst c3
  rw [if_neg nf_] at H
  simp only [Option.some.injEq, Prod.mk.injEq] at H
  obtain ⟨rfl, rfl⟩ := H
  go_enter Try.func9, Try.ntmps9
  go_wp2_with (first | ((with_reducible refine gate_callee (f := 21) rfl ?_); refine gl_ 10 Try.func21 #[.slice A0 l0.length c0] ?_; (with_reducible refine (impl_isPoint.calls k _ _ l0 false _ ?s1 ?s2 A2.out).mono ?_); (case s1 => exact q201_ HR0.out); (case s2 => exact HC0.out); rintro e w39 ⟨rfl, hb⟩; refine ⟨_, rfl, ?_⟩; replace HB := Aside0.mk (below_step q0c4_ hb); clear hb))
  go_ret2
  exact ⟨_, qce7_, qf62_, q0c4_⟩

end Go.Proofs.Ytgfedgnpffockaa.PAll
