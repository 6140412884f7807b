-- written by a program of this session (wip/gen/xpatch.py over the translation); Lean checks it
import Derived.Test.YtgfcnfbbiaeboaaGreatPAllx0
import Derived.Test.YtgfcnfbbiaeboaaGreatPAllx1
import Derived.Test.YtgfcnfbbiaeboaaGreatPAllx4
namespace Go.Proofs.YtgfcnfbbiaeboaaGreat.PAll
open Go.RowKit Go.Proofs.YtgfcnfbbiaeboaaGreat.Hand Go.Proofs.YtgfcnfbbiaeboaaGreatW.PrintWords Go.Proofs.YtgfcnfbbiaeboaaGreatW.PrintLast Go.Proofs.YtgfcnfbbiaeboaaGreatW.PrintMore
attribute [local go_sem] max2_int min2_int max_two min_two max_three min_three max_four min_four   -- for this text's walks alone
set_option maxHeartbeats 8000000
set_option maxRecDepth 100000
set_option linter.unusedVariables false
set_option linter.unusedSimpArgs false

/-! ### spec_l1Cur_point: function 47 -/
mutual
def spec_l1Cur_point.l0 : Nat → Int → List Int → List Int → Int → Int → Option (List Int × Int × Int)
 | 0, _, _, _, _, _ => none
 | k + 1, x1, x5, x1000, x1001, x1002 => if (x5.length : Int) < x1 then ((spec_l1Cur_pick.f x1000 x1001 x1002 330).bind fun bt378 => ((spec_l1Cur_one.f x1000 bt378.2.1 bt378.2.2 5).bind fun bt381 => (if bt381.1 = true then (spec_l1Cur_point.j1 k x1 x5 (wrap64 (bt378.1 - 100)) (decide ((x5.length : Int) > 0)) x1000 bt381.2.1 bt381.2.2) else (spec_l1Cur_point.j1 k x1 x5 (wrap64 (bt378.1 - 100)) false x1000 bt381.2.1 bt381.2.2)))) else ((spec_l1Cur_pick.f x1000 x1001 x1002 14).bind fun bt400 => (if bt400.1 = 0 then ((spec_l1Cur_among.f x1000 bt400.2.1 bt400.2.2 (([(-100001), (-100000), 100000, 100001] : List Int))).bind fun bt406 => (if x5.length < 17592186044416 then (some ((x5 ++ [bt406.1]), bt406.2.1, bt406.2.2)) else (none))) else (if bt400.1 = 1 then (if (x5.length : Int) > 1 then (if 1 < (x5.length : Int) then ((spec_l1Cur_among.f x1000 bt400.2.1 bt400.2.2 (([0, 100, (-100)] : List Int))).bind fun bt416 => (if 0 < (x5.length : Int) then (some ((x5.set (0 : Int).toNat (wrap64 ((rd x5 1) + bt416.1))), bt416.2.1, bt416.2.2)) else (none))) else (none)) else (some (x5, bt400.2.1, bt400.2.2))) else (if bt400.1 = 2 then (spec_l1Cur_point.l1 k ([] : List Int) x1000 bt400.2.1 bt400.2.2) else (some (x5, bt400.2.1, bt400.2.2))))))
def spec_l1Cur_point.j1 : Nat → Int → List Int → Int → Bool → List Int → Int → Int → Option (List Int × Int × Int)
 | 0, _, _, _, _, _, _, _ => none
 | k + 1, x1, x5, x6, x20, x1000, x1001, x1002 => if x20 = true then ((spec_l1Cur_pick.f x1000 x1001 x1002 (x5.length : Int)).bind fun bt384 => (if 0 ≤ bt384.1 then (if bt384.1 < (x5.length : Int) then ((spec_l1Cur_among.f x1000 bt384.2.1 bt384.2.2 (([(-101), (-99), (-1), 1, 99, 101] : List Int))).bind fun bt391 => (if x5.length < 17592186044416 then (spec_l1Cur_point.l0 k x1 (x5 ++ [wrap64 ((rd x5 bt384.1) + bt391.1)]) x1000 bt391.2.1 bt391.2.2) else (none))) else (none)) else (none))) else (if x5.length < 17592186044416 then (spec_l1Cur_point.l0 k x1 (x5 ++ [x6]) x1000 x1001 x1002) else (none))
def spec_l1Cur_point.l1 : Nat → List Int → List Int → Int → Int → Option (List Int × Int × Int)
 | 0, _, _, _, _ => none
 | k + 1, x5, x1000, x1001, x1002 => (spec_l1Cur_pick.f x1000 x1001 x1002 2).bind fun bt420 => (if (x5.length : Int) < (wrap64 (8 + bt420.1)) then (if x5.length < 17592186044416 then (spec_l1Cur_point.l1 k (x5 ++ [wrap64 ((-37) * (x5.length : Int))]) x1000 bt420.2.1 bt420.2.2) else (none)) else (some (x5, bt420.2.1, bt420.2.2)))
end
def spec_l1Cur_point.f (k : Nat) (s0_0 : List Int) (s0_1 : Int) (s0_2 : Int) (a1 : Int) : Option (List Int × Int × Int) := spec_l1Cur_point.l0 k a1 ([] : List Int) s0_0 s0_1 s0_2
theorem spec_l1Cur_point.mono_l : ∀ k, (∀ y0 y1 y2 y3 y4, LeO (spec_l1Cur_point.l0 k y0 y1 y2 y3 y4) (spec_l1Cur_point.l0 (k + 1) y0 y1 y2 y3 y4)) ∧ (∀ y0 y1 y2 y3 y4 y5 y6, LeO (spec_l1Cur_point.j1 k y0 y1 y2 y3 y4 y5 y6) (spec_l1Cur_point.j1 (k + 1) y0 y1 y2 y3 y4 y5 y6)) ∧ (∀ y0 y1 y2 y3, LeO (spec_l1Cur_point.l1 k y0 y1 y2 y3) (spec_l1Cur_point.l1 (k + 1) y0 y1 y2 y3))
 | 0 => ⟨fun _ _ _ _ _ r h => by simp [spec_l1Cur_point.l0] at h, fun _ _ _ _ _ _ _ r h => by simp [spec_l1Cur_point.j1] at h, fun _ _ _ _ r h => by simp [spec_l1Cur_point.l1] at h⟩
 | k + 1 => by
  obtain ⟨ih0, ih1, ih2⟩ := spec_l1Cur_point.mono_l k
  refine ⟨?_, ?_, ?_⟩
  ·
   intro y0 y1 y2 y3 y4
   unfold spec_l1Cur_point.l0
   repeat' (with_reducible first | exact ih0 _ _ _ _ _ | exact ih1 _ _ _ _ _ _ _ | exact ih2 _ _ _ _ | exact LeO.refl _ | exact LeO.none _ | refine LeO.ite ?_ ?_ | refine LeO.bind ?_ (fun _ => ?_))
  ·
   intro y0 y1 y2 y3 y4 y5 y6
   unfold spec_l1Cur_point.j1
   repeat' (with_reducible first | exact ih0 _ _ _ _ _ | exact ih1 _ _ _ _ _ _ _ | exact ih2 _ _ _ _ | exact LeO.refl _ | exact LeO.none _ | refine LeO.ite ?_ ?_ | refine LeO.bind ?_ (fun _ => ?_))
  ·
   intro y0 y1 y2 y3
   unfold spec_l1Cur_point.l1
   repeat' (with_reducible first | exact ih0 _ _ _ _ _ | exact ih1 _ _ _ _ _ _ _ | exact ih2 _ _ _ _ | exact LeO.refl _ | exact LeO.none _ | refine LeO.ite ?_ ?_ | refine LeO.bind ?_ (fun _ => ?_))
theorem spec_l1Cur_point.mono : ∀ a0 a1 a2 a3 k, LeO (spec_l1Cur_point.f k a0 a1 a2 a3) (spec_l1Cur_point.f (k + 1) a0 a1 a2 a3) := by
 intro a0 a1 a2 a3 k
 obtain ⟨ih0, ih1, ih2⟩ := spec_l1Cur_point.mono_l k
 unfold spec_l1Cur_point.f
 repeat' (with_reducible first | exact ih0 _ _ _ _ _ | exact ih1 _ _ _ _ _ _ _ | exact ih2 _ _ _ _ | exact LeO.refl _ | exact LeO.none _ | refine LeO.ite ?_ ?_ | refine LeO.bind ?_ (fun _ => ?_))
def spec_l1Cur_point.T5 : Bool × List (List Nat × List Nat) := (true, [([], []), ([], []), ([], []), ([2], [2]), ([1, 3], [1, 3]), ([0, 4], [0, 4]), ([5], [5]), ([], []), ([], []), ([7, 8, 4], [7, 8]), ([6, 9], [6, 9]), ([10, 9, 0, 1, 2, 3, 4, 5, 6, 7, 8, 9, 10], [10])])
def spec_l1Cur_point.B5 : List Nat := [0, 0, 0, 4, 14, 31, 63, 0, 0, 414, 1023, 2047]
theorem spec_l1Cur_point.tab5 : rtab .any (opsOf Tryz.f47 5) = spec_l1Cur_point.T5 := by kernel_rfl
theorem spec_l1Cur_point.bits5 : waitsOk spec_l1Cur_point.T5.2 spec_l1Cur_point.B5 = true := by kernel_rfl
def spec_l1Cur_point.T12 : Bool × List (List Nat × List Nat) := (true, [([], []), ([], []), ([1], [1]), ([2], [2]), ([], []), ([], []), ([4, 5], [4, 5]), ([3, 6], [3, 6]), ([0, 0, 1, 2, 3, 4, 5, 6, 7], [0]), ([8, 7, 6, 0, 1, 2, 3, 4, 5, 6, 7], [7, 8])])
def spec_l1Cur_point.B12 : List Nat := [0, 0, 2, 6, 0, 0, 48, 126, 255, 511]
theorem spec_l1Cur_point.tab12 : rtab .any (opsOf Tryz.f47 12) = spec_l1Cur_point.T12 := by kernel_rfl
theorem spec_l1Cur_point.bits12 : waitsOk spec_l1Cur_point.T12.2 spec_l1Cur_point.B12 = true := by kernel_rfl
theorem spec_l1Cur_point.calls (k : Nat) (g : Nat) (s0_0 : List Int) (s0_1 : Int) (s0_2 : Int) (a1 : Int) (r1 : List Int) (r2 : Int) (r3 : Int) (w0 w : World) (hI : IsS41 w0 w g s0_0 s0_1 s0_2) (hB : Below w0.heap.size w0 w) (h : spec_l1Cur_point.f k s0_0 s0_1 s0_2 a1 = some (r1, r2, r3)) :
  Calls Tryz.prog 47 #[.pointer (some ⟨g, 0, none⟩), .int .i64 a1] w fun e w' => ∃ v0_ : Value, e = .returned (v0_) ∧ Kd.R (Kd.int .i64) 3 w' w.heap.size (fun _ => True) v0_ r1 ∧ IsS41 w0 w' g s0_0 r2 r3 ∧ Below w0.heap.size w0 w' ∧ KeepBut w w' g none := by
 have HI0 := Aside0.mk hI
 have HK := Aside0.mk (KeepBut.refl w g none)
 have HL := Aside0.mk hB.size
 clear hI
 have HW0 := Aside0.mk hB.size
 have HB := Aside0.mk hB
 clear hB
 unfold spec_l1Cur_point.f at h
 have H := h; clear h
 have H' := Aside0.mk H
 clear H
 go_enter Tryz.func47, Tryz.ntmps47
 go_wp2
 go_loopg [5] k (fun kq v5 w' => ∃ (x5_1 : List Int) (x1001_1 : Int) (x1002_1 : Int), Aside0 (spec_l1Cur_point.l0 kq a1 x5_1 s0_0 x1001_1 x1002_1 = some (r1, r2, r3)) ∧ Aside0 (kq ≤ k) ∧ Aside0 (Kd.R (Kd.int .i64) 3 w' w.heap.size (fun _ => True) v5 x5_1) ∧ Aside0 (IsS41 w0 w' g s0_0 x1001_1 x1002_1) ∧ Aside0 (KeepBut w w' g none) ∧ Aside0 (Below w0.heap.size w0 w'))
 case atStart => exact ⟨(([] : List Int)), (s0_1), (s0_2), H', ⟨Nat.le_refl _⟩, ⟨qf62_⟩, ⟨q940_ HI0.out⟩, ⟨q1d6_⟩, ⟨q1dd_ HI0.out⟩⟩
 case round =>
  clear H'; try clear p2
  obtain ⟨x5_1, x1001_1, x1002_1, HA, HK1, HO_5, HI0, HK, HB⟩ := hrel
  cases gk with
  | zero => exact absurd HA.out (by simp [spec_l1Cur_point.l0])
  | succ k1 =>
   have H := HA.out
   clear HA
   simp only [spec_l1Cur_point.l0] at H
   by_cases c3 : (x5_1.length : Int) < a1
   ·
    rw [if_pos c3] at H
    have c3b0 := decide_eq_true c3
    clear c3
    obtain ⟨⟨t378, t379, t380⟩, A4, H⟩ := ob_ H
    dsimp only at H
    have HC5 := Aside0.mk H
    clear H
    obtain ⟨Ao6, co6, eo6⟩ := Kd.R_slice HO_5.out
    subst eo6
    go_upto_region 4 with (first | ((with_reducible refine gate_callee (f := 35) rfl ?_); refine gl_ 12 Tryz.func35 #[.pointer (some ⟨g, 0, none⟩), .int .i64 330] ?_; (with_reducible refine (spec_l1Cur_pick.calls g s0_0 x1001_1 x1002_1 330 t378 t379 t380 w0 _ ?s1 ?s2 A4.out).mono ?_); (case s1 => exact q940_ HI0.out); (case s2 => exact q1dd_ HI0.out); rintro e w7 ⟨rfl, hi, hb, hk⟩; refine ⟨_, rfl, ?_⟩; replace HO_5 := Aside0.mk (Kd.R_mono (Kd.R_keep (IsS41.apart (show IsS41 w0 _ g s0_0 x1001_1 x1002_1 from q940_ HI0.out) (q9d5_ HO_5.out) (by decide)) hk (fun _ h => h.2)) (fun _ h => h.1)); replace HK := Aside0.mk (KeepBut.trans q1d6_ hk (.inl rfl)); replace HB := Aside0.mk (hb); replace HI0 := Aside0.mk (hi); clear hb hk hi))
    (try simp only [Act.put, List.setIfInBounds_toArray, List.set_cons_zero, List.set_cons_succ])
    go_cut [20] (fun v20 wc => ∃ (kq : Nat) (x20_4 : Bool) (x1001_4 : Int) (x1002_4 : Int), v20 = .bool x20_4 ∧ Aside0 (spec_l1Cur_point.j1 kq a1 x5_1 (wrap64 (t378 - 100)) x20_4 s0_0 x1001_4 x1002_4 = some (r1, r2, r3)) ∧ Aside0 (kq ≤ k1) ∧ Aside0 (Kd.R (Kd.int .i64) 3 wc w.heap.size (fun _ => True) (.slice Ao6 x5_1.length co6) x5_1) ∧ Aside0 (IsS41 w0 wc g s0_0 x1001_4 x1002_4) ∧ Aside0 (KeepBut w wc g none) ∧ Aside0 (Below w0.heap.size w0 wc))
    case first =>
     have H := HC5.out
     clear HC5
     obtain ⟨⟨t381, t382, t383⟩, A8, H⟩ := ob_ H
     dsimp only at H
     by_cases c9 : t381 = true
     ·
      subst c9
      rw [if_pos rfl] at H
      have H' := Aside0.mk H
      clear H
      go_wp2_with (first | ((with_reducible refine gate_callee (f := 64) rfl ?_); refine gl_ 15 Tryz.func64 #[.pointer (some ⟨g, 0, none⟩), .int .i64 5] ?_; (with_reducible refine (spec_l1Cur_one.calls g s0_0 t379 t380 5 true t382 t383 w0 _ ?s1 ?s2 A8.out).mono ?_); (case s1 => exact q940_ HI0.out); (case s2 => exact q1dd_ HI0.out); rintro e w10 ⟨rfl, hi, hb, hk⟩; refine ⟨_, rfl, ?_⟩; replace HO_5 := Aside0.mk (Kd.R_mono (Kd.R_keep (IsS41.apart (show IsS41 w0 _ g s0_0 t379 t380 from q940_ HI0.out) (q9d5_ HO_5.out) (by decide)) hk (fun _ h => h.2)) (fun _ h => h.1)); replace HK := Aside0.mk (KeepBut.trans q1d6_ hk (.inl rfl)); replace HB := Aside0.mk (hb); replace HI0 := Aside0.mk (hi); clear hb hk hi))
      go_meet
      case rel => exact ⟨_, (decide ((x5_1.length : Int) > 0)), (t382), (t383), qc8f_, H', ⟨by have := HK1.out; first | omega | exact Nat.le_refl _⟩, ⟨q9d5_ HO_5.out⟩, ⟨q940_ HI0.out⟩, ⟨q1d6_⟩, ⟨q1dd_ HI0.out⟩⟩
     ·
      replace c9 := Bool.eq_false_iff.mpr c9
      subst c9
      rw [if_neg nf_] at H
      have H' := Aside0.mk H
      clear H
      go_wp2_with (first | ((with_reducible refine gate_callee (f := 64) rfl ?_); refine gl_ 15 Tryz.func64 #[.pointer (some ⟨g, 0, none⟩), .int .i64 5] ?_; (with_reducible refine (spec_l1Cur_one.calls g s0_0 t379 t380 5 false t382 t383 w0 _ ?s1 ?s2 A8.out).mono ?_); (case s1 => exact q940_ HI0.out); (case s2 => exact q1dd_ HI0.out); rintro e w11 ⟨rfl, hi, hb, hk⟩; refine ⟨_, rfl, ?_⟩; replace HO_5 := Aside0.mk (Kd.R_mono (Kd.R_keep (IsS41.apart (show IsS41 w0 _ g s0_0 t379 t380 from q940_ HI0.out) (q9d5_ HO_5.out) (by decide)) hk (fun _ h => h.2)) (fun _ h => h.1)); replace HK := Aside0.mk (KeepBut.trans q1d6_ hk (.inl rfl)); replace HB := Aside0.mk (hb); replace HI0 := Aside0.mk (hi); clear hb hk hi))
      go_meet
      case rel => exact ⟨_, (false), (t382), (t383), qc8f_, H', ⟨by have := HK1.out; first | omega | exact Nat.le_refl _⟩, ⟨q9d5_ HO_5.out⟩, ⟨q940_ HI0.out⟩, ⟨q1d6_⟩, ⟨q1dd_ HI0.out⟩⟩
    case rest =>
     clear HC5; try clear p2; try clear c3; try clear c3b0; try clear c4; try clear c6; try clear p6; try clear c9; try clear p2
     obtain ⟨kq, x20_4, x1001_4, x1002_4, rfl, HA, HJ4, HO_5, HI0, HK, HB⟩ := hcut
     cases kq with
     | zero => exact absurd HA.out (by simp [spec_l1Cur_point.j1])
     | succ kj4 =>
      have H := HA.out
      clear HA
      simp only [spec_l1Cur_point.j1] at H
      by_cases c12 : x20_4 = true
      ·
       subst c12
       rw [if_pos rfl] at H
       obtain ⟨⟨t384, t385, t386⟩, A13, H⟩ := ob_ H
       dsimp only at H
       by_cases c14 : 0 ≤ t384
       ·
        rw [if_pos c14] at H
        have c14b0 := decide_eq_true c14
        clear c14
        by_cases c15 : t384 < (x5_1.length : Int)
        ·
         rw [if_pos c15] at H
         have c15b0 := decide_eq_true c15
         clear c15
         obtain ⟨y388, hy388⟩ : ∃ y_ : List Int, y_ = (([(-101), (-99), (-1), 1, 99, 101] : List Int)) := ⟨_, rfl⟩
         replace H : ((spec_l1Cur_among.f s0_0 t385 t386 y388).bind fun bt391 => (if x5_1.length < 17592186044416 then (spec_l1Cur_point.l0 kj4 a1 (x5_1 ++ [wrap64 ((rd x5_1 t384) + bt391.1)]) s0_0 bt391.2.1 bt391.2.2) else (none))) = some (r1, r2, r3) := by first | (rw [hy388]; with_reducible exact H) | (have H2_ := (Option.bind_some _ _).symm.trans H; rw [hy388]; with_reducible exact H2_) | (have H2_ := (Option.bind_some _ _).symm.trans H; with_reducible exact H2_) | with_reducible exact H | (rw [hy388]; exact H) | exact H
         have Ny388 := Aside0.mk hy388
         clear hy388
         obtain ⟨⟨t391, t392, t393⟩, A16, H⟩ := ob_ H
         dsimp only at H
         by_cases c17 : x5_1.length < 17592186044416
         ·
          rw [if_pos c17] at H
          have LMc17 := Aside0.mk c17
          clear c17
          obtain ⟨y394, hy394⟩ : ∃ y_ : List Int, y_ = (x5_1 ++ [wrap64 ((rd x5_1 t384) + t391)]) := ⟨_, rfl⟩
          replace H : (spec_l1Cur_point.l0 kj4 a1 y394 s0_0 t392 t393) = some (r1, r2, r3) := by first | (rw [hy394]; with_reducible exact H) | (have H2_ := (Option.bind_some _ _).symm.trans H; rw [hy394]; with_reducible exact H2_) | (have H2_ := (Option.bind_some _ _).symm.trans H; with_reducible exact H2_) | with_reducible exact H | (rw [hy394]; exact H) | exact H
          have Ny394 := Aside0.mk hy394
          clear hy394
          have H' := Aside0.mk H
          clear H
          try go_wp2
          have n0_ := Aside0.mk (Kd.R_drew HO_5.out)
          have n1_ := Aside0.mk (IsS41.drew HI0.out)
          have n2_ := Aside0.mk (keep_drew HK.out)
          have n3_ := Aside0.mk (below_drew1 HB.out)
          clear HO_5 HI0 HK HB; have HO_5 := n0_; have HI0 := n1_; have HK := n2_; have HB := n3_; clear n0_ n1_ n2_ n3_
          have p387 : 0 ≤ (t384 : Int) := of_decide_eq_true qe84_
          have q387 : t384 < (x5_1.length : Int) := of_decide_eq_true qe84_
          obtain ⟨ad387, e387, hx387_0⟩ := Kd.at_int (Kd.R_reads' HO_5.out).2.2 t384 p387 q387
          cases e387
          replace p387 := eq_true p387
          replace q387 := eq_true q387
          refine start_ (n := 12) (S := fun w' => True) (ds := []) #[false, false, false, false, false, false, false, false, false, false, false, false] (by kernel_rfl) rfl rfl trivial (fun hHeld => ?_); refine with_tabW spec_l1Cur_point.tab5 spec_l1Cur_point.bits5 (fun HT_ HW_ => ?_)
          generalize wc.drew = w18 at HO_5 HI0 HK HB hx387_0 hHeld ⊢
          refine pure_ (i := 0) (N := some 21) (v := ?_) (a' := ?_) #[true, false, false, false, false, false, false, false, false, false, false, false] rfl rfl (any_of HT_.out (by kernel_rfl)) (fun _ _ _ h => h) (Or.inl ⟨by rfl, ?_⟩) ?_ ?_
          rotate_left
          ·
           intro w'
           go_simp
           with_reducible rfl
          rotate_left
          ·
           simp only [Act.put, List.setIfInBounds_toArray, List.set_cons_zero, List.set_cons_succ, i64_w, i32_w]
           rfl
          refine pure_ (i := 1) (N := some 22) (v := ?_) (a' := ?_) #[true, true, false, false, false, false, false, false, false, false, false, false] rfl rfl (any_of HT_.out (by kernel_rfl)) (fun _ _ _ h => h) (Or.inl ⟨by rfl, ?_⟩) ?_ ?_
          rotate_left
          ·
           intro w'
           go_simp
           with_reducible rfl
          rotate_left
          ·
           simp only [Act.put, List.setIfInBounds_toArray, List.set_cons_zero, List.set_cons_succ, i64_w, i32_w]
           rfl
          refine pure_ (i := 2) (N := some 23) (v := ?_) (a' := ?_) #[true, true, true, false, false, false, false, false, false, false, false, false] rfl rfl (any_of HT_.out (by kernel_rfl)) (fun _ _ _ h => h) (Or.inl ⟨by rfl, ?_⟩) ?_ ?_
          rotate_left
          ·
           intro w'
           go_simp
           with_reducible rfl
          rotate_left
          ·
           simp only [Act.put, List.setIfInBounds_toArray, List.set_cons_zero, List.set_cons_succ, i64_w, i32_w]
           rfl
          refine pure_ (i := 7) (N := some 28) (v := ?_) (a' := ?_) #[true, true, true, false, false, false, false, true, false, false, false, false] rfl rfl (any_of HT_.out (by kernel_rfl)) (fun _ _ _ h => h) (Or.inl ⟨by rfl, ?_⟩) ?_ ?_
          rotate_left
          ·
           intro w'
           go_simp
           with_reducible rfl
          rotate_left
          ·
           simp only [Act.put, List.setIfInBounds_toArray, List.set_cons_zero, List.set_cons_succ, i64_w, i32_w]
           rfl
          refine inv_at [3, 4, 5, 6, 8, 9, 10, 11] (fun a0_ b a w' => ∃ (v389 : Value), a = putSel a0_ b [(3, 24, .int .i64 (x5_1.length : Int)), (4, 25, .int .i64 t384), (5, 26, .pointer (some (ad387.add (t384).toNat))), (6, 27, .int .i64 (rd x5_1 t384)), (8, 29, v389), (9, 30, .int .i64 t391), (10, 31, .int .i64 (wrap64 ((rd x5_1 t384) + t391))), (11, 6, .int .i64 (wrap64 ((rd x5_1 t384) + t391)))] ∧ (Kd.R (Kd.int .i64) 3 w' w.heap.size (fun _ => True) (.slice (some ad387) x5_1.length co6) x5_1) ∧ (b 4 = false → IsS41 w0 w' g s0_0 x1001_4 x1002_4) ∧ (KeepBut w w' g none) ∧ (Below w0.heap.size w0 w') ∧ (b 4 = true → b 9 = false → IsS41 w0 w' g s0_0 t385 t386) ∧ (b 8 = true → Kd.R (Kd.int .i64) 3 w' w.heap.size (fun k_ => some k_ ≠ (.slice (some ad387) x5_1.length co6 : Value).ownBlock) v389 y388) ∧ (b 9 = true → IsS41 w0 w' g s0_0 t392 t393)) HT_.out HW_.out (by kernel_rfl) (by kernel_rfl) ?_ ?_ ?_
          · exact ⟨.bool false, by simp only [putSel, Bool.false_eq_true, if_false], HO_5.out, fun _ => HI0.out, HK.out, HB.out, fun h_ => absurd h_ (by decide), fun h_ => absurd h_ (by decide), fun h_ => absurd h_ (by decide)⟩
          ·
           skip
           clear HB HI0 HK HO_5
           refine steps_cons ?_ ?_
           ·
            rintro b a w' ⟨v389, ha, Q_HO_5, Q_HI0, Q_HK, Q_HB, Q_HI0_e4, Q_HO390, Q_HI0_e9⟩ hb_ hon hoff
            refine ⟨_, rfl, fun K hK => ?_⟩
            have e23 : a.tmps[23]? = some (.slice (some ad387) x5_1.length co6) := q32c_
            replace ha := Aside0.mk ha
            have HO_5 := Aside0.mk Q_HO_5
            have HI0 := Aside0.mk (Q_HI0 (hoff 4 (by kernel_rfl)))
            have HK := Aside0.mk Q_HK
            have HB := Aside0.mk Q_HB
            refine value_ (w1 := w') (v := .int .i64 (x5_1.length : Int)) (by rfl) rfl ?_ ?_
            ·
             go_simp
             (try simp only [i64_w])
             try rfl
            refine hK.out _ _ ⟨v389, (by rw [ha.out]; exact putSel_upk 0 hb_ rfl rfl rfl), Q_HO_5, Q_HI0, Q_HK, Q_HB, fun h0_ _ => absurd ((hoff 4 (by kernel_rfl)).symm.trans h0_) (by decide), Q_HO390, fun h0_ => absurd ((hoff 9 (by kernel_rfl)).symm.trans h0_) (by decide)⟩
           refine steps_cons ?_ ?_
           ·
            rintro b a w' ⟨v389, ha, Q_HO_5, Q_HI0, Q_HK, Q_HB, Q_HI0_e4, Q_HO390, Q_HI0_e9⟩ hb_ hon hoff
            refine ⟨_, rfl, fun K hK => ?_⟩
            have e22 : a.tmps[22]? = some (.pointer (some ⟨g, 0, none⟩)) := q32c_
            have e24 : a.tmps[24]? = some (.int .i64 (x5_1.length : Int)) := by rw [ha]; exact putSel_on (e := (3, 24, .int .i64 (x5_1.length : Int))) 0 rfl rfl (hon 3 (by kernel_rfl)) rfl
            replace ha := Aside0.mk ha
            have HO_5 := Aside0.mk Q_HO_5
            have HI0 := Aside0.mk (Q_HI0 hb_)
            have HK := Aside0.mk Q_HK
            have HB := Aside0.mk Q_HB
            refine goes_ Tryz.func35 (by kernel_rfl) rfl #[.pointer (some ⟨g, 0, none⟩), .int .i64 (x5_1.length : Int)] (by rfl) rfl rfl (by first | (simp only [List.map_toArray, List.map_cons, List.map_nil, Act.eval, Array.getD_eq_getD_getElem?, Option.getD_some, e22, e24]; done) | (simp only [List.map_toArray, List.map_cons, List.map_nil, Act.eval, Array.getD_eq_getD_getElem?, Option.getD_some, e22, e24]; rfl)) ?_
            with_reducible refine (spec_l1Cur_pick.calls g s0_0 x1001_4 x1002_4 (x5_1.length : Int) t384 t385 t386 w0 _ ?s1 ?s2 A13.out).mono ?_
            (case s1 => exact q940_ HI0.out)
            (case s2 => exact q1dd_ HI0.out)
            rintro e w19 ⟨rfl, hi, hb, hk⟩
            refine ⟨_, rfl, ?_⟩
            have n0_ := Aside0.mk (Kd.R_mono (Kd.R_keep (IsS41.apart (show IsS41 w0 _ g s0_0 x1001_4 x1002_4 from q940_ HI0.out) (q9d5_ HO_5.out) (by decide)) hk (fun _ h => h.2)) (fun _ h => h.1))
            have n1_ := Aside0.mk (KeepBut.trans q1d6_ hk (.inl rfl))
            have n2_ := Aside0.mk (hb)
            have n3_ := Aside0.mk (hi)
            have z_HO390 := fun (h0_ : b 8 = true) => (show Kd.R (Kd.int .i64) 3 w19 w.heap.size (fun k_ => some k_ ≠ (.slice (some ad387) x5_1.length co6 : Value).ownBlock) v389 y388 from by first | exact (Kd.R_mono (Kd.R_keep (IsS41.apart (show IsS41 w0 _ g s0_0 x1001_4 x1002_4 from q940_ HI0.out) (by (with_reducible repeat (first | apply Kd.R_alloc | apply Kd.R_drewN | apply Kd.R_drew)); exact (Q_HO390 h0_)) (by decide)) hk (fun _ h => h.2)) (fun _ h => h.1)) | exact Kd.R_mono (Kd.R_mono (Kd.R_keep (IsS41.apart (show IsS41 w0 _ g s0_0 x1001_4 x1002_4 from q940_ HI0.out) (by (with_reducible repeat (first | apply Kd.R_alloc | apply Kd.R_drewN | apply Kd.R_drew)); exact (Q_HO390 h0_)) (by decide)) hk (fun _ h => h.2)) (fun _ h => h.1)) (fun _ h_ => by first | trivial | exact h_ | exact h_.1))
            clear HO_5 HK HB HI0; have HO_5 := n0_; have HK := n1_; have HB := n2_; have HI0 := n3_; clear n0_ n1_ n2_ n3_
            (try clear hb)
            (try clear hb2)
            (try clear hk)
            (try clear hi)
            refine hK.out _ _ ⟨v389, (by rw [ha.out]; exact putSel_upk 1 hb_ rfl rfl rfl), (q9d5_ HO_5.out), fun h0_ => absurd ((up_self b 4).symm.trans h0_) (by decide), q1d6_, (q1dd_ HI0.out), fun _ _ => (q940_ HI0.out), z_HO390, fun h0_ => absurd ((hoff 9 (by kernel_rfl)).symm.trans h0_) (by decide)⟩
           refine steps_cons ?_ ?_
           ·
            rintro b a w' ⟨v389, ha, Q_HO_5, Q_HI0, Q_HK, Q_HB, Q_HI0_e4, Q_HO390, Q_HI0_e9⟩ hb_ hon hoff
            refine ⟨_, rfl, fun K hK => ?_⟩
            have e21 : a.tmps[21]? = some (.slice (some ad387) x5_1.length co6) := q32c_
            have e25 : a.tmps[25]? = some (.int .i64 t384) := by rw [ha]; exact putSel_on (e := (4, 25, .int .i64 t384)) 1 rfl rfl (hon 4 (by kernel_rfl)) rfl
            replace ha := Aside0.mk ha
            have HO_5 := Aside0.mk Q_HO_5
            have HK := Aside0.mk Q_HK
            have HB := Aside0.mk Q_HB
            refine value_ (w1 := w') (v := .pointer (some (ad387.add (t384).toNat))) (by rfl) rfl ?_ ?_
            ·
             go_simp
             (try simp only [i64_w])
             try rfl
            refine hK.out _ _ ⟨v389, (by rw [ha.out]; exact putSel_upk 2 hb_ rfl rfl rfl), Q_HO_5, fun h0_ => absurd ((hon 4 (by kernel_rfl)).symm.trans h0_) (by decide), Q_HK, Q_HB, Q_HI0_e4, Q_HO390, Q_HI0_e9⟩
           refine steps_cons ?_ ?_
           ·
            rintro b a w' ⟨v389, ha, Q_HO_5, Q_HI0, Q_HK, Q_HB, Q_HI0_e4, Q_HO390, Q_HI0_e9⟩ hb_ hon hoff
            refine ⟨_, rfl, fun K hK => ?_⟩
            have e26 : a.tmps[26]? = some (.pointer (some (ad387.add (t384).toNat))) := by rw [ha]; exact putSel_on (e := (5, 26, .pointer (some (ad387.add (t384).toNat)))) 2 rfl rfl (hon 5 (by kernel_rfl)) rfl
            replace ha := Aside0.mk ha
            have HO_5 := Aside0.mk Q_HO_5
            have HK := Aside0.mk Q_HK
            have HB := Aside0.mk Q_HB
            obtain ⟨ad387_z, e387_z, hx387_0_z⟩ := Kd.at_int (Kd.R_reads' HO_5.out).2.2 t384 (of_eq_true p387) (of_eq_true q387)
            cases e387_z
            have hs0_ : w'.cell? (ad387.add (t384).toNat) = some (.int .i64 (rd x5_1 t384)) := (by first | exact hx387_0_z | (have h_ := hx387_0_z; (try simp only [Int.reduceToNat, Nat.zero_mul, Nat.reduceMul, Nat.reduceEqDiff, Go.Addr.add, ↓reduceIte, Addr.add_zero'] at h_); exact h_))
            refine value_ (w1 := w') (v := .int .i64 (rd x5_1 t384)) (by rfl) rfl ?_ ?_
            ·
             go_simp
             (try simp only [i64_w])
             try rfl
            refine hK.out _ _ ⟨v389, (by rw [ha.out]; exact putSel_upk 3 hb_ rfl rfl rfl), Q_HO_5, fun h0_ => absurd ((hon 4 (by kernel_rfl)).symm.trans h0_) (by decide), Q_HK, Q_HB, Q_HI0_e4, Q_HO390, Q_HI0_e9⟩
           refine steps_cons ?_ ?_
           ·
            rintro b a w' ⟨v389, ha, Q_HO_5, Q_HI0, Q_HK, Q_HB, Q_HI0_e4, Q_HO390, Q_HI0_e9⟩ hb_ hon hoff
            refine ⟨_, rfl, fun K hK => ?_⟩
            replace ha := Aside0.mk ha
            have HO_5 := Aside0.mk Q_HO_5
            have HK := Aside0.mk Q_HK
            have HB := Aside0.mk Q_HB
            refine Kd.R_lit_step (Kd.int .i64) _ 3 ?hg (N := 29) ?hd (xs := ([(-101), (-99), (-1), 1, 99, 101] : List Int)) (inner := [.int .i64 (-101), .int .i64 (-99), .int .i64 (-1), .int .i64 1, .int .i64 99, .int .i64 101]) (ok := fun _ => True) (okp := fun _ => True) ?hr ?hp (fun _ hk => hk) trivial (Below.refl _ _) (Nat.le_refl _) (by simp) ?_; (case hd => rfl); (case hg => rfl); (case hr => exact qfba_); (case hp => exact (Reps.one (show Kd.M (Kd.int .i64) _ _ _ (-101) [.int .i64 (-101)] from rfl) (Reps.one (show Kd.M (Kd.int .i64) _ _ _ (-99) [.int .i64 (-99)] from rfl) (Reps.one (show Kd.M (Kd.int .i64) _ _ _ (-1) [.int .i64 (-1)] from rfl) (Reps.one (show Kd.M (Kd.int .i64) _ _ _ 1 [.int .i64 1] from rfl) (Reps.one (show Kd.M (Kd.int .i64) _ _ _ 99 [.int .i64 99] from rfl) (Reps.one (show Kd.M (Kd.int .i64) _ _ _ 101 [.int .i64 101] from rfl) (Reps.none _ _))))))))
            intro v389 w19 ho20 hb hg_ hnew_
            clear hg_ hnew_
            (first | rw [← Ny388.out] at ho20 | (simp only [Int.reduceToNat] at ho20; rw [← Ny388.out] at ho20))
            have n0_ := Aside0.mk (Kd.R_elder' (q9d5_ HO_5.out) (Kd.R_base ho20) hb)
            have n1_ := Aside0.mk (Kd.R_lower (Kd.R_new' ho20 (Kd.R_lt (q9d5_ HO_5.out))) (keep_size (w := w) (g := g) (row := none) q1d6_))
            have n3_ := Aside0.mk (KeepBut.trans q1d6_ (KeepBut.of_below hb g none) (.inl rfl))
            have n4_ := Aside0.mk (below_step q0c4_ hb)
            have z_HI0 := fun (h0_ : b 4 = false) => (show IsS41 w0 w19 g s0_0 x1001_4 x1002_4 from by first | exact (IsS41.below (by repeat (first | (with_reducible first | exact (Q_HI0 h0_) | apply IsS41.alloc | apply IsS41.drewN | apply IsS41.drew | apply IsS41.set_1 | apply IsS41.set_2) | exact (Q_HI0 h0_))) hb))
            have z_HI0_e4 := fun (h0_ : b 4 = true) (h1_ : b 9 = false) => (show IsS41 w0 w19 g s0_0 t385 t386 from by first | exact (IsS41.below (by repeat (first | (with_reducible first | exact (Q_HI0_e4 h0_ h1_) | apply IsS41.alloc | apply IsS41.drewN | apply IsS41.drew | apply IsS41.set_1 | apply IsS41.set_2) | exact (Q_HI0_e4 h0_ h1_))) hb))
            clear HO_5 HK HB; have HO_5 := n0_; have HO390 := n1_; have HK := n3_; have HB := n4_; clear n0_ n1_ n3_ n4_ hb ho20
            refine hK.out _ _ ⟨v389, (by rw [ha.out]; exact putSel_upk 4 hb_ rfl rfl rfl), (by (with_reducible repeat (first | apply Kd.R_alloc | apply Kd.R_drewN | apply Kd.R_drew)); exact Kd.R_mono HO_5.out (fun _ hk => by first | exact hk.2 | trivial)), z_HI0, q1d6_, q0c4_, z_HI0_e4, fun _ => (by (with_reducible repeat (first | apply Kd.R_alloc | apply Kd.R_drewN | apply Kd.R_drew)); exact Kd.R_mono HO390.out (fun _ hk => by first | exact hk.2 | trivial)), fun h0_ => absurd ((hoff 9 (by kernel_rfl)).symm.trans h0_) (by decide)⟩
           refine steps_cons ?_ ?_
           ·
            rintro b a w' ⟨v389, ha, Q_HO_5, Q_HI0, Q_HK, Q_HB, Q_HI0_e4, Q_HO390, Q_HI0_e9⟩ hb_ hon hoff
            refine ⟨_, rfl, fun K hK => ?_⟩
            have e28 : a.tmps[28]? = some (.pointer (some ⟨g, 0, none⟩)) := q32c_
            have e29 : a.tmps[29]? = some (v389) := by rw [ha]; exact putSel_on (e := (8, 29, v389)) 4 rfl rfl (hon 8 (by kernel_rfl)) rfl
            replace ha := Aside0.mk ha
            have HO_5 := Aside0.mk Q_HO_5
            have HK := Aside0.mk Q_HK
            have HB := Aside0.mk Q_HB
            have HI0 := Aside0.mk (Q_HI0_e4 (hon 4 (by kernel_rfl)) hb_)
            have HO390 := Aside0.mk (Q_HO390 (hon 8 (by kernel_rfl)))
            obtain ⟨Ao23, co23, eo23⟩ := Kd.R_slice HO390.out
            (first | subst eo23 | (injection eo23 with f1_ f2_ f3_; have f4_ := f1_.symm; have f5_ := f3_.symm; clear f1_ f2_ f3_; subst f4_; subst f5_))
            refine goes_ Tryz.func37 (by kernel_rfl) rfl #[.pointer (some ⟨g, 0, none⟩), .slice Ao23 y388.length co23] (by rfl) rfl rfl (by first | (simp only [List.map_toArray, List.map_cons, List.map_nil, Act.eval, Array.getD_eq_getD_getElem?, Option.getD_some, e28, e29]; done) | (simp only [List.map_toArray, List.map_cons, List.map_nil, Act.eval, Array.getD_eq_getD_getElem?, Option.getD_some, e28, e29]; rfl)) ?_
            with_reducible refine (spec_l1Cur_among.calls g s0_0 t385 t386 _ _ y388 t391 t392 t393 w0 _ ?s1 ?s2 ?s3 ?s4 ?s5 A16.out).mono ?_
            (case s1 => exact q940_ HI0.out)
            (case s2 => exact q1dd_ HI0.out)
            (case s3 => exact q5a8_ HO390.out)
            (case s4 => exact (Kd.R_reads' HO390.out).2.1)
            (case s5 => exact far_slice (IsS41.own_ne HI0.out HO390.out (by decide)))
            rintro e w24 ⟨rfl, hi, hb, hk⟩
            refine ⟨_, rfl, ?_⟩
            have n0_ := Aside0.mk (Kd.R_mono (Kd.R_keep (IsS41.apart (show IsS41 w0 _ g s0_0 t385 t386 from q940_ HI0.out) (q9d5_ HO_5.out) (by decide)) hk (fun _ h => h.2)) (fun _ h => h.1))
            have n1_ := Aside0.mk (Kd.R_mono (Kd.R_keep (IsS41.apart (show IsS41 w0 _ g s0_0 t385 t386 from q940_ HI0.out) (q9d5_ HO390.out) (by decide)) hk (fun _ h => h.2)) (fun _ h => h.1))
            have n2_ := Aside0.mk (KeepBut.trans q1d6_ hk (.inl rfl))
            have n3_ := Aside0.mk (hb)
            have n4_ := Aside0.mk (hi)
            clear HO_5 HO390 HK HB HI0; have HO_5 := n0_; have HO390 := n1_; have HK := n2_; have HB := n3_; have HI0 := n4_; clear n0_ n1_ n2_ n3_ n4_
            (try clear hb)
            (try clear hb2)
            (try clear hk)
            (try clear hi)
            refine hK.out _ _ ⟨.slice Ao23 y388.length co23, (by rw [ha.out]; exact putSel_upk 5 hb_ rfl rfl rfl), (q9d5_ HO_5.out), fun h0_ => absurd ((hon 4 (by kernel_rfl)).symm.trans h0_) (by decide), q1d6_, (q1dd_ HI0.out), fun _ h1_ => absurd ((up_self b 9).symm.trans h1_) (by decide), fun _ => (q9d5_ HO390.out), fun _ => (q940_ HI0.out)⟩
           refine steps_cons ?_ ?_
           ·
            rintro b a w' ⟨v389, ha, Q_HO_5, Q_HI0, Q_HK, Q_HB, Q_HI0_e4, Q_HO390, Q_HI0_e9⟩ hb_ hon hoff
            refine ⟨_, rfl, fun K hK => ?_⟩
            have e27 : a.tmps[27]? = some (.int .i64 (rd x5_1 t384)) := by rw [ha]; exact putSel_on (e := (6, 27, .int .i64 (rd x5_1 t384))) 3 rfl rfl (hon 6 (by kernel_rfl)) rfl
            have e30 : a.tmps[30]? = some (.int .i64 t391) := by rw [ha]; exact putSel_on (e := (9, 30, .int .i64 t391)) 5 rfl rfl (hon 9 (by kernel_rfl)) rfl
            replace ha := Aside0.mk ha
            have HO_5 := Aside0.mk Q_HO_5
            have HK := Aside0.mk Q_HK
            have HB := Aside0.mk Q_HB
            have HO390 := Aside0.mk (Q_HO390 (hon 8 (by kernel_rfl)))
            have HI0 := Aside0.mk (Q_HI0_e9 (hon 9 (by kernel_rfl)))
            refine value_ (w1 := w') (v := .int .i64 (wrap64 ((rd x5_1 t384) + t391))) (by rfl) rfl ?_ ?_
            ·
             go_simp
             (try simp only [i64_w])
             try rfl
            refine hK.out _ _ ⟨v389, (by rw [ha.out]; exact putSel_upk 6 hb_ rfl rfl rfl), Q_HO_5, fun h0_ => absurd ((hon 4 (by kernel_rfl)).symm.trans h0_) (by decide), Q_HK, Q_HB, fun _ h1_ => absurd ((hon 9 (by kernel_rfl)).symm.trans h1_) (by decide), Q_HO390, Q_HI0_e9⟩
           refine steps_cons ?_ ?_
           ·
            rintro b a w' ⟨v389, ha, Q_HO_5, Q_HI0, Q_HK, Q_HB, Q_HI0_e4, Q_HO390, Q_HI0_e9⟩ hb_ hon hoff
            refine ⟨_, rfl, fun K hK => ?_⟩
            have e31 : a.tmps[31]? = some (.int .i64 (wrap64 ((rd x5_1 t384) + t391))) := by rw [ha]; exact putSel_on (e := (10, 31, .int .i64 (wrap64 ((rd x5_1 t384) + t391)))) 6 rfl rfl (hon 10 (by kernel_rfl)) rfl
            replace ha := Aside0.mk ha
            have HO_5 := Aside0.mk Q_HO_5
            have HK := Aside0.mk Q_HK
            have HB := Aside0.mk Q_HB
            have HO390 := Aside0.mk (Q_HO390 (hon 8 (by kernel_rfl)))
            have HI0 := Aside0.mk (Q_HI0_e9 (hon 9 (by kernel_rfl)))
            refine value_ (w1 := w') (v := .int .i64 (wrap64 ((rd x5_1 t384) + t391))) (by rfl) rfl ?_ ?_
            ·
             go_simp
             (try simp only [i64_w])
             try rfl
            refine hK.out _ _ ⟨v389, (by rw [ha.out]; exact putSel_upk 7 hb_ rfl rfl rfl), Q_HO_5, fun h0_ => absurd ((hon 4 (by kernel_rfl)).symm.trans h0_) (by decide), Q_HK, Q_HB, fun _ h1_ => absurd ((hon 9 (by kernel_rfl)).symm.trans h1_) (by decide), Q_HO390, Q_HI0_e9⟩
           exact steps_nil
          rintro b a w24 hall ⟨v389, ha, Q_HO_5, Q_HI0, Q_HK, Q_HB, Q_HI0_e4, Q_HO390, Q_HI0_e9⟩
          clear HB HI0 HK HO_5
          have hb3_ := hall 3 (by kernel_rfl)
          have hb4_ := hall 4 (by kernel_rfl)
          have hb5_ := hall 5 (by kernel_rfl)
          have hb6_ := hall 6 (by kernel_rfl)
          have hb8_ := hall 8 (by kernel_rfl)
          have hb9_ := hall 9 (by kernel_rfl)
          have hb10_ := hall 10 (by kernel_rfl)
          have hb11_ := hall 11 (by kernel_rfl)
          subst ha
          simp only [putSel, hb3_, hb4_, hb5_, hb6_, hb8_, hb9_, hb10_, hb11_, if_true, Act.put, List.setIfInBounds_toArray, List.set_cons_zero, List.set_cons_succ]
          have HO_5 := Aside0.mk Q_HO_5
          clear Q_HO_5 Q_HI0
          have HK := Aside0.mk Q_HK
          clear Q_HK
          have HB := Aside0.mk Q_HB
          clear Q_HB Q_HI0_e4
          have HO390 := Aside0.mk (Q_HO390 hb8_)
          clear Q_HO390
          have HI0 := Aside0.mk (Q_HI0_e9 hb9_)
          clear Q_HI0_e9 hall hb3_ hb4_ hb5_ hb6_ hb8_ hb9_ hb10_ hb11_
          try go_wp2_with (first | ((with_reducible refine gate_builtin (b := .append) (xs := #[.tmp 32, .tmp 34]) rfl ?_); (try (refine gate_guard (by rfl) ?_; dsimp only)); at_builtin; refine Kd.R_append (Kd.int .i64) w.heap.size rfl (.tmp 32) (.tmp 34) 24 3 (.int .i64 0) 8 rfl Tryz.underlying24 info3 rfl (by decide) (by omega) (.slice (some ad387) x5_1.length co6) x5_1 (wrap64 ((rd x5_1 t384) + t391)) [.int .i64 (wrap64 ((rd x5_1 t384) + t391))] (fun _ => True) (fun _ => False) rfl rfl ?aP (fun _ hk => hk.elim) ?aF ?aO (Below.refl _ _) ?aS ?aL ?_; (case aP => exact rfl); (case aF => exact (fun _ _ => trivial)); (case aO => exact (q9d5_ HO_5.out)); (case aS => exact (keep_size (w := w) (g := g) (row := none) q1d6_)); (case aL => have := LMc17.out; omega); intro v395 w25 ho hb hg hat; rw [← Ny394.out] at ho; have n0_ := Aside0.mk (IsS41.grown (q940_ HI0.out) hg (IsS41.own_ne HI0.out HO_5.out (by decide))); have n1_ := Aside0.mk (Kd.R_after (ok := (fun _ => True)) (q0ef_ HO390.out) hg hat); have n2_ := Aside0.mk (below_weaken (q1dd_ HI0.out) HL.out hb); have n3_ := Aside0.mk (KeepBut.trans q1d6_ (KeepBut.of_grown hg g) (Kd.R_base2 HO_5.out)); have n4_ := Aside0.mk (ho); replace HI0 := n0_; replace HO390 := n1_; replace HB := n2_; replace HK := n3_; have HO396 := n4_; clear n0_ n1_ n2_ n3_ n4_; clear ho hb hg hat))
          go_roundg kj4
          case measure => have := HK1.out; have := HJ4.out; omega
          case rel => exact ⟨(y394), (t392), (t393), H', ⟨q37b_ HK1.out HJ4.out⟩, ⟨q7d9_ HO396.out⟩, ⟨q940_ HI0.out⟩, ⟨q1d6_⟩, ⟨q1dd_ HI0.out⟩⟩
         ·
          rw [if_neg c17] at H
          exact absurd H (by simp)
        ·
         rw [if_neg c15] at H
         exact absurd H (by simp)
       ·
        rw [if_neg c14] at H
        exact absurd H (by simp)
      ·
       replace c12 := Bool.eq_false_iff.mpr c12
       subst c12
       rw [if_neg nf_] at H
       by_cases c26 : x5_1.length < 17592186044416
       ·
        rw [if_pos c26] at H
        have LMc26 := Aside0.mk c26
        clear c26
        obtain ⟨y397, hy397⟩ : ∃ y_ : List Int, y_ = (x5_1 ++ [(wrap64 (t378 - 100))]) := ⟨_, rfl⟩
        replace H : (spec_l1Cur_point.l0 kj4 a1 y397 s0_0 x1001_4 x1002_4) = some (r1, r2, r3) := by first | (rw [hy397]; with_reducible exact H) | (have H2_ := (Option.bind_some _ _).symm.trans H; rw [hy397]; with_reducible exact H2_) | (have H2_ := (Option.bind_some _ _).symm.trans H; with_reducible exact H2_) | with_reducible exact H | (rw [hy397]; exact H) | exact H
        have Ny397 := Aside0.mk hy397
        clear hy397
        have H' := Aside0.mk H
        clear H
        go_wp2_with (first | ((with_reducible refine gate_builtin (b := .append) (xs := #[.tmp 32, .tmp 34]) rfl ?_); (try (refine gate_guard (by rfl) ?_; dsimp only)); at_builtin; refine Kd.R_append (Kd.int .i64) w.heap.size rfl (.tmp 32) (.tmp 34) 24 3 (.int .i64 0) 8 rfl Tryz.underlying24 info3 rfl (by decide) (by omega) (.slice Ao6 x5_1.length co6) x5_1 (wrap64 (t378 - 100)) [.int .i64 (wrap64 (t378 - 100))] (fun _ => True) (fun _ => False) rfl rfl ?aP (fun _ hk => hk.elim) ?aF ?aO (Below.refl _ _) ?aS ?aL ?_; (case aP => exact rfl); (case aF => exact (fun _ _ => trivial)); (case aO => exact (q9d5_ HO_5.out)); (case aS => exact (keep_size (w := w) (g := g) (row := none) q1d6_)); (case aL => have := LMc26.out; omega); intro v398 w27 ho hb hg hat; rw [← Ny397.out] at ho; have n0_ := Aside0.mk (IsS41.grown (q940_ HI0.out) hg (IsS41.own_ne HI0.out HO_5.out (by decide))); have n1_ := Aside0.mk (below_weaken (q1dd_ HI0.out) HL.out hb); have n2_ := Aside0.mk (KeepBut.trans q1d6_ (KeepBut.of_grown hg g) (Kd.R_base2 HO_5.out)); have n3_ := Aside0.mk (ho); replace HI0 := n0_; replace HB := n1_; replace HK := n2_; have HO399 := n3_; clear n0_ n1_ n2_ n3_; clear ho hb hg hat))
        go_roundg kj4
        case measure => have := HK1.out; have := HJ4.out; omega
        case rel => exact ⟨(y397), (x1001_4), (x1002_4), H', ⟨q37b_ HK1.out HJ4.out⟩, ⟨q9d5_ HO399.out⟩, ⟨q940_ HI0.out⟩, ⟨q1d6_⟩, ⟨q1dd_ HI0.out⟩⟩
       ·
        rw [if_neg c26] at H
        exact absurd H (by simp)
   ·
    rw [if_neg c3] at H
    have c3b0 := decide_eq_false c3
    clear c3
    obtain ⟨⟨t400, t401, t402⟩, A28, H⟩ := ob_ H
    dsimp only at H
    by_cases c29 : t400 = 0
    ·
     rw [if_pos c29] at H
     have c29b0 := beq_iff_eq.mpr c29
     have c29b1 := bne_eq_false_iff_eq.mpr c29
     clear c29
     obtain ⟨y403, hy403⟩ : ∃ y_ : List Int, y_ = (([(-100001), (-100000), 100000, 100001] : List Int)) := ⟨_, rfl⟩
     replace H : ((spec_l1Cur_among.f s0_0 t401 t402 y403).bind fun bt406 => (if x5_1.length < 17592186044416 then (some ((x5_1 ++ [bt406.1]), bt406.2.1, bt406.2.2)) else (none))) = some (r1, r2, r3) := by first | (rw [hy403]; with_reducible exact H) | (have H2_ := (Option.bind_some _ _).symm.trans H; rw [hy403]; with_reducible exact H2_) | (have H2_ := (Option.bind_some _ _).symm.trans H; with_reducible exact H2_) | with_reducible exact H | (rw [hy403]; exact H) | exact H
     have Ny403 := Aside0.mk hy403
     clear hy403
     obtain ⟨⟨t406, t407, t408⟩, A30, H⟩ := ob_ H
     dsimp only at H
     by_cases c31 : x5_1.length < 17592186044416
     ·
      rw [if_pos c31] at H
      have LMc31 := Aside0.mk c31
      clear c31
      obtain ⟨y409, hy409⟩ : ∃ y_ : List Int, y_ = (x5_1 ++ [t406]) := ⟨_, rfl⟩
      replace H : (some (y409, t407, t408)) = some (r1, r2, r3) := by first | (rw [hy409]; with_reducible exact H) | (have H2_ := (Option.bind_some _ _).symm.trans H; rw [hy409]; with_reducible exact H2_) | (have H2_ := (Option.bind_some _ _).symm.trans H; with_reducible exact H2_) | with_reducible exact H | (rw [hy409]; exact H) | exact H
      have Ny409 := Aside0.mk hy409
      clear hy409
      simp only [Option.some.injEq, Prod.mk.injEq] at H
      obtain ⟨rfl, rfl, rfl⟩ := H
      obtain ⟨Ao32, co32, eo32⟩ := Kd.R_slice HO_5.out
      subst eo32
      go_wp2_with (first | ((with_reducible refine gate_callee (f := 35) rfl ?_); refine gl_ 37 Tryz.func35 #[.pointer (some ⟨g, 0, none⟩), .int .i64 14] ?_; (with_reducible refine (spec_l1Cur_pick.calls g s0_0 x1001_1 x1002_1 14 t400 t401 t402 w0 _ ?s1 ?s2 A28.out).mono ?_); (case s1 => exact q940_ HI0.out); (case s2 => exact q1dd_ HI0.out); rintro e w33 ⟨rfl, hi, hb, hk⟩; refine ⟨_, rfl, ?_⟩; replace HO_5 := Aside0.mk (Kd.R_mono (Kd.R_keep (IsS41.apart (show IsS41 w0 _ g s0_0 x1001_1 x1002_1 from q940_ HI0.out) (q9d5_ HO_5.out) (by decide)) hk (fun _ h => h.2)) (fun _ h => h.1)); replace HK := Aside0.mk (KeepBut.trans q1d6_ hk (.inl rfl)); replace HB := Aside0.mk (hb); replace HI0 := Aside0.mk (hi); clear hb hk hi) | ((with_reducible refine gate_dst (N := 42) rfl ?_); (try (refine gate_guard (by rfl) ?_; dsimp only)); refine Kd.R_lit (Kd.int .i64) _ 3 ?hg (N := 42) ?hd (xs := ([(-100001), (-100000), 100000, 100001] : List Int)) (inner := [.int .i64 (-100001), .int .i64 (-100000), .int .i64 100000, .int .i64 100001]) (ok := fun _ => True) (okp := fun _ => True) ?hr ?hp (fun _ hk => hk) trivial (Below.refl _ _) (Nat.le_refl _) (by simp) ?_; (case hd => rfl); (case hg => rfl); (case hr => exact qfba_); (case hp => exact (Reps.one (show Kd.M (Kd.int .i64) _ _ _ (-100001) [.int .i64 (-100001)] from rfl) (Reps.one (show Kd.M (Kd.int .i64) _ _ _ (-100000) [.int .i64 (-100000)] from rfl) (Reps.one (show Kd.M (Kd.int .i64) _ _ _ 100000 [.int .i64 100000] from rfl) (Reps.one (show Kd.M (Kd.int .i64) _ _ _ 100001 [.int .i64 100001] from rfl) (Reps.none _ _)))))); intro v404 w34 ho35 hb hg_ hnew_; clear hg_ hnew_; (first | rw [← Ny403.out] at ho35 | (simp only [Int.reduceToNat] at ho35; rw [← Ny403.out] at ho35)); have n0_ := Aside0.mk (Kd.R_elder' (q9d5_ HO_5.out) (Kd.R_base ho35) hb); have n1_ := Aside0.mk (Kd.R_lower (Kd.R_new' ho35 (Kd.R_lt (q9d5_ HO_5.out))) (keep_size (w := w) (g := g) (row := none) q1d6_)); have n2_ := Aside0.mk (IsS41.below (q940_ HI0.out) hb); have n3_ := Aside0.mk (KeepBut.trans q1d6_ (KeepBut.of_below hb g none) (.inl rfl)); have n4_ := Aside0.mk (below_step (q1dd_ HI0.out) hb); replace HO_5 := n0_; have HO405 := n1_; replace HI0 := n2_; replace HK := n3_; replace HB := n4_; clear n0_ n1_ n2_ n3_ n4_; clear hb ho35; obtain ⟨Ao36, co36, eo36⟩ := Kd.R_slice HO405.out; subst eo36) | ((with_reducible refine gate_callee (f := 37) rfl ?_); refine gl_ 43 Tryz.func37 #[.pointer (some ⟨g, 0, none⟩), .slice Ao36 y403.length co36] ?_; (with_reducible refine (spec_l1Cur_among.calls g s0_0 t401 t402 _ _ y403 t406 t407 t408 w0 _ ?s1 ?s2 ?s3 ?s4 ?s5 A30.out).mono ?_); (case s1 => exact q940_ HI0.out); (case s2 => exact q1dd_ HI0.out); (case s3 => exact q5a8_ HO405.out); (case s4 => exact (Kd.R_reads' HO405.out).2.1); (case s5 => exact far_slice (IsS41.own_ne HI0.out HO405.out (by decide))); rintro e w37 ⟨rfl, hi, hb, hk⟩; refine ⟨_, rfl, ?_⟩; replace HO_5 := Aside0.mk (Kd.R_mono (Kd.R_keep (IsS41.apart (show IsS41 w0 _ g s0_0 t401 t402 from q940_ HI0.out) (q9d5_ HO_5.out) (by decide)) hk (fun _ h => h.2)) (fun _ h => h.1)); replace HO405 := Aside0.mk (Kd.R_mono (Kd.R_keep (IsS41.apart (show IsS41 w0 _ g s0_0 t401 t402 from q940_ HI0.out) (q9d5_ HO405.out) (by decide)) hk (fun _ h => h.2)) (fun _ h => h.1)); replace HK := Aside0.mk (KeepBut.trans q1d6_ hk (.inl rfl)); replace HB := Aside0.mk (hb); replace HI0 := Aside0.mk (hi); clear hb hk hi) | ((with_reducible refine gate_builtin (b := .append) (xs := #[.tmp 40, .tmp 44]) rfl ?_); (try (refine gate_guard (by rfl) ?_; dsimp only)); at_builtin; refine Kd.R_append (Kd.int .i64) w.heap.size rfl (.tmp 40) (.tmp 44) 24 3 (.int .i64 0) 8 rfl Tryz.underlying24 info3 rfl (by decide) (by omega) (.slice Ao32 x5_1.length co32) x5_1 t406 [.int .i64 t406] (fun k_ => some k_ ≠ (.slice Ao36 y403.length co36 : Value).ownBlock) (fun _ => False) rfl rfl ?aP (fun _ hk => hk.elim) ?aF ?aO (Below.refl _ _) ?aS ?aL ?_; (case aP => exact rfl); (case aF => exact (fun k_ hk => Kd.fresh' (Kd.R_lt (q9d5_ HO405.out)) k_ hk)); (case aO => exact (by (with_reducible repeat (first | apply Kd.R_alloc | apply Kd.R_drewN | apply Kd.R_drew)); exact Kd.R_mono HO_5.out (fun _ hk => by first | exact hk.2 | trivial))); (case aS => exact (keep_size (w := w) (g := g) (row := none) q1d6_)); (case aL => have := LMc31.out; omega); intro v410 w38 ho hb hg hat; rw [← Ny409.out] at ho; have n0_ := Aside0.mk (IsS41.grown (q940_ HI0.out) hg (IsS41.own_ne HI0.out HO_5.out (by decide))); have n1_ := Aside0.mk (Kd.R_after (ok := (fun _ => True)) (q9d5_ HO405.out) hg hat); have n2_ := Aside0.mk (below_weaken (q1dd_ HI0.out) HL.out hb); have n3_ := Aside0.mk (KeepBut.trans q1d6_ (KeepBut.of_grown hg g) (Kd.R_base2 HO_5.out)); have n4_ := Aside0.mk (ho); replace HI0 := n0_; replace HO405 := n1_; replace HB := n2_; replace HK := n3_; have HO411 := n4_; clear n0_ n1_ n2_ n3_ n4_; clear ho hb hg hat))
      go_ret
      exact ⟨_, qce7_, q7d9_ HO411.out, q940_ HI0.out, q1dd_ HI0.out, q1d6_⟩
     ·
      rw [if_neg c31] at H
      exact absurd H (by simp)
    ·
     rw [if_neg c29] at H
     have c29b0 := beq_eq_false_iff_ne.mpr c29
     have c29b1 := bne_iff_ne.mpr c29
     by_cases c39 : t400 = 1
     ·
      rw [if_pos c39] at H
      have c39b0 := beq_iff_eq.mpr c39
      have c39b1 := bne_eq_false_iff_eq.mpr c39
      clear c39
      by_cases c40 : (x5_1.length : Int) > 1
      ·
       rw [if_pos c40] at H
       have c40b0 := decide_eq_true c40
       have c40b1 : decide (1 < x5_1.length) = true := decide_eq_true (by omega)
       clear c40
       by_cases c41 : 1 < (x5_1.length : Int)
       ·
        rw [if_pos c41] at H
        have c41b0 := decide_eq_true c41
        have c41b1 : decide (1 < x5_1.length) = true := decide_eq_true (by omega)
        clear c41
        obtain ⟨y413, hy413⟩ : ∃ y_ : List Int, y_ = (([0, 100, (-100)] : List Int)) := ⟨_, rfl⟩
        replace H : ((spec_l1Cur_among.f s0_0 t401 t402 y413).bind fun bt416 => (if 0 < (x5_1.length : Int) then (some ((x5_1.set (0 : Int).toNat (wrap64 ((rd x5_1 1) + bt416.1))), bt416.2.1, bt416.2.2)) else (none))) = some (r1, r2, r3) := by first | (rw [hy413]; with_reducible exact H) | (have H2_ := (Option.bind_some _ _).symm.trans H; rw [hy413]; with_reducible exact H2_) | (have H2_ := (Option.bind_some _ _).symm.trans H; with_reducible exact H2_) | with_reducible exact H | (rw [hy413]; exact H) | exact H
        have Ny413 := Aside0.mk hy413
        clear hy413
        obtain ⟨⟨t416, t417, t418⟩, A42, H⟩ := ob_ H
        dsimp only at H
        by_cases c43 : 0 < (x5_1.length : Int)
        ·
         rw [if_pos c43] at H
         have c43b0 := decide_eq_true c43
         have c43b1 : decide (0 < x5_1.length) = true := decide_eq_true (by omega)
         clear c43
         obtain ⟨y419, hy419⟩ : ∃ y_ : List Int, y_ = (x5_1.set (0 : Int).toNat (wrap64 ((rd x5_1 1) + t416))) := ⟨_, rfl⟩
         replace H : (some (y419, t417, t418)) = some (r1, r2, r3) := by first | (rw [hy419]; with_reducible exact H) | (have H2_ := (Option.bind_some _ _).symm.trans H; rw [hy419]; with_reducible exact H2_) | (have H2_ := (Option.bind_some _ _).symm.trans H; with_reducible exact H2_) | with_reducible exact H | (rw [hy419]; exact H) | exact H
         have Ny419 := Aside0.mk hy419
         clear hy419
         simp only [Option.some.injEq, Prod.mk.injEq] at H
         obtain ⟨rfl, rfl, rfl⟩ := H
         obtain ⟨Ao45, co45, eo45⟩ := Kd.R_slice HO_5.out
         subst eo45
         try go_wp2_with (first | ((with_reducible refine gate_callee (f := 35) rfl ?_); refine gl_ 37 Tryz.func35 #[.pointer (some ⟨g, 0, none⟩), .int .i64 14] ?_; (with_reducible refine (spec_l1Cur_pick.calls g s0_0 x1001_1 x1002_1 14 t400 t401 t402 w0 _ ?s1 ?s2 A28.out).mono ?_); (case s1 => exact q940_ HI0.out); (case s2 => exact q1dd_ HI0.out); rintro e w46 ⟨rfl, hi, hb, hk⟩; refine ⟨_, rfl, ?_⟩; replace HO_5 := Aside0.mk (Kd.R_mono (Kd.R_keep (IsS41.apart (show IsS41 w0 _ g s0_0 x1001_1 x1002_1 from q940_ HI0.out) (q9d5_ HO_5.out) (by decide)) hk (fun _ h => h.2)) (fun _ h => h.1)); replace HK := Aside0.mk (KeepBut.trans q1d6_ hk (.inl rfl)); replace HB := Aside0.mk (hb); replace HI0 := Aside0.mk (hi); clear hb hk hi))
         have n0_ := Aside0.mk (Kd.R_drew HO_5.out)
         have n1_ := Aside0.mk (IsS41.drew HI0.out)
         have n2_ := Aside0.mk (keep_drew HK.out)
         have n3_ := Aside0.mk (below_drew1 HB.out)
         clear HO_5 HI0 HK HB; have HO_5 := n0_; have HI0 := n1_; have HK := n2_; have HB := n3_; clear n0_ n1_ n2_ n3_
         have p412 : 0 ≤ (1 : Int) := (by omega)
         have q412 : 1 < (x5_1.length : Int) := of_decide_eq_true qe84_
         obtain ⟨ad412, e412, hx412_0⟩ := Kd.at_int (Kd.R_reads' HO_5.out).2.2 1 p412 q412
         cases e412
         (try simp only [show (1 : Int).toNat = 1 from rfl, Nat.reduceMul, Nat.reduceEqDiff, Go.Addr.add, ↓reduceIte] at hx412_0)
         have qi412 : (1 < x5_1.length) = True := eq_true (by omega)
         (try rw [show ((1 : Int)).toNat = 1 from rfl] at hx412_0)
         replace p412 := eq_true p412
         replace q412 := eq_true q412
         refine start_ (n := 10) (S := fun w' => w'.cell? ⟨ad412.block, ad412.off + 1, none⟩ = some (.int .i64 (rd x5_1 1))) (ds := [9]) #[false, false, false, false, false, false, false, false, false, false] (by kernel_rfl) rfl rfl (hx412_0) (fun hHeld => ?_); refine with_tabW spec_l1Cur_point.tab12 spec_l1Cur_point.bits12 (fun HT_ HW_ => ?_)
         generalize w46.drew = w47 at HO_5 HI0 HK HB hx412_0 hHeld ⊢
         refine pure_ (i := 0) (N := some 51) (v := ?_) (a' := ?_) #[true, false, false, false, false, false, false, false, false, false] rfl rfl (any_of HT_.out (by kernel_rfl)) (fun _ _ _ h => h) (Or.inl ⟨by rfl, ?_⟩) ?_ ?_
         rotate_left
         ·
          intro w'
          go_simp
          with_reducible rfl
         rotate_left
         ·
          simp only [Act.put, List.setIfInBounds_toArray, List.set_cons_zero, List.set_cons_succ, i64_w, i32_w]
          rfl
         refine pure_ (i := 1) (N := some 52) (v := ?_) (a' := ?_) #[true, true, false, false, false, false, false, false, false, false] rfl rfl (any_of HT_.out (by kernel_rfl)) (fun _ _ _ h => h) (Or.inl ⟨by rfl, ?_⟩) ?_ ?_
         rotate_left
         ·
          intro w'
          go_simp
          with_reducible rfl
         rotate_left
         ·
          simp only [Act.put, List.setIfInBounds_toArray, List.set_cons_zero, List.set_cons_succ, i64_w, i32_w]
          rfl
         refine pure_ (i := 2) (N := some 53) (v := ?_) (a' := ?_) #[true, true, true, false, false, false, false, false, false, false] rfl rfl (any_of HT_.out (by kernel_rfl)) (fun _ _ _ h => h) (Or.inl ⟨by rfl, ?_⟩) ?_ ?_
         rotate_left
         ·
          intro w'
          go_simp
          with_reducible rfl
         rotate_left
         ·
          simp only [Act.put, List.setIfInBounds_toArray, List.set_cons_zero, List.set_cons_succ, i64_w, i32_w]
          rfl
         refine pure_ (i := 4) (N := some 55) (v := ?_) (a' := ?_) #[true, true, true, false, true, false, false, false, false, false] rfl rfl (any_of HT_.out (by kernel_rfl)) (fun _ _ _ h => h) (Or.inl ⟨by rfl, ?_⟩) ?_ ?_
         rotate_left
         ·
          intro w'
          go_simp
          with_reducible rfl
         rotate_left
         ·
          simp only [Act.put, List.setIfInBounds_toArray, List.set_cons_zero, List.set_cons_succ, i64_w, i32_w]
          rfl
         refine take_ (i := 3) (N := some 54) (v := ?_) (a' := ?_) #[true, true, true, true, true, false, false, false, false, false] rfl rfl (take_ofW HT_.out HW_.out (by kernel_rfl)) (fun _ _ _ h => h) (Or.inl ⟨by rfl, ?_⟩) hHeld ?_ ?_
         rotate_left
         ·
          intro w' s0
          go_simp
          with_reducible rfl
         rotate_left
         ·
          simp only [Act.put, List.setIfInBounds_toArray, List.set_cons_zero, List.set_cons_succ, i64_w, i32_w]
          rfl
         refine one_ (i := 5) (N := some 56) #[true, true, true, true, true, true, false, false, false, false] rfl rfl (one_of HT_.out (by kernel_rfl)) (by decide) (fun K hK => ?_)
         refine Kd.R_lit_step (Kd.int .i64) _ 3 ?hg (N := 56) ?hd (xs := ([0, 100, (-100)] : List Int)) (inner := [.int .i64 0, .int .i64 100, .int .i64 (-100)]) (ok := fun _ => True) (okp := fun _ => True) ?hr ?hp (fun _ hk => hk) trivial (Below.refl _ _) (Nat.le_refl _) (by simp) ?_; (case hd => rfl); (case hg => rfl); (case hr => exact qfba_); (case hp => exact (Reps.one (show Kd.M (Kd.int .i64) _ _ _ 0 [.int .i64 0] from rfl) (Reps.one (show Kd.M (Kd.int .i64) _ _ _ 100 [.int .i64 100] from rfl) (Reps.one (show Kd.M (Kd.int .i64) _ _ _ (-100) [.int .i64 (-100)] from rfl) (Reps.none _ _)))))
         intro v414 w48 ho49 hb hg_ hnew_
         have HS0_ := (hb.cell (World.block_lt_of_cell? _ _ (hHeld))).trans (hHeld)
         clear hg_ hnew_
         (first | rw [← Ny413.out] at ho49 | (simp only [Int.reduceToNat] at ho49; rw [← Ny413.out] at ho49))
         have n0_ := Aside0.mk (Kd.R_elder' (q9d5_ HO_5.out) (Kd.R_base ho49) hb)
         have n1_ := Aside0.mk (Kd.R_lower (Kd.R_new' ho49 (Kd.R_lt (q9d5_ HO_5.out))) (keep_size (w := w) (g := g) (row := none) q1d6_))
         have n2_ := Aside0.mk (IsS41.below (q940_ HI0.out) hb)
         have n3_ := Aside0.mk (KeepBut.trans q1d6_ (KeepBut.of_below hb g none) (.inl rfl))
         have n4_ := Aside0.mk (below_step (q1dd_ HI0.out) hb)
         clear HO_5 HI0 HK HB; have HO_5 := n0_; have HO415 := n1_; have HI0 := n2_; have HK := n3_; have HB := n4_; clear n0_ n1_ n2_ n3_ n4_ hb ho49
         obtain ⟨Ao50, co50, eo50⟩ := Kd.R_slice HO415.out
         (first | subst eo50 | (injection eo50 with f1_ f2_ f3_; have f4_ := f1_.symm; have f5_ := f3_.symm; clear f1_ f2_ f3_; subst f4_; subst f5_))
         refine hK.out _ _ (HS0_) (fun hHeld => ?_)
         clear hK K
         refine norm_ (a' := ?_) ?_ ?_
         rotate_left
         ·
          show Act.put _ (some 56) _ = _
          simp only [Act.put, List.setIfInBounds_toArray, List.set_cons_zero, List.set_cons_succ, i64_w, i32_w]
          rfl
         refine one_ (i := 6) (N := some 57) #[true, true, true, true, true, true, true, false, false, false] rfl rfl (one_of HT_.out (by kernel_rfl)) (by decide) (fun K hK => ?_)
         refine goes_ Tryz.func37 (by kernel_rfl) rfl #[.pointer (some ⟨g, 0, none⟩), .slice Ao50 y413.length co50] (by rfl) rfl rfl qef5_ ?_
         with_reducible refine (spec_l1Cur_among.calls g s0_0 t401 t402 _ _ y413 t416 t417 t418 w0 _ ?s1 ?s2 ?s3 ?s4 ?s5 A42.out).mono ?_
         (case s1 => exact q940_ HI0.out)
         (case s2 => exact q1dd_ HI0.out)
         (case s3 => exact q5a8_ HO415.out)
         (case s4 => exact (Kd.R_reads' HO415.out).2.1)
         (case s5 => exact far_slice (IsS41.own_ne HI0.out HO415.out (by decide)))
         rintro e w51 ⟨rfl, hi, hb, hk⟩
         have HS0_ := keep_cell hk (hHeld) (by first | (rw [add_block]; exact Kd.own_blk (IsS41.own_ne HI0.out HO_5.out (by decide))) | (show (Addr.add _ _).block ≠ _; rw [add_block]; exact Kd.own_blk (IsS41.own_ne HI0.out HO_5.out (by decide))) | exact Kd.own_blk (IsS41.own_ne HI0.out HO_5.out (by decide)) | (have hb_ := Kd.own_blk (IsS41.own_ne HI0.out HO_5.out (by decide)); exact hb_))
         refine ⟨_, rfl, ?_⟩
         have n0_ := Aside0.mk (Kd.R_mono (Kd.R_keep (IsS41.apart (show IsS41 w0 _ g s0_0 t401 t402 from q940_ HI0.out) (q9d5_ HO_5.out) (by decide)) hk (fun _ h => h.2)) (fun _ h => h.1))
         have n1_ := Aside0.mk (Kd.R_mono (Kd.R_keep (IsS41.apart (show IsS41 w0 _ g s0_0 t401 t402 from q940_ HI0.out) (q9d5_ HO415.out) (by decide)) hk (fun _ h => h.2)) (fun _ h => h.1))
         have n2_ := Aside0.mk (KeepBut.trans q1d6_ hk (.inl rfl))
         have n3_ := Aside0.mk (hb)
         have n4_ := Aside0.mk (hi)
         clear HO_5 HO415 HK HB HI0; have HO_5 := n0_; have HO415 := n1_; have HK := n2_; have HB := n3_; have HI0 := n4_; clear n0_ n1_ n2_ n3_ n4_
         (try clear hb)
         (try clear hb2)
         (try clear hk)
         (try clear hi)
         have p44 : 0 ≤ (0 : Int) := (by omega)
         have q44 : (0 : Int) < ((x5_1.length : Int) : Int) := of_decide_eq_true qe84_
         have qi44 : (0 < x5_1.length) = True := eq_true (by omega)
         obtain ⟨go44, co44, eo44, gb44, gl44, cl44, HG44⟩ := Kd.R_form HO_5.out (by omega)
         (first | cases eo44 | (injection eo44 with ea_ en_ ec_; (first | subst ea_ | (injection ea_ with ea_; subst ea_)); subst ec_; clear en_))
         have GB44 := Aside0.mk gb44
         have GG44 := Aside0.mk HG44
         clear gb44 gl44 HG44
         (first | simp only [add_plain] at hx412_0 | skip)
         obtain ⟨hx44_0, hf44_0⟩ := Kd.R_celln 0 HO_5.out (0 : Int) p44 q44
         (try rw [show ((0 : Int)).toNat = 0 from rfl] at hx44_0)
         (try simp only [Nat.reduceMul, Nat.zero_mul, Nat.zero_add, Nat.reduceAdd] at hx44_0)
         (try rw [show ((0 : Int)).toNat = 0 from rfl] at hf44_0)
         (try simp only [Nat.reduceMul, Nat.zero_mul, Nat.zero_add, Nat.reduceAdd] at hf44_0)
         replace p44 := eq_true p44
         replace q44 := eq_true q44
         have HN0_go44 := Aside0.mk (show g ≠ go44 from by have h_ := IsS41.own_ne HI0.out HO_5.out (by decide); intro e_; exact h_ (by rw [e_]; rfl))
         have HP52 := Kd.R_putn HO_5.out (0 : Int) (wrap64 ((rd x5_1 1) + t416))
         rw [← Ny419.out] at HP52
         have HQ52 := Aside0.mk HP52
         clear HP52
         refine hK.out _ _ (HS0_) (fun hHeld => ?_)
         clear hK K
         refine norm_ (a' := ?_) ?_ ?_
         rotate_left
         ·
          show Act.put _ (some 57) _ = _
          simp only [Act.put, List.setIfInBounds_toArray, List.set_cons_zero, List.set_cons_succ, i64_w, i32_w]
          rfl
         refine pure_ (i := 7) (N := some 58) (v := ?_) (a' := ?_) #[true, true, true, true, true, true, true, true, false, false] rfl rfl (any_of HT_.out (by kernel_rfl)) (fun _ _ _ h => h) (Or.inl ⟨by rfl, ?_⟩) ?_ ?_
         rotate_left
         ·
          intro w'
          go_simp
          with_reducible rfl
         rotate_left
         ·
          simp only [Act.put, List.setIfInBounds_toArray, List.set_cons_zero, List.set_cons_succ, i64_w, i32_w]
          rfl
         refine pure_ (i := 8) (N := some 59) (v := ?_) (a' := ?_) #[true, true, true, true, true, true, true, true, true, false] rfl rfl (any_of HT_.out (by kernel_rfl)) (fun _ _ _ h => h) (Or.inl ⟨by rfl, ?_⟩) ?_ ?_
         rotate_left
         ·
          intro w'
          go_simp
          with_reducible rfl
         rotate_left
         ·
          simp only [Act.put, List.setIfInBounds_toArray, List.set_cons_zero, List.set_cons_succ, i64_w, i32_w]
          rfl
         refine last_ (i := 9) (N := none) #[true, true, true, true, true, true, true, true, true, true] rfl rfl (one_of HT_.out (by kernel_rfl)) (by decide) (fun K hK => ?_)
         refine skip_ (w1 := ?_) (by rfl) rfl ?_ ?_
         rotate_left
         ·
          go_simp
          rfl
         refine hK.out _ _ ?_
         clear hK K
         refine done_ (done_of HT_.out (by kernel_rfl)) ?_
         try go_wp2
         go_ret
         exact ⟨_, qce7_, q7d9_ HQ52.out, by repeat (first | (with_reducible first | exact HI0.out | apply IsS41.alloc | apply IsS41.drewN | apply IsS41.drew | apply IsS41.set_1 | apply IsS41.set_2 | refine IsS41.far ?_ HN0_go44.out _) | exact HI0.out), by repeat (first | (with_reducible first | exact HB.out | apply below_alloc | apply pw_below_drewN | apply below_drew1 | refine below_set ?_ (Nat.le_trans HL.out GB44.out) | refine below_set ?_ (IsS41.ge HI0.out)) | exact HB.out), by repeat (first | (with_reducible first | exact HK.out | apply KeepBut.set_ | apply keep_drewN | apply keep_drew | apply keep_alloc | refine keep_far ?_ GB44.out _) | exact HK.out)⟩
        ·
         rw [if_neg c43] at H
         exact absurd H (by simp)
       ·
        rw [if_neg c41] at H
        exact absurd H (by simp)
      ·
       rw [if_neg c40] at H
       have c40b0 := decide_eq_false c40
       have c40b1 : decide (1 < x5_1.length) = false := decide_eq_false (by omega)
       clear c40
       simp only [Option.some.injEq, Prod.mk.injEq] at H
       obtain ⟨rfl, rfl, rfl⟩ := H
       obtain ⟨Ao53, co53, eo53⟩ := Kd.R_slice HO_5.out
       subst eo53
       go_wp2_with (first | ((with_reducible refine gate_callee (f := 35) rfl ?_); refine gl_ 37 Tryz.func35 #[.pointer (some ⟨g, 0, none⟩), .int .i64 14] ?_; (with_reducible refine (spec_l1Cur_pick.calls g s0_0 x1001_1 x1002_1 14 t400 t401 t402 w0 _ ?s1 ?s2 A28.out).mono ?_); (case s1 => exact q940_ HI0.out); (case s2 => exact q1dd_ HI0.out); rintro e w54 ⟨rfl, hi, hb, hk⟩; refine ⟨_, rfl, ?_⟩; replace HO_5 := Aside0.mk (Kd.R_mono (Kd.R_keep (IsS41.apart (show IsS41 w0 _ g s0_0 x1001_1 x1002_1 from q940_ HI0.out) (q9d5_ HO_5.out) (by decide)) hk (fun _ h => h.2)) (fun _ h => h.1)); replace HK := Aside0.mk (KeepBut.trans q1d6_ hk (.inl rfl)); replace HB := Aside0.mk (hb); replace HI0 := Aside0.mk (hi); clear hb hk hi))
       go_ret
       exact ⟨_, qce7_, q9d5_ HO_5.out, q940_ HI0.out, q1dd_ HI0.out, q1d6_⟩
     ·
      rw [if_neg c39] at H
      have c39b0 := beq_eq_false_iff_ne.mpr c39
      have c39b1 := bne_iff_ne.mpr c39
      by_cases c55 : t400 = 2
      ·
       rw [if_pos c55] at H
       have c55b0 := beq_iff_eq.mpr c55
       have c55b1 := bne_eq_false_iff_eq.mpr c55
       clear c55
       have H' := Aside0.mk H
       clear H
       obtain ⟨Ao56, co56, eo56⟩ := Kd.R_slice HO_5.out
       subst eo56
       go_wp2_with (first | ((with_reducible refine gate_callee (f := 35) rfl ?_); refine gl_ 37 Tryz.func35 #[.pointer (some ⟨g, 0, none⟩), .int .i64 14] ?_; (with_reducible refine (spec_l1Cur_pick.calls g s0_0 x1001_1 x1002_1 14 t400 t401 t402 w0 _ ?s1 ?s2 A28.out).mono ?_); (case s1 => exact q940_ HI0.out); (case s2 => exact q1dd_ HI0.out); rintro e w57 ⟨rfl, hi, hb, hk⟩; refine ⟨_, rfl, ?_⟩; replace HO_5 := Aside0.mk (Kd.R_mono (Kd.R_keep (IsS41.apart (show IsS41 w0 _ g s0_0 x1001_1 x1002_1 from q940_ HI0.out) (q9d5_ HO_5.out) (by decide)) hk (fun _ h => h.2)) (fun _ h => h.1)); replace HK := Aside0.mk (KeepBut.trans q1d6_ hk (.inl rfl)); replace HB := Aside0.mk (hb); replace HI0 := Aside0.mk (hi); clear hb hk hi))
       go_loopg [5] k1 (fun kq v5 w' => ∃ (x5_2 : List Int) (x1001_2 : Int) (x1002_2 : Int), Aside0 (spec_l1Cur_point.l1 kq x5_2 s0_0 x1001_2 x1002_2 = some (r1, r2, r3)) ∧ Aside0 (kq ≤ k1) ∧ Aside0 (Kd.R (Kd.int .i64) 3 w' w.heap.size (fun _ => True) v5 x5_2) ∧ Aside0 (IsS41 w0 w' g s0_0 x1001_2 x1002_2) ∧ Aside0 (KeepBut w w' g none) ∧ Aside0 (Below w0.heap.size w0 w'))
       case atStart => exact ⟨(([] : List Int)), (t401), (t402), H', ⟨Nat.le_refl _⟩, ⟨qf62_⟩, ⟨q940_ HI0.out⟩, ⟨q1d6_⟩, ⟨q1dd_ HI0.out⟩⟩
       case round =>
        clear H'; try clear c1; try clear c2; try clear p2; try clear c3; try clear c3b0; try clear p3; try clear q3; try clear hx3; try clear c4; try clear p4; try clear q4; try clear hx4; try clear qi4; try clear hf4; try clear c5; try clear p6; try clear c12; try clear c14; try clear c15; try clear c17; try clear c26; try clear c29; try clear c29b0; try clear c29b1; try clear c31; try clear c35; try clear c37; try clear p38; try clear q38; try clear hx38; try clear c39; try clear c39b0; try clear c39b1; try clear c40; try clear c40b0; try clear c40b1; try clear c41; try clear c41b0; try clear c41b1; try clear p41; try clear q41; try clear hx41; try clear qi41; try clear c43; try clear c43b0; try clear c43b1; try clear p44; try clear q44; try clear hx44; try clear qi44; try clear hf44; try clear c55; try clear c55b0; try clear c55b1; try clear hx387_0; try clear hx412_0; try clear hx44_0; try clear p387; try clear p412; try clear p44; try clear q387; try clear q412; try clear q44
        obtain ⟨x5_2, x1001_2, x1002_2, HA, HK2, HO_5, HI0, HK, HB⟩ := hrel
        cases gk with
        | zero => exact absurd HA.out (by simp [spec_l1Cur_point.l1])
        | succ k2 =>
         have H := HA.out
         clear HA
         simp only [spec_l1Cur_point.l1] at H
         obtain ⟨⟨t420, t421, t422⟩, A58, H⟩ := ob_ H
         dsimp only at H
         by_cases c59 : (x5_2.length : Int) < (wrap64 (8 + t420))
         ·
          rw [if_pos c59] at H
          have c59b0 := decide_eq_true c59
          clear c59
          by_cases c60 : x5_2.length < 17592186044416
          ·
           rw [if_pos c60] at H
           have LMc60 := Aside0.mk c60
           clear c60
           obtain ⟨y423, hy423⟩ : ∃ y_ : List Int, y_ = (x5_2 ++ [wrap64 ((-37) * (x5_2.length : Int))]) := ⟨_, rfl⟩
           replace H : (spec_l1Cur_point.l1 k2 y423 s0_0 t421 t422) = some (r1, r2, r3) := by first | (rw [hy423]; with_reducible exact H) | (have H2_ := (Option.bind_some _ _).symm.trans H; rw [hy423]; with_reducible exact H2_) | (have H2_ := (Option.bind_some _ _).symm.trans H; with_reducible exact H2_) | with_reducible exact H | (rw [hy423]; exact H) | exact H
           have Ny423 := Aside0.mk hy423
           clear hy423
           have H' := Aside0.mk H
           clear H
           obtain ⟨Ao61, co61, eo61⟩ := Kd.R_slice HO_5.out
           subst eo61
           go_wp2_with (first | ((with_reducible refine gate_callee (f := 35) rfl ?_); refine gl_ 65 Tryz.func35 #[.pointer (some ⟨g, 0, none⟩), .int .i64 2] ?_; (with_reducible refine (spec_l1Cur_pick.calls g s0_0 x1001_2 x1002_2 2 t420 t421 t422 w0 _ ?s1 ?s2 A58.out).mono ?_); (case s1 => exact q940_ HI0.out); (case s2 => exact q1dd_ HI0.out); rintro e w62 ⟨rfl, hi, hb, hk⟩; refine ⟨_, rfl, ?_⟩; replace HO_5 := Aside0.mk (Kd.R_mono (Kd.R_keep (IsS41.apart (show IsS41 w0 _ g s0_0 x1001_2 x1002_2 from q940_ HI0.out) (q9d5_ HO_5.out) (by decide)) hk (fun _ h => h.2)) (fun _ h => h.1)); replace HK := Aside0.mk (KeepBut.trans q1d6_ hk (.inl rfl)); replace HB := Aside0.mk (hb); replace HI0 := Aside0.mk (hi); clear hb hk hi) | ((with_reducible refine gate_builtin (b := .append) (xs := #[.tmp 68, .tmp 72]) rfl ?_); (try (refine gate_guard (by rfl) ?_; dsimp only)); at_builtin; refine Kd.R_append (Kd.int .i64) w.heap.size rfl (.tmp 68) (.tmp 72) 24 3 (.int .i64 0) 8 rfl Tryz.underlying24 info3 rfl (by decide) (by omega) (.slice Ao61 x5_2.length co61) x5_2 (wrap64 ((-37) * (x5_2.length : Int))) [.int .i64 (wrap64 ((-37) * (x5_2.length : Int)))] (fun _ => True) (fun _ => False) rfl rfl ?aP (fun _ hk => hk.elim) ?aF ?aO (Below.refl _ _) ?aS ?aL ?_; (case aP => exact rfl); (case aF => exact (fun _ _ => trivial)); (case aO => exact (q9d5_ HO_5.out)); (case aS => exact (keep_size (w := w) (g := g) (row := none) q1d6_)); (case aL => have := LMc60.out; omega); intro v424 w63 ho hb hg hat; rw [← Ny423.out] at ho; have n0_ := Aside0.mk (IsS41.grown (q940_ HI0.out) hg (IsS41.own_ne HI0.out HO_5.out (by decide))); have n1_ := Aside0.mk (below_weaken (q1dd_ HI0.out) HL.out hb); have n2_ := Aside0.mk (KeepBut.trans q1d6_ (KeepBut.of_grown hg g) (Kd.R_base2 HO_5.out)); have n3_ := Aside0.mk (ho); replace HI0 := n0_; replace HB := n1_; replace HK := n2_; have HO425 := n3_; clear n0_ n1_ n2_ n3_; clear ho hb hg hat))
           go_roundg k2
           case measure => have := HK1.out; have := HK2.out; omega
           case rel => exact ⟨(y423), (t421), (t422), H', ⟨q37b_ HK1.out HK2.out⟩, ⟨q9d5_ HO425.out⟩, ⟨q940_ HI0.out⟩, ⟨q1d6_⟩, ⟨q1dd_ HI0.out⟩⟩
          ·
           rw [if_neg c60] at H
           exact absurd H (by simp)
         ·
          rw [if_neg c59] at H
          have c59b0 := decide_eq_false c59
          clear c59
          simp only [Option.some.injEq, Prod.mk.injEq] at H
          obtain ⟨rfl, rfl, rfl⟩ := H
          obtain ⟨Ao64, co64, eo64⟩ := Kd.R_slice HO_5.out
          subst eo64
          go_wp2_with (first | ((with_reducible refine gate_callee (f := 35) rfl ?_); refine gl_ 65 Tryz.func35 #[.pointer (some ⟨g, 0, none⟩), .int .i64 2] ?_; (with_reducible refine (spec_l1Cur_pick.calls g s0_0 x1001_2 x1002_2 2 t420 t421 t422 w0 _ ?s1 ?s2 A58.out).mono ?_); (case s1 => exact q940_ HI0.out); (case s2 => exact q1dd_ HI0.out); rintro e w65 ⟨rfl, hi, hb, hk⟩; refine ⟨_, rfl, ?_⟩; replace HO_5 := Aside0.mk (Kd.R_mono (Kd.R_keep (IsS41.apart (show IsS41 w0 _ g s0_0 x1001_2 x1002_2 from q940_ HI0.out) (q9d5_ HO_5.out) (by decide)) hk (fun _ h => h.2)) (fun _ h => h.1)); replace HK := Aside0.mk (KeepBut.trans q1d6_ hk (.inl rfl)); replace HB := Aside0.mk (hb); replace HI0 := Aside0.mk (hi); clear hb hk hi))
          go_ret
          exact ⟨_, qce7_, q9d5_ HO_5.out, q940_ HI0.out, q1dd_ HI0.out, q1d6_⟩
      ·
       rw [if_neg c55] at H
       have c55b0 := beq_eq_false_iff_ne.mpr c55
       have c55b1 := bne_iff_ne.mpr c55
       simp only [Option.some.injEq, Prod.mk.injEq] at H
       obtain ⟨rfl, rfl, rfl⟩ := H
       obtain ⟨Ao66, co66, eo66⟩ := Kd.R_slice HO_5.out
       subst eo66
       go_wp2_with (first | ((with_reducible refine gate_callee (f := 35) rfl ?_); refine gl_ 37 Tryz.func35 #[.pointer (some ⟨g, 0, none⟩), .int .i64 14] ?_; (with_reducible refine (spec_l1Cur_pick.calls g s0_0 x1001_1 x1002_1 14 t400 t401 t402 w0 _ ?s1 ?s2 A28.out).mono ?_); (case s1 => exact q940_ HI0.out); (case s2 => exact q1dd_ HI0.out); rintro e w67 ⟨rfl, hi, hb, hk⟩; refine ⟨_, rfl, ?_⟩; replace HO_5 := Aside0.mk (Kd.R_mono (Kd.R_keep (IsS41.apart (show IsS41 w0 _ g s0_0 x1001_1 x1002_1 from q940_ HI0.out) (q9d5_ HO_5.out) (by decide)) hk (fun _ h => h.2)) (fun _ h => h.1)); replace HK := Aside0.mk (KeepBut.trans q1d6_ hk (.inl rfl)); replace HB := Aside0.mk (hb); replace HI0 := Aside0.mk (hi); clear hb hk hi))
       go_ret
       exact ⟨_, qce7_, q9d5_ HO_5.out, q940_ HI0.out, q1dd_ HI0.out, q1d6_⟩

/-! ### spec_l1Cur_region: function 25 -/
def spec_l1Cur_region.f (k : Nat) (s0_0 : List Int) (s0_1 : Int) (s0_2 : Int) : Option (List Int × List Int × Int × Int) := (spec_l1Cur_pick.f s0_0 s0_1 s0_2 8).bind fun bt427 => ((spec_l1Cur_point.f k s0_0 bt427.2.1 bt427.2.2 bt427.1).bind fun bt430 => ((spec_reOf.f k bt430.1).bind fun bt435 => ((spec_l1Cur_pick.f s0_0 bt430.2.1 bt430.2.2 12).bind fun bt442 => (if bt442.1 = 0 then (if (bt435.2.length : Int) > 0 then ((spec_l1Cur_pick.f s0_0 bt442.2.1 bt442.2.2 (bt435.2.length : Int)).bind fun bt445 => ((spec_l1Cur_pick.f s0_0 bt445.2.1 bt445.2.2 4).bind fun bt448 => (if 0 ≤ bt445.1 then (if bt445.1 < (bt435.2.length : Int) then (some (bt435.1, (bt435.2.set (bt445.1 : Int).toNat (wrap64 (bt448.1 - 1))), bt448.2.1, bt448.2.2)) else (none)) else (none)))) else (some (bt435.1, bt435.2, bt442.2.1, bt442.2.2))) else (if bt442.1 = 1 then (if bt435.1.length < 17592186044416 then (some ((bt435.1 ++ [(bt435.1.length : Int)]), bt435.2, bt442.2.1, bt442.2.2)) else (none)) else (some (bt435.1, bt435.2, bt442.2.1, bt442.2.2)))))))
theorem spec_l1Cur_region.mono : ∀ a0 a1 a2 k, LeO (spec_l1Cur_region.f k a0 a1 a2) (spec_l1Cur_region.f (k + 1) a0 a1 a2) := by
 intro a0 a1 a2 k
 unfold spec_l1Cur_region.f
 repeat' (with_reducible first | exact spec_l1Cur_point.mono _ _ _ _ _ | exact spec_reOf.mono _ _ | exact LeO.refl _ | exact LeO.none _ | refine LeO.ite ?_ ?_ | refine LeO.bind ?_ (fun _ => ?_))
def spec_l1Cur_region.T5 : Bool × List (List Nat × List Nat) := (true, [([], []), ([0], [0]), ([], []), ([], []), ([3], [3]), ([4], [4]), ([2, 5], [2, 5]), ([], []), ([7, 6], [7]), ([8], [8]), ([1, 6, 0, 1, 2, 3, 4, 5, 6, 7, 8, 9], [1, 6]), ([10, 9, 8, 0, 1, 2, 3, 4, 5, 6, 7, 8, 9], [9, 10])])
def spec_l1Cur_region.B5 : List Nat := [0, 1, 0, 0, 8, 24, 60, 0, 252, 508, 1023, 2047]
theorem spec_l1Cur_region.tab5 : rtab .any (opsOf Tryz.f25 5) = spec_l1Cur_region.T5 := by kernel_rfl
theorem spec_l1Cur_region.bits5 : waitsOk spec_l1Cur_region.T5.2 spec_l1Cur_region.B5 = true := by kernel_rfl
theorem spec_l1Cur_region.calls (k : Nat) (g : Nat) (s0_0 : List Int) (s0_1 : Int) (s0_2 : Int) (r1 : List Int) (r2 : List Int) (r3 : Int) (r4 : Int) (w0 w : World) (hI : IsS41 w0 w g s0_0 s0_1 s0_2) (hB : Below w0.heap.size w0 w) (h : spec_l1Cur_region.f k s0_0 s0_1 s0_2 = some (r1, r2, r3, r4)) :
  Calls Tryz.prog 25 #[.pointer (some ⟨g, 0, none⟩)] w fun e w' => ∃ v0_ v1_ : Value, e = .returned (.agg #[v0_, v1_]) ∧ Kd.R (Kd.int .i64) 3 w' w.heap.size (fun k_ => some k_ ≠ (v1_ : Value).ownBlock) v0_ r1 ∧ Kd.R (Kd.int .i64) 3 w' w.heap.size (fun k_ => some k_ ≠ (v0_ : Value).ownBlock) v1_ r2 ∧ IsS41 w0 w' g s0_0 r3 r4 ∧ Below w0.heap.size w0 w' ∧ KeepBut w w' g none := by
 have hu27 := Tryz.underlying27
 have HI0 := Aside0.mk hI
 have HK := Aside0.mk (KeepBut.refl w g none)
 have HL := Aside0.mk hB.size
 clear hI
 have HW0 := Aside0.mk hB.size
 have HB := Aside0.mk hB
 clear hB
 unfold spec_l1Cur_region.f at h
 have H := h; clear h
 obtain ⟨⟨t427, t428, t429⟩, A2, H⟩ := ob_ H
 dsimp only at H
 obtain ⟨⟨t430, t433, t434⟩, A3, H⟩ := ob_ H
 dsimp only at H
 obtain ⟨⟨t435, t438⟩, A4, H⟩ := ob_ H
 dsimp only at H
 obtain ⟨⟨t442, t443, t444⟩, A5, H⟩ := ob_ H
 dsimp only at H
 by_cases c6 : t442 = 0
 ·
  rw [if_pos c6] at H
  have c6b0 := beq_iff_eq.mpr c6
  have c6b1 := bne_eq_false_iff_eq.mpr c6
  clear c6
  by_cases c7 : (t438.length : Int) > 0
  ·
   rw [if_pos c7] at H
   have c7b0 := decide_eq_true c7
   have c7b1 : decide (0 < t438.length) = true := decide_eq_true (by omega)
   clear c7
   obtain ⟨⟨t445, t446, t447⟩, A8, H⟩ := ob_ H
   dsimp only at H
   obtain ⟨⟨t448, t449, t450⟩, A9, H⟩ := ob_ H
   dsimp only at H
   by_cases c10 : 0 ≤ t445
   ·
    rw [if_pos c10] at H
    have c10b0 := decide_eq_true c10
    clear c10
    by_cases c11 : t445 < (t438.length : Int)
    ·
     rw [if_pos c11] at H
     have c11b0 := decide_eq_true c11
     clear c11
     obtain ⟨y451, hy451⟩ : ∃ y_ : List Int, y_ = (t438.set (t445 : Int).toNat (wrap64 (t448 - 1))) := ⟨_, rfl⟩
     replace H : (some (t435, y451, t449, t450)) = some (r1, r2, r3, r4) := by first | (rw [hy451]; with_reducible exact H) | (have H2_ := (Option.bind_some _ _).symm.trans H; rw [hy451]; with_reducible exact H2_) | (have H2_ := (Option.bind_some _ _).symm.trans H; with_reducible exact H2_) | with_reducible exact H | (rw [hy451]; exact H) | exact H
     have Ny451 := Aside0.mk hy451
     clear hy451
     simp only [Option.some.injEq, Prod.mk.injEq] at H
     obtain ⟨rfl, rfl, rfl, rfl⟩ := H
     go_enter Tryz.func25, Tryz.ntmps25
     try go_wp2_with (first | ((with_reducible refine gate_dst (N := 2) rfl ?_); refine box_event ?hg (N := 2) ?hd (cs := #[.slice none 0 0, .slice none 0 0]) (t := 27) ?hr ?_; (case hd => rfl); (case hg => rfl); (case hr => exact qfba_); intro gb426 hg w13 hbox hb; have n0_ := Aside0.mk (IsS41.below (q940_ HI0.out) hb); have n1_ := Aside0.mk (KeepBut.trans q1d6_ (KeepBut.of_below hb g none) (.inl rfl)); have n2_ := Aside0.mk (below_step (q1dd_ HI0.out) hb); have n3_ := Aside0.mk (hbox); have n4_ := Aside0.mk ((by rw [hg]; exact (keep_size (w := w) (g := g) (row := none) q1d6_) : w.heap.size ≤ gb426)); have n5_ := Aside0.mk ((Nat.le_trans HW0.out (by rw [hg]; exact (keep_size (w := w) (g := g) (row := none) q1d6_) : w.heap.size ≤ gb426) : w0.heap.size ≤ gb426)); have n6_ := Aside0.mk ((by rw [hg]; exact Nat.ne_of_lt (IsS41.lt (show IsS41 w0 _ g s0_0 s0_1 s0_2 from q940_ HI0.out)) : g ≠ gb426)); have n7_ := Aside0.mk ((by rw [hg]; exact Nat.ne_of_gt (IsS41.lt (show IsS41 w0 _ g s0_0 s0_1 s0_2 from q940_ HI0.out)) : gb426 ≠ g)); replace HI0 := n0_; replace HK := n1_; replace HB := n2_; have BK426 := n3_; have GW426 := n4_; have GE426 := n5_; have NB0_426 := n6_; have NB426_0 := n7_; clear n0_ n1_ n2_ n3_ n4_ n5_ n6_ n7_; clear hb hbox hg) | ((with_reducible refine gate_callee (f := 35) rfl ?_); refine gl_ 6 Tryz.func35 #[.pointer (some ⟨g, 0, none⟩), .int .i64 8] ?_; (with_reducible refine (spec_l1Cur_pick.calls g s0_0 s0_1 s0_2 8 t427 t428 t429 w0 _ ?s1 ?s2 A2.out).mono ?_); (case s1 => exact q8fe_ HI0.out); (case s2 => exact q75d_ HI0.out); rintro e w14 ⟨rfl, hi, hb, hk⟩; refine ⟨_, rfl, ?_⟩; replace BK426 := Aside0.mk (KeepBut.blk hk (g' := gb426) (o := .cells #[.slice none 0 0, .slice none 0 0] 27 (0, 0)) q270_ NB426_0.out (by simp)); replace HK := Aside0.mk (KeepBut.trans qde4_ hk (.inl rfl)); replace HB := Aside0.mk (hb); replace HI0 := Aside0.mk (hi); clear hb hk hi) | ((with_reducible refine gate_callee (f := 47) rfl ?_); refine gl_ 7 Tryz.func47 #[.pointer (some ⟨g, 0, none⟩), .int .i64 t427] ?_; (with_reducible refine (spec_l1Cur_point.calls k g s0_0 t428 t429 t427 t430 t433 t434 w0 _ ?s1 ?s2 A3.out).mono ?_); (case s1 => exact q8fe_ HI0.out); (case s2 => exact q75d_ HI0.out); rintro e w15 ⟨v431, rfl, ho0, hi, hb, hk⟩; refine ⟨_, rfl, ?_⟩; replace BK426 := Aside0.mk (KeepBut.blk hk (g' := gb426) (o := .cells #[.slice none 0 0, .slice none 0 0] 27 (0, 0)) q270_ NB426_0.out (by simp)); have HO432 := Aside0.mk (Kd.R_lower ho0 (keep_size (w := w) (g := g) (row := none) qde4_)); replace HK := Aside0.mk (KeepBut.trans qde4_ hk (.inl rfl)); replace HB := Aside0.mk (hb); replace HI0 := Aside0.mk (hi); clear hb hk hi ho0; obtain ⟨Ao16, co16, eo16⟩ := Kd.R_slice HO432.out; subst eo16) | ((with_reducible refine gate_callee (f := 46) rfl ?_); refine gl_ 8 Tryz.func46 #[.slice Ao16 t430.length co16] ?_; (with_reducible refine (spec_reOf.calls k _ _ t430 t435 t438 _ ?s1 ?s2 A4.out).mono ?_); (case s1 => exact q5a8_ HO432.out); (case s2 => exact (Kd.R_reads' HO432.out).2.1); rintro e w17 ⟨v436, v439, rfl, ho0, ho1, hb⟩; refine ⟨_, rfl, ?_⟩; have n0_ := Aside0.mk (Kd.R_mono (Kd.R_told (Kd.R_told (Kd.R_old (q9d5_ HO432.out) hb) (Kd.R_base ho0)) (Kd.R_base ho1)) (fun _ h_ => h_.1)); have n1_ := Aside0.mk (Kd.R_lower (Kd.R_new' ho0 (Kd.R_lt (q9d5_ HO432.out))) (keep_size (w := w) (g := g) (row := none) qde4_)); have n2_ := Aside0.mk (Kd.R_lower (Kd.R_new' ho1 (Kd.R_lt (q9d5_ HO432.out))) (keep_size (w := w) (g := g) (row := none) qde4_)); have n3_ := Aside0.mk (IsS41.below (q8fe_ HI0.out) hb); have n4_ := Aside0.mk (blk_below (g := gb426) (o := .cells #[.slice none 0 0, .slice none 0 0] 27 (0, 0)) q270_ hb); have n5_ := Aside0.mk (KeepBut.trans qde4_ (KeepBut.of_below hb g none) (.inl rfl)); have n6_ := Aside0.mk (below_step (q75d_ HI0.out) hb); replace HO432 := n0_; have HO437 := n1_; have HO440 := n2_; replace HI0 := n3_; replace BK426 := n4_; replace HK := n5_; replace HB := n6_; clear n0_ n1_ n2_ n3_ n4_ n5_ n6_; clear hb ho0 ho1) | ((with_reducible refine gate_dst (N := 3) rfl ?_); refine box_event ?hg (N := 3) ?hd (cs := #[.slice none 0 0, .slice none 0 0]) (t := 27) ?hr ?_; (case hd => rfl); (case hg => rfl); (case hr => exact qfba_); intro gb441 hg w18 hbox hb; have n0_ := Aside0.mk (Kd.R_below (q9d5_ HO432.out) hb); have n1_ := Aside0.mk (Kd.R_below (q9d5_ HO437.out) hb); have n2_ := Aside0.mk (Kd.R_below (q9d5_ HO440.out) hb); have n3_ := Aside0.mk (IsS41.below (q8fe_ HI0.out) hb); have n4_ := Aside0.mk (blk_below (g := gb426) (o := .cells #[.slice none 0 0, .slice none 0 0] 27 (0, 0)) q270_ hb); have n5_ := Aside0.mk (KeepBut.trans qde4_ (KeepBut.of_below hb g none) (.inl rfl)); have n6_ := Aside0.mk (below_step (q75d_ HI0.out) hb); have n7_ := Aside0.mk (hbox); have n8_ := Aside0.mk ((by rw [hg]; exact (keep_size (w := w) (g := g) (row := none) qde4_) : w.heap.size ≤ gb441)); have n9_ := Aside0.mk ((Nat.le_trans HW0.out (by rw [hg]; exact (keep_size (w := w) (g := g) (row := none) qde4_) : w.heap.size ≤ gb441) : w0.heap.size ≤ gb441)); have n10_ := Aside0.mk ((by rw [hg]; exact Nat.ne_of_lt (blk_lt (g := gb426) (o := .cells #[.slice none 0 0, .slice none 0 0] 27 (0, 0)) q270_) : gb426 ≠ gb441)); have n11_ := Aside0.mk ((by rw [hg]; exact Nat.ne_of_gt (blk_lt (g := gb426) (o := .cells #[.slice none 0 0, .slice none 0 0] 27 (0, 0)) q270_) : gb441 ≠ gb426)); have n12_ := Aside0.mk ((by rw [hg]; exact Nat.ne_of_lt (IsS41.lt (show IsS41 w0 _ g s0_0 t433 t434 from q8fe_ HI0.out)) : g ≠ gb441)); have n13_ := Aside0.mk ((by rw [hg]; exact Nat.ne_of_gt (IsS41.lt (show IsS41 w0 _ g s0_0 t433 t434 from q8fe_ HI0.out)) : gb441 ≠ g)); replace HO432 := n0_; replace HO437 := n1_; replace HO440 := n2_; replace HI0 := n3_; replace BK426 := n4_; replace HK := n5_; replace HB := n6_; have BK441 := n7_; have GW441 := n8_; have GE441 := n9_; have NB426_441 := n10_; have NB441_426 := n11_; have NB0_441 := n12_; have NB441_0 := n13_; clear n0_ n1_ n2_ n3_ n4_ n5_ n6_ n7_ n8_ n9_ n10_ n11_ n12_ n13_; clear hb hbox hg; obtain ⟨Ao19, co19, eo19⟩ := Kd.R_slice HO437.out; subst eo19; have hnb20 := NB441_426.out; have hnc20 := NB426_441.out; have hnb21 := NB441_0.out; have hnc21 := NB0_441.out; have hcz22_0 : w18.cell? ⟨gb441, 0, none⟩ = some (.slice none 0 0) := (blk_cell BK441.out 0).trans rfl; have hcz22_1 : w18.cell? ⟨gb441, 1, none⟩ = some (.slice none 0 0) := (blk_cell BK441.out 1).trans rfl; have hfz22_0 := blk_frozen BK441.out 0; have hfz22_1 := blk_frozen BK441.out 1; obtain ⟨Ao23, co23, eo23⟩ := Kd.R_slice HO440.out; subst eo23) | ((with_reducible refine gate_callee (f := 35) rfl ?_); refine gl_ 10 Tryz.func35 #[.pointer (some ⟨g, 0, none⟩), .int .i64 12] ?_; (with_reducible refine (spec_l1Cur_pick.calls g s0_0 t433 t434 12 t442 t443 t444 w0 _ ?s1 ?s2 A5.out).mono ?_); (case s1 => exact q2b5_ HI0.out); (case s2 => exact q268_ HI0.out); rintro e w24 ⟨rfl, hi, hb, hk⟩; refine ⟨_, rfl, ?_⟩; replace BK426 := Aside0.mk (KeepBut.blk hk (g' := gb426) (o := .cells #[.slice none 0 0, .slice none 0 0] 27 (0, 0)) q275_ NB426_0.out (by simp)); replace HO432 := Aside0.mk (Kd.R_mono (Kd.R_keep (IsS41.apart (show IsS41 w0 _ g s0_0 t433 t434 from q2b5_ HI0.out) (by (with_reducible repeat (first | apply Kd.R_alloc | apply Kd.R_drewN | apply Kd.R_drew)); exact (Kd.R_mono (Kd.R_far (p := ⟨gb441, 1, none⟩) (Kd.R_far (p := ⟨gb441, 0, none⟩) (Kd.R_types HO432.out BK441.out (by decide)) (fun _ hk => hk.2) (.slice Ao19 t435.length co19)) (fun _ hk => hk.2) (.slice Ao23 t438.length co23)) (fun _ h_ => h_.1))) (by decide)) hk (fun _ h => h.2)) (fun _ h => h.1)); replace HO437 := Aside0.mk (Kd.R_mono (Kd.R_keep (IsS41.apart (show IsS41 w0 _ g s0_0 t433 t434 from q2b5_ HI0.out) (by (with_reducible repeat (first | apply Kd.R_alloc | apply Kd.R_drewN | apply Kd.R_drew)); exact (Kd.R_mono (Kd.R_far (p := ⟨gb441, 1, none⟩) (Kd.R_far (p := ⟨gb441, 0, none⟩) (Kd.R_types HO437.out BK441.out (by decide)) (fun _ hk => hk.2) (.slice Ao19 t435.length co19)) (fun _ hk => hk.2) (.slice Ao23 t438.length co23)) (fun _ h_ => h_.1))) (by decide)) hk (fun _ h => h.2)) (fun _ h => h.1)); replace HO440 := Aside0.mk (Kd.R_mono (Kd.R_keep (IsS41.apart (show IsS41 w0 _ g s0_0 t433 t434 from q2b5_ HI0.out) (by (with_reducible repeat (first | apply Kd.R_alloc | apply Kd.R_drewN | apply Kd.R_drew)); exact (Kd.R_mono (Kd.R_far (p := ⟨gb441, 1, none⟩) (Kd.R_far (p := ⟨gb441, 0, none⟩) (Kd.R_types HO440.out BK441.out (by decide)) (fun _ hk => hk.2) (.slice Ao19 t435.length co19)) (fun _ hk => hk.2) (.slice Ao23 t438.length co23)) (fun _ h_ => h_.1))) (by decide)) hk (fun _ h => h.2)) (fun _ h => h.1)); replace BK441 := Aside0.mk (KeepBut.blk hk (g' := gb441) (o := .cells #[.slice Ao19 t435.length co19, .slice Ao23 t438.length co23] 27 (0, 0)) (by (with_reducible repeat (first | refine blk_drewN ?_ _ | refine blk_drew ?_ | refine blk_alloc ?_ _)); refine blk_put (cs := #[.slice Ao19 t435.length co19, .slice none 0 0]) ?_ 1 _ rfl; (with_reducible repeat (first | refine blk_drewN ?_ _ | refine blk_drew ?_ | refine blk_alloc ?_ _)); refine blk_put (cs := #[.slice none 0 0, .slice none 0 0]) ?_ 0 _ rfl; (with_reducible repeat (first | refine blk_drewN ?_ _ | refine blk_drew ?_ | refine blk_alloc ?_ _)); exact BK441.out) NB441_0.out (by simp)); replace HK := Aside0.mk (KeepBut.trans q1bc_ hk (.inl rfl)); replace HB := Aside0.mk (hb); replace HI0 := Aside0.mk (hi); clear hb hk hi; have hcz25_0 : w24.cell? ⟨gb441, 0, none⟩ = some (.slice Ao19 t435.length co19) := (blk_cell BK441.out 0).trans rfl; have hcz25_1 : w24.cell? ⟨gb441, 1, none⟩ = some (.slice Ao23 t438.length co23) := (blk_cell BK441.out 1).trans rfl; have hfz25_0 := blk_frozen BK441.out 0; have hfz25_1 := blk_frozen BK441.out 1))
     have n0_ := Aside0.mk (Kd.R_drew HO432.out)
     have n1_ := Aside0.mk (Kd.R_drew HO437.out)
     have n2_ := Aside0.mk (Kd.R_drew HO440.out)
     have n3_ := Aside0.mk (blk_drew BK426.out)
     have n4_ := Aside0.mk (blk_drew BK441.out)
     have n5_ := Aside0.mk (IsS41.drew HI0.out)
     have n6_ := Aside0.mk (keep_drew HK.out)
     have n7_ := Aside0.mk (below_drew1 HB.out)
     clear HO432 HO437 HO440 BK426 BK441 HI0 HK HB; have HO432 := n0_; have HO437 := n1_; have HO440 := n2_; have BK426 := n3_; have BK441 := n4_; have HI0 := n5_; have HK := n6_; have HB := n7_; clear n0_ n1_ n2_ n3_ n4_ n5_ n6_ n7_
     refine start_ (n := 12) (S := fun w' => w'.cell? ⟨gb441, 0, none⟩ = some (.slice Ao19 t435.length co19) ∧ w'.cell? ⟨gb441, 1, none⟩ = some (.slice Ao23 t438.length co23)) (ds := [11]) #[false, false, false, false, false, false, false, false, false, false, false, false] (by kernel_rfl) rfl rfl ⟨(blk_cell BK441.out 0).trans rfl, (blk_cell BK441.out 1).trans rfl⟩ (fun hHeld => ?_); refine with_tabW spec_l1Cur_region.tab5 spec_l1Cur_region.bits5 (fun HT_ HW_ => ?_)
     generalize w24.drew = w26 at HO432 HO437 HO440 BK426 BK441 HI0 HK HB hHeld ⊢
     refine pure_ (i := 0) (N := some 17) (v := ?_) (a' := ?_) #[true, false, false, false, false, false, false, false, false, false, false, false] rfl rfl (any_of HT_.out (by kernel_rfl)) (fun _ _ _ h => h) (Or.inl ⟨by rfl, ?_⟩) ?_ ?_
     rotate_left
     ·
      intro w'
      go_simp
      with_reducible rfl
     rotate_left
     ·
      simp only [Act.put, List.setIfInBounds_toArray, List.set_cons_zero, List.set_cons_succ, i64_w, i32_w]
      rfl
     refine pure_ (i := 2) (N := some 19) (v := ?_) (a' := ?_) #[true, false, true, false, false, false, false, false, false, false, false, false] rfl rfl (any_of HT_.out (by kernel_rfl)) (fun _ _ _ h => h) (Or.inl ⟨by rfl, ?_⟩) ?_ ?_
     rotate_left
     ·
      intro w'
      go_simp
      with_reducible rfl
     rotate_left
     ·
      simp only [Act.put, List.setIfInBounds_toArray, List.set_cons_zero, List.set_cons_succ, i64_w, i32_w]
      rfl
     refine pure_ (i := 3) (N := some 20) (v := ?_) (a' := ?_) #[true, false, true, true, false, false, false, false, false, false, false, false] rfl rfl (any_of HT_.out (by kernel_rfl)) (fun _ _ _ h => h) (Or.inl ⟨by rfl, ?_⟩) ?_ ?_
     rotate_left
     ·
      intro w'
      go_simp
      with_reducible rfl
     rotate_left
     ·
      simp only [Act.put, List.setIfInBounds_toArray, List.set_cons_zero, List.set_cons_succ, i64_w, i32_w]
      rfl
     refine pure_ (i := 7) (N := some 24) (v := ?_) (a' := ?_) #[true, false, true, true, false, false, false, true, false, false, false, false] rfl rfl (any_of HT_.out (by kernel_rfl)) (fun _ _ _ h => h) (Or.inl ⟨by rfl, ?_⟩) ?_ ?_
     rotate_left
     ·
      intro w'
      go_simp
      with_reducible rfl
     rotate_left
     ·
      simp only [Act.put, List.setIfInBounds_toArray, List.set_cons_zero, List.set_cons_succ, i64_w, i32_w]
      rfl
     refine take_ (i := 1) (N := some 18) (v := ?_) (a' := ?_) #[true, true, true, true, false, false, false, true, false, false, false, false] rfl rfl (take_ofW HT_.out HW_.out (by kernel_rfl)) (fun _ _ _ h => h) (Or.inl ⟨by rfl, ?_⟩) hHeld ?_ ?_
     rotate_left
     ·
      rintro w' ⟨s0, s1⟩
      go_simp
      with_reducible rfl
     rotate_left
     ·
      simp only [Act.put, List.setIfInBounds_toArray, List.set_cons_zero, List.set_cons_succ, i64_w, i32_w]
      rfl
     refine take_ (i := 4) (N := some 21) (v := ?_) (a' := ?_) #[true, true, true, true, true, false, false, true, false, false, false, false] rfl rfl (take_ofW HT_.out HW_.out (by kernel_rfl)) (fun _ _ _ h => h) (Or.inl ⟨by rfl, ?_⟩) hHeld ?_ ?_
     rotate_left
     ·
      rintro w' ⟨s0, s1⟩
      go_simp
      with_reducible rfl
     rotate_left
     ·
      simp only [Act.put, List.setIfInBounds_toArray, List.set_cons_zero, List.set_cons_succ, i64_w, i32_w]
      rfl
     refine pure_ (i := 5) (N := some 22) (v := ?_) (a' := ?_) #[true, true, true, true, true, true, false, true, false, false, false, false] rfl rfl (any_of HT_.out (by kernel_rfl)) (fun _ _ _ h => h) (Or.inl ⟨by rfl, ?_⟩) ?_ ?_
     rotate_left
     ·
      intro w'
      go_simp
      with_reducible rfl
     rotate_left
     ·
      simp only [Act.put, List.setIfInBounds_toArray, List.set_cons_zero, List.set_cons_succ, i64_w, i32_w]
      rfl
     refine one_ (i := 6) (N := some 23) #[true, true, true, true, true, true, true, true, false, false, false, false] rfl rfl (one_of HT_.out (by kernel_rfl)) (by decide) (fun K hK => ?_)
     refine goes_ Tryz.func35 (by kernel_rfl) rfl #[.pointer (some ⟨g, 0, none⟩), .int .i64 (t438.length : Int)] (by rfl) rfl rfl qef5_ ?_
     with_reducible refine (spec_l1Cur_pick.calls g s0_0 t443 t444 (t438.length : Int) t445 t446 t447 w0 _ ?s1 ?s2 A8.out).mono ?_
     (case s1 => exact q2b5_ HI0.out)
     (case s2 => exact q268_ HI0.out)
     rintro e w27 ⟨rfl, hi, hb, hk⟩
     refine ⟨_, rfl, ?_⟩
     have n0_ := Aside0.mk (KeepBut.blk hk (g' := gb426) (o := .cells #[.slice none 0 0, .slice none 0 0] 27 (0, 0)) q270_ NB426_0.out (by simp))
     have n1_ := Aside0.mk (Kd.R_mono (Kd.R_keep (IsS41.apart (show IsS41 w0 _ g s0_0 t443 t444 from q2b5_ HI0.out) (q9d5_ HO432.out) (by decide)) hk (fun _ h => h.2)) (fun _ h => h.1))
     have n2_ := Aside0.mk (Kd.R_mono (Kd.R_keep (IsS41.apart (show IsS41 w0 _ g s0_0 t443 t444 from q2b5_ HI0.out) (q9d5_ HO437.out) (by decide)) hk (fun _ h => h.2)) (fun _ h => h.1))
     have n3_ := Aside0.mk (Kd.R_mono (Kd.R_keep (IsS41.apart (show IsS41 w0 _ g s0_0 t443 t444 from q2b5_ HI0.out) (q9d5_ HO440.out) (by decide)) hk (fun _ h => h.2)) (fun _ h => h.1))
     have n4_ := Aside0.mk (KeepBut.blk hk (g' := gb441) (o := .cells #[.slice Ao19 t435.length co19, .slice Ao23 t438.length co23] 27 (0, 0)) qb9a_ NB441_0.out (by simp))
     have n5_ := Aside0.mk (KeepBut.trans q1bc_ hk (.inl rfl))
     have n6_ := Aside0.mk (hb)
     have n7_ := Aside0.mk (hi)
     clear BK426 HO432 HO437 HO440 BK441 HK HB HI0; have BK426 := n0_; have HO432 := n1_; have HO437 := n2_; have HO440 := n3_; have BK441 := n4_; have HK := n5_; have HB := n6_; have HI0 := n7_; clear n0_ n1_ n2_ n3_ n4_ n5_ n6_ n7_
     (try clear hb)
     (try clear hb2)
     (try clear hk)
     (try clear hi)
     refine hK.out _ _ ⟨(blk_cell BK441.out 0).trans rfl, (blk_cell BK441.out 1).trans rfl⟩ (fun hHeld => ?_)
     clear hK K
     refine norm_ (a' := ?_) ?_ ?_
     rotate_left
     ·
      show Act.put _ (some 23) _ = _
      simp only [Act.put, List.setIfInBounds_toArray, List.set_cons_zero, List.set_cons_succ, i64_w, i32_w]
      rfl
     refine one_ (i := 8) (N := some 25) #[true, true, true, true, true, true, true, true, true, false, false, false] rfl rfl (one_of HT_.out (by kernel_rfl)) (by decide) (fun K hK => ?_)
     refine goes_ Tryz.func35 (by kernel_rfl) rfl #[.pointer (some ⟨g, 0, none⟩), .int .i64 4] (by rfl) rfl rfl qef5_ ?_
     with_reducible refine (spec_l1Cur_pick.calls g s0_0 t446 t447 4 t448 t449 t450 w0 _ ?s1 ?s2 A9.out).mono ?_
     (case s1 => exact q2b5_ HI0.out)
     (case s2 => exact q268_ HI0.out)
     rintro e w28 ⟨rfl, hi, hb, hk⟩
     refine ⟨_, rfl, ?_⟩
     have n0_ := Aside0.mk (KeepBut.blk hk (g' := gb426) (o := .cells #[.slice none 0 0, .slice none 0 0] 27 (0, 0)) q270_ NB426_0.out (by simp))
     have n1_ := Aside0.mk (Kd.R_mono (Kd.R_keep (IsS41.apart (show IsS41 w0 _ g s0_0 t446 t447 from q2b5_ HI0.out) (q9d5_ HO432.out) (by decide)) hk (fun _ h => h.2)) (fun _ h => h.1))
     have n2_ := Aside0.mk (Kd.R_mono (Kd.R_keep (IsS41.apart (show IsS41 w0 _ g s0_0 t446 t447 from q2b5_ HI0.out) (q9d5_ HO437.out) (by decide)) hk (fun _ h => h.2)) (fun _ h => h.1))
     have n3_ := Aside0.mk (Kd.R_mono (Kd.R_keep (IsS41.apart (show IsS41 w0 _ g s0_0 t446 t447 from q2b5_ HI0.out) (q9d5_ HO440.out) (by decide)) hk (fun _ h => h.2)) (fun _ h => h.1))
     have n4_ := Aside0.mk (KeepBut.blk hk (g' := gb441) (o := .cells #[.slice Ao19 t435.length co19, .slice Ao23 t438.length co23] 27 (0, 0)) qb9a_ NB441_0.out (by simp))
     have n5_ := Aside0.mk (KeepBut.trans q1bc_ hk (.inl rfl))
     have n6_ := Aside0.mk (hb)
     have n7_ := Aside0.mk (hi)
     clear BK426 HO432 HO437 HO440 BK441 HK HB HI0; have BK426 := n0_; have HO432 := n1_; have HO437 := n2_; have HO440 := n3_; have BK441 := n4_; have HK := n5_; have HB := n6_; have HI0 := n7_; clear n0_ n1_ n2_ n3_ n4_ n5_ n6_ n7_
     (try clear hb)
     (try clear hb2)
     (try clear hk)
     (try clear hi)
     have p12 : 0 ≤ (t445 : Int) := of_decide_eq_true qe84_
     have q12 : (t445 : Int) < ((t438.length : Int) : Int) := of_decide_eq_true qe84_
     obtain ⟨go12, co12, eo12, gb12, gl12, cl12, HG12⟩ := Kd.R_form HO440.out (by omega)
     (first | cases eo12 | (injection eo12 with ea_ en_ ec_; (first | subst ea_ | (injection ea_ with ea_; subst ea_)); subst ec_; clear en_))
     have GB12 := Aside0.mk gb12
     have GG12 := Aside0.mk HG12
     clear gb12 gl12 HG12
     obtain ⟨hx12_0, hf12_0⟩ := Kd.R_celln 0 HO440.out (t445 : Int) p12 q12
     replace p12 := eq_true p12
     replace q12 := eq_true q12
     have HN0_go12 := Aside0.mk (show g ≠ go12 from by have h_ := IsS41.own_ne HI0.out HO440.out (by decide); intro e_; exact h_ (by rw [e_]; rfl))
     have HP29 := Kd.R_putn HO440.out (t445 : Int) (wrap64 (t448 - 1))
     rw [← Ny451.out] at HP29
     have HQ29 := Aside0.mk HP29
     clear HP29
     refine hK.out _ _ ⟨(blk_cell BK441.out 0).trans rfl, (blk_cell BK441.out 1).trans rfl⟩ (fun hHeld => ?_)
     clear hK K
     refine norm_ (a' := ?_) ?_ ?_
     rotate_left
     ·
      show Act.put _ (some 25) _ = _
      simp only [Act.put, List.setIfInBounds_toArray, List.set_cons_zero, List.set_cons_succ, i64_w, i32_w]
      rfl
     refine pure_ (i := 9) (N := some 26) (v := ?_) (a' := ?_) #[true, true, true, true, true, true, true, true, true, true, false, false] rfl rfl (any_of HT_.out (by kernel_rfl)) (fun _ _ _ h => h) (Or.inl ⟨by rfl, ?_⟩) ?_ ?_
     rotate_left
     ·
      intro w'
      go_simp
      with_reducible rfl
     rotate_left
     ·
      simp only [Act.put, List.setIfInBounds_toArray, List.set_cons_zero, List.set_cons_succ, i64_w, i32_w]
      rfl
     refine pure_ (i := 10) (N := some 27) (v := ?_) (a' := ?_) #[true, true, true, true, true, true, true, true, true, true, true, false] rfl rfl (any_of HT_.out (by kernel_rfl)) (fun _ _ _ h => h) (Or.inl ⟨by rfl, ?_⟩) ?_ ?_
     rotate_left
     ·
      intro w'
      go_simp
      with_reducible rfl
     rotate_left
     ·
      simp only [Act.put, List.setIfInBounds_toArray, List.set_cons_zero, List.set_cons_succ, i64_w, i32_w]
      rfl
     refine last_ (i := 11) (N := none) #[true, true, true, true, true, true, true, true, true, true, true, true] rfl rfl (one_of HT_.out (by kernel_rfl)) (by decide) (fun K hK => ?_)
     refine skip_ (w1 := ?_) (by rfl) rfl ?_ ?_
     rotate_left
     ·
      go_simp
      rfl
     refine hK.out _ _ ?_
     clear hK K
     refine done_ (done_of HT_.out (by kernel_rfl)) ?_
     have n0_ : Aside0 (Kd.R (Kd.int .i64) 3 (w28.setCell ⟨go12, (t445 : Int).toNat, none⟩ (.int .i64 (wrap64 (t448 - 1)))) w.heap.size (fun k_ => some k_ ≠ (.slice Ao19 t435.length co19 : Value).ownBlock ∧ some k_ ≠ (.slice (some ⟨go12, 0, none⟩) t438.length co23 : Value).ownBlock) (.slice Ao16 t430.length co16) t430) := ⟨by (with_reducible repeat (first | apply Kd.R_alloc | apply Kd.R_drewN | apply Kd.R_drew)); exact Kd.R_mono (Kd.R_far (p := ⟨go12, (t445 : Int).toNat, none⟩) (Kd.R_mono HO432.out (fun k_ hk => (⟨hk, fun e_ => hk.2 (by rw [e_]; rfl)⟩ : _ ∧ k_ ≠ go12))) (fun _ hk => hk.2) (.int .i64 (wrap64 (t448 - 1)))) (fun _ hk => ⟨hk.1.1.2, hk.1.2⟩)⟩
     have n1_ : Aside0 (Kd.R (Kd.int .i64) 3 (w28.setCell ⟨go12, (t445 : Int).toNat, none⟩ (.int .i64 (wrap64 (t448 - 1)))) w.heap.size (fun k_ => some k_ ≠ (.slice Ao16 t430.length co16 : Value).ownBlock ∧ some k_ ≠ (.slice (some ⟨go12, 0, none⟩) t438.length co23 : Value).ownBlock) (.slice Ao19 t435.length co19) t435) := ⟨by (with_reducible repeat (first | apply Kd.R_alloc | apply Kd.R_drewN | apply Kd.R_drew)); exact Kd.R_mono (Kd.R_far (p := ⟨go12, (t445 : Int).toNat, none⟩) (Kd.R_mono HO437.out (fun k_ hk => (⟨hk, fun e_ => hk.1 (by rw [e_]; rfl)⟩ : _ ∧ k_ ≠ go12))) (fun _ hk => hk.2) (.int .i64 (wrap64 (t448 - 1)))) (fun _ hk => ⟨hk.1.2, hk.1.1⟩)⟩
     have n2_ : Aside0 (Kd.R (Kd.int .i64) 3 (w28.setCell ⟨go12, (t445 : Int).toNat, none⟩ (.int .i64 (wrap64 (t448 - 1)))) w.heap.size (fun k_ => some k_ ≠ (.slice Ao16 t430.length co16 : Value).ownBlock ∧ some k_ ≠ (.slice Ao19 t435.length co19 : Value).ownBlock) (.slice (some ⟨go12, 0, none⟩) t438.length co23) y451) := ⟨q810_ HQ29.out⟩
     have n3_ : Aside0 ((w28.setCell ⟨go12, (t445 : Int).toNat, none⟩ (.int .i64 (wrap64 (t448 - 1)))).heap[gb426]? = some (.cells #[.slice none 0 0, .slice none 0 0] 27 (0, 0))) := ⟨by (with_reducible repeat (first | refine blk_drewN ?_ _ | refine blk_drew ?_ | refine blk_alloc ?_ _)); refine blk_far ?_ (by have h_ := Kd.R_ne HO440.out BK426.out (by decide); intro e_; exact h_ (by rw [e_]; rfl)) _; (with_reducible repeat (first | refine blk_drewN ?_ _ | refine blk_drew ?_ | refine blk_alloc ?_ _)); exact BK426.out⟩
     have n4_ : Aside0 ((w28.setCell ⟨go12, (t445 : Int).toNat, none⟩ (.int .i64 (wrap64 (t448 - 1)))).heap[gb441]? = some (.cells #[.slice Ao19 t435.length co19, .slice (some ⟨go12, 0, none⟩) t438.length co23] 27 (0, 0))) := ⟨by (with_reducible repeat (first | refine blk_drewN ?_ _ | refine blk_drew ?_ | refine blk_alloc ?_ _)); refine blk_far ?_ (by have h_ := Kd.R_ne HO440.out BK441.out (by decide); intro e_; exact h_ (by rw [e_]; rfl)) _; (with_reducible repeat (first | refine blk_drewN ?_ _ | refine blk_drew ?_ | refine blk_alloc ?_ _)); exact BK441.out⟩
     have n5_ : Aside0 (IsS41 w0 (w28.setCell ⟨go12, (t445 : Int).toNat, none⟩ (.int .i64 (wrap64 (t448 - 1)))) g s0_0 t449 t450) := ⟨by repeat (first | (with_reducible first | exact HI0.out | apply IsS41.alloc | apply IsS41.drewN | apply IsS41.drew | apply IsS41.set_1 | apply IsS41.set_2 | refine IsS41.far ?_ HN0_go12.out _ | refine IsS41.far ?_ NB0_426.out _ | refine IsS41.far ?_ NB0_441.out _) | exact HI0.out)⟩
     have n6_ : Aside0 (KeepBut w (w28.setCell ⟨go12, (t445 : Int).toNat, none⟩ (.int .i64 (wrap64 (t448 - 1)))) g none) := ⟨by repeat (first | (with_reducible first | exact HK.out | apply KeepBut.set_ | apply keep_drewN | apply keep_drew | apply keep_alloc | refine keep_far ?_ GB12.out _ | refine keep_far ?_ GW426.out _ | refine keep_far ?_ GW441.out _) | exact HK.out)⟩
     have n7_ : Aside0 (Below w0.heap.size w0 (w28.setCell ⟨go12, (t445 : Int).toNat, none⟩ (.int .i64 (wrap64 (t448 - 1))))) := ⟨by repeat (first | (with_reducible first | exact HB.out | apply below_alloc | apply pw_below_drewN | apply below_drew1 | refine below_set ?_ (Nat.le_trans HL.out GB12.out) | refine below_set ?_ (IsS41.ge HI0.out) | refine below_set ?_ GE426.out | refine below_set ?_ GE441.out) | exact HB.out)⟩
     (try clear HO432)
     (try clear HO437)
     (try clear HO440)
     (try clear BK426)
     (try clear BK441)
     (try clear HI0)
     (try clear HK)
     (try clear HB)
     generalize (w28.setCell ⟨go12, (t445 : Int).toNat, none⟩ (.int .i64 (wrap64 (t448 - 1)))) = w30 at n0_ n1_ n2_ n3_ n4_ n5_ n6_ n7_ ⊢
     have HO432 := n0_; have HO437 := n1_; have HO440 := n2_; have BK426 := n3_; have BK441 := n4_; have HI0 := n5_; have HK := n6_; have HB := n7_; clear n0_ n1_ n2_ n3_ n4_ n5_ n6_ n7_
     have hcz31_0 : w30.cell? ⟨gb441, 0, none⟩ = some (.slice Ao19 t435.length co19) := (blk_cell BK441.out 0).trans rfl
     have hcz31_1 : w30.cell? ⟨gb441, 1, none⟩ = some (.slice (some ⟨go12, 0, none⟩) t438.length co23) := (blk_cell BK441.out 1).trans rfl
     have hfz31_0 := blk_frozen BK441.out 0
     have hfz31_1 := blk_frozen BK441.out 1
     have hnb32 := NB426_0.out
     have hnc32 := NB0_426.out
     have hcz33_0 : w30.cell? ⟨gb426, 0, none⟩ = some (.slice none 0 0) := (blk_cell BK426.out 0).trans rfl
     have hcz33_1 : w30.cell? ⟨gb426, 1, none⟩ = some (.slice none 0 0) := (blk_cell BK426.out 1).trans rfl
     have hfz33_0 := blk_frozen BK426.out 0
     have hfz33_1 := blk_frozen BK426.out 1
     try go_wp2
     refine bodyPost_ret (results_cell_row rfl _ _ gb426 27 #[.slice Ao19 t435.length co19, .slice (some ⟨go12, 0, none⟩) t438.length co23] (0, 0) _ rfl (by (with_reducible repeat (first | refine blk_drewN ?_ _ | refine blk_drew ?_ | refine blk_alloc ?_ _)); refine blk_put (cs := #[.slice Ao19 t435.length co19, .slice none 0 0]) ?_ 1 _ rfl; (with_reducible repeat (first | refine blk_drewN ?_ _ | refine blk_drew ?_ | refine blk_alloc ?_ _)); refine blk_put (cs := #[.slice none 0 0, .slice none 0 0]) ?_ 0 _ rfl; (with_reducible repeat (first | refine blk_drewN ?_ _ | refine blk_drew ?_ | refine blk_alloc ?_ _)); exact BK426.out) Tryz.underlying27 rfl (by kernel_rfl)) rfl ?_
     exact ⟨_, _, qce7_, by (with_reducible repeat (first | apply Kd.R_alloc | apply Kd.R_drewN | apply Kd.R_drew)); exact Kd.R_mono (Kd.R_far (p := ⟨gb426, 1, none⟩) (Kd.R_far (p := ⟨gb426, 0, none⟩) (Kd.R_types HO437.out BK426.out (by decide)) (fun _ hk => hk.2) (.slice Ao19 t435.length co19)) (fun _ hk => hk.2) (.slice (some ⟨go12, 0, none⟩) t438.length co23)) (fun _ hk => hk.1.2), by (with_reducible repeat (first | apply Kd.R_alloc | apply Kd.R_drewN | apply Kd.R_drew)); exact Kd.R_mono (Kd.R_far (p := ⟨gb426, 1, none⟩) (Kd.R_far (p := ⟨gb426, 0, none⟩) (Kd.R_types HO440.out BK426.out (by decide)) (fun _ hk => hk.2) (.slice Ao19 t435.length co19)) (fun _ hk => hk.2) (.slice (some ⟨go12, 0, none⟩) t438.length co23)) (fun _ hk => hk.1.2), q2b5_ HI0.out, q268_ HI0.out, q1bc_⟩
    ·
     rw [if_neg c11] at H
     exact absurd H (by simp)
   ·
    rw [if_neg c10] at H
    exact absurd H (by simp)
  ·
   rw [if_neg c7] at H
   have c7b0 := decide_eq_false c7
   have c7b1 : decide (0 < t438.length) = false := decide_eq_false (by omega)
   clear c7
   simp only [Option.some.injEq, Prod.mk.injEq] at H
   obtain ⟨rfl, rfl, rfl, rfl⟩ := H
   go_enter Tryz.func25, Tryz.ntmps25
   go_wp2_with (first | ((with_reducible refine gate_dst (N := 2) rfl ?_); refine box_event ?hg (N := 2) ?hd (cs := #[.slice none 0 0, .slice none 0 0]) (t := 27) ?hr ?_; (case hd => rfl); (case hg => rfl); (case hr => exact qfba_); intro gb426 hg w34 hbox hb; have n0_ := Aside0.mk (IsS41.below (q940_ HI0.out) hb); have n1_ := Aside0.mk (KeepBut.trans q1d6_ (KeepBut.of_below hb g none) (.inl rfl)); have n2_ := Aside0.mk (below_step (q1dd_ HI0.out) hb); have n3_ := Aside0.mk (hbox); have n4_ := Aside0.mk ((by rw [hg]; exact (keep_size (w := w) (g := g) (row := none) q1d6_) : w.heap.size ≤ gb426)); have n5_ := Aside0.mk ((Nat.le_trans HW0.out (by rw [hg]; exact (keep_size (w := w) (g := g) (row := none) q1d6_) : w.heap.size ≤ gb426) : w0.heap.size ≤ gb426)); have n6_ := Aside0.mk ((by rw [hg]; exact Nat.ne_of_lt (IsS41.lt (show IsS41 w0 _ g s0_0 s0_1 s0_2 from q940_ HI0.out)) : g ≠ gb426)); have n7_ := Aside0.mk ((by rw [hg]; exact Nat.ne_of_gt (IsS41.lt (show IsS41 w0 _ g s0_0 s0_1 s0_2 from q940_ HI0.out)) : gb426 ≠ g)); replace HI0 := n0_; replace HK := n1_; replace HB := n2_; have BK426 := n3_; have GW426 := n4_; have GE426 := n5_; have NB0_426 := n6_; have NB426_0 := n7_; clear n0_ n1_ n2_ n3_ n4_ n5_ n6_ n7_; clear hb hbox hg) | ((with_reducible refine gate_callee (f := 35) rfl ?_); refine gl_ 6 Tryz.func35 #[.pointer (some ⟨g, 0, none⟩), .int .i64 8] ?_; (with_reducible refine (spec_l1Cur_pick.calls g s0_0 s0_1 s0_2 8 t427 t428 t429 w0 _ ?s1 ?s2 A2.out).mono ?_); (case s1 => exact q8fe_ HI0.out); (case s2 => exact q75d_ HI0.out); rintro e w35 ⟨rfl, hi, hb, hk⟩; refine ⟨_, rfl, ?_⟩; replace BK426 := Aside0.mk (KeepBut.blk hk (g' := gb426) (o := .cells #[.slice none 0 0, .slice none 0 0] 27 (0, 0)) q270_ NB426_0.out (by simp)); replace HK := Aside0.mk (KeepBut.trans qde4_ hk (.inl rfl)); replace HB := Aside0.mk (hb); replace HI0 := Aside0.mk (hi); clear hb hk hi) | ((with_reducible refine gate_callee (f := 47) rfl ?_); refine gl_ 7 Tryz.func47 #[.pointer (some ⟨g, 0, none⟩), .int .i64 t427] ?_; (with_reducible refine (spec_l1Cur_point.calls k g s0_0 t428 t429 t427 t430 t433 t434 w0 _ ?s1 ?s2 A3.out).mono ?_); (case s1 => exact q8fe_ HI0.out); (case s2 => exact q75d_ HI0.out); rintro e w36 ⟨v431, rfl, ho0, hi, hb, hk⟩; refine ⟨_, rfl, ?_⟩; replace BK426 := Aside0.mk (KeepBut.blk hk (g' := gb426) (o := .cells #[.slice none 0 0, .slice none 0 0] 27 (0, 0)) q270_ NB426_0.out (by simp)); have HO432 := Aside0.mk (Kd.R_lower ho0 (keep_size (w := w) (g := g) (row := none) qde4_)); replace HK := Aside0.mk (KeepBut.trans qde4_ hk (.inl rfl)); replace HB := Aside0.mk (hb); replace HI0 := Aside0.mk (hi); clear hb hk hi ho0; obtain ⟨Ao37, co37, eo37⟩ := Kd.R_slice HO432.out; subst eo37) | ((with_reducible refine gate_callee (f := 46) rfl ?_); refine gl_ 8 Tryz.func46 #[.slice Ao37 t430.length co37] ?_; (with_reducible refine (spec_reOf.calls k _ _ t430 t435 t438 _ ?s1 ?s2 A4.out).mono ?_); (case s1 => exact q5a8_ HO432.out); (case s2 => exact (Kd.R_reads' HO432.out).2.1); rintro e w38 ⟨v436, v439, rfl, ho0, ho1, hb⟩; refine ⟨_, rfl, ?_⟩; have n0_ := Aside0.mk (Kd.R_mono (Kd.R_told (Kd.R_told (Kd.R_old (q9d5_ HO432.out) hb) (Kd.R_base ho0)) (Kd.R_base ho1)) (fun _ h_ => h_.1)); have n1_ := Aside0.mk (Kd.R_lower (Kd.R_new' ho0 (Kd.R_lt (q9d5_ HO432.out))) (keep_size (w := w) (g := g) (row := none) qde4_)); have n2_ := Aside0.mk (Kd.R_lower (Kd.R_new' ho1 (Kd.R_lt (q9d5_ HO432.out))) (keep_size (w := w) (g := g) (row := none) qde4_)); have n3_ := Aside0.mk (IsS41.below (q8fe_ HI0.out) hb); have n4_ := Aside0.mk (blk_below (g := gb426) (o := .cells #[.slice none 0 0, .slice none 0 0] 27 (0, 0)) q270_ hb); have n5_ := Aside0.mk (KeepBut.trans qde4_ (KeepBut.of_below hb g none) (.inl rfl)); have n6_ := Aside0.mk (below_step (q75d_ HI0.out) hb); replace HO432 := n0_; have HO437 := n1_; have HO440 := n2_; replace HI0 := n3_; replace BK426 := n4_; replace HK := n5_; replace HB := n6_; clear n0_ n1_ n2_ n3_ n4_ n5_ n6_; clear hb ho0 ho1) | ((with_reducible refine gate_dst (N := 3) rfl ?_); refine box_event ?hg (N := 3) ?hd (cs := #[.slice none 0 0, .slice none 0 0]) (t := 27) ?hr ?_; (case hd => rfl); (case hg => rfl); (case hr => exact qfba_); intro gb441 hg w39 hbox hb; have n0_ := Aside0.mk (Kd.R_below (q9d5_ HO432.out) hb); have n1_ := Aside0.mk (Kd.R_below (q9d5_ HO437.out) hb); have n2_ := Aside0.mk (Kd.R_below (q9d5_ HO440.out) hb); have n3_ := Aside0.mk (IsS41.below (q8fe_ HI0.out) hb); have n4_ := Aside0.mk (blk_below (g := gb426) (o := .cells #[.slice none 0 0, .slice none 0 0] 27 (0, 0)) q270_ hb); have n5_ := Aside0.mk (KeepBut.trans qde4_ (KeepBut.of_below hb g none) (.inl rfl)); have n6_ := Aside0.mk (below_step (q75d_ HI0.out) hb); have n7_ := Aside0.mk (hbox); have n8_ := Aside0.mk ((by rw [hg]; exact (keep_size (w := w) (g := g) (row := none) qde4_) : w.heap.size ≤ gb441)); have n9_ := Aside0.mk ((Nat.le_trans HW0.out (by rw [hg]; exact (keep_size (w := w) (g := g) (row := none) qde4_) : w.heap.size ≤ gb441) : w0.heap.size ≤ gb441)); have n10_ := Aside0.mk ((by rw [hg]; exact Nat.ne_of_lt (blk_lt (g := gb426) (o := .cells #[.slice none 0 0, .slice none 0 0] 27 (0, 0)) q270_) : gb426 ≠ gb441)); have n11_ := Aside0.mk ((by rw [hg]; exact Nat.ne_of_gt (blk_lt (g := gb426) (o := .cells #[.slice none 0 0, .slice none 0 0] 27 (0, 0)) q270_) : gb441 ≠ gb426)); have n12_ := Aside0.mk ((by rw [hg]; exact Nat.ne_of_lt (IsS41.lt (show IsS41 w0 _ g s0_0 t433 t434 from q8fe_ HI0.out)) : g ≠ gb441)); have n13_ := Aside0.mk ((by rw [hg]; exact Nat.ne_of_gt (IsS41.lt (show IsS41 w0 _ g s0_0 t433 t434 from q8fe_ HI0.out)) : gb441 ≠ g)); replace HO432 := n0_; replace HO437 := n1_; replace HO440 := n2_; replace HI0 := n3_; replace BK426 := n4_; replace HK := n5_; replace HB := n6_; have BK441 := n7_; have GW441 := n8_; have GE441 := n9_; have NB426_441 := n10_; have NB441_426 := n11_; have NB0_441 := n12_; have NB441_0 := n13_; clear n0_ n1_ n2_ n3_ n4_ n5_ n6_ n7_ n8_ n9_ n10_ n11_ n12_ n13_; clear hb hbox hg; obtain ⟨Ao40, co40, eo40⟩ := Kd.R_slice HO437.out; subst eo40; have hnb41 := NB441_426.out; have hnc41 := NB426_441.out; have hnb42 := NB441_0.out; have hnc42 := NB0_441.out; have hcz43_0 : w39.cell? ⟨gb441, 0, none⟩ = some (.slice none 0 0) := (blk_cell BK441.out 0).trans rfl; have hcz43_1 : w39.cell? ⟨gb441, 1, none⟩ = some (.slice none 0 0) := (blk_cell BK441.out 1).trans rfl; have hfz43_0 := blk_frozen BK441.out 0; have hfz43_1 := blk_frozen BK441.out 1; obtain ⟨Ao44, co44, eo44⟩ := Kd.R_slice HO440.out; subst eo44) | ((with_reducible refine gate_callee (f := 35) rfl ?_); refine gl_ 10 Tryz.func35 #[.pointer (some ⟨g, 0, none⟩), .int .i64 12] ?_; (with_reducible refine (spec_l1Cur_pick.calls g s0_0 t433 t434 12 t442 t443 t444 w0 _ ?s1 ?s2 A5.out).mono ?_); (case s1 => exact q2b5_ HI0.out); (case s2 => exact q268_ HI0.out); rintro e w45 ⟨rfl, hi, hb, hk⟩; refine ⟨_, rfl, ?_⟩; replace BK426 := Aside0.mk (KeepBut.blk hk (g' := gb426) (o := .cells #[.slice none 0 0, .slice none 0 0] 27 (0, 0)) q275_ NB426_0.out (by simp)); replace HO432 := Aside0.mk (Kd.R_mono (Kd.R_keep (IsS41.apart (show IsS41 w0 _ g s0_0 t433 t434 from q2b5_ HI0.out) (by (with_reducible repeat (first | apply Kd.R_alloc | apply Kd.R_drewN | apply Kd.R_drew)); exact (Kd.R_mono (Kd.R_far (p := ⟨gb441, 1, none⟩) (Kd.R_far (p := ⟨gb441, 0, none⟩) (Kd.R_types HO432.out BK441.out (by decide)) (fun _ hk => hk.2) (.slice Ao40 t435.length co40)) (fun _ hk => hk.2) (.slice Ao44 t438.length co44)) (fun _ h_ => h_.1))) (by decide)) hk (fun _ h => h.2)) (fun _ h => h.1)); replace HO437 := Aside0.mk (Kd.R_mono (Kd.R_keep (IsS41.apart (show IsS41 w0 _ g s0_0 t433 t434 from q2b5_ HI0.out) (by (with_reducible repeat (first | apply Kd.R_alloc | apply Kd.R_drewN | apply Kd.R_drew)); exact (Kd.R_mono (Kd.R_far (p := ⟨gb441, 1, none⟩) (Kd.R_far (p := ⟨gb441, 0, none⟩) (Kd.R_types HO437.out BK441.out (by decide)) (fun _ hk => hk.2) (.slice Ao40 t435.length co40)) (fun _ hk => hk.2) (.slice Ao44 t438.length co44)) (fun _ h_ => h_.1))) (by decide)) hk (fun _ h => h.2)) (fun _ h => h.1)); replace HO440 := Aside0.mk (Kd.R_mono (Kd.R_keep (IsS41.apart (show IsS41 w0 _ g s0_0 t433 t434 from q2b5_ HI0.out) (by (with_reducible repeat (first | apply Kd.R_alloc | apply Kd.R_drewN | apply Kd.R_drew)); exact (Kd.R_mono (Kd.R_far (p := ⟨gb441, 1, none⟩) (Kd.R_far (p := ⟨gb441, 0, none⟩) (Kd.R_types HO440.out BK441.out (by decide)) (fun _ hk => hk.2) (.slice Ao40 t435.length co40)) (fun _ hk => hk.2) (.slice Ao44 t438.length co44)) (fun _ h_ => h_.1))) (by decide)) hk (fun _ h => h.2)) (fun _ h => h.1)); replace BK441 := Aside0.mk (KeepBut.blk hk (g' := gb441) (o := .cells #[.slice Ao40 t435.length co40, .slice Ao44 t438.length co44] 27 (0, 0)) (by (with_reducible repeat (first | refine blk_drewN ?_ _ | refine blk_drew ?_ | refine blk_alloc ?_ _)); refine blk_put (cs := #[.slice Ao40 t435.length co40, .slice none 0 0]) ?_ 1 _ rfl; (with_reducible repeat (first | refine blk_drewN ?_ _ | refine blk_drew ?_ | refine blk_alloc ?_ _)); refine blk_put (cs := #[.slice none 0 0, .slice none 0 0]) ?_ 0 _ rfl; (with_reducible repeat (first | refine blk_drewN ?_ _ | refine blk_drew ?_ | refine blk_alloc ?_ _)); exact BK441.out) NB441_0.out (by simp)); replace HK := Aside0.mk (KeepBut.trans q1bc_ hk (.inl rfl)); replace HB := Aside0.mk (hb); replace HI0 := Aside0.mk (hi); clear hb hk hi; have hcz46_0 : w45.cell? ⟨gb441, 0, none⟩ = some (.slice Ao40 t435.length co40) := (blk_cell BK441.out 0).trans rfl; have hcz46_1 : w45.cell? ⟨gb441, 1, none⟩ = some (.slice Ao44 t438.length co44) := (blk_cell BK441.out 1).trans rfl; have hfz46_0 := blk_frozen BK441.out 0; have hfz46_1 := blk_frozen BK441.out 1; have hnb47 := NB426_0.out; have hnc47 := NB0_426.out; have hcz48_0 : w45.cell? ⟨gb426, 0, none⟩ = some (.slice none 0 0) := (blk_cell BK426.out 0).trans rfl; have hcz48_1 : w45.cell? ⟨gb426, 1, none⟩ = some (.slice none 0 0) := (blk_cell BK426.out 1).trans rfl; have hfz48_0 := blk_frozen BK426.out 0; have hfz48_1 := blk_frozen BK426.out 1))
   refine bodyPost_ret (results_cell_row rfl _ _ gb426 27 #[.slice Ao40 t435.length co40, .slice Ao44 t438.length co44] (0, 0) _ rfl (by (with_reducible repeat (first | refine blk_drewN ?_ _ | refine blk_drew ?_ | refine blk_alloc ?_ _)); refine blk_put (cs := #[.slice Ao40 t435.length co40, .slice none 0 0]) ?_ 1 _ rfl; (with_reducible repeat (first | refine blk_drewN ?_ _ | refine blk_drew ?_ | refine blk_alloc ?_ _)); refine blk_put (cs := #[.slice none 0 0, .slice none 0 0]) ?_ 0 _ rfl; (with_reducible repeat (first | refine blk_drewN ?_ _ | refine blk_drew ?_ | refine blk_alloc ?_ _)); exact BK426.out) Tryz.underlying27 rfl (by kernel_rfl)) rfl ?_
   exact ⟨_, _, qce7_, by (with_reducible repeat (first | apply Kd.R_alloc | apply Kd.R_drewN | apply Kd.R_drew)); exact Kd.R_mono (Kd.R_far (p := ⟨gb426, 1, none⟩) (Kd.R_far (p := ⟨gb426, 0, none⟩) (Kd.R_types HO437.out BK426.out (by decide)) (fun _ hk => hk.2) (.slice Ao40 t435.length co40)) (fun _ hk => hk.2) (.slice Ao44 t438.length co44)) (fun _ hk => hk.1.1), by (with_reducible repeat (first | apply Kd.R_alloc | apply Kd.R_drewN | apply Kd.R_drew)); exact Kd.R_mono (Kd.R_far (p := ⟨gb426, 1, none⟩) (Kd.R_far (p := ⟨gb426, 0, none⟩) (Kd.R_types HO440.out BK426.out (by decide)) (fun _ hk => hk.2) (.slice Ao40 t435.length co40)) (fun _ hk => hk.2) (.slice Ao44 t438.length co44)) (fun _ hk => hk.1.1), q2b5_ HI0.out, q268_ HI0.out, q1bc_⟩
 ·
  rw [if_neg c6] at H
  have c6b0 := beq_eq_false_iff_ne.mpr c6
  have c6b1 := bne_iff_ne.mpr c6
  by_cases c49 : t442 = 1
  ·
   rw [if_pos c49] at H
   have c49b0 := beq_iff_eq.mpr c49
   have c49b1 := bne_eq_false_iff_eq.mpr c49
   clear c49
   by_cases c50 : t435.length < 17592186044416
   ·
    rw [if_pos c50] at H
    have LMc50 := Aside0.mk c50
    clear c50
    obtain ⟨y452, hy452⟩ : ∃ y_ : List Int, y_ = (t435 ++ [(t435.length : Int)]) := ⟨_, rfl⟩
    replace H : (some (y452, t438, t443, t444)) = some (r1, r2, r3, r4) := by first | (rw [hy452]; with_reducible exact H) | (have H2_ := (Option.bind_some _ _).symm.trans H; rw [hy452]; with_reducible exact H2_) | (have H2_ := (Option.bind_some _ _).symm.trans H; with_reducible exact H2_) | with_reducible exact H | (rw [hy452]; exact H) | exact H
    have Ny452 := Aside0.mk hy452
    clear hy452
    simp only [Option.some.injEq, Prod.mk.injEq] at H
    obtain ⟨rfl, rfl, rfl, rfl⟩ := H
    go_enter Tryz.func25, Tryz.ntmps25
    go_wp2_with (first | ((with_reducible refine gate_dst (N := 2) rfl ?_); refine box_event ?hg (N := 2) ?hd (cs := #[.slice none 0 0, .slice none 0 0]) (t := 27) ?hr ?_; (case hd => rfl); (case hg => rfl); (case hr => exact qfba_); intro gb426 hg w51 hbox hb; have n0_ := Aside0.mk (IsS41.below (q940_ HI0.out) hb); have n1_ := Aside0.mk (KeepBut.trans q1d6_ (KeepBut.of_below hb g none) (.inl rfl)); have n2_ := Aside0.mk (below_step (q1dd_ HI0.out) hb); have n3_ := Aside0.mk (hbox); have n4_ := Aside0.mk ((by rw [hg]; exact (keep_size (w := w) (g := g) (row := none) q1d6_) : w.heap.size ≤ gb426)); have n5_ := Aside0.mk ((Nat.le_trans HW0.out (by rw [hg]; exact (keep_size (w := w) (g := g) (row := none) q1d6_) : w.heap.size ≤ gb426) : w0.heap.size ≤ gb426)); have n6_ := Aside0.mk ((by rw [hg]; exact Nat.ne_of_lt (IsS41.lt (show IsS41 w0 _ g s0_0 s0_1 s0_2 from q940_ HI0.out)) : g ≠ gb426)); have n7_ := Aside0.mk ((by rw [hg]; exact Nat.ne_of_gt (IsS41.lt (show IsS41 w0 _ g s0_0 s0_1 s0_2 from q940_ HI0.out)) : gb426 ≠ g)); replace HI0 := n0_; replace HK := n1_; replace HB := n2_; have BK426 := n3_; have GW426 := n4_; have GE426 := n5_; have NB0_426 := n6_; have NB426_0 := n7_; clear n0_ n1_ n2_ n3_ n4_ n5_ n6_ n7_; clear hb hbox hg) | ((with_reducible refine gate_callee (f := 35) rfl ?_); refine gl_ 6 Tryz.func35 #[.pointer (some ⟨g, 0, none⟩), .int .i64 8] ?_; (with_reducible refine (spec_l1Cur_pick.calls g s0_0 s0_1 s0_2 8 t427 t428 t429 w0 _ ?s1 ?s2 A2.out).mono ?_); (case s1 => exact q8fe_ HI0.out); (case s2 => exact q75d_ HI0.out); rintro e w52 ⟨rfl, hi, hb, hk⟩; refine ⟨_, rfl, ?_⟩; replace BK426 := Aside0.mk (KeepBut.blk hk (g' := gb426) (o := .cells #[.slice none 0 0, .slice none 0 0] 27 (0, 0)) q270_ NB426_0.out (by simp)); replace HK := Aside0.mk (KeepBut.trans qde4_ hk (.inl rfl)); replace HB := Aside0.mk (hb); replace HI0 := Aside0.mk (hi); clear hb hk hi) | ((with_reducible refine gate_callee (f := 47) rfl ?_); refine gl_ 7 Tryz.func47 #[.pointer (some ⟨g, 0, none⟩), .int .i64 t427] ?_; (with_reducible refine (spec_l1Cur_point.calls k g s0_0 t428 t429 t427 t430 t433 t434 w0 _ ?s1 ?s2 A3.out).mono ?_); (case s1 => exact q8fe_ HI0.out); (case s2 => exact q75d_ HI0.out); rintro e w53 ⟨v431, rfl, ho0, hi, hb, hk⟩; refine ⟨_, rfl, ?_⟩; replace BK426 := Aside0.mk (KeepBut.blk hk (g' := gb426) (o := .cells #[.slice none 0 0, .slice none 0 0] 27 (0, 0)) q270_ NB426_0.out (by simp)); have HO432 := Aside0.mk (Kd.R_lower ho0 (keep_size (w := w) (g := g) (row := none) qde4_)); replace HK := Aside0.mk (KeepBut.trans qde4_ hk (.inl rfl)); replace HB := Aside0.mk (hb); replace HI0 := Aside0.mk (hi); clear hb hk hi ho0; obtain ⟨Ao54, co54, eo54⟩ := Kd.R_slice HO432.out; subst eo54) | ((with_reducible refine gate_callee (f := 46) rfl ?_); refine gl_ 8 Tryz.func46 #[.slice Ao54 t430.length co54] ?_; (with_reducible refine (spec_reOf.calls k _ _ t430 t435 t438 _ ?s1 ?s2 A4.out).mono ?_); (case s1 => exact q5a8_ HO432.out); (case s2 => exact (Kd.R_reads' HO432.out).2.1); rintro e w55 ⟨v436, v439, rfl, ho0, ho1, hb⟩; refine ⟨_, rfl, ?_⟩; have n0_ := Aside0.mk (Kd.R_mono (Kd.R_told (Kd.R_told (Kd.R_old (q9d5_ HO432.out) hb) (Kd.R_base ho0)) (Kd.R_base ho1)) (fun _ h_ => h_.1)); have n1_ := Aside0.mk (Kd.R_lower (Kd.R_new' ho0 (Kd.R_lt (q9d5_ HO432.out))) (keep_size (w := w) (g := g) (row := none) qde4_)); have n2_ := Aside0.mk (Kd.R_lower (Kd.R_new' ho1 (Kd.R_lt (q9d5_ HO432.out))) (keep_size (w := w) (g := g) (row := none) qde4_)); have n3_ := Aside0.mk (IsS41.below (q8fe_ HI0.out) hb); have n4_ := Aside0.mk (blk_below (g := gb426) (o := .cells #[.slice none 0 0, .slice none 0 0] 27 (0, 0)) q270_ hb); have n5_ := Aside0.mk (KeepBut.trans qde4_ (KeepBut.of_below hb g none) (.inl rfl)); have n6_ := Aside0.mk (below_step (q75d_ HI0.out) hb); replace HO432 := n0_; have HO437 := n1_; have HO440 := n2_; replace HI0 := n3_; replace BK426 := n4_; replace HK := n5_; replace HB := n6_; clear n0_ n1_ n2_ n3_ n4_ n5_ n6_; clear hb ho0 ho1) | ((with_reducible refine gate_dst (N := 3) rfl ?_); refine box_event ?hg (N := 3) ?hd (cs := #[.slice none 0 0, .slice none 0 0]) (t := 27) ?hr ?_; (case hd => rfl); (case hg => rfl); (case hr => exact qfba_); intro gb441 hg w56 hbox hb; have n0_ := Aside0.mk (Kd.R_below (q9d5_ HO432.out) hb); have n1_ := Aside0.mk (Kd.R_below (q9d5_ HO437.out) hb); have n2_ := Aside0.mk (Kd.R_below (q9d5_ HO440.out) hb); have n3_ := Aside0.mk (IsS41.below (q8fe_ HI0.out) hb); have n4_ := Aside0.mk (blk_below (g := gb426) (o := .cells #[.slice none 0 0, .slice none 0 0] 27 (0, 0)) q270_ hb); have n5_ := Aside0.mk (KeepBut.trans qde4_ (KeepBut.of_below hb g none) (.inl rfl)); have n6_ := Aside0.mk (below_step (q75d_ HI0.out) hb); have n7_ := Aside0.mk (hbox); have n8_ := Aside0.mk ((by rw [hg]; exact (keep_size (w := w) (g := g) (row := none) qde4_) : w.heap.size ≤ gb441)); have n9_ := Aside0.mk ((Nat.le_trans HW0.out (by rw [hg]; exact (keep_size (w := w) (g := g) (row := none) qde4_) : w.heap.size ≤ gb441) : w0.heap.size ≤ gb441)); have n10_ := Aside0.mk ((by rw [hg]; exact Nat.ne_of_lt (blk_lt (g := gb426) (o := .cells #[.slice none 0 0, .slice none 0 0] 27 (0, 0)) q270_) : gb426 ≠ gb441)); have n11_ := Aside0.mk ((by rw [hg]; exact Nat.ne_of_gt (blk_lt (g := gb426) (o := .cells #[.slice none 0 0, .slice none 0 0] 27 (0, 0)) q270_) : gb441 ≠ gb426)); have n12_ := Aside0.mk ((by rw [hg]; exact Nat.ne_of_lt (IsS41.lt (show IsS41 w0 _ g s0_0 t433 t434 from q8fe_ HI0.out)) : g ≠ gb441)); have n13_ := Aside0.mk ((by rw [hg]; exact Nat.ne_of_gt (IsS41.lt (show IsS41 w0 _ g s0_0 t433 t434 from q8fe_ HI0.out)) : gb441 ≠ g)); replace HO432 := n0_; replace HO437 := n1_; replace HO440 := n2_; replace HI0 := n3_; replace BK426 := n4_; replace HK := n5_; replace HB := n6_; have BK441 := n7_; have GW441 := n8_; have GE441 := n9_; have NB426_441 := n10_; have NB441_426 := n11_; have NB0_441 := n12_; have NB441_0 := n13_; clear n0_ n1_ n2_ n3_ n4_ n5_ n6_ n7_ n8_ n9_ n10_ n11_ n12_ n13_; clear hb hbox hg; obtain ⟨Ao57, co57, eo57⟩ := Kd.R_slice HO437.out; subst eo57; have hnb58 := NB441_426.out; have hnc58 := NB426_441.out; have hnb59 := NB441_0.out; have hnc59 := NB0_441.out; have hcz60_0 : w56.cell? ⟨gb441, 0, none⟩ = some (.slice none 0 0) := (blk_cell BK441.out 0).trans rfl; have hcz60_1 : w56.cell? ⟨gb441, 1, none⟩ = some (.slice none 0 0) := (blk_cell BK441.out 1).trans rfl; have hfz60_0 := blk_frozen BK441.out 0; have hfz60_1 := blk_frozen BK441.out 1; obtain ⟨Ao61, co61, eo61⟩ := Kd.R_slice HO440.out; subst eo61) | ((with_reducible refine gate_callee (f := 35) rfl ?_); refine gl_ 10 Tryz.func35 #[.pointer (some ⟨g, 0, none⟩), .int .i64 12] ?_; (with_reducible refine (spec_l1Cur_pick.calls g s0_0 t433 t434 12 t442 t443 t444 w0 _ ?s1 ?s2 A5.out).mono ?_); (case s1 => exact q2b5_ HI0.out); (case s2 => exact q268_ HI0.out); rintro e w62 ⟨rfl, hi, hb, hk⟩; refine ⟨_, rfl, ?_⟩; replace BK426 := Aside0.mk (KeepBut.blk hk (g' := gb426) (o := .cells #[.slice none 0 0, .slice none 0 0] 27 (0, 0)) q275_ NB426_0.out (by simp)); replace HO432 := Aside0.mk (Kd.R_mono (Kd.R_keep (IsS41.apart (show IsS41 w0 _ g s0_0 t433 t434 from q2b5_ HI0.out) (by (with_reducible repeat (first | apply Kd.R_alloc | apply Kd.R_drewN | apply Kd.R_drew)); exact (Kd.R_mono (Kd.R_far (p := ⟨gb441, 1, none⟩) (Kd.R_far (p := ⟨gb441, 0, none⟩) (Kd.R_types HO432.out BK441.out (by decide)) (fun _ hk => hk.2) (.slice Ao57 t435.length co57)) (fun _ hk => hk.2) (.slice Ao61 t438.length co61)) (fun _ h_ => h_.1))) (by decide)) hk (fun _ h => h.2)) (fun _ h => h.1)); replace HO437 := Aside0.mk (Kd.R_mono (Kd.R_keep (IsS41.apart (show IsS41 w0 _ g s0_0 t433 t434 from q2b5_ HI0.out) (by (with_reducible repeat (first | apply Kd.R_alloc | apply Kd.R_drewN | apply Kd.R_drew)); exact (Kd.R_mono (Kd.R_far (p := ⟨gb441, 1, none⟩) (Kd.R_far (p := ⟨gb441, 0, none⟩) (Kd.R_types HO437.out BK441.out (by decide)) (fun _ hk => hk.2) (.slice Ao57 t435.length co57)) (fun _ hk => hk.2) (.slice Ao61 t438.length co61)) (fun _ h_ => h_.1))) (by decide)) hk (fun _ h => h.2)) (fun _ h => h.1)); replace HO440 := Aside0.mk (Kd.R_mono (Kd.R_keep (IsS41.apart (show IsS41 w0 _ g s0_0 t433 t434 from q2b5_ HI0.out) (by (with_reducible repeat (first | apply Kd.R_alloc | apply Kd.R_drewN | apply Kd.R_drew)); exact (Kd.R_mono (Kd.R_far (p := ⟨gb441, 1, none⟩) (Kd.R_far (p := ⟨gb441, 0, none⟩) (Kd.R_types HO440.out BK441.out (by decide)) (fun _ hk => hk.2) (.slice Ao57 t435.length co57)) (fun _ hk => hk.2) (.slice Ao61 t438.length co61)) (fun _ h_ => h_.1))) (by decide)) hk (fun _ h => h.2)) (fun _ h => h.1)); replace BK441 := Aside0.mk (KeepBut.blk hk (g' := gb441) (o := .cells #[.slice Ao57 t435.length co57, .slice Ao61 t438.length co61] 27 (0, 0)) (by (with_reducible repeat (first | refine blk_drewN ?_ _ | refine blk_drew ?_ | refine blk_alloc ?_ _)); refine blk_put (cs := #[.slice Ao57 t435.length co57, .slice none 0 0]) ?_ 1 _ rfl; (with_reducible repeat (first | refine blk_drewN ?_ _ | refine blk_drew ?_ | refine blk_alloc ?_ _)); refine blk_put (cs := #[.slice none 0 0, .slice none 0 0]) ?_ 0 _ rfl; (with_reducible repeat (first | refine blk_drewN ?_ _ | refine blk_drew ?_ | refine blk_alloc ?_ _)); exact BK441.out) NB441_0.out (by simp)); replace HK := Aside0.mk (KeepBut.trans q1bc_ hk (.inl rfl)); replace HB := Aside0.mk (hb); replace HI0 := Aside0.mk (hi); clear hb hk hi; have hcz63_0 : w62.cell? ⟨gb441, 0, none⟩ = some (.slice Ao57 t435.length co57) := (blk_cell BK441.out 0).trans rfl; have hcz63_1 : w62.cell? ⟨gb441, 1, none⟩ = some (.slice Ao61 t438.length co61) := (blk_cell BK441.out 1).trans rfl; have hfz63_0 := blk_frozen BK441.out 0; have hfz63_1 := blk_frozen BK441.out 1) | ((with_reducible refine gate_builtin (b := .append) (xs := #[.tmp 31, .tmp 35]) rfl ?_); at_builtin; refine Kd.R_append (Kd.int .i64) w.heap.size rfl (.tmp 31) (.tmp 35) 24 3 (.int .i64 0) 8 rfl Tryz.underlying24 info3 rfl (by decide) (by omega) (.slice Ao57 t435.length co57) t435 (t435.length : Int) [.int .i64 (t435.length : Int)] (fun k_ => some k_ ≠ (.slice Ao54 t430.length co54 : Value).ownBlock ∧ some k_ ≠ (.slice Ao61 t438.length co61 : Value).ownBlock) (fun _ => False) rfl rfl ?aP (fun _ hk => hk.elim) ?aF ?aO (Below.refl _ _) ?aS ?aL ?_; (case aP => exact rfl); (case aF => exact (fun k_ hk => ⟨Kd.fresh' (Kd.R_lt (q9d5_ HO432.out)) k_ hk, Kd.fresh' (Kd.R_lt (q9d5_ HO440.out)) k_ hk⟩)); (case aO => exact (q810_ HO437.out)); (case aS => exact (keep_size (w := w) (g := g) (row := none) q1bc_)); (case aL => have := LMc50.out; omega); intro v453 w64 ho hb hg hat; rw [← Ny452.out] at ho; have n0_ := Aside0.mk (IsS41.grown (q2b5_ HI0.out) hg (IsS41.own_ne HI0.out HO437.out (by decide))); have n1_ := Aside0.mk (blk_grown (g := gb426) (o := .cells #[.slice none 0 0, .slice none 0 0] 27 (0, 0)) q270_ hg (Kd.R_ne HO437.out BK426.out (by decide))); have n2_ := Aside0.mk (Kd.R_after (ok := (fun k_ => some k_ ≠ (.slice Ao61 t438.length co61 : Value).ownBlock)) (by (with_reducible repeat (first | apply Kd.R_alloc | apply Kd.R_drewN | apply Kd.R_drew)); exact Kd.R_mono HO432.out (fun _ hk => ⟨hk.2, hk.1.2⟩)) hg hat); have n3_ := Aside0.mk (Kd.R_after (ok := (fun k_ => some k_ ≠ (.slice Ao54 t430.length co54 : Value).ownBlock)) (q810_ HO440.out) hg hat); have n4_ := Aside0.mk (blk_grown (g := gb441) (o := .cells #[.slice Ao57 t435.length co57, .slice Ao61 t438.length co61] 27 (0, 0)) qb9a_ hg (Kd.R_ne HO437.out BK441.out (by decide))); have n5_ := Aside0.mk (below_weaken (q268_ HI0.out) HL.out hb); have n6_ := Aside0.mk (KeepBut.trans q1bc_ (KeepBut.of_grown hg g) (Kd.R_base2 HO437.out)); have n7_ := Aside0.mk (ho); replace HI0 := n0_; replace BK426 := n1_; replace HO432 := n2_; replace HO440 := n3_; replace BK441 := n4_; replace HB := n5_; replace HK := n6_; have HO454 := n7_; clear n0_ n1_ n2_ n3_ n4_ n5_ n6_ n7_; clear ho hb hg hat; obtain ⟨Ao65, co65, eo65⟩ := Kd.R_slice HO454.out; subst eo65; have hcz66_0 : w64.cell? ⟨gb441, 0, none⟩ = some (.slice Ao57 t435.length co57) := (blk_cell BK441.out 0).trans rfl; have hcz66_1 : w64.cell? ⟨gb441, 1, none⟩ = some (.slice Ao61 t438.length co61) := (blk_cell BK441.out 1).trans rfl; have hfz66_0 := blk_frozen BK441.out 0; have hfz66_1 := blk_frozen BK441.out 1; have hnb67 := NB426_0.out; have hnc67 := NB0_426.out; have hcz68_0 : w64.cell? ⟨gb426, 0, none⟩ = some (.slice none 0 0) := (blk_cell BK426.out 0).trans rfl; have hcz68_1 : w64.cell? ⟨gb426, 1, none⟩ = some (.slice none 0 0) := (blk_cell BK426.out 1).trans rfl; have hfz68_0 := blk_frozen BK426.out 0; have hfz68_1 := blk_frozen BK426.out 1))
    refine bodyPost_ret (results_cell_row rfl _ _ gb426 27 #[.slice Ao65 y452.length co65, .slice Ao61 t438.length co61] (0, 0) _ rfl (by (with_reducible repeat (first | refine blk_drewN ?_ _ | refine blk_drew ?_ | refine blk_alloc ?_ _)); refine blk_put (cs := #[.slice Ao65 y452.length co65, .slice none 0 0]) ?_ 1 _ rfl; (with_reducible repeat (first | refine blk_drewN ?_ _ | refine blk_drew ?_ | refine blk_alloc ?_ _)); refine blk_put (cs := #[.slice none 0 0, .slice none 0 0]) ?_ 0 _ rfl; (with_reducible repeat (first | refine blk_drewN ?_ _ | refine blk_drew ?_ | refine blk_alloc ?_ _)); refine blk_far ?_ NB426_441.out _; (with_reducible repeat (first | refine blk_drewN ?_ _ | refine blk_drew ?_ | refine blk_alloc ?_ _)); exact BK426.out) Tryz.underlying27 rfl (by kernel_rfl)) rfl ?_
    exact ⟨_, _, qce7_, by (with_reducible repeat (first | apply Kd.R_alloc | apply Kd.R_drewN | apply Kd.R_drew)); exact Kd.R_mono (Kd.R_far (p := ⟨gb426, 1, none⟩) (Kd.R_far (p := ⟨gb426, 0, none⟩) (Kd.R_far (p := ⟨gb441, 0, none⟩) (Kd.R_types (Kd.R_types HO454.out BK441.out (by decide)) BK426.out (by decide)) (fun _ hk => hk.1.2) (.slice Ao65 y452.length co65)) (fun _ hk => hk.2) (.slice Ao65 y452.length co65)) (fun _ hk => hk.2) (.slice Ao61 t438.length co61)) (fun _ hk => hk.1.1.2), by (with_reducible repeat (first | apply Kd.R_alloc | apply Kd.R_drewN | apply Kd.R_drew)); exact Kd.R_mono (Kd.R_far (p := ⟨gb426, 1, none⟩) (Kd.R_far (p := ⟨gb426, 0, none⟩) (Kd.R_far (p := ⟨gb441, 0, none⟩) (Kd.R_types (Kd.R_types HO440.out BK441.out (by decide)) BK426.out (by decide)) (fun _ hk => hk.1.2) (.slice Ao65 y452.length co65)) (fun _ hk => hk.2) (.slice Ao65 y452.length co65)) (fun _ hk => hk.2) (.slice Ao61 t438.length co61)) (fun _ hk => hk.1.1.2), q2b5_ HI0.out, q268_ HI0.out, q1bc_⟩
   ·
    rw [if_neg c50] at H
    exact absurd H (by simp)
  ·
   rw [if_neg c49] at H
   have c49b0 := beq_eq_false_iff_ne.mpr c49
   have c49b1 := bne_iff_ne.mpr c49
   simp only [Option.some.injEq, Prod.mk.injEq] at H
   obtain ⟨rfl, rfl, rfl, rfl⟩ := H
   go_enter Tryz.func25, Tryz.ntmps25
   go_wp2_with (first | ((with_reducible refine gate_dst (N := 2) rfl ?_); refine box_event ?hg (N := 2) ?hd (cs := #[.slice none 0 0, .slice none 0 0]) (t := 27) ?hr ?_; (case hd => rfl); (case hg => rfl); (case hr => exact qfba_); intro gb426 hg w69 hbox hb; have n0_ := Aside0.mk (IsS41.below (q940_ HI0.out) hb); have n1_ := Aside0.mk (KeepBut.trans q1d6_ (KeepBut.of_below hb g none) (.inl rfl)); have n2_ := Aside0.mk (below_step (q1dd_ HI0.out) hb); have n3_ := Aside0.mk (hbox); have n4_ := Aside0.mk ((by rw [hg]; exact (keep_size (w := w) (g := g) (row := none) q1d6_) : w.heap.size ≤ gb426)); have n5_ := Aside0.mk ((Nat.le_trans HW0.out (by rw [hg]; exact (keep_size (w := w) (g := g) (row := none) q1d6_) : w.heap.size ≤ gb426) : w0.heap.size ≤ gb426)); have n6_ := Aside0.mk ((by rw [hg]; exact Nat.ne_of_lt (IsS41.lt (show IsS41 w0 _ g s0_0 s0_1 s0_2 from q940_ HI0.out)) : g ≠ gb426)); have n7_ := Aside0.mk ((by rw [hg]; exact Nat.ne_of_gt (IsS41.lt (show IsS41 w0 _ g s0_0 s0_1 s0_2 from q940_ HI0.out)) : gb426 ≠ g)); replace HI0 := n0_; replace HK := n1_; replace HB := n2_; have BK426 := n3_; have GW426 := n4_; have GE426 := n5_; have NB0_426 := n6_; have NB426_0 := n7_; clear n0_ n1_ n2_ n3_ n4_ n5_ n6_ n7_; clear hb hbox hg) | ((with_reducible refine gate_callee (f := 35) rfl ?_); refine gl_ 6 Tryz.func35 #[.pointer (some ⟨g, 0, none⟩), .int .i64 8] ?_; (with_reducible refine (spec_l1Cur_pick.calls g s0_0 s0_1 s0_2 8 t427 t428 t429 w0 _ ?s1 ?s2 A2.out).mono ?_); (case s1 => exact q8fe_ HI0.out); (case s2 => exact q75d_ HI0.out); rintro e w70 ⟨rfl, hi, hb, hk⟩; refine ⟨_, rfl, ?_⟩; replace BK426 := Aside0.mk (KeepBut.blk hk (g' := gb426) (o := .cells #[.slice none 0 0, .slice none 0 0] 27 (0, 0)) q270_ NB426_0.out (by simp)); replace HK := Aside0.mk (KeepBut.trans qde4_ hk (.inl rfl)); replace HB := Aside0.mk (hb); replace HI0 := Aside0.mk (hi); clear hb hk hi) | ((with_reducible refine gate_callee (f := 47) rfl ?_); refine gl_ 7 Tryz.func47 #[.pointer (some ⟨g, 0, none⟩), .int .i64 t427] ?_; (with_reducible refine (spec_l1Cur_point.calls k g s0_0 t428 t429 t427 t430 t433 t434 w0 _ ?s1 ?s2 A3.out).mono ?_); (case s1 => exact q8fe_ HI0.out); (case s2 => exact q75d_ HI0.out); rintro e w71 ⟨v431, rfl, ho0, hi, hb, hk⟩; refine ⟨_, rfl, ?_⟩; replace BK426 := Aside0.mk (KeepBut.blk hk (g' := gb426) (o := .cells #[.slice none 0 0, .slice none 0 0] 27 (0, 0)) q270_ NB426_0.out (by simp)); have HO432 := Aside0.mk (Kd.R_lower ho0 (keep_size (w := w) (g := g) (row := none) qde4_)); replace HK := Aside0.mk (KeepBut.trans qde4_ hk (.inl rfl)); replace HB := Aside0.mk (hb); replace HI0 := Aside0.mk (hi); clear hb hk hi ho0; obtain ⟨Ao72, co72, eo72⟩ := Kd.R_slice HO432.out; subst eo72) | ((with_reducible refine gate_callee (f := 46) rfl ?_); refine gl_ 8 Tryz.func46 #[.slice Ao72 t430.length co72] ?_; (with_reducible refine (spec_reOf.calls k _ _ t430 t435 t438 _ ?s1 ?s2 A4.out).mono ?_); (case s1 => exact q5a8_ HO432.out); (case s2 => exact (Kd.R_reads' HO432.out).2.1); rintro e w73 ⟨v436, v439, rfl, ho0, ho1, hb⟩; refine ⟨_, rfl, ?_⟩; have n0_ := Aside0.mk (Kd.R_mono (Kd.R_told (Kd.R_told (Kd.R_old (q9d5_ HO432.out) hb) (Kd.R_base ho0)) (Kd.R_base ho1)) (fun _ h_ => h_.1)); have n1_ := Aside0.mk (Kd.R_lower (Kd.R_new' ho0 (Kd.R_lt (q9d5_ HO432.out))) (keep_size (w := w) (g := g) (row := none) qde4_)); have n2_ := Aside0.mk (Kd.R_lower (Kd.R_new' ho1 (Kd.R_lt (q9d5_ HO432.out))) (keep_size (w := w) (g := g) (row := none) qde4_)); have n3_ := Aside0.mk (IsS41.below (q8fe_ HI0.out) hb); have n4_ := Aside0.mk (blk_below (g := gb426) (o := .cells #[.slice none 0 0, .slice none 0 0] 27 (0, 0)) q270_ hb); have n5_ := Aside0.mk (KeepBut.trans qde4_ (KeepBut.of_below hb g none) (.inl rfl)); have n6_ := Aside0.mk (below_step (q75d_ HI0.out) hb); replace HO432 := n0_; have HO437 := n1_; have HO440 := n2_; replace HI0 := n3_; replace BK426 := n4_; replace HK := n5_; replace HB := n6_; clear n0_ n1_ n2_ n3_ n4_ n5_ n6_; clear hb ho0 ho1) | ((with_reducible refine gate_dst (N := 3) rfl ?_); refine box_event ?hg (N := 3) ?hd (cs := #[.slice none 0 0, .slice none 0 0]) (t := 27) ?hr ?_; (case hd => rfl); (case hg => rfl); (case hr => exact qfba_); intro gb441 hg w74 hbox hb; have n0_ := Aside0.mk (Kd.R_below (q9d5_ HO432.out) hb); have n1_ := Aside0.mk (Kd.R_below (q9d5_ HO437.out) hb); have n2_ := Aside0.mk (Kd.R_below (q9d5_ HO440.out) hb); have n3_ := Aside0.mk (IsS41.below (q8fe_ HI0.out) hb); have n4_ := Aside0.mk (blk_below (g := gb426) (o := .cells #[.slice none 0 0, .slice none 0 0] 27 (0, 0)) q270_ hb); have n5_ := Aside0.mk (KeepBut.trans qde4_ (KeepBut.of_below hb g none) (.inl rfl)); have n6_ := Aside0.mk (below_step (q75d_ HI0.out) hb); have n7_ := Aside0.mk (hbox); have n8_ := Aside0.mk ((by rw [hg]; exact (keep_size (w := w) (g := g) (row := none) qde4_) : w.heap.size ≤ gb441)); have n9_ := Aside0.mk ((Nat.le_trans HW0.out (by rw [hg]; exact (keep_size (w := w) (g := g) (row := none) qde4_) : w.heap.size ≤ gb441) : w0.heap.size ≤ gb441)); have n10_ := Aside0.mk ((by rw [hg]; exact Nat.ne_of_lt (blk_lt (g := gb426) (o := .cells #[.slice none 0 0, .slice none 0 0] 27 (0, 0)) q270_) : gb426 ≠ gb441)); have n11_ := Aside0.mk ((by rw [hg]; exact Nat.ne_of_gt (blk_lt (g := gb426) (o := .cells #[.slice none 0 0, .slice none 0 0] 27 (0, 0)) q270_) : gb441 ≠ gb426)); have n12_ := Aside0.mk ((by rw [hg]; exact Nat.ne_of_lt (IsS41.lt (show IsS41 w0 _ g s0_0 t433 t434 from q8fe_ HI0.out)) : g ≠ gb441)); have n13_ := Aside0.mk ((by rw [hg]; exact Nat.ne_of_gt (IsS41.lt (show IsS41 w0 _ g s0_0 t433 t434 from q8fe_ HI0.out)) : gb441 ≠ g)); replace HO432 := n0_; replace HO437 := n1_; replace HO440 := n2_; replace HI0 := n3_; replace BK426 := n4_; replace HK := n5_; replace HB := n6_; have BK441 := n7_; have GW441 := n8_; have GE441 := n9_; have NB426_441 := n10_; have NB441_426 := n11_; have NB0_441 := n12_; have NB441_0 := n13_; clear n0_ n1_ n2_ n3_ n4_ n5_ n6_ n7_ n8_ n9_ n10_ n11_ n12_ n13_; clear hb hbox hg; obtain ⟨Ao75, co75, eo75⟩ := Kd.R_slice HO437.out; subst eo75; have hnb76 := NB441_426.out; have hnc76 := NB426_441.out; have hnb77 := NB441_0.out; have hnc77 := NB0_441.out; have hcz78_0 : w74.cell? ⟨gb441, 0, none⟩ = some (.slice none 0 0) := (blk_cell BK441.out 0).trans rfl; have hcz78_1 : w74.cell? ⟨gb441, 1, none⟩ = some (.slice none 0 0) := (blk_cell BK441.out 1).trans rfl; have hfz78_0 := blk_frozen BK441.out 0; have hfz78_1 := blk_frozen BK441.out 1; obtain ⟨Ao79, co79, eo79⟩ := Kd.R_slice HO440.out; subst eo79) | ((with_reducible refine gate_callee (f := 35) rfl ?_); refine gl_ 10 Tryz.func35 #[.pointer (some ⟨g, 0, none⟩), .int .i64 12] ?_; (with_reducible refine (spec_l1Cur_pick.calls g s0_0 t433 t434 12 t442 t443 t444 w0 _ ?s1 ?s2 A5.out).mono ?_); (case s1 => exact q2b5_ HI0.out); (case s2 => exact q268_ HI0.out); rintro e w80 ⟨rfl, hi, hb, hk⟩; refine ⟨_, rfl, ?_⟩; replace BK426 := Aside0.mk (KeepBut.blk hk (g' := gb426) (o := .cells #[.slice none 0 0, .slice none 0 0] 27 (0, 0)) q275_ NB426_0.out (by simp)); replace HO432 := Aside0.mk (Kd.R_mono (Kd.R_keep (IsS41.apart (show IsS41 w0 _ g s0_0 t433 t434 from q2b5_ HI0.out) (by (with_reducible repeat (first | apply Kd.R_alloc | apply Kd.R_drewN | apply Kd.R_drew)); exact (Kd.R_mono (Kd.R_far (p := ⟨gb441, 1, none⟩) (Kd.R_far (p := ⟨gb441, 0, none⟩) (Kd.R_types HO432.out BK441.out (by decide)) (fun _ hk => hk.2) (.slice Ao75 t435.length co75)) (fun _ hk => hk.2) (.slice Ao79 t438.length co79)) (fun _ h_ => h_.1))) (by decide)) hk (fun _ h => h.2)) (fun _ h => h.1)); replace HO437 := Aside0.mk (Kd.R_mono (Kd.R_keep (IsS41.apart (show IsS41 w0 _ g s0_0 t433 t434 from q2b5_ HI0.out) (by (with_reducible repeat (first | apply Kd.R_alloc | apply Kd.R_drewN | apply Kd.R_drew)); exact (Kd.R_mono (Kd.R_far (p := ⟨gb441, 1, none⟩) (Kd.R_far (p := ⟨gb441, 0, none⟩) (Kd.R_types HO437.out BK441.out (by decide)) (fun _ hk => hk.2) (.slice Ao75 t435.length co75)) (fun _ hk => hk.2) (.slice Ao79 t438.length co79)) (fun _ h_ => h_.1))) (by decide)) hk (fun _ h => h.2)) (fun _ h => h.1)); replace HO440 := Aside0.mk (Kd.R_mono (Kd.R_keep (IsS41.apart (show IsS41 w0 _ g s0_0 t433 t434 from q2b5_ HI0.out) (by (with_reducible repeat (first | apply Kd.R_alloc | apply Kd.R_drewN | apply Kd.R_drew)); exact (Kd.R_mono (Kd.R_far (p := ⟨gb441, 1, none⟩) (Kd.R_far (p := ⟨gb441, 0, none⟩) (Kd.R_types HO440.out BK441.out (by decide)) (fun _ hk => hk.2) (.slice Ao75 t435.length co75)) (fun _ hk => hk.2) (.slice Ao79 t438.length co79)) (fun _ h_ => h_.1))) (by decide)) hk (fun _ h => h.2)) (fun _ h => h.1)); replace BK441 := Aside0.mk (KeepBut.blk hk (g' := gb441) (o := .cells #[.slice Ao75 t435.length co75, .slice Ao79 t438.length co79] 27 (0, 0)) (by (with_reducible repeat (first | refine blk_drewN ?_ _ | refine blk_drew ?_ | refine blk_alloc ?_ _)); refine blk_put (cs := #[.slice Ao75 t435.length co75, .slice none 0 0]) ?_ 1 _ rfl; (with_reducible repeat (first | refine blk_drewN ?_ _ | refine blk_drew ?_ | refine blk_alloc ?_ _)); refine blk_put (cs := #[.slice none 0 0, .slice none 0 0]) ?_ 0 _ rfl; (with_reducible repeat (first | refine blk_drewN ?_ _ | refine blk_drew ?_ | refine blk_alloc ?_ _)); exact BK441.out) NB441_0.out (by simp)); replace HK := Aside0.mk (KeepBut.trans q1bc_ hk (.inl rfl)); replace HB := Aside0.mk (hb); replace HI0 := Aside0.mk (hi); clear hb hk hi; have hcz81_0 : w80.cell? ⟨gb441, 0, none⟩ = some (.slice Ao75 t435.length co75) := (blk_cell BK441.out 0).trans rfl; have hcz81_1 : w80.cell? ⟨gb441, 1, none⟩ = some (.slice Ao79 t438.length co79) := (blk_cell BK441.out 1).trans rfl; have hfz81_0 := blk_frozen BK441.out 0; have hfz81_1 := blk_frozen BK441.out 1; have hnb82 := NB426_0.out; have hnc82 := NB0_426.out; have hcz83_0 : w80.cell? ⟨gb426, 0, none⟩ = some (.slice none 0 0) := (blk_cell BK426.out 0).trans rfl; have hcz83_1 : w80.cell? ⟨gb426, 1, none⟩ = some (.slice none 0 0) := (blk_cell BK426.out 1).trans rfl; have hfz83_0 := blk_frozen BK426.out 0; have hfz83_1 := blk_frozen BK426.out 1))
   refine bodyPost_ret (results_cell_row rfl _ _ gb426 27 #[.slice Ao75 t435.length co75, .slice Ao79 t438.length co79] (0, 0) _ rfl (by (with_reducible repeat (first | refine blk_drewN ?_ _ | refine blk_drew ?_ | refine blk_alloc ?_ _)); refine blk_put (cs := #[.slice Ao75 t435.length co75, .slice none 0 0]) ?_ 1 _ rfl; (with_reducible repeat (first | refine blk_drewN ?_ _ | refine blk_drew ?_ | refine blk_alloc ?_ _)); refine blk_put (cs := #[.slice none 0 0, .slice none 0 0]) ?_ 0 _ rfl; (with_reducible repeat (first | refine blk_drewN ?_ _ | refine blk_drew ?_ | refine blk_alloc ?_ _)); exact BK426.out) Tryz.underlying27 rfl (by kernel_rfl)) rfl ?_
   exact ⟨_, _, qce7_, by (with_reducible repeat (first | apply Kd.R_alloc | apply Kd.R_drewN | apply Kd.R_drew)); exact Kd.R_mono (Kd.R_far (p := ⟨gb426, 1, none⟩) (Kd.R_far (p := ⟨gb426, 0, none⟩) (Kd.R_types HO437.out BK426.out (by decide)) (fun _ hk => hk.2) (.slice Ao75 t435.length co75)) (fun _ hk => hk.2) (.slice Ao79 t438.length co79)) (fun _ hk => hk.1.1), by (with_reducible repeat (first | apply Kd.R_alloc | apply Kd.R_drewN | apply Kd.R_drew)); exact Kd.R_mono (Kd.R_far (p := ⟨gb426, 1, none⟩) (Kd.R_far (p := ⟨gb426, 0, none⟩) (Kd.R_types HO440.out BK426.out (by decide)) (fun _ hk => hk.2) (.slice Ao75 t435.length co75)) (fun _ hk => hk.2) (.slice Ao79 t438.length co79)) (fun _ hk => hk.1.1), q2b5_ HI0.out, q268_ HI0.out, q1bc_⟩

/-! ### spec_DrawPointOfRegion: function 10 -/
def spec_DrawPointOfRegion.f (k : Nat) (l0 : List Int) : Option (List Int × List Int) := (spec_l1Cur_region.f k l0 0 0).bind fun bt457 => (some (bt457.1, bt457.2.1))
theorem spec_DrawPointOfRegion.mono : ∀ a0 k, LeO (spec_DrawPointOfRegion.f k a0) (spec_DrawPointOfRegion.f (k + 1) a0) := by
 intro a0 k
 unfold spec_DrawPointOfRegion.f
 repeat' (with_reducible first | exact spec_l1Cur_region.mono _ _ _ _ | exact LeO.refl _ | exact LeO.none _ | refine LeO.ite ?_ ?_ | refine LeO.bind ?_ (fun _ => ?_))
theorem spec_DrawPointOfRegion.calls (k : Nat) (A0 : Option Addr) (c0 : Nat) (l0 : List Int) (r1 : List Int) (r2 : List Int) (w : World) (hr0 : Kd.C (Kd.int .u8) w A0 l0.length l0) (hc0 : l0.length ≤ c0) (h : spec_DrawPointOfRegion.f k l0 = some (r1, r2)) :
  Calls Tryz.prog 10 #[.slice A0 l0.length c0] w fun e w' => ∃ v0_ v1_ : Value, e = .returned (.agg #[v0_, v1_]) ∧ Kd.R (Kd.int .i64) 3 w' w.heap.size (fun k_ => some k_ ≠ (v1_ : Value).ownBlock) v0_ r1 ∧ Kd.R (Kd.int .i64) 3 w' w.heap.size (fun k_ => some k_ ≠ (v0_ : Value).ownBlock) v1_ r2 ∧ Below w.heap.size w w' := by
 have hu27 := Tryz.underlying27
 have hu41 := Tryz.underlying41
 have HR0 := Aside0.mk hr0
 have HC0 := Aside0.mk hc0
 clear hr0 hc0
 have HB := Aside0.mk (Below.refl w.heap.size w)
 unfold spec_DrawPointOfRegion.f at h
 have H := h; clear h
 obtain ⟨⟨t457, t460, t463, t464⟩, A2, H⟩ := ob_ H
 dsimp only at H
 simp only [Option.some.injEq, Prod.mk.injEq] at H
 obtain ⟨rfl, rfl⟩ := H
 go_enter Tryz.func10, Tryz.ntmps10
 go_wp2_with (first | ((with_reducible refine gate_dst (N := 2) rfl ?_); refine box_event ?hg (N := 2) ?hd (cs := #[.slice none 0 0, .slice none 0 0]) (t := 27) ?hr ?_; (case hd => rfl); (case hg => rfl); (case hr => exact qfba_); intro gb455 hg w3 hbox hb; have n0_ := Aside0.mk (below_step q0c4_ hb); have n1_ := Aside0.mk (hbox); have n2_ := Aside0.mk ((by rw [hg]; exact (below_size q0c4_) : w.heap.size ≤ gb455)); have n3_ := Aside0.mk ((by rw [hg]; exact (below_size q0c4_) : w.heap.size ≤ gb455)); replace HB := n0_; have BK455 := n1_; have GW455 := n2_; have GE455 := n3_; clear n0_ n1_ n2_ n3_; clear hb hbox hg) | ((with_reducible refine gate_dst (N := 6) rfl ?_); refine box_event ?hg (N := 6) ?hd (cs := #[.slice A0 l0.length c0, .int .i64 0, .int .u64 0]) (t := 41) ?hr ?_; (case hd => rfl); (case hg => rfl); (case hr => exact qfba_); intro gb456 hg w4 hbox hb; have n0_ := Aside0.mk (blk_below (g := gb455) (o := .cells #[.slice none 0 0, .slice none 0 0] 27 (0, 0)) q91d_ hb); have n1_ := Aside0.mk (below_step qff1_ hb); have n2_ := Aside0.mk (hbox); have n3_ := Aside0.mk ((by rw [hg]; exact (below_size qff1_) : w.heap.size ≤ gb456)); have n4_ := Aside0.mk ((by rw [hg]; exact (below_size qff1_) : w.heap.size ≤ gb456)); have n5_ := Aside0.mk ((by rw [hg]; exact Nat.ne_of_lt (blk_lt (g := gb455) (o := .cells #[.slice none 0 0, .slice none 0 0] 27 (0, 0)) q91d_) : gb455 ≠ gb456)); have n6_ := Aside0.mk ((by rw [hg]; exact Nat.ne_of_gt (blk_lt (g := gb455) (o := .cells #[.slice none 0 0, .slice none 0 0] 27 (0, 0)) q91d_) : gb456 ≠ gb455)); have n7_ := Aside0.mk ((show IsS41 w w4 gb456 l0 0 0 from ⟨_, _, hbox, (by rw [hg]; exact (below_size qff1_) : w.heap.size ≤ gb456), HR0.out⟩)); replace BK455 := n0_; replace HB := n1_; have BK456 := n2_; have GW456 := n3_; have GE456 := n4_; have NB455_456 := n5_; have NB456_455 := n6_; have HI456 := n7_; clear n0_ n1_ n2_ n3_ n4_ n5_ n6_ n7_; clear hb hbox hg) | ((with_reducible refine gate_callee (f := 25) rfl ?_); refine gl_ 8 Tryz.func25 #[.pointer (some ⟨gb456, 0, none⟩)] ?_; (with_reducible refine (spec_l1Cur_region.calls k gb456 l0 0 0 t457 t460 t463 t464 w _ ?s1 ?s2 A2.out).mono ?_); (case s1 => repeat (first | (with_reducible first | exact HI456.out | apply IsS41.alloc | apply IsS41.drewN | apply IsS41.drew | apply IsS41.set_1 | apply IsS41.set_2 | refine IsS41.far ?_ NB456_455.out _) | exact HI456.out)); (case s2 => exact q4f5_ HI456.out); rintro e w5 ⟨v458, v461, rfl, ho0, ho1, hi, hb, hk⟩; refine ⟨_, rfl, ?_⟩; replace BK455 := Aside0.mk (KeepBut.blk hk (g' := gb455) (o := .cells #[.slice none 0 0, .slice none 0 0] 27 (0, 0)) q91d_ NB455_456.out (by simp)); have HO459 := Aside0.mk (Kd.R_lower ho0 (below_size (q4f5_ HI456.out))); have HO462 := Aside0.mk (Kd.R_lower ho1 (below_size (q4f5_ HI456.out))); replace HB := Aside0.mk (hb); replace HI456 := Aside0.mk (hi); clear hb hk hi ho0 ho1; obtain ⟨Ao6, co6, eo6⟩ := Kd.R_slice HO459.out; subst eo6; have hnb7 := NB455_456.out; have hnc7 := NB456_455.out; have hcz8_0 : w5.cell? ⟨gb455, 0, none⟩ = some (.slice none 0 0) := (blk_cell BK455.out 0).trans rfl; have hcz8_1 : w5.cell? ⟨gb455, 1, none⟩ = some (.slice none 0 0) := (blk_cell BK455.out 1).trans rfl; have hfz8_0 := blk_frozen BK455.out 0; have hfz8_1 := blk_frozen BK455.out 1; obtain ⟨Ao9, co9, eo9⟩ := Kd.R_slice HO462.out; subst eo9))
 refine bodyPost_ret (results_cell_row rfl _ _ gb455 27 #[.slice Ao6 t457.length co6, .slice Ao9 t460.length co9] (0, 0) _ rfl (by (with_reducible repeat (first | refine blk_drewN ?_ _ | refine blk_drew ?_ | refine blk_alloc ?_ _)); refine blk_put (cs := #[.slice Ao6 t457.length co6, .slice none 0 0]) ?_ 1 _ rfl; (with_reducible repeat (first | refine blk_drewN ?_ _ | refine blk_drew ?_ | refine blk_alloc ?_ _)); refine blk_put (cs := #[.slice none 0 0, .slice none 0 0]) ?_ 0 _ rfl; (with_reducible repeat (first | refine blk_drewN ?_ _ | refine blk_drew ?_ | refine blk_alloc ?_ _)); exact BK455.out) Tryz.underlying27 rfl (by kernel_rfl)) rfl ?_
 exact ⟨_, _, qce7_, by (with_reducible repeat (first | apply Kd.R_alloc | apply Kd.R_drewN | apply Kd.R_drew)); exact Kd.R_mono (Kd.R_far (p := ⟨gb455, 1, none⟩) (Kd.R_far (p := ⟨gb455, 0, none⟩) (Kd.R_types HO459.out BK455.out (by decide)) (fun _ hk => hk.2) (.slice Ao6 t457.length co6)) (fun _ hk => hk.2) (.slice Ao9 t460.length co9)) (fun _ hk => hk.1), by (with_reducible repeat (first | apply Kd.R_alloc | apply Kd.R_drewN | apply Kd.R_drew)); exact Kd.R_mono (Kd.R_far (p := ⟨gb455, 1, none⟩) (Kd.R_far (p := ⟨gb455, 0, none⟩) (Kd.R_types HO462.out BK455.out (by decide)) (fun _ hk => hk.2) (.slice Ao6 t457.length co6)) (fun _ hk => hk.2) (.slice Ao9 t460.length co9)) (fun _ hk => hk.1), q4f5_ HI456.out⟩

/-! ### impl_isOrder: function 48 -/
def impl_isOrder.l0 : Nat → List Int → List Int → Int → Int → Option (Bool)
 | 0, _, _, _, _ => none
 | k + 1, x0, x6, x7, x8 => if x8 < x7 then (if 0 ≤ x8 then (if x8 < (x6.length : Int) then (if (rd x6 x8) = x8 then (impl_isOrder.l0 k x0 x6 x7 (wrap64 (x8 + 1))) else (some false)) else (none)) else (none)) else (some (decide ((x0.length : Int) ≤ 8)))
def impl_isOrder.f (k : Nat) (l0 : List Int) : Option (Bool) := (impl_sorted.f l0).bind fun t467 => (impl_isOrder.l0 k l0 t467 (t467.length : Int) 0)
theorem impl_isOrder.mono_l : ∀ k, (∀ y0 y1 y2 y3, LeO (impl_isOrder.l0 k y0 y1 y2 y3) (impl_isOrder.l0 (k + 1) y0 y1 y2 y3))
 | 0 => fun _ _ _ _ r h => by simp [impl_isOrder.l0] at h
 | k + 1 => by
  have ih0 := impl_isOrder.mono_l k
  ·
   intro y0 y1 y2 y3
   unfold impl_isOrder.l0
   repeat' (with_reducible first | exact ih0 _ _ _ _ | exact LeO.refl _ | exact LeO.none _ | refine LeO.ite ?_ ?_ | refine LeO.bind ?_ (fun _ => ?_))
theorem impl_isOrder.mono : ∀ a0 k, LeO (impl_isOrder.f k a0) (impl_isOrder.f (k + 1) a0) := by
 intro a0 k
 have ih0 := impl_isOrder.mono_l k
 unfold impl_isOrder.f
 repeat' (with_reducible first | exact ih0 _ _ _ _ | exact LeO.refl _ | exact LeO.none _ | refine LeO.ite ?_ ?_ | refine LeO.bind ?_ (fun _ => ?_))
theorem impl_isOrder.calls (k : Nat) (A0 : Option Addr) (c0 : Nat) (l0 : List Int) (r : Bool) (w : World) (hr0 : Kd.C (Kd.int .i64) w A0 l0.length l0) (hc0 : l0.length ≤ c0) (h : impl_isOrder.f k l0 = some r) :
  Calls Tryz.prog 48 #[.slice A0 l0.length c0] w fun e w' => e = .returned (.bool r) ∧ Below w.heap.size w w' := by
 have HR0 := Aside0.mk hr0
 have HC0 := Aside0.mk hc0
 clear hr0 hc0
 have HB := Aside0.mk (Below.refl w.heap.size w)
 unfold impl_isOrder.f at h
 have H := h; clear h
 obtain ⟨t467, A2, H⟩ := ob_ H
 have H' := Aside0.mk H
 clear H
 go_enter Tryz.func48, Tryz.ntmps48
 go_wp2_with (first | ((with_reducible refine gate_callee (f := 65) rfl ?_); refine gl_ 6 Tryz.func65 #[.slice A0 l0.length c0] ?_; (with_reducible refine (impl_sorted.calls _ _ l0 t467 _ ?s1 ?s2 A2.out).mono ?_); (case s1 => exact q201_ HR0.out); (case s2 => exact HC0.out); rintro e w3 ⟨v468, rfl, ho0, hb⟩; refine ⟨_, rfl, ?_⟩; have HO469 := Aside0.mk (Kd.R_lower ho0 (below_size q0c4_)); replace HB := Aside0.mk (below_step q0c4_ hb); clear hb ho0; obtain ⟨Ao4, co4, eo4⟩ := Kd.R_slice HO469.out; subst eo4))
 go_loopg [8] k (fun kq v8 w' => ∃ (x8_1 : Int), v8 = .int .i64 x8_1 ∧ Aside0 (impl_isOrder.l0 kq l0 t467 (t467.length : Int) x8_1 = some r) ∧ Aside0 (kq ≤ k) ∧ Aside0 (Kd.R (Kd.int .i64) 3 w' w.heap.size (fun _ => True) (.slice Ao4 t467.length co4) t467) ∧ Aside0 (Below w.heap.size w w'))
 case atStart => exact ⟨(0), qc8f_, H', ⟨Nat.le_refl _⟩, ⟨q9d5_ HO469.out⟩, ⟨q0c4_⟩⟩
 case round =>
  clear H'; try clear p2; try clear c4
  obtain ⟨x8_1, rfl, HA, HK1, HO_6, HB⟩ := hrel
  cases gk with
  | zero => exact absurd HA.out (by simp [impl_isOrder.l0])
  | succ k1 =>
   have H := HA.out
   clear HA
   simp only [impl_isOrder.l0] at H
   by_cases c5 : x8_1 < (t467.length : Int)
   ·
    rw [if_pos c5] at H
    have c5b0 := decide_eq_true c5
    clear c5
    by_cases c6 : 0 ≤ x8_1
    ·
     rw [if_pos c6] at H
     have c6b0 := decide_eq_true c6
     clear c6
     by_cases c7 : x8_1 < (t467.length : Int)
     ·
      rw [if_pos c7] at H
      have c7b0 := decide_eq_true c7
      clear c7
      by_cases c8 : (rd t467 x8_1) = x8_1
      ·
       rw [if_pos c8] at H
       have c8b0 := beq_iff_eq.mpr c8
       have c8b1 := bne_eq_false_iff_eq.mpr c8
       clear c8
       have H' := Aside0.mk H
       clear H
       have p470 : 0 ≤ (x8_1 : Int) := of_decide_eq_true qe84_
       have q470 : x8_1 < (t467.length : Int) := of_decide_eq_true qe84_
       obtain ⟨ad470, e470, hx470_0⟩ := Kd.at_int (Kd.R_reads' HO_6.out).2.2 x8_1 p470 q470
       cases e470
       replace p470 := eq_true p470
       replace q470 := eq_true q470
       go_wp2
       go_roundg k1
       case measure => have := HK1.out; omega
       case rel => exact ⟨(wrap64 (x8_1 + 1)), qc8f_, H', ⟨by have := HK1.out; omega⟩, ⟨q9d5_ HO_6.out⟩, ⟨q0c4_⟩⟩
      ·
       rw [if_neg c8] at H
       have c8b0 := beq_eq_false_iff_ne.mpr c8
       have c8b1 := bne_iff_ne.mpr c8
       obtain rfl := Option.some.inj H
       have p470 : 0 ≤ (x8_1 : Int) := of_decide_eq_true qe84_
       have q470 : x8_1 < (t467.length : Int) := of_decide_eq_true qe84_
       obtain ⟨ad470, e470, hx470_0⟩ := Kd.at_int (Kd.R_reads' HO_6.out).2.2 x8_1 p470 q470
       cases e470
       replace p470 := eq_true p470
       replace q470 := eq_true q470
       go_wp2
       go_ret
       exact ⟨qce7_, q0c4_⟩
     ·
      rw [if_neg c7] at H
      exact absurd H (by simp)
    ·
     rw [if_neg c6] at H
     exact absurd H (by simp)
   ·
    rw [if_neg c5] at H
    have c5b0 := decide_eq_false c5
    clear c5
    obtain rfl := Option.some.inj H
    go_wp2
    go_ret
    exact ⟨qce7_, q0c4_⟩

end Go.Proofs.YtgfcnfbbiaeboaaGreat.PAll
