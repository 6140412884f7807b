-- written by a program of this session (wip/gen/xpatch.py over the translation); Lean checks it
import Derived.Test.YtgfedgnpffockaaPAllx0
import Derived.Test.YtgfedgnpffockaaPAllx1
namespace Go.Proofs.Ytgfedgnpffockaa.PAll
open Go.RowKit Go.Proofs.Ytgfedgnpffockaa.Hand Go.Proofs.YtgfedgnpffockaaW.PrintWords Go.Proofs.YtgfedgnpffockaaW.PrintLast Go.Proofs.YtgfedgnpffockaaW.PrintMore
attribute [local go_sem] max2_int min2_int max_two min_two max_three min_three max_four min_four   -- for this text's walks alone
set_option maxHeartbeats 8000000
set_option maxRecDepth 100000
set_option linter.unusedVariables false
set_option linter.unusedSimpArgs false

/-! ### impl_isPoint: function 21 -/
mutual
def impl_isPoint.j0 : Nat → List Int → Bool → Option (Bool)
 | 0, _, _ => none
 | k + 1, x0, x15 => if x15 = true then (some false) else (impl_isPoint.l0 k x0 x0 (x0.length : Int) 0)
def impl_isPoint.l0 : Nat → List Int → List Int → Int → Int → Option (Bool)
 | 0, _, _, _, _ => none
 | k + 1, x0, x16, x17, x18 => if x18 < x17 then (if 0 ≤ x18 then (if x18 < (x16.length : Int) then (if x18 ≤ (x0.length : Int) then (impl_isPoint.l1 k x0 (rd x16 x18) x16 x17 x18 (x0.take (x18 : Int).toNat) ((x0.take (x18 : Int).toNat).length : Int) 0) else (none)) else (none)) else (none)) else (some true)
def impl_isPoint.l1 : Nat → List Int → Int → List Int → Int → Int → List Int → Int → Int → Option (Bool)
 | 0, _, _, _, _, _, _, _, _ => none
 | k + 1, x0, x4, x16, x17, x18, x25, x26, x27 => if x27 < x26 then (if 0 ≤ x27 then (if x27 < (x25.length : Int) then (if (rd x25 x27) = x4 then (some false) else (if (rd x25 x27) = (wrap64 (x4 + 100)) then (some false) else (impl_isPoint.l1 k x0 x4 x16 x17 x18 x25 x26 (wrap64 (x27 + 1))))) else (none)) else (none)) else (impl_isPoint.l0 k x0 x16 x17 (wrap64 (x18 + 1)))
end
def impl_isPoint.f (k : Nat) (l0 : List Int) : Option (Bool) := (impl_isCars.f (l0.length : Int)).bind fun t178 => (if t178 = true then ((impl_areBetween.f l0 (-100000) 100000).bind fun t179 => (impl_isPoint.j0 k l0 (!t179))) else (impl_isPoint.j0 k l0 true))
theorem impl_isPoint.mono_l : ∀ k, (∀ y0 y1, LeO (impl_isPoint.j0 k y0 y1) (impl_isPoint.j0 (k + 1) y0 y1)) ∧ (∀ y0 y1 y2 y3, LeO (impl_isPoint.l0 k y0 y1 y2 y3) (impl_isPoint.l0 (k + 1) y0 y1 y2 y3)) ∧ (∀ y0 y1 y2 y3 y4 y5 y6 y7, LeO (impl_isPoint.l1 k y0 y1 y2 y3 y4 y5 y6 y7) (impl_isPoint.l1 (k + 1) y0 y1 y2 y3 y4 y5 y6 y7))
 | 0 => ⟨fun _ _ r h => by simp [impl_isPoint.j0] at h, fun _ _ _ _ r h => by simp [impl_isPoint.l0] at h, fun _ _ _ _ _ _ _ _ r h => by simp [impl_isPoint.l1] at h⟩
 | k + 1 => by
  obtain ⟨ih0, ih1, ih2⟩ := impl_isPoint.mono_l k
  refine ⟨?_, ?_, ?_⟩
  ·
   intro y0 y1
   unfold impl_isPoint.j0
   repeat' (with_reducible first | exact ih0 _ _ | exact ih1 _ _ _ _ | exact ih2 _ _ _ _ _ _ _ _ | exact LeO.refl _ | exact LeO.none _ | refine LeO.ite ?_ ?_ | refine LeO.bind ?_ (fun _ => ?_))
  ·
   intro y0 y1 y2 y3
   unfold impl_isPoint.l0
   repeat' (with_reducible first | exact ih0 _ _ | exact ih1 _ _ _ _ | exact ih2 _ _ _ _ _ _ _ _ | exact LeO.refl _ | exact LeO.none _ | refine LeO.ite ?_ ?_ | refine LeO.bind ?_ (fun _ => ?_))
  ·
   intro y0 y1 y2 y3 y4 y5 y6 y7
   unfold impl_isPoint.l1
   repeat' (with_reducible first | exact ih0 _ _ | exact ih1 _ _ _ _ | exact ih2 _ _ _ _ _ _ _ _ | exact LeO.refl _ | exact LeO.none _ | refine LeO.ite ?_ ?_ | refine LeO.bind ?_ (fun _ => ?_))
theorem impl_isPoint.mono : ∀ a0 k, LeO (impl_isPoint.f k a0) (impl_isPoint.f (k + 1) a0) := by
 intro a0 k
 obtain ⟨ih0, ih1, ih2⟩ := impl_isPoint.mono_l k
 unfold impl_isPoint.f
 repeat' (with_reducible first | exact ih0 _ _ | exact ih1 _ _ _ _ | exact ih2 _ _ _ _ _ _ _ _ | exact LeO.refl _ | exact LeO.none _ | refine LeO.ite ?_ ?_ | refine LeO.bind ?_ (fun _ => ?_))
theorem impl_isPoint.calls (k : Nat) (A0 : Option Addr) (c0 : Nat) (l0 : List Int) (r : Bool) (w : World) (hr0 : Kd.C (Kd.int .i64) w A0 l0.length l0) (hc0 : l0.length ≤ c0) (h : impl_isPoint.f k l0 = some r) :
  Calls Try.prog 21 #[.slice A0 l0.length c0] w fun e w' => e = .returned (.bool r) ∧ Below w.heap.size w w' := by
 have HR0 := Aside0.mk hr0
 have HC0 := Aside0.mk hc0
 clear hr0 hc0
 have HB := Aside0.mk (Below.refl w.heap.size w)
 unfold impl_isPoint.f at h
 have H := h; clear h
 have HC2 := Aside0.mk H
 clear H
 go_enter Try.func21, Try.ntmps21
 go_upto_region 1 with (fail)
 go_cut [15] (fun v15 wc => ∃ (kq : Nat) (x15_1 : Bool), v15 = .bool x15_1 ∧ Aside0 (impl_isPoint.j0 kq l0 x15_1 = some r) ∧ Aside0 (kq ≤ k) ∧ Aside0 (Below w.heap.size w wc))
 case first =>
  have H := HC2.out
  clear HC2
  obtain ⟨t178, A3, H⟩ := ob_ H
  by_cases c4 : t178 = true
  ·
   subst c4
   rw [if_pos rfl] at H
   obtain ⟨t179, A5, H⟩ := ob_ H
   have H' := Aside0.mk H
   clear H
   go_wp2_with (first | ((with_reducible refine gate_callee (f := 30) rfl ?_); refine gl_ 9 Try.func30 #[.int .i64 (l0.length : Int)] ?_; (with_reducible refine (impl_isCars.calls (l0.length : Int) true _ A3.out).mono ?_); rintro e w' ⟨rfl, ⟨nd, rfl⟩⟩; refine ⟨_, rfl, ?_⟩) | (go_at_call 35; (with_reducible refine (impl_areBetween.calls _ _ l0 (-100000) 100000 t179 _ ?s1 ?s2 A5.out).mono ?_); (case s1 => exact q749_ HR0.out); (case s2 => exact HC0.out); rintro e w6 ⟨rfl, hb⟩; replace HB := Aside0.mk (below_step q0c4_ hb); clear hb))
   go_meet
   case rel => exact ⟨_, (!t179), qc8f_, H', ⟨q821_⟩, ⟨q0c4_⟩⟩
  ·
   replace c4 := Bool.eq_false_iff.mpr c4
   subst c4
   rw [if_neg nf_] at H
   have H' := Aside0.mk H
   clear H
   go_wp2_with (first | ((with_reducible refine gate_callee (f := 30) rfl ?_); refine gl_ 9 Try.func30 #[.int .i64 (l0.length : Int)] ?_; (with_reducible refine (impl_isCars.calls (l0.length : Int) false _ A3.out).mono ?_); rintro e w' ⟨rfl, ⟨nd, rfl⟩⟩; refine ⟨_, rfl, ?_⟩))
   go_meet
   case rel => exact ⟨_, (true), qc8f_, H', ⟨q821_⟩, ⟨q0c4_⟩⟩
 case rest =>
  clear HC2; try clear c2; try clear p2; try clear c3; try clear c4
  obtain ⟨kq, x15_1, rfl, HA, HJ1, HB⟩ := hcut
  cases kq with
  | zero => exact absurd HA.out (by simp [impl_isPoint.j0])
  | succ kj1 =>
   have H := HA.out
   clear HA
   simp only [impl_isPoint.j0] at H
   by_cases c7 : x15_1 = true
   ·
    subst c7
    rw [if_pos rfl] at H
    obtain rfl := Option.some.inj H
    go_wp2
    go_ret
    exact ⟨qce7_, q0c4_⟩
   ·
    replace c7 := Bool.eq_false_iff.mpr c7
    subst c7
    rw [if_neg nf_] at H
    have H' := Aside0.mk H
    clear H
    go_wp2
    go_loopg [18] kj1 (fun kq v18 w' => ∃ (x18_2 : Int), v18 = .int .i64 x18_2 ∧ Aside0 (impl_isPoint.l0 kq l0 l0 (l0.length : Int) x18_2 = some r) ∧ Aside0 (kq ≤ kj1) ∧ Aside0 (Below w.heap.size w w'))
    case atStart => exact ⟨(0), qc8f_, H', ⟨Nat.le_refl _⟩, ⟨q0c4_⟩⟩
    case round =>
     clear H'; try clear c2; try clear p2; try clear c3; try clear c4; try clear c7; try clear p2
     obtain ⟨x18_2, rfl, HA, HK2, HB⟩ := hrel
     cases gk with
     | zero => exact absurd HA.out (by simp [impl_isPoint.l0])
     | succ k2 =>
      have H := HA.out
      clear HA
      simp only [impl_isPoint.l0] at H
      by_cases c8 : x18_2 < (l0.length : Int)
      ·
       rw [if_pos c8] at H
       have c8b0 := decide_eq_true c8
       clear c8
       by_cases c9 : 0 ≤ x18_2
       ·
        rw [if_pos c9] at H
        have c9b0 := decide_eq_true c9
        clear c9
        by_cases c10 : x18_2 < (l0.length : Int)
        ·
         rw [if_pos c10] at H
         have c10b0 := decide_eq_true c10
         clear c10
         have c11b0 := eq_true (of_decide_eq_true qe84_ : 0 ≤ x18_2)
         by_cases c12 : x18_2 ≤ (l0.length : Int)
         ·
          rw [if_pos c12] at H
          have c12b0 := eq_true c12
          have c12b1 := decide_eq_true c12
          clear c12
          have H' := Aside0.mk H
          clear H
          have p180 : 0 ≤ (x18_2 : Int) := of_decide_eq_true qe84_
          have q180 : x18_2 < (l0.length : Int) := of_decide_eq_true qe84_
          obtain ⟨ad180, e180, hx180_0⟩ := Kd.at_int HR0.out x18_2 p180 q180
          cases e180
          (try (replace hx180_0 := (HB.out.cell (World.block_lt_of_cell? w _ hx180_0)).trans hx180_0))
          replace p180 := eq_true p180
          replace q180 := eq_true q180
          obtain ⟨i013, hi013, _, hsz13, _⟩ := info_parts info3
          obtain ⟨hcut13, hA13, hC13⟩ := print_take_of (P := Try.prog) (Value.int .i64) 0 24 3 .i64 Try.underlying24 hi013 hsz13 (some ad180) c0 l0 x18_2 (of_decide_eq_true qe84_) (of_decide_eq_true qe84_) HC0.out
          have hmx13 : ((l0.take (x18_2 : Int).toNat).length : Int) = max x18_2 0 := by
           have h1 : 0 ≤ (x18_2 : Int) := of_decide_eq_true qe84_
           have h2 : (x18_2 : Int) ≤ (l0.length : Int) := of_decide_eq_true qe84_
           rw [List.length_take]; omega
          have HR181 := Aside0.mk (Kd.C_of_reads (h1 := fun _ => rfl) (hA13 _ (Kd.reads_of_C HR0.out)))
          have HC181 := Aside0.mk hC13
          clear hA13 hC13 hi013 hsz13
          go_wp2
          go_loopg [27] k2 (fun kq v27 w' => ∃ (x27_3 : Int), v27 = .int .i64 x27_3 ∧ Aside0 (impl_isPoint.l1 kq l0 (rd l0 x18_2) l0 (l0.length : Int) x18_2 (l0.take (x18_2 : Int).toNat) ((l0.take (x18_2 : Int).toNat).length : Int) x27_3 = some r) ∧ Aside0 (kq ≤ k2) ∧ Aside0 (Below w.heap.size w w'))
          case atStart => exact ⟨(0), qc8f_, H', ⟨Nat.le_refl _⟩, ⟨q0c4_⟩⟩
          case round =>
           clear H'; try clear c1; try clear p1; try clear q1; try clear hx1; try clear c2; try clear p2; try clear c3; try clear c4; try clear c7; try clear c8; try clear c8b0; try clear c9; try clear c9b0; try clear c10; try clear c10b0; try clear c11; try clear c11b0; try clear c12; try clear c12b0; try clear c12b1; try clear hx180_0; try clear p180; try clear p2; try clear q180
           obtain ⟨x27_3, rfl, HA, HK3, HB⟩ := hrel
           cases gk with
           | zero => exact absurd HA.out (by simp [impl_isPoint.l1])
           | succ k3 =>
            have H := HA.out
            clear HA
            simp only [impl_isPoint.l1] at H
            by_cases c14 : x27_3 < ((l0.take (x18_2 : Int).toNat).length : Int)
            ·
             rw [if_pos c14] at H
             have c14b0 := decide_eq_true c14
             have c14m := c14b0; (try rw [hmx13] at c14m)
             clear c14
             by_cases c15 : 0 ≤ x27_3
             ·
              rw [if_pos c15] at H
              have c15b0 := decide_eq_true c15
              have c15m := c15b0; (try rw [hmx13] at c15m)
              clear c15
              by_cases c16 : x27_3 < ((l0.take (x18_2 : Int).toNat).length : Int)
              ·
               rw [if_pos c16] at H
               have c16b0 := decide_eq_true c16
               have c16m := c16b0; (try rw [hmx13] at c16m)
               clear c16
               by_cases c17 : (rd (l0.take (x18_2 : Int).toNat) x27_3) = (rd l0 x18_2)
               ·
                rw [if_pos c17] at H
                have c17b0 := beq_iff_eq.mpr c17
                have c17b1 := bne_eq_false_iff_eq.mpr c17
                clear c17
                obtain rfl := Option.some.inj H
                have p182 : 0 ≤ (x27_3 : Int) := of_decide_eq_true qe84_
                have q182 : x27_3 < ((l0.take (x18_2 : Int).toNat).length : Int) := of_decide_eq_true qe84_
                obtain ⟨ad182, e182, hx182_0⟩ := Kd.at_int HR181.out x27_3 p182 q182
                obtain rfl : ad180 = ad182 := (by injection e182)
                (try (replace hx182_0 := (HB.out.cell (World.block_lt_of_cell? w _ hx182_0)).trans hx182_0))
                replace p182 := eq_true p182
                replace q182 := eq_true q182
                have q182m := q182; (try rw [hmx13] at q182m)
                go_wp2
                go_ret
                exact ⟨qce7_, q0c4_⟩
               ·
                rw [if_neg c17] at H
                have c17b0 := beq_eq_false_iff_ne.mpr c17
                have c17b1 := bne_iff_ne.mpr c17
                by_cases c18 : (rd (l0.take (x18_2 : Int).toNat) x27_3) = (wrap64 ((rd l0 x18_2) + 100))
                ·
                 rw [if_pos c18] at H
                 have c18b0 := beq_iff_eq.mpr c18
                 have c18b1 := bne_eq_false_iff_eq.mpr c18
                 clear c18
                 obtain rfl := Option.some.inj H
                 have p182 : 0 ≤ (x27_3 : Int) := of_decide_eq_true qe84_
                 have q182 : x27_3 < ((l0.take (x18_2 : Int).toNat).length : Int) := of_decide_eq_true qe84_
                 obtain ⟨ad182, e182, hx182_0⟩ := Kd.at_int HR181.out x27_3 p182 q182
                 obtain rfl : ad180 = ad182 := (by injection e182)
                 (try (replace hx182_0 := (HB.out.cell (World.block_lt_of_cell? w _ hx182_0)).trans hx182_0))
                 replace p182 := eq_true p182
                 replace q182 := eq_true q182
                 have q182m := q182; (try rw [hmx13] at q182m)
                 go_wp2
                 go_ret
                 exact ⟨qce7_, q0c4_⟩
                ·
                 rw [if_neg c18] at H
                 have c18b0 := beq_eq_false_iff_ne.mpr c18
                 have c18b1 := bne_iff_ne.mpr c18
                 have H' := Aside0.mk H
                 clear H
                 have p182 : 0 ≤ (x27_3 : Int) := of_decide_eq_true qe84_
                 have q182 : x27_3 < ((l0.take (x18_2 : Int).toNat).length : Int) := of_decide_eq_true qe84_
                 obtain ⟨ad182, e182, hx182_0⟩ := Kd.at_int HR181.out x27_3 p182 q182
                 obtain rfl : ad180 = ad182 := (by injection e182)
                 (try (replace hx182_0 := (HB.out.cell (World.block_lt_of_cell? w _ hx182_0)).trans hx182_0))
                 replace p182 := eq_true p182
                 replace q182 := eq_true q182
                 have q182m := q182; (try rw [hmx13] at q182m)
                 go_wp2
                 go_roundg k3
                 case measure => have := HJ1.out; have := HK2.out; have := HK3.out; omega
                 case rel => exact ⟨(wrap64 (x27_3 + 1)), qc8f_, H', ⟨q0e9_ HJ1.out HK2.out HK3.out⟩, ⟨q0c4_⟩⟩
              ·
               rw [if_neg c16] at H
               exact absurd H (by simp)
             ·
              rw [if_neg c15] at H
              exact absurd H (by simp)
            ·
             rw [if_neg c14] at H
             have c14b0 := decide_eq_false c14
             have c14m := c14b0; (try rw [hmx13] at c14m)
             clear c14
             have H' := Aside0.mk H
             clear H
             go_wp2
             go_roundg k3
             case measure => have := HJ1.out; have := HK2.out; have := HK3.out; omega
             case rel => exact ⟨(wrap64 (x18_2 + 1)), qc8f_, H', ⟨q0e9_ HJ1.out HK2.out HK3.out⟩, ⟨q0c4_⟩⟩
         ·
          rw [if_neg c12] at H
          exact absurd H (by simp)
        ·
         rw [if_neg c10] at H
         exact absurd H (by simp)
       ·
        rw [if_neg c9] at H
        exact absurd H (by simp)
      ·
       rw [if_neg c8] at H
       have c8b0 := decide_eq_false c8
       have c8m := c8b0; (try rw [hmx13] at c8m)
       clear c8
       obtain rfl := Option.some.inj H
       go_wp2
       go_ret
       exact ⟨qce7_, q0c4_⟩

/-! ### impl_PlanesBetween: function 6 -/
mutual
def impl_PlanesBetween.j0 : Nat → List Int → List Int → Bool → Option (Int × Bool)
 | 0, _, _, _ => none
 | k + 1, x0, x1, x25 => if x25 = true then (some (0, false)) else (impl_PlanesBetween.l0 k x0 x1 0 (x0.length : Int) 0)
def impl_PlanesBetween.l0 : Nat → List Int → List Int → Int → Int → Int → Option (Int × Bool)
 | 0, _, _, _, _, _ => none
 | k + 1, x0, x1, x6, x27, x28 => if x28 < x27 then (impl_PlanesBetween.l1 k x0 x1 x6 x28 x27 x28 x28 0) else (some (x6, true))
def impl_PlanesBetween.l1 : Nat → List Int → List Int → Int → Int → Int → Int → Int → Int → Option (Int × Bool)
 | 0, _, _, _, _, _, _, _, _ => none
 | k + 1, x0, x1, x6, x7, x27, x28, x31, x32 => if x32 < x31 then ((some (([0, 100] : List Int) : List Int)).bind fun y185 => (impl_PlanesBetween.l2 k x0 x1 x6 x7 x32 x27 x28 x31 x32 y185 (y185.length : Int) 0)) else (impl_PlanesBetween.l0 k x0 x1 x6 x27 (wrap64 (x28 + 1)))
def impl_PlanesBetween.l2 : Nat → List Int → List Int → Int → Int → Int → Int → Int → Int → Int → List Int → Int → Int → Option (Int × Bool)
 | 0, _, _, _, _, _, _, _, _, _, _, _, _ => none
 | k + 1, x0, x1, x6, x7, x8, x27, x28, x31, x32, x35, x36, x37 => if x37 < x36 then (if 0 ≤ x37 then (if x37 < (x35.length : Int) then (if 0 ≤ x8 then (if x8 < (x0.length : Int) then (if 0 ≤ x7 then (if x7 < (x0.length : Int) then (if x8 < (x1.length : Int) then (if x7 < (x1.length : Int) then (if ((decide ((wrap64 ((rd x0 x8) - (rd x0 x7))) > (rd x35 x37))) != (decide ((wrap64 ((rd x1 x8) - (rd x1 x7))) > (rd x35 x37)))) = true then (impl_PlanesBetween.l2 k x0 x1 (wrap64 (x6 + 1)) x7 x8 x27 x28 x31 x32 x35 x36 (wrap64 (x37 + 1))) else (impl_PlanesBetween.l2 k x0 x1 x6 x7 x8 x27 x28 x31 x32 x35 x36 (wrap64 (x37 + 1)))) else (none)) else (none)) else (none)) else (none)) else (none)) else (none)) else (none)) else (none)) else (impl_PlanesBetween.l1 k x0 x1 x6 x7 x27 x28 x31 (wrap64 (x32 + 1)))
end
def impl_PlanesBetween.f (k : Nat) (l0 : List Int) (l1 : List Int) : Option (Int × Bool) := (impl_isPoint.f k l0).bind fun t183 => (if t183 = true then ((impl_isPoint.f k l1).bind fun t184 => (if t184 = true then (impl_PlanesBetween.j0 k l0 l1 ((l0.length : Int) != (l1.length : Int))) else (impl_PlanesBetween.j0 k l0 l1 true))) else (impl_PlanesBetween.j0 k l0 l1 true))
theorem impl_PlanesBetween.mono_l : ∀ k, (∀ y0 y1 y2, LeO (impl_PlanesBetween.j0 k y0 y1 y2) (impl_PlanesBetween.j0 (k + 1) y0 y1 y2)) ∧ (∀ y0 y1 y2 y3 y4, LeO (impl_PlanesBetween.l0 k y0 y1 y2 y3 y4) (impl_PlanesBetween.l0 (k + 1) y0 y1 y2 y3 y4)) ∧ (∀ y0 y1 y2 y3 y4 y5 y6 y7, LeO (impl_PlanesBetween.l1 k y0 y1 y2 y3 y4 y5 y6 y7) (impl_PlanesBetween.l1 (k + 1) y0 y1 y2 y3 y4 y5 y6 y7)) ∧ (∀ y0 y1 y2 y3 y4 y5 y6 y7 y8 y9 y10 y11, LeO (impl_PlanesBetween.l2 k y0 y1 y2 y3 y4 y5 y6 y7 y8 y9 y10 y11) (impl_PlanesBetween.l2 (k + 1) y0 y1 y2 y3 y4 y5 y6 y7 y8 y9 y10 y11))
 | 0 => ⟨fun _ _ _ r h => by simp [impl_PlanesBetween.j0] at h, fun _ _ _ _ _ r h => by simp [impl_PlanesBetween.l0] at h, fun _ _ _ _ _ _ _ _ r h => by simp [impl_PlanesBetween.l1] at h, fun _ _ _ _ _ _ _ _ _ _ _ _ r h => by simp [impl_PlanesBetween.l2] at h⟩
 | k + 1 => by
  obtain ⟨ih0, ih1, ih2, ih3⟩ := impl_PlanesBetween.mono_l k
  refine ⟨?_, ?_, ?_, ?_⟩
  ·
   intro y0 y1 y2
   unfold impl_PlanesBetween.j0
   repeat' (with_reducible first | exact ih0 _ _ _ | exact ih1 _ _ _ _ _ | exact ih2 _ _ _ _ _ _ _ _ | exact ih3 _ _ _ _ _ _ _ _ _ _ _ _ | exact impl_isPoint.mono _ _ | exact LeO.refl _ | exact LeO.none _ | refine LeO.ite ?_ ?_ | refine LeO.bind ?_ (fun _ => ?_))
  ·
   intro y0 y1 y2 y3 y4
   unfold impl_PlanesBetween.l0
   repeat' (with_reducible first | exact ih0 _ _ _ | exact ih1 _ _ _ _ _ | exact ih2 _ _ _ _ _ _ _ _ | exact ih3 _ _ _ _ _ _ _ _ _ _ _ _ | exact impl_isPoint.mono _ _ | exact LeO.refl _ | exact LeO.none _ | refine LeO.ite ?_ ?_ | refine LeO.bind ?_ (fun _ => ?_))
  ·
   intro y0 y1 y2 y3 y4 y5 y6 y7
   unfold impl_PlanesBetween.l1
   repeat' (with_reducible first | exact ih0 _ _ _ | exact ih1 _ _ _ _ _ | exact ih2 _ _ _ _ _ _ _ _ | exact ih3 _ _ _ _ _ _ _ _ _ _ _ _ | exact impl_isPoint.mono _ _ | exact LeO.refl _ | exact LeO.none _ | refine LeO.ite ?_ ?_ | refine LeO.bind ?_ (fun _ => ?_))
  ·
   intro y0 y1 y2 y3 y4 y5 y6 y7 y8 y9 y10 y11
   unfold impl_PlanesBetween.l2
   repeat' (with_reducible first | exact ih0 _ _ _ | exact ih1 _ _ _ _ _ | exact ih2 _ _ _ _ _ _ _ _ | exact ih3 _ _ _ _ _ _ _ _ _ _ _ _ | exact impl_isPoint.mono _ _ | exact LeO.refl _ | exact LeO.none _ | refine LeO.ite ?_ ?_ | refine LeO.bind ?_ (fun _ => ?_))
theorem impl_PlanesBetween.mono : ∀ a0 a1 k, LeO (impl_PlanesBetween.f k a0 a1) (impl_PlanesBetween.f (k + 1) a0 a1) := by
 intro a0 a1 k
 obtain ⟨ih0, ih1, ih2, ih3⟩ := impl_PlanesBetween.mono_l k
 unfold impl_PlanesBetween.f
 repeat' (with_reducible first | exact ih0 _ _ _ | exact ih1 _ _ _ _ _ | exact ih2 _ _ _ _ _ _ _ _ | exact ih3 _ _ _ _ _ _ _ _ _ _ _ _ | exact impl_isPoint.mono _ _ | exact LeO.refl _ | exact LeO.none _ | refine LeO.ite ?_ ?_ | refine LeO.bind ?_ (fun _ => ?_))
theorem impl_PlanesBetween.calls (k : Nat) (A0 : Option Addr) (c0 : Nat) (l0 : List Int) (A1 : Option Addr) (c1 : Nat) (l1 : List Int) (r1 : Int) (r2 : Bool) (w : World) (hr0 : Kd.C (Kd.int .i64) w A0 l0.length l0) (hc0 : l0.length ≤ c0) (hr1 : Kd.C (Kd.int .i64) w A1 l1.length l1) (hc1 : l1.length ≤ c1) (h : impl_PlanesBetween.f k l0 l1 = some (r1, r2)) :
  Calls Try.prog 6 #[.slice A0 l0.length c0, .slice A1 l1.length c1] w fun e w' => e = .returned (.tuple #[.int .i64 r1, .bool r2]) ∧ Below w.heap.size w w' := by
 have HR0 := Aside0.mk hr0
 have HC0 := Aside0.mk hc0
 clear hr0 hc0
 have HR1 := Aside0.mk hr1
 have HC1 := Aside0.mk hc1
 clear hr1 hc1
 have HB := Aside0.mk (Below.refl w.heap.size w)
 unfold impl_PlanesBetween.f at h
 have H := h; clear h
 have HC3 := Aside0.mk H
 clear H
 go_enter Try.func6, Try.ntmps6
 go_upto_region 1 with (fail)
 repeat (go_quiet (fail); try go_upto_region 1 with (fail))
 go_cut [25] (fun v25 wc => ∃ (kq : Nat) (x25_2 : Bool), v25 = .bool x25_2 ∧ Aside0 (impl_PlanesBetween.j0 kq l0 l1 x25_2 = some (r1, r2)) ∧ Aside0 (kq ≤ k) ∧ Aside0 (Below w.heap.size w wc))
 case first =>
  have H := HC3.out
  clear HC3
  obtain ⟨t183, A4, H⟩ := ob_ H
  by_cases c5 : t183 = true
  ·
   subst c5
   rw [if_pos rfl] at H
   obtain ⟨t184, A6, H⟩ := ob_ H
   by_cases c7 : t184 = true
   ·
    subst c7
    rw [if_pos rfl] at H
    have H' := Aside0.mk H
    clear H; have zz_ := trivial
    repeat (clear zz_; go_wp2_with (first | (go_at_call 21; (with_reducible refine (impl_isPoint.calls k _ _ l0 true _ ?s1 ?s2 A4.out).mono ?_); (case s1 => exact qe02_ HR0.out); (case s2 => exact HC0.out); rintro e w8 ⟨rfl, hb⟩; replace HB := Aside0.mk (below_step q0c4_ hb); clear hb) | (go_at_call 21; (with_reducible refine (impl_isPoint.calls k _ _ l1 true _ ?s1 ?s2 A6.out).mono ?_); (case s1 => exact qe02_ HR1.out); (case s2 => exact HC1.out); rintro e w9 ⟨rfl, hb⟩; replace HB := Aside0.mk (below_step q0c4_ hb); clear hb)); try (go_quiet (fail); have zz_ := trivial))
    go_meet
    case rel => exact ⟨_, (((l0.length : Int) != (l1.length : Int))), qc8f_, H', ⟨q821_⟩, ⟨q0c4_⟩⟩
   ·
    replace c7 := Bool.eq_false_iff.mpr c7
    subst c7
    rw [if_neg nf_] at H
    have H' := Aside0.mk H
    clear H; have zz_ := trivial
    repeat (clear zz_; go_wp2_with (first | (go_at_call 21; (with_reducible refine (impl_isPoint.calls k _ _ l0 true _ ?s1 ?s2 A4.out).mono ?_); (case s1 => exact qe02_ HR0.out); (case s2 => exact HC0.out); rintro e w10 ⟨rfl, hb⟩; replace HB := Aside0.mk (below_step q0c4_ hb); clear hb) | (go_at_call 21; (with_reducible refine (impl_isPoint.calls k _ _ l1 false _ ?s1 ?s2 A6.out).mono ?_); (case s1 => exact qe02_ HR1.out); (case s2 => exact HC1.out); rintro e w11 ⟨rfl, hb⟩; replace HB := Aside0.mk (below_step q0c4_ hb); clear hb)); try (go_quiet (fail); have zz_ := trivial))
    go_meet
    case rel => exact ⟨_, (true), qc8f_, H', ⟨q821_⟩, ⟨q0c4_⟩⟩
  ·
   replace c5 := Bool.eq_false_iff.mpr c5
   subst c5
   rw [if_neg nf_] at H
   have H' := Aside0.mk H
   clear H; have zz_ := trivial
   repeat (clear zz_; go_wp2_with (first | (go_at_call 21; (with_reducible refine (impl_isPoint.calls k _ _ l0 false _ ?s1 ?s2 A4.out).mono ?_); (case s1 => exact qe02_ HR0.out); (case s2 => exact HC0.out); rintro e w12 ⟨rfl, hb⟩; replace HB := Aside0.mk (below_step q0c4_ hb); clear hb)); try (go_quiet (fail); have zz_ := trivial))
   go_meet
   case rel => exact ⟨_, (true), qc8f_, H', ⟨q821_⟩, ⟨q0c4_⟩⟩
 case rest =>
  clear HC3; try clear c1; try clear p2; try clear c5; try clear c6; try clear c7
  obtain ⟨kq, x25_2, rfl, HA, HJ2, HB⟩ := hcut
  cases kq with
  | zero => exact absurd HA.out (by simp [impl_PlanesBetween.j0])
  | succ kj2 =>
   have H := HA.out
   clear HA
   simp only [impl_PlanesBetween.j0] at H
   by_cases c13 : x25_2 = true
   ·
    subst c13
    rw [if_pos rfl] at H
    simp only [Option.some.injEq, Prod.mk.injEq] at H
    obtain ⟨rfl, rfl⟩ := H
    go_wp2
    repeat (go_quiet (fail); try go_wp2)
    go_ret2
    exact ⟨qce7_, q0c4_⟩
   ·
    replace c13 := Bool.eq_false_iff.mpr c13
    subst c13
    rw [if_neg nf_] at H
    have H' := Aside0.mk H
    clear H
    go_wp2
    repeat (go_quiet (fail); try go_wp2)
    go_loopg [6, 28] kj2 (fun kq v6 v28 w' => ∃ (x6_2 : Int) (x28_2 : Int), v6 = .int .i64 x6_2 ∧ v28 = .int .i64 x28_2 ∧ Aside0 (impl_PlanesBetween.l0 kq l0 l1 x6_2 (l0.length : Int) x28_2 = some (r1, r2)) ∧ Aside0 (kq ≤ kj2) ∧ Aside0 (Below w.heap.size w w'))
    case atStart => exact ⟨(0), (0), qc8f_, qc8f_, H', ⟨Nat.le_refl _⟩, ⟨q0c4_⟩⟩
    case round =>
     clear H'; try clear c1; try clear p2; try clear c5; try clear c6; try clear c7; try clear c13; try clear p2
     obtain ⟨x6_2, x28_2, rfl, rfl, HA, HK2, HB⟩ := hrel
     cases gk with
     | zero => exact absurd HA.out (by simp [impl_PlanesBetween.l0])
     | succ k2 =>
      have H := HA.out
      clear HA
      simp only [impl_PlanesBetween.l0] at H
      by_cases c14 : x28_2 < (l0.length : Int)
      ·
       rw [if_pos c14] at H
       have c14b0 := decide_eq_true c14
       clear c14
       have H' := Aside0.mk H
       clear H
       go_wp2
       repeat (go_quiet (fail); try go_wp2)
       go_loopg [6, 32] k2 (fun kq v6 v32 w' => ∃ (x6_3 : Int) (x32_3 : Int), v6 = .int .i64 x6_3 ∧ v32 = .int .i64 x32_3 ∧ Aside0 (impl_PlanesBetween.l1 kq l0 l1 x6_3 x28_2 (l0.length : Int) x28_2 x28_2 x32_3 = some (r1, r2)) ∧ Aside0 (kq ≤ k2) ∧ Aside0 (Below w.heap.size w w'))
       case atStart => exact ⟨(x6_2), (0), qc8f_, qc8f_, H', ⟨Nat.le_refl _⟩, ⟨q0c4_⟩⟩
       case round =>
        clear H'; try clear c1; try clear p2; try clear c5; try clear c6; try clear c7; try clear c13; try clear c14; try clear c14b0; try clear p2
        obtain ⟨x6_3, x32_3, rfl, rfl, HA, HK3, HB⟩ := hrel
        cases gk with
        | zero => exact absurd HA.out (by simp [impl_PlanesBetween.l1])
        | succ k3 =>
         have H := HA.out
         clear HA
         simp only [impl_PlanesBetween.l1] at H
         by_cases c15 : x32_3 < x28_2
         ·
          rw [if_pos c15] at H
          have c15b0 := decide_eq_true c15
          clear c15
          obtain ⟨y185, hy185⟩ : ∃ y_ : List Int, y_ = (([0, 100] : List Int)) := ⟨_, rfl⟩
          replace H : (impl_PlanesBetween.l2 k3 l0 l1 x6_3 x28_2 x32_3 (l0.length : Int) x28_2 x28_2 x32_3 y185 (y185.length : Int) 0) = some (r1, r2) := by first | (rw [hy185]; with_reducible exact H) | (have H2_ := (Option.bind_some _ _).symm.trans H; rw [hy185]; with_reducible exact H2_) | (have H2_ := (Option.bind_some _ _).symm.trans H; with_reducible exact H2_) | with_reducible exact H | (rw [hy185]; exact H) | exact H
          have Ny185 := Aside0.mk hy185
          clear hy185
          have H' := Aside0.mk H
          clear H; have zz_ := trivial
          repeat (clear zz_; go_wp2_with (first | ((with_reducible refine gate_dst (N := 35) rfl ?_); (try (refine gate_guard (by rfl) ?_; dsimp only)); refine Kd.R_lit (Kd.int .i64) _ 3 ?hg (N := 35) ?hd (xs := ([0, 100] : List Int)) (inner := [.int .i64 0, .int .i64 100]) (ok := fun _ => True) (okp := fun _ => True) ?hr ?hp (fun _ hk => hk) trivial (Below.refl _ _) (Nat.le_refl _) (by simp) ?_; (case hd => rfl); (case hg => rfl); (case hr => exact qfba_); (case hp => exact (Reps.one (show Kd.M (Kd.int .i64) _ _ _ 0 [.int .i64 0] from rfl) (Reps.one (show Kd.M (Kd.int .i64) _ _ _ 100 [.int .i64 100] from rfl) (Reps.none _ _)))); intro v186 w16 ho17 hb hg_ hnew_; clear hg_ hnew_; (first | rw [← Ny185.out] at ho17 | (simp only [Int.reduceToNat] at ho17; rw [← Ny185.out] at ho17)); have HO187 := Aside0.mk (Kd.R_lower ho17 (below_size q0c4_)); replace HB := Aside0.mk (below_step q0c4_ hb); clear hb ho17; obtain ⟨Ao18, co18, eo18⟩ := Kd.R_slice HO187.out; subst eo18)); try (go_quiet (fail); have zz_ := trivial))
          go_loopg [6, 37] k3 (fun kq v6 v37 w' => ∃ (x6_4 : Int) (x37_4 : Int), v6 = .int .i64 x6_4 ∧ v37 = .int .i64 x37_4 ∧ Aside0 (impl_PlanesBetween.l2 kq l0 l1 x6_4 x28_2 x32_3 (l0.length : Int) x28_2 x28_2 x32_3 y185 (y185.length : Int) x37_4 = some (r1, r2)) ∧ Aside0 (kq ≤ k3) ∧ Aside0 (Kd.R (Kd.int .i64) 3 w' w.heap.size (fun _ => True) (.slice Ao18 y185.length co18) y185) ∧ Aside0 (Below w.heap.size w w'))
          case atStart => exact ⟨(x6_3), (0), qc8f_, qc8f_, H', ⟨Nat.le_refl _⟩, ⟨q9d5_ HO187.out⟩, ⟨q0c4_⟩⟩
          case round =>
           clear H'; try clear c1; try clear p2; try clear c5; try clear c6; try clear c7; try clear c13; try clear c14; try clear c14b0; try clear c15; try clear c15b0; try clear p2
           obtain ⟨x6_4, x37_4, rfl, rfl, HA, HK4, HO_35, HB⟩ := hrel
           cases gk with
           | zero => exact absurd HA.out (by simp [impl_PlanesBetween.l2])
           | succ k4 =>
            have H := HA.out
            clear HA
            simp only [impl_PlanesBetween.l2] at H
            by_cases c19 : x37_4 < (y185.length : Int)
            ·
             rw [if_pos c19] at H
             have c19b0 := decide_eq_true c19
             clear c19
             by_cases c20 : 0 ≤ x37_4
             ·
              rw [if_pos c20] at H
              have c20b0 := decide_eq_true c20
              clear c20
              by_cases c21 : x37_4 < (y185.length : Int)
              ·
               rw [if_pos c21] at H
               have c21b0 := decide_eq_true c21
               clear c21
               by_cases c22 : 0 ≤ x32_3
               ·
                rw [if_pos c22] at H
                have c22b0 := decide_eq_true c22
                clear c22
                by_cases c23 : x32_3 < (l0.length : Int)
                ·
                 rw [if_pos c23] at H
                 have c23b0 := decide_eq_true c23
                 clear c23
                 by_cases c24 : 0 ≤ x28_2
                 ·
                  rw [if_pos c24] at H
                  have c24b0 := decide_eq_true c24
                  clear c24
                  by_cases c25 : x28_2 < (l0.length : Int)
                  ·
                   rw [if_pos c25] at H
                   have c25b0 := decide_eq_true c25
                   clear c25
                   by_cases c26 : x32_3 < (l1.length : Int)
                   ·
                    rw [if_pos c26] at H
                    have c26b0 := decide_eq_true c26
                    clear c26
                    by_cases c27 : x28_2 < (l1.length : Int)
                    ·
                     rw [if_pos c27] at H
                     have c27b0 := decide_eq_true c27
                     clear c27
                     by_cases c28 : ((decide ((wrap64 ((rd l0 x32_3) - (rd l0 x28_2))) > (rd y185 x37_4))) != (decide ((wrap64 ((rd l1 x32_3) - (rd l1 x28_2))) > (rd y185 x37_4)))) = true
                     ·
                      rw [if_pos c28] at H
                      have c28b0 : ((decide ((wrap64 ((rd l0 x32_3) - (rd l0 x28_2))) > (rd y185 x37_4))) != (decide ((wrap64 ((rd l1 x32_3) - (rd l1 x28_2))) > (rd y185 x37_4)))) = true := c28
                      (try (have c28b1 : decide ((decide ((wrap64 ((rd l0 x32_3) - (rd l0 x28_2))) > (rd y185 x37_4))) = (decide ((wrap64 ((rd l1 x32_3) - (rd l1 x28_2))) > (rd y185 x37_4)))) = false := by simpa using c28))
                      (try (have c28b2 : ((decide ((wrap64 ((rd l0 x32_3) - (rd l0 x28_2))) > (rd y185 x37_4))) == (decide ((wrap64 ((rd l1 x32_3) - (rd l1 x28_2))) > (rd y185 x37_4)))) = false := by simpa using c28))
                      (try (have c28b3 : ¬ ((decide ((wrap64 ((rd l0 x32_3) - (rd l0 x28_2))) > (rd y185 x37_4))) = (decide ((wrap64 ((rd l1 x32_3) - (rd l1 x28_2))) > (rd y185 x37_4)))) := by simpa using c28))
                      clear c28
                      have H' := Aside0.mk H
                      clear H
                      have p188 : 0 ≤ (x37_4 : Int) := of_decide_eq_true qe84_
                      have q188 : x37_4 < (y185.length : Int) := of_decide_eq_true qe84_
                      obtain ⟨ad188, e188, hx188_0⟩ := Kd.at_int (Kd.R_reads' HO_35.out).2.2 x37_4 p188 q188
                      cases e188
                      replace p188 := eq_true p188
                      replace q188 := eq_true q188
                      have p189 : 0 ≤ (x32_3 : Int) := of_decide_eq_true qe84_
                      have q189 : x32_3 < (l0.length : Int) := of_decide_eq_true qe84_
                      obtain ⟨ad189, e189, hx189_0⟩ := Kd.at_int HR0.out x32_3 p189 q189
                      cases e189
                      (try (replace hx189_0 := (HB.out.cell (World.block_lt_of_cell? w _ hx189_0)).trans hx189_0))
                      replace p189 := eq_true p189
                      replace q189 := eq_true q189
                      have p190 : 0 ≤ (x28_2 : Int) := of_decide_eq_true qe84_
                      have q190 : x28_2 < (l0.length : Int) := of_decide_eq_true qe84_
                      obtain ⟨ad190, e190, hx190_0⟩ := Kd.at_int HR0.out x28_2 p190 q190
                      obtain rfl : ad189 = ad190 := (by injection e190)
                      (try (replace hx190_0 := (HB.out.cell (World.block_lt_of_cell? w _ hx190_0)).trans hx190_0))
                      replace p190 := eq_true p190
                      replace q190 := eq_true q190
                      have p191 : 0 ≤ (x32_3 : Int) := of_decide_eq_true qe84_
                      have q191 : x32_3 < (l1.length : Int) := of_decide_eq_true qe84_
                      obtain ⟨ad191, e191, hx191_0⟩ := Kd.at_int HR1.out x32_3 p191 q191
                      cases e191
                      (try (replace hx191_0 := (HB.out.cell (World.block_lt_of_cell? w _ hx191_0)).trans hx191_0))
                      replace p191 := eq_true p191
                      replace q191 := eq_true q191
                      have p192 : 0 ≤ (x28_2 : Int) := of_decide_eq_true qe84_
                      have q192 : x28_2 < (l1.length : Int) := of_decide_eq_true qe84_
                      obtain ⟨ad192, e192, hx192_0⟩ := Kd.at_int HR1.out x28_2 p192 q192
                      obtain rfl : ad191 = ad192 := (by injection e192)
                      (try (replace hx192_0 := (HB.out.cell (World.block_lt_of_cell? w _ hx192_0)).trans hx192_0))
                      replace p192 := eq_true p192
                      replace q192 := eq_true q192
                      go_wp2
                      repeat (go_quiet (fail); try go_wp2)
                      go_roundg k4
                      case measure => have := HJ2.out; have := HK2.out; have := HK3.out; have := HK4.out; omega
                      case rel => exact ⟨(wrap64 (x6_4 + 1)), (wrap64 (x37_4 + 1)), qc8f_, qc8f_, H', ⟨by have := HJ2.out; have := HK2.out; have := HK3.out; have := HK4.out; omega⟩, ⟨q9d5_ HO_35.out⟩, ⟨q0c4_⟩⟩
                     ·
                      rw [if_neg c28] at H
                      have c28b0 : ((decide ((wrap64 ((rd l0 x32_3) - (rd l0 x28_2))) > (rd y185 x37_4))) != (decide ((wrap64 ((rd l1 x32_3) - (rd l1 x28_2))) > (rd y185 x37_4)))) = false := by simpa using c28
                      (try (have c28b1 : decide ((decide ((wrap64 ((rd l0 x32_3) - (rd l0 x28_2))) > (rd y185 x37_4))) = (decide ((wrap64 ((rd l1 x32_3) - (rd l1 x28_2))) > (rd y185 x37_4)))) = true := by simpa using c28))
                      (try (have c28b2 : ((decide ((wrap64 ((rd l0 x32_3) - (rd l0 x28_2))) > (rd y185 x37_4))) == (decide ((wrap64 ((rd l1 x32_3) - (rd l1 x28_2))) > (rd y185 x37_4)))) = true := by simpa using c28))
                      clear c28
                      have H' := Aside0.mk H
                      clear H
                      have p188 : 0 ≤ (x37_4 : Int) := of_decide_eq_true qe84_
                      have q188 : x37_4 < (y185.length : Int) := of_decide_eq_true qe84_
                      obtain ⟨ad188, e188, hx188_0⟩ := Kd.at_int (Kd.R_reads' HO_35.out).2.2 x37_4 p188 q188
                      cases e188
                      replace p188 := eq_true p188
                      replace q188 := eq_true q188
                      have p189 : 0 ≤ (x32_3 : Int) := of_decide_eq_true qe84_
                      have q189 : x32_3 < (l0.length : Int) := of_decide_eq_true qe84_
                      obtain ⟨ad189, e189, hx189_0⟩ := Kd.at_int HR0.out x32_3 p189 q189
                      cases e189
                      (try (replace hx189_0 := (HB.out.cell (World.block_lt_of_cell? w _ hx189_0)).trans hx189_0))
                      replace p189 := eq_true p189
                      replace q189 := eq_true q189
                      have p190 : 0 ≤ (x28_2 : Int) := of_decide_eq_true qe84_
                      have q190 : x28_2 < (l0.length : Int) := of_decide_eq_true qe84_
                      obtain ⟨ad190, e190, hx190_0⟩ := Kd.at_int HR0.out x28_2 p190 q190
                      obtain rfl : ad189 = ad190 := (by injection e190)
                      (try (replace hx190_0 := (HB.out.cell (World.block_lt_of_cell? w _ hx190_0)).trans hx190_0))
                      replace p190 := eq_true p190
                      replace q190 := eq_true q190
                      have p191 : 0 ≤ (x32_3 : Int) := of_decide_eq_true qe84_
                      have q191 : x32_3 < (l1.length : Int) := of_decide_eq_true qe84_
                      obtain ⟨ad191, e191, hx191_0⟩ := Kd.at_int HR1.out x32_3 p191 q191
                      cases e191
                      (try (replace hx191_0 := (HB.out.cell (World.block_lt_of_cell? w _ hx191_0)).trans hx191_0))
                      replace p191 := eq_true p191
                      replace q191 := eq_true q191
                      have p192 : 0 ≤ (x28_2 : Int) := of_decide_eq_true qe84_
                      have q192 : x28_2 < (l1.length : Int) := of_decide_eq_true qe84_
                      obtain ⟨ad192, e192, hx192_0⟩ := Kd.at_int HR1.out x28_2 p192 q192
                      obtain rfl : ad191 = ad192 := (by injection e192)
                      (try (replace hx192_0 := (HB.out.cell (World.block_lt_of_cell? w _ hx192_0)).trans hx192_0))
                      replace p192 := eq_true p192
                      replace q192 := eq_true q192
                      go_wp2
                      repeat (go_quiet (fail); try go_wp2)
                      go_roundg k4
                      case measure => have := HJ2.out; have := HK2.out; have := HK3.out; have := HK4.out; omega
                      case rel => exact ⟨(x6_4), (wrap64 (x37_4 + 1)), qc8f_, qc8f_, H', ⟨by have := HJ2.out; have := HK2.out; have := HK3.out; have := HK4.out; omega⟩, ⟨q9d5_ HO_35.out⟩, ⟨q0c4_⟩⟩
                    ·
                     rw [if_neg c27] at H
                     exact absurd H (by simp)
                   ·
                    rw [if_neg c26] at H
                    exact absurd H (by simp)
                  ·
                   rw [if_neg c25] at H
                   exact absurd H (by simp)
                 ·
                  rw [if_neg c24] at H
                  exact absurd H (by simp)
                ·
                 rw [if_neg c23] at H
                 exact absurd H (by simp)
               ·
                rw [if_neg c22] at H
                exact absurd H (by simp)
              ·
               rw [if_neg c21] at H
               exact absurd H (by simp)
             ·
              rw [if_neg c20] at H
              exact absurd H (by simp)
            ·
             rw [if_neg c19] at H
             have c19b0 := decide_eq_false c19
             clear c19
             have H' := Aside0.mk H
             clear H
             go_wp2
             repeat (go_quiet (fail); try go_wp2)
             go_roundg k4
             case measure => have := HJ2.out; have := HK2.out; have := HK3.out; have := HK4.out; omega
             case rel => exact ⟨(x6_4), (wrap64 (x32_3 + 1)), qc8f_, qc8f_, H', ⟨by have := HJ2.out; have := HK2.out; have := HK3.out; have := HK4.out; omega⟩, ⟨q0c4_⟩⟩
         ·
          rw [if_neg c15] at H
          have c15b0 := decide_eq_false c15
          clear c15
          have H' := Aside0.mk H
          clear H
          go_wp2
          repeat (go_quiet (fail); try go_wp2)
          go_roundg k3
          case measure => have := HJ2.out; have := HK2.out; have := HK3.out; omega
          case rel => exact ⟨(x6_3), (wrap64 (x28_2 + 1)), qc8f_, qc8f_, H', ⟨q0e9_ HJ2.out HK2.out HK3.out⟩, ⟨q0c4_⟩⟩
      ·
       rw [if_neg c14] at H
       have c14b0 := decide_eq_false c14
       clear c14
       simp only [Option.some.injEq, Prod.mk.injEq] at H
       obtain ⟨rfl, rfl⟩ := H
       go_wp2
       repeat (go_quiet (fail); try go_wp2)
       go_ret2
       exact ⟨qce7_, q0c4_⟩

/-! ### spec_l1In: function 50 -/
def spec_l1In.f (a0 : Int) (a1 : Int) (a2 : Int) : Option (Bool) := if a0 ≥ a1 then (some (decide (a0 ≤ a2))) else (some false)
theorem spec_l1In.calls (a0 : Int) (a1 : Int) (a2 : Int) (r : Bool) (w : World) (h : spec_l1In.f a0 a1 a2 = some r) :
  Calls Try.prog 50 #[.int .i64 a0, .int .i64 a1, .int .i64 a2] w fun e w' => e = .returned (.bool r) ∧ Drawn0 w w' := by
 unfold spec_l1In.f at h
 have H := h; clear h
 by_cases c4 : a0 ≥ a1
 ·
  rw [if_pos c4] at H
  have c4b0 := decide_eq_true c4
  clear c4
  obtain rfl := Option.some.inj H
  go_enter Try.func50, Try.ntmps50
  go_wp2
  go_ret
  exact ⟨qc8f_, qffa_⟩
 ·
  rw [if_neg c4] at H
  have c4b0 := decide_eq_false c4
  clear c4
  obtain rfl := Option.some.inj H
  go_enter Try.func50, Try.ntmps50
  go_wp2
  go_ret
  exact ⟨qc8f_, qffa_⟩

/-! ### spec_l1All: function 36 -/
def spec_l1All.l0 : Nat → Int → Int → List Int → Int → Int → Option (Bool)
 | 0, _, _, _, _, _ => none
 | k + 1, x1, x2, x9, x10, x11 => if x11 < x10 then (if 0 ≤ x11 then (if x11 < (x9.length : Int) then ((spec_l1In.f (rd x9 x11) x1 x2).bind fun t194 => (if t194 = true then (spec_l1All.l0 k x1 x2 x9 x10 (wrap64 (x11 + 1))) else (some false))) else (none)) else (none)) else (some true)
def spec_l1All.f (k : Nat) (l0 : List Int) (a1 : Int) (a2 : Int) : Option (Bool) := spec_l1All.l0 k a1 a2 l0 (l0.length : Int) 0
theorem spec_l1All.mono_l : ∀ k, (∀ y0 y1 y2 y3 y4, LeO (spec_l1All.l0 k y0 y1 y2 y3 y4) (spec_l1All.l0 (k + 1) y0 y1 y2 y3 y4))
 | 0 => fun _ _ _ _ _ r h => by simp [spec_l1All.l0] at h
 | k + 1 => by
  have ih0 := spec_l1All.mono_l k
  ·
   intro y0 y1 y2 y3 y4
   unfold spec_l1All.l0
   repeat' (with_reducible first | exact ih0 _ _ _ _ _ | exact LeO.refl _ | exact LeO.none _ | refine LeO.ite ?_ ?_ | refine LeO.bind ?_ (fun _ => ?_))
theorem spec_l1All.mono : ∀ a0 a1 a2 k, LeO (spec_l1All.f k a0 a1 a2) (spec_l1All.f (k + 1) a0 a1 a2) := by
 intro a0 a1 a2 k
 have ih0 := spec_l1All.mono_l k
 unfold spec_l1All.f
 repeat' (with_reducible first | exact ih0 _ _ _ _ _ | exact LeO.refl _ | exact LeO.none _ | refine LeO.ite ?_ ?_ | refine LeO.bind ?_ (fun _ => ?_))
theorem spec_l1All.calls (k : Nat) (A0 : Option Addr) (c0 : Nat) (l0 : List Int) (a1 : Int) (a2 : Int) (r : Bool) (w : World) (hr0 : Kd.C (Kd.int .i64) w A0 l0.length l0) (hc0 : l0.length ≤ c0) (h : spec_l1All.f k l0 a1 a2 = some r) :
  Calls Try.prog 36 #[.slice A0 l0.length c0, .int .i64 a1, .int .i64 a2] w fun e w' => e = .returned (.bool r) ∧ Drawn0 w w' := by
 have HR0 := Aside0.mk hr0
 have HC0 := Aside0.mk hc0
 clear hr0 hc0
 unfold spec_l1All.f at h
 have H := h; clear h
 have H' := Aside0.mk H
 clear H
 go_enter Try.func36, Try.ntmps36
 go_wp2
 go_loopg [11] k (fun kq v11 w' => ∃ (x11_1 : Int), v11 = .int .i64 x11_1 ∧ Aside0 (spec_l1All.l0 kq a1 a2 l0 (l0.length : Int) x11_1 = some r) ∧ Aside0 (kq ≤ k) ∧ Drawn0 w w')
 case atStart => exact ⟨(0), qc8f_, H', ⟨Nat.le_refl _⟩, qffa_⟩
 case round =>
  clear H'; try clear p2; try clear c3
  obtain ⟨x11_1, rfl, HA, HK1, ⟨m1, rfl⟩⟩ := hrel
  cases gk with
  | zero => exact absurd HA.out (by simp [spec_l1All.l0])
  | succ k1 =>
   have H := HA.out
   clear HA
   simp only [spec_l1All.l0] at H
   by_cases c4 : x11_1 < (l0.length : Int)
   ·
    rw [if_pos c4] at H
    have c4b0 := decide_eq_true c4
    clear c4
    by_cases c5 : 0 ≤ x11_1
    ·
     rw [if_pos c5] at H
     have c5b0 := decide_eq_true c5
     clear c5
     by_cases c6 : x11_1 < (l0.length : Int)
     ·
      rw [if_pos c6] at H
      have c6b0 := decide_eq_true c6
      clear c6
      obtain ⟨t194, A7, H⟩ := ob_ H
      by_cases c8 : t194 = true
      ·
       subst c8
       rw [if_pos rfl] at H
       have H' := Aside0.mk H
       clear H
       have p193 : 0 ≤ (x11_1 : Int) := of_decide_eq_true qe84_
       have q193 : x11_1 < (l0.length : Int) := of_decide_eq_true qe84_
       obtain ⟨ad193, e193, hx193_0⟩ := Kd.at_int HR0.out x11_1 p193 q193
       cases e193
       replace p193 := eq_true p193
       replace q193 := eq_true q193
       go_wp2_with (first | ((with_reducible refine gate_callee (f := 50) rfl ?_); refine gl_ 18 Try.func50 #[.int .i64 (rd l0 x11_1), .int .i64 a1, .int .i64 a2] ?_; (with_reducible refine (spec_l1In.calls (rd l0 x11_1) a1 a2 true _ A7.out).mono ?_); rintro e w' ⟨rfl, ⟨nd, rfl⟩⟩; refine ⟨_, rfl, ?_⟩))
       go_roundg k1
       case measure => have := HK1.out; omega
       case rel => exact ⟨(wrap64 (x11_1 + 1)), qc8f_, H', ⟨by have := HK1.out; omega⟩, qffa_⟩
      ·
       replace c8 := Bool.eq_false_iff.mpr c8
       subst c8
       rw [if_neg nf_] at H
       obtain rfl := Option.some.inj H
       have p193 : 0 ≤ (x11_1 : Int) := of_decide_eq_true qe84_
       have q193 : x11_1 < (l0.length : Int) := of_decide_eq_true qe84_
       obtain ⟨ad193, e193, hx193_0⟩ := Kd.at_int HR0.out x11_1 p193 q193
       cases e193
       replace p193 := eq_true p193
       replace q193 := eq_true q193
       go_wp2_with (first | ((with_reducible refine gate_callee (f := 50) rfl ?_); refine gl_ 18 Try.func50 #[.int .i64 (rd l0 x11_1), .int .i64 a1, .int .i64 a2] ?_; (with_reducible refine (spec_l1In.calls (rd l0 x11_1) a1 a2 false _ A7.out).mono ?_); rintro e w' ⟨rfl, ⟨nd, rfl⟩⟩; refine ⟨_, rfl, ?_⟩))
       go_ret
       exact ⟨qc8f_, qffa_⟩
     ·
      rw [if_neg c6] at H
      exact absurd H (by simp)
    ·
     rw [if_neg c5] at H
     exact absurd H (by simp)
   ·
    rw [if_neg c4] at H
    have c4b0 := decide_eq_false c4
    clear c4
    obtain rfl := Option.some.inj H
    go_wp2
    go_ret
    exact ⟨qc8f_, qffa_⟩

/-! ### spec_rePoint: function 22 -/
mutual
def spec_rePoint.j0 : Nat → List Int → Bool → Option (Bool)
 | 0, _, _ => none
 | k + 1, x0, x12 => if x12 = true then (some false) else (spec_rePoint.l0 k x0 (x0.length : Int) 0)
def spec_rePoint.l0 : Nat → List Int → Int → Int → Option (Bool)
 | 0, _, _, _ => none
 | k + 1, x0, x14, x15 => if x15 < x14 then (spec_rePoint.l1 k x0 x15 (wrap64 (x15 + 1)) x14 x15) else (some true)
def spec_rePoint.l1 : Nat → List Int → Int → Int → Int → Int → Option (Bool)
 | 0, _, _, _, _, _ => none
 | k + 1, x0, x3, x4, x14, x15 => if x4 < (x0.length : Int) then (if 0 ≤ x3 then (if x3 < (x0.length : Int) then (if 0 ≤ x4 then (if (rd x0 x3) = (rd x0 x4) then (some false) else (if (wrap64 ((rd x0 x3) - (rd x0 x4))) = 100 then (some false) else (spec_rePoint.l1 k x0 x3 (wrap64 (x4 + 1)) x14 x15))) else (none)) else (none)) else (none)) else (spec_rePoint.l0 k x0 x14 (wrap64 (x15 + 1)))
end
def spec_rePoint.f (k : Nat) (l0 : List Int) : Option (Bool) := if (l0.length : Int) > 8 then (spec_rePoint.j0 k l0 true) else ((spec_l1All.f k l0 (-100000) 100000).bind fun t195 => (spec_rePoint.j0 k l0 (!t195)))
theorem spec_rePoint.mono_l : ∀ k, (∀ y0 y1, LeO (spec_rePoint.j0 k y0 y1) (spec_rePoint.j0 (k + 1) y0 y1)) ∧ (∀ y0 y1 y2, LeO (spec_rePoint.l0 k y0 y1 y2) (spec_rePoint.l0 (k + 1) y0 y1 y2)) ∧ (∀ y0 y1 y2 y3 y4, LeO (spec_rePoint.l1 k y0 y1 y2 y3 y4) (spec_rePoint.l1 (k + 1) y0 y1 y2 y3 y4))
 | 0 => ⟨fun _ _ r h => by simp [spec_rePoint.j0] at h, fun _ _ _ r h => by simp [spec_rePoint.l0] at h, fun _ _ _ _ _ r h => by simp [spec_rePoint.l1] at h⟩
 | k + 1 => by
  obtain ⟨ih0, ih1, ih2⟩ := spec_rePoint.mono_l k
  refine ⟨?_, ?_, ?_⟩
  ·
   intro y0 y1
   unfold spec_rePoint.j0
   repeat' (with_reducible first | exact ih0 _ _ | exact ih1 _ _ _ | exact ih2 _ _ _ _ _ | exact spec_l1All.mono _ _ _ _ | exact LeO.refl _ | exact LeO.none _ | refine LeO.ite ?_ ?_ | refine LeO.bind ?_ (fun _ => ?_))
  ·
   intro y0 y1 y2
   unfold spec_rePoint.l0
   repeat' (with_reducible first | exact ih0 _ _ | exact ih1 _ _ _ | exact ih2 _ _ _ _ _ | exact spec_l1All.mono _ _ _ _ | exact LeO.refl _ | exact LeO.none _ | refine LeO.ite ?_ ?_ | refine LeO.bind ?_ (fun _ => ?_))
  ·
   intro y0 y1 y2 y3 y4
   unfold spec_rePoint.l1
   repeat' (with_reducible first | exact ih0 _ _ | exact ih1 _ _ _ | exact ih2 _ _ _ _ _ | exact spec_l1All.mono _ _ _ _ | exact LeO.refl _ | exact LeO.none _ | refine LeO.ite ?_ ?_ | refine LeO.bind ?_ (fun _ => ?_))
theorem spec_rePoint.mono : ∀ a0 k, LeO (spec_rePoint.f k a0) (spec_rePoint.f (k + 1) a0) := by
 intro a0 k
 obtain ⟨ih0, ih1, ih2⟩ := spec_rePoint.mono_l k
 unfold spec_rePoint.f
 repeat' (with_reducible first | exact ih0 _ _ | exact ih1 _ _ _ | exact ih2 _ _ _ _ _ | exact spec_l1All.mono _ _ _ _ | exact LeO.refl _ | exact LeO.none _ | refine LeO.ite ?_ ?_ | refine LeO.bind ?_ (fun _ => ?_))
theorem spec_rePoint.calls (k : Nat) (A0 : Option Addr) (c0 : Nat) (l0 : List Int) (r : Bool) (w : World) (hr0 : Kd.C (Kd.int .i64) w A0 l0.length l0) (hc0 : l0.length ≤ c0) (h : spec_rePoint.f k l0 = some r) :
  Calls Try.prog 22 #[.slice A0 l0.length c0] w fun e w' => e = .returned (.bool r) ∧ Drawn0 w w' := by
 have HR0 := Aside0.mk hr0
 have HC0 := Aside0.mk hc0
 clear hr0 hc0
 unfold spec_rePoint.f at h
 have H := h; clear h
 have HC2 := Aside0.mk H
 clear H
 go_enter Try.func22, Try.ntmps22
 go_upto_region 1 with (fail)
 repeat (go_quiet (fail); try go_upto_region 1 with (fail))
 go_cut [12] (fun v12 wc => ∃ (kq : Nat) (x12_1 : Bool), v12 = .bool x12_1 ∧ Aside0 (spec_rePoint.j0 kq l0 x12_1 = some r) ∧ Aside0 (kq ≤ k) ∧ Drawn0 w wc)
 case first =>
  have H := HC2.out
  clear HC2
  by_cases c3 : (l0.length : Int) > 8
  ·
   rw [if_pos c3] at H
   have c3b0 := decide_eq_true c3
   have c3b1 : decide (8 < l0.length) = true := decide_eq_true (by omega)
   clear c3
   (first | rw [c3b0] | (simp only [i64_w, i32_w]; rw [c3b0]) | skip)
   have H' := Aside0.mk H
   clear H
   go_wp2
   repeat (go_quiet (fail); try go_wp2)
   go_meet
   case rel => exact ⟨_, (true), qc8f_, H', ⟨q821_⟩, qffa_⟩
  ·
   rw [if_neg c3] at H
   have c3b0 := decide_eq_false c3
   have c3b1 : decide (8 < l0.length) = false := decide_eq_false (by omega)
   clear c3
   (first | rw [c3b0] | (simp only [i64_w, i32_w]; rw [c3b0]) | skip)
   obtain ⟨t195, A4, H⟩ := ob_ H
   have H' := Aside0.mk H
   clear H; have zz_ := trivial
   repeat (clear zz_; go_wp2_with (first | (go_at_call 36; (with_reducible refine (spec_l1All.calls k _ _ l0 (-100000) 100000 t195 _ ?s1 ?s2 A4.out).mono ?_); (case s1 => exact q201_ HR0.out); (case s2 => exact HC0.out); rintro e w' ⟨rfl, ⟨nd, rfl⟩⟩; (try exact q447_))); try (go_quiet ((go_at_call 36; (with_reducible refine (spec_l1All.calls k _ _ l0 (-100000) 100000 t195 _ ?s1 ?s2 A4.out).mono ?_); (case s1 => exact q201_ HR0.out); (case s2 => exact HC0.out); rintro e w' ⟨rfl, ⟨nd, rfl⟩⟩; (try exact q447_))); have zz_ := trivial))
   go_meet
   case rel => exact ⟨_, (!t195), qc8f_, H', ⟨q821_⟩, qffa_⟩
 case rest =>
  clear HC2; try clear c2; try clear p2; try clear c3; try clear c3b0; try clear c3b1
  obtain ⟨kq, x12_1, rfl, HA, HJ1, ⟨mc1, rfl⟩⟩ := hcut
  cases kq with
  | zero => exact absurd HA.out (by simp [spec_rePoint.j0])
  | succ kj1 =>
   have H := HA.out
   clear HA
   simp only [spec_rePoint.j0] at H
   by_cases c5 : x12_1 = true
   ·
    subst c5
    rw [if_pos rfl] at H
    obtain rfl := Option.some.inj H
    go_wp2
    repeat (go_quiet (fail); try go_wp2)
    go_ret
    exact ⟨qc8f_, qffa_⟩
   ·
    replace c5 := Bool.eq_false_iff.mpr c5
    subst c5
    rw [if_neg nf_] at H
    have H' := Aside0.mk H
    clear H
    go_wp2
    repeat (go_quiet (fail); try go_wp2)
    go_loopg [15] kj1 (fun kq v15 w' => ∃ (x15_2 : Int), v15 = .int .i64 x15_2 ∧ Aside0 (spec_rePoint.l0 kq l0 (l0.length : Int) x15_2 = some r) ∧ Aside0 (kq ≤ kj1) ∧ Drawn0 w w')
    case atStart => exact ⟨(0), qc8f_, H', ⟨Nat.le_refl _⟩, qffa_⟩
    case round =>
     clear H'; try clear c1; try clear c2; try clear p2; try clear c3; try clear c3b0; try clear c3b1; try clear c5; try clear p2
     obtain ⟨x15_2, rfl, HA, HK2, ⟨m2, rfl⟩⟩ := hrel
     cases gk with
     | zero => exact absurd HA.out (by simp [spec_rePoint.l0])
     | succ k2 =>
      have H := HA.out
      clear HA
      simp only [spec_rePoint.l0] at H
      by_cases c6 : x15_2 < (l0.length : Int)
      ·
       rw [if_pos c6] at H
       have c6b0 := decide_eq_true c6
       clear c6
       have H' := Aside0.mk H
       clear H
       go_wp2
       repeat (go_quiet (fail); try go_wp2)
       go_loopg [4] k2 (fun kq v4 w' => ∃ (x4_3 : Int), v4 = .int .i64 x4_3 ∧ Aside0 (spec_rePoint.l1 kq l0 x15_2 x4_3 (l0.length : Int) x15_2 = some r) ∧ Aside0 (kq ≤ k2) ∧ Drawn0 w w')
       case atStart => exact ⟨(wrap64 (x15_2 + 1)), qc8f_, H', ⟨Nat.le_refl _⟩, qffa_⟩
       case round =>
        clear H'; try clear c1; try clear c2; try clear p2; try clear c3; try clear c3b0; try clear c3b1; try clear c5; try clear c6; try clear c6b0; try clear p6; try clear p2
        obtain ⟨x4_3, rfl, HA, HK3, ⟨m3, rfl⟩⟩ := hrel
        cases gk with
        | zero => exact absurd HA.out (by simp [spec_rePoint.l1])
        | succ k3 =>
         have H := HA.out
         clear HA
         simp only [spec_rePoint.l1] at H
         by_cases c7 : x4_3 < (l0.length : Int)
         ·
          rw [if_pos c7] at H
          have c7b0 := decide_eq_true c7
          clear c7
          by_cases c8 : 0 ≤ x15_2
          ·
           rw [if_pos c8] at H
           have c8b0 := decide_eq_true c8
           clear c8
           by_cases c9 : x15_2 < (l0.length : Int)
           ·
            rw [if_pos c9] at H
            have c9b0 := decide_eq_true c9
            clear c9
            by_cases c10 : 0 ≤ x4_3
            ·
             rw [if_pos c10] at H
             have c10b0 := decide_eq_true c10
             clear c10
             by_cases c11 : (rd l0 x15_2) = (rd l0 x4_3)
             ·
              rw [if_pos c11] at H
              have c11b0 := beq_iff_eq.mpr c11
              have c11b1 := bne_eq_false_iff_eq.mpr c11
              clear c11
              obtain rfl := Option.some.inj H
              have p196 : 0 ≤ (x15_2 : Int) := of_decide_eq_true qe84_
              have q196 : x15_2 < (l0.length : Int) := of_decide_eq_true qe84_
              obtain ⟨ad196, e196, hx196_0⟩ := Kd.at_int HR0.out x15_2 p196 q196
              cases e196
              replace p196 := eq_true p196
              replace q196 := eq_true q196
              have p197 : 0 ≤ (x4_3 : Int) := of_decide_eq_true qe84_
              have q197 : x4_3 < (l0.length : Int) := of_decide_eq_true qe84_
              obtain ⟨ad197, e197, hx197_0⟩ := Kd.at_int HR0.out x4_3 p197 q197
              obtain rfl : ad196 = ad197 := (by injection e197)
              replace p197 := eq_true p197
              replace q197 := eq_true q197
              go_wp2
              repeat (go_quiet (fail); try go_wp2)
              go_ret
              exact ⟨qc8f_, qffa_⟩
             ·
              rw [if_neg c11] at H
              have c11b0 := beq_eq_false_iff_ne.mpr c11
              have c11b1 := bne_iff_ne.mpr c11
              by_cases c12 : (wrap64 ((rd l0 x15_2) - (rd l0 x4_3))) = 100
              ·
               rw [if_pos c12] at H
               have c12b0 := beq_iff_eq.mpr c12
               have c12b1 := bne_eq_false_iff_eq.mpr c12
               clear c12
               obtain rfl := Option.some.inj H
               have p196 : 0 ≤ (x15_2 : Int) := of_decide_eq_true qe84_
               have q196 : x15_2 < (l0.length : Int) := of_decide_eq_true qe84_
               obtain ⟨ad196, e196, hx196_0⟩ := Kd.at_int HR0.out x15_2 p196 q196
               cases e196
               replace p196 := eq_true p196
               replace q196 := eq_true q196
               have p197 : 0 ≤ (x4_3 : Int) := of_decide_eq_true qe84_
               have q197 : x4_3 < (l0.length : Int) := of_decide_eq_true qe84_
               obtain ⟨ad197, e197, hx197_0⟩ := Kd.at_int HR0.out x4_3 p197 q197
               obtain rfl : ad196 = ad197 := (by injection e197)
               replace p197 := eq_true p197
               replace q197 := eq_true q197
               have p198 : 0 ≤ (x15_2 : Int) := of_decide_eq_true qe84_
               have q198 : x15_2 < (l0.length : Int) := of_decide_eq_true qe84_
               obtain ⟨ad198, e198, hx198_0⟩ := Kd.at_int HR0.out x15_2 p198 q198
               obtain rfl : ad196 = ad198 := (by injection e198)
               replace p198 := eq_true p198
               replace q198 := eq_true q198
               have p199 : 0 ≤ (x4_3 : Int) := of_decide_eq_true qe84_
               have q199 : x4_3 < (l0.length : Int) := of_decide_eq_true qe84_
               obtain ⟨ad199, e199, hx199_0⟩ := Kd.at_int HR0.out x4_3 p199 q199
               obtain rfl : ad196 = ad199 := (by injection e199)
               replace p199 := eq_true p199
               replace q199 := eq_true q199
               go_wp2
               repeat (go_quiet (fail); try go_wp2)
               go_ret
               exact ⟨qc8f_, qffa_⟩
              ·
               rw [if_neg c12] at H
               have c12b0 := beq_eq_false_iff_ne.mpr c12
               have c12b1 := bne_iff_ne.mpr c12
               have H' := Aside0.mk H
               clear H
               have p196 : 0 ≤ (x15_2 : Int) := of_decide_eq_true qe84_
               have q196 : x15_2 < (l0.length : Int) := of_decide_eq_true qe84_
               obtain ⟨ad196, e196, hx196_0⟩ := Kd.at_int HR0.out x15_2 p196 q196
               cases e196
               replace p196 := eq_true p196
               replace q196 := eq_true q196
               have p197 : 0 ≤ (x4_3 : Int) := of_decide_eq_true qe84_
               have q197 : x4_3 < (l0.length : Int) := of_decide_eq_true qe84_
               obtain ⟨ad197, e197, hx197_0⟩ := Kd.at_int HR0.out x4_3 p197 q197
               obtain rfl : ad196 = ad197 := (by injection e197)
               replace p197 := eq_true p197
               replace q197 := eq_true q197
               have p198 : 0 ≤ (x15_2 : Int) := of_decide_eq_true qe84_
               have q198 : x15_2 < (l0.length : Int) := of_decide_eq_true qe84_
               obtain ⟨ad198, e198, hx198_0⟩ := Kd.at_int HR0.out x15_2 p198 q198
               obtain rfl : ad196 = ad198 := (by injection e198)
               replace p198 := eq_true p198
               replace q198 := eq_true q198
               have p199 : 0 ≤ (x4_3 : Int) := of_decide_eq_true qe84_
               have q199 : x4_3 < (l0.length : Int) := of_decide_eq_true qe84_
               obtain ⟨ad199, e199, hx199_0⟩ := Kd.at_int HR0.out x4_3 p199 q199
               obtain rfl : ad196 = ad199 := (by injection e199)
               replace p199 := eq_true p199
               replace q199 := eq_true q199
               go_wp2
               repeat (go_quiet (fail); try go_wp2)
               go_roundg k3
               case measure => have := HJ1.out; have := HK2.out; have := HK3.out; omega
               case rel => exact ⟨(wrap64 (x4_3 + 1)), qc8f_, H', ⟨q0e9_ HJ1.out HK2.out HK3.out⟩, qffa_⟩
            ·
             rw [if_neg c10] at H
             exact absurd H (by simp)
           ·
            rw [if_neg c9] at H
            exact absurd H (by simp)
          ·
           rw [if_neg c8] at H
           exact absurd H (by simp)
         ·
          rw [if_neg c7] at H
          have c7b0 := decide_eq_false c7
          clear c7
          have H' := Aside0.mk H
          clear H
          go_wp2
          repeat (go_quiet (fail); try go_wp2)
          go_roundg k3
          case measure => have := HJ1.out; have := HK2.out; have := HK3.out; omega
          case rel => exact ⟨(wrap64 (x15_2 + 1)), qc8f_, H', ⟨q0e9_ HJ1.out HK2.out HK3.out⟩, qffa_⟩
      ·
       rw [if_neg c6] at H
       have c6b0 := decide_eq_false c6
       clear c6
       obtain rfl := Option.some.inj H
       go_wp2
       repeat (go_quiet (fail); try go_wp2)
       go_ret
       exact ⟨qc8f_, qffa_⟩

end Go.Proofs.Ytgfedgnpffockaa.PAll
