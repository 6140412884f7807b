-- written by a program of this session (wip/gen/xpatch.py over the translation); Lean checks it
import Derived.Test.YtleemfmhilhklaaGreatPAllx0
import Derived.Test.YtleemfmhilhklaaGreatPAllx1
namespace Go.Proofs.YtleemfmhilhklaaGreat.PAll
open Go.RowKit Go.Proofs.YtleemfmhilhklaaGreat.Hand Go.Proofs.YtleemfmhilhklaaGreatW.PrintWords Go.Proofs.YtleemfmhilhklaaGreatW.PrintLast Go.Proofs.YtleemfmhilhklaaGreatW.PrintMore
attribute [local go_sem] max2_int min2_int max_two min_two max_three min_three max_four min_four   -- for this text's walks alone
set_option maxHeartbeats 8000000
set_option maxRecDepth 100000
set_option linter.unusedVariables false
set_option linter.unusedSimpArgs false

/-! ### spec_paOutcome: function 46 -/
mutual
def spec_paOutcome.j0 : Nat → List Int → Bool → Option (Bool)
 | 0, _, _ => none
 | k + 1, x0, x15 => if x15 = true then (some false) else (spec_paOutcome.l0 k x0 x0 (x0.length : Int) 0)
def spec_paOutcome.l0 : Nat → List Int → List Int → Int → Int → Option (Bool)
 | 0, _, _, _, _ => none
 | k + 1, x0, x16, x17, x18 => if x18 < x17 then (if 0 ≤ x18 then (if x18 < (x16.length : Int) then (if x18 ≤ (x0.length : Int) then ((spec_l1Has.f k (x0.take (x18 : Int).toNat) (rd x16 x18)).bind fun t208 => (if t208 = true then (some false) else (spec_paOutcome.l0 k x0 x16 x17 (wrap64 (x18 + 1))))) else (none)) else (none)) else (none)) else (some true)
end
def spec_paOutcome.f (k : Nat) (l0 : List Int) : Option (Bool) := if (l0.length : Int) > 8 then (spec_paOutcome.j0 k l0 true) else ((spec_l1All.f k l0 0 (wrap64 ((l0.length : Int) - 1))).bind fun t205 => (spec_paOutcome.j0 k l0 (!t205)))
theorem spec_paOutcome.mono_l : ∀ k, (∀ y0 y1, LeO (spec_paOutcome.j0 k y0 y1) (spec_paOutcome.j0 (k + 1) y0 y1)) ∧ (∀ y0 y1 y2 y3, LeO (spec_paOutcome.l0 k y0 y1 y2 y3) (spec_paOutcome.l0 (k + 1) y0 y1 y2 y3))
 | 0 => ⟨fun _ _ r h => by simp [spec_paOutcome.j0] at h, fun _ _ _ _ r h => by simp [spec_paOutcome.l0] at h⟩
 | k + 1 => by
  obtain ⟨ih0, ih1⟩ := spec_paOutcome.mono_l k
  refine ⟨?_, ?_⟩
  ·
   intro y0 y1
   unfold spec_paOutcome.j0
   repeat' (with_reducible first | exact ih0 _ _ | exact ih1 _ _ _ _ | exact spec_l1All.mono _ _ _ _ | exact spec_l1Has.mono _ _ _ | exact LeO.refl _ | exact LeO.none _ | refine LeO.ite ?_ ?_ | refine LeO.bind ?_ (fun _ => ?_))
  ·
   intro y0 y1 y2 y3
   unfold spec_paOutcome.l0
   repeat' (with_reducible first | exact ih0 _ _ | exact ih1 _ _ _ _ | exact spec_l1All.mono _ _ _ _ | exact spec_l1Has.mono _ _ _ | exact LeO.refl _ | exact LeO.none _ | refine LeO.ite ?_ ?_ | refine LeO.bind ?_ (fun _ => ?_))
theorem spec_paOutcome.mono : ∀ a0 k, LeO (spec_paOutcome.f k a0) (spec_paOutcome.f (k + 1) a0) := by
 intro a0 k
 obtain ⟨ih0, ih1⟩ := spec_paOutcome.mono_l k
 unfold spec_paOutcome.f
 repeat' (with_reducible first | exact ih0 _ _ | exact ih1 _ _ _ _ | exact spec_l1All.mono _ _ _ _ | exact spec_l1Has.mono _ _ _ | exact LeO.refl _ | exact LeO.none _ | refine LeO.ite ?_ ?_ | refine LeO.bind ?_ (fun _ => ?_))
theorem spec_paOutcome.calls (k : Nat) (A0 : Option Addr) (c0 : Nat) (l0 : List Int) (r : Bool) (w : World) (hr0 : Kd.C (Kd.int .i64) w A0 l0.length l0) (hc0 : l0.length ≤ c0) (h : spec_paOutcome.f k l0 = some r) :
  Calls Tryz.prog 46 #[.slice A0 l0.length c0] w fun e w' => e = .returned (.bool r) ∧ Drawn0 w w' := by
 have HR0 := Aside0.mk hr0
 have HC0 := Aside0.mk hc0
 clear hr0 hc0
 unfold spec_paOutcome.f at h
 have H := h; clear h
 have HC2 := Aside0.mk H
 clear H
 go_enter Tryz.func46, Tryz.ntmps46
 go_upto_region 1 with (fail)
 go_cut [15] (fun v15 wc => ∃ (kq : Nat) (x15_1 : Bool), v15 = .bool x15_1 ∧ Aside0 (spec_paOutcome.j0 kq l0 x15_1 = some r) ∧ Aside0 (kq ≤ k) ∧ Drawn0 w wc)
 case first =>
  have H := HC2.out
  clear HC2
  by_cases c3 : (l0.length : Int) > 8
  ·
   rw [if_pos c3] at H
   have c3b0 := decide_eq_true c3
   have c3b1 : decide (8 < l0.length) = true := decide_eq_true (by omega)
   clear c3
   (first | rw [c3b0] | (simp only [i64_w, i32_w]; rw [c3b0]) | skip)
   have H' := Aside0.mk H
   clear H
   go_wp2
   go_meet
   case rel => exact ⟨_, (true), qc8f_, H', ⟨q821_⟩, qffa_⟩
  ·
   rw [if_neg c3] at H
   have c3b0 := decide_eq_false c3
   have c3b1 : decide (8 < l0.length) = false := decide_eq_false (by omega)
   clear c3
   (first | rw [c3b0] | (simp only [i64_w, i32_w]; rw [c3b0]) | skip)
   obtain ⟨t205, A4, H⟩ := ob_ H
   have H' := Aside0.mk H
   clear H
   go_wp2_with (first | (go_at_call 51; (with_reducible refine (spec_l1All.calls k _ _ l0 0 (wrap64 ((l0.length : Int) - 1)) t205 _ ?s1 ?s2 A4.out).mono ?_); (case s1 => exact q201_ HR0.out); (case s2 => exact HC0.out); rintro e w' ⟨rfl, ⟨nd, rfl⟩⟩))
   go_meet
   case rel => exact ⟨_, (!t205), qc8f_, H', ⟨q821_⟩, qffa_⟩
 case rest =>
  clear HC2; try clear p2; try clear c3; try clear c3b0; try clear c3b1; try clear c4
  obtain ⟨kq, x15_1, rfl, HA, HJ1, ⟨mc1, rfl⟩⟩ := hcut
  cases kq with
  | zero => exact absurd HA.out (by simp [spec_paOutcome.j0])
  | succ kj1 =>
   have H := HA.out
   clear HA
   simp only [spec_paOutcome.j0] at H
   by_cases c5 : x15_1 = true
   ·
    subst c5
    rw [if_pos rfl] at H
    obtain rfl := Option.some.inj H
    go_wp2
    go_ret
    exact ⟨qc8f_, qffa_⟩
   ·
    replace c5 := Bool.eq_false_iff.mpr c5
    subst c5
    rw [if_neg nf_] at H
    have H' := Aside0.mk H
    clear H
    go_wp2
    go_loopg [18] kj1 (fun kq v18 w' => ∃ (x18_2 : Int), v18 = .int .i64 x18_2 ∧ Aside0 (spec_paOutcome.l0 kq l0 l0 (l0.length : Int) x18_2 = some r) ∧ Aside0 (kq ≤ kj1) ∧ Drawn0 w w')
    case atStart => exact ⟨(0), qc8f_, H', ⟨Nat.le_refl _⟩, qffa_⟩
    case round =>
     clear H'; try clear c1; try clear p2; try clear c3; try clear c3b0; try clear c3b1; try clear c4; try clear c5; try clear p2
     obtain ⟨x18_2, rfl, HA, HK2, ⟨m2, rfl⟩⟩ := hrel
     cases gk with
     | zero => exact absurd HA.out (by simp [spec_paOutcome.l0])
     | succ k2 =>
      have H := HA.out
      clear HA
      simp only [spec_paOutcome.l0] at H
      by_cases c6 : x18_2 < (l0.length : Int)
      ·
       rw [if_pos c6] at H
       have c6b0 := decide_eq_true c6
       clear c6
       by_cases c7 : 0 ≤ x18_2
       ·
        rw [if_pos c7] at H
        have c7b0 := decide_eq_true c7
        clear c7
        by_cases c8 : x18_2 < (l0.length : Int)
        ·
         rw [if_pos c8] at H
         have c8b0 := decide_eq_true c8
         clear c8
         have c9b0 := eq_true (of_decide_eq_true qe84_ : 0 ≤ x18_2)
         by_cases c10 : x18_2 ≤ (l0.length : Int)
         ·
          rw [if_pos c10] at H
          have c10b0 := eq_true c10
          have c10b1 := decide_eq_true c10
          clear c10
          obtain ⟨t208, A11, H⟩ := ob_ H
          by_cases c12 : t208 = true
          ·
           subst c12
           rw [if_pos rfl] at H
           obtain rfl := Option.some.inj H
           have p206 : 0 ≤ (x18_2 : Int) := of_decide_eq_true qe84_
           have q206 : x18_2 < (l0.length : Int) := of_decide_eq_true qe84_
           obtain ⟨ad206, e206, hx206_0⟩ := Kd.at_int HR0.out x18_2 p206 q206
           cases e206
           replace p206 := eq_true p206
           replace q206 := eq_true q206
           obtain ⟨i013, hi013, _, hsz13, _⟩ := info_parts info3
           obtain ⟨hcut13, hA13, hC13⟩ := print_take_of (P := Tryz.prog) (Value.int .i64) 0 24 3 .i64 Tryz.underlying24 hi013 hsz13 (some ad206) c0 l0 x18_2 (of_decide_eq_true qe84_) (of_decide_eq_true qe84_) HC0.out
           have HR207 := Aside0.mk (Kd.C_of_reads (h1 := fun _ => rfl) (hA13 _ (Kd.reads_of_C HR0.out)))
           have HC207 := Aside0.mk hC13
           clear hA13 hC13 hi013 hsz13
           go_wp2_with (first | ((with_reducible refine gate_callee (f := 36) rfl ?_); refine goesL_ (some 27) rfl rfl Tryz.func36 (by kernel_rfl) rfl #[.slice (some ad206) (l0.take (x18_2 : Int).toNat).length c0, .int .i64 (rd l0 x18_2)] rfl q8a0_ ?_; (with_reducible refine (spec_l1Has.calls k2 _ _ (l0.take (x18_2 : Int).toNat) (rd l0 x18_2) true _ ?s1 ?s2 A11.out).mono ?_); (case s1 => exact q201_ HR207.out); (case s2 => exact HC207.out); rintro e w' ⟨rfl, ⟨nd, rfl⟩⟩; refine ⟨_, rfl, ?_⟩))
           go_ret
           exact ⟨qc8f_, qffa_⟩
          ·
           replace c12 := Bool.eq_false_iff.mpr c12
           subst c12
           rw [if_neg nf_] at H
           have H' := Aside0.mk H
           clear H
           have p206 : 0 ≤ (x18_2 : Int) := of_decide_eq_true qe84_
           have q206 : x18_2 < (l0.length : Int) := of_decide_eq_true qe84_
           obtain ⟨ad206, e206, hx206_0⟩ := Kd.at_int HR0.out x18_2 p206 q206
           cases e206
           replace p206 := eq_true p206
           replace q206 := eq_true q206
           obtain ⟨i014, hi014, _, hsz14, _⟩ := info_parts info3
           obtain ⟨hcut14, hA14, hC14⟩ := print_take_of (P := Tryz.prog) (Value.int .i64) 0 24 3 .i64 Tryz.underlying24 hi014 hsz14 (some ad206) c0 l0 x18_2 (of_decide_eq_true qe84_) (of_decide_eq_true qe84_) HC0.out
           have HR207 := Aside0.mk (Kd.C_of_reads (h1 := fun _ => rfl) (hA14 _ (Kd.reads_of_C HR0.out)))
           have HC207 := Aside0.mk hC14
           clear hA14 hC14 hi014 hsz14
           go_wp2_with (first | ((with_reducible refine gate_callee (f := 36) rfl ?_); refine goesL_ (some 27) rfl rfl Tryz.func36 (by kernel_rfl) rfl #[.slice (some ad206) (l0.take (x18_2 : Int).toNat).length c0, .int .i64 (rd l0 x18_2)] rfl q8a0_ ?_; (with_reducible refine (spec_l1Has.calls k2 _ _ (l0.take (x18_2 : Int).toNat) (rd l0 x18_2) false _ ?s1 ?s2 A11.out).mono ?_); (case s1 => exact q201_ HR207.out); (case s2 => exact HC207.out); rintro e w' ⟨rfl, ⟨nd, rfl⟩⟩; refine ⟨_, rfl, ?_⟩))
           go_roundg k2
           case measure => have := HJ1.out; have := HK2.out; omega
           case rel => exact ⟨(wrap64 (x18_2 + 1)), qc8f_, H', ⟨q37b_ HJ1.out HK2.out⟩, qffa_⟩
         ·
          rw [if_neg c10] at H
          exact absurd H (by simp)
        ·
         rw [if_neg c8] at H
         exact absurd H (by simp)
       ·
        rw [if_neg c7] at H
        exact absurd H (by simp)
      ·
       rw [if_neg c6] at H
       have c6b0 := decide_eq_false c6
       clear c6
       obtain rfl := Option.some.inj H
       go_wp2
       go_ret
       exact ⟨qc8f_, qffa_⟩

/-! ### spec_l1Cur_unit: function 20 -/
mutual
def spec_l1Cur_unit.j0 : Nat → Int → List Int → Bool → List Int → Int → Int → Option (List Int × Int × Int)
 | 0, _, _, _, _, _, _ => none
 | k + 1, x3, x4, x20, x1000, x1001, x1002 => if x20 = true then ((spec_l1Cur_park.f k x1000 x1001 x1002 6).bind fun bt221 => (some (bt221.1, bt221.2.1, bt221.2.2))) else (if 0 ≤ x3 then (if (x3 : Int).toNat ≤ 35184372088832 then (spec_l1Cur_unit.l0 k (List.replicate (x3 : Int).toNat 0) 0 x4 (x4.length : Int) 0 x1000 x1001 x1002) else (none)) else (none))
def spec_l1Cur_unit.l0 : Nat → List Int → Int → List Int → Int → Int → List Int → Int → Int → Option (List Int × Int × Int)
 | 0, _, _, _, _, _, _, _, _ => none
 | k + 1, x5, x6, x25, x26, x27, x1000, x1001, x1002 => if x27 < x26 then (if 0 ≤ x27 then (if x27 < (x25.length : Int) then (if x27 > 0 then ((spec_l1Cur_one.f x1000 x1001 x1002 2).bind fun bt230 => (if bt230.1 = true then ((spec_l1Most.f (-1) 0).bind fun t233 => (if 0 ≤ (rd x25 x27) then (if (rd x25 x27) < (x5.length : Int) then (spec_l1Cur_unit.l0 k (x5.set ((rd x25 x27) : Int).toNat (wrap64 (x27 + t233))) x27 x25 x26 (wrap64 (x27 + 1)) x1000 bt230.2.1 bt230.2.2) else (none)) else (none))) else ((spec_l1Most.f (wrap64 ((wrap64 (x27 - x6)) - 1)) 0).bind fun t235 => (if 0 ≤ (rd x25 x27) then (if (rd x25 x27) < (x5.length : Int) then (spec_l1Cur_unit.l0 k (x5.set ((rd x25 x27) : Int).toNat (wrap64 (x6 + t235))) x6 x25 x26 (wrap64 (x27 + 1)) x1000 bt230.2.1 bt230.2.2) else (none)) else (none))))) else ((spec_l1Most.f (wrap64 ((wrap64 (x27 - x6)) - 1)) 0).bind fun t237 => (if 0 ≤ (rd x25 x27) then (if (rd x25 x27) < (x5.length : Int) then (spec_l1Cur_unit.l0 k (x5.set ((rd x25 x27) : Int).toNat (wrap64 (x6 + t237))) x6 x25 x26 (wrap64 (x27 + 1)) x1000 x1001 x1002) else (none)) else (none)))) else (none)) else (none)) else (some (x5, x1001, x1002))
end
def spec_l1Cur_unit.f (k : Nat) (s0_0 : List Int) (s0_1 : Int) (s0_2 : Int) : Option (List Int × Int × Int) := (spec_l1Cur_pick.f s0_0 s0_1 s0_2 9).bind fun bt209 => ((spec_l1Cur_outcome.f k s0_0 bt209.2.1 bt209.2.2 bt209.1).bind fun bt212 => ((spec_paOutcome.f k bt212.1).bind fun t217 => (if t217 = true then ((spec_l1Cur_one.f s0_0 bt212.2.1 bt212.2.2 6).bind fun bt218 => (spec_l1Cur_unit.j0 k bt209.1 bt212.1 bt218.1 s0_0 bt218.2.1 bt218.2.2)) else (spec_l1Cur_unit.j0 k bt209.1 bt212.1 true s0_0 bt212.2.1 bt212.2.2))))
theorem spec_l1Cur_unit.mono_l : ∀ k, (∀ y0 y1 y2 y3 y4 y5, LeO (spec_l1Cur_unit.j0 k y0 y1 y2 y3 y4 y5) (spec_l1Cur_unit.j0 (k + 1) y0 y1 y2 y3 y4 y5)) ∧ (∀ y0 y1 y2 y3 y4 y5 y6 y7, LeO (spec_l1Cur_unit.l0 k y0 y1 y2 y3 y4 y5 y6 y7) (spec_l1Cur_unit.l0 (k + 1) y0 y1 y2 y3 y4 y5 y6 y7))
 | 0 => ⟨fun _ _ _ _ _ _ r h => by simp [spec_l1Cur_unit.j0] at h, fun _ _ _ _ _ _ _ _ r h => by simp [spec_l1Cur_unit.l0] at h⟩
 | k + 1 => by
  obtain ⟨ih0, ih1⟩ := spec_l1Cur_unit.mono_l k
  refine ⟨?_, ?_⟩
  ·
   intro y0 y1 y2 y3 y4 y5
   unfold spec_l1Cur_unit.j0
   repeat' (with_reducible first | exact ih0 _ _ _ _ _ _ | exact ih1 _ _ _ _ _ _ _ _ | exact spec_l1Cur_outcome.mono _ _ _ _ _ | exact spec_l1Cur_park.mono _ _ _ _ _ | exact spec_paOutcome.mono _ _ | exact LeO.refl _ | exact LeO.none _ | refine LeO.ite ?_ ?_ | refine LeO.bind ?_ (fun _ => ?_))
  ·
   intro y0 y1 y2 y3 y4 y5 y6 y7
   unfold spec_l1Cur_unit.l0
   repeat' (with_reducible first | exact ih0 _ _ _ _ _ _ | exact ih1 _ _ _ _ _ _ _ _ | exact spec_l1Cur_outcome.mono _ _ _ _ _ | exact spec_l1Cur_park.mono _ _ _ _ _ | exact spec_paOutcome.mono _ _ | exact LeO.refl _ | exact LeO.none _ | refine LeO.ite ?_ ?_ | refine LeO.bind ?_ (fun _ => ?_))
theorem spec_l1Cur_unit.mono : ∀ a0 a1 a2 k, LeO (spec_l1Cur_unit.f k a0 a1 a2) (spec_l1Cur_unit.f (k + 1) a0 a1 a2) := by
 intro a0 a1 a2 k
 obtain ⟨ih0, ih1⟩ := spec_l1Cur_unit.mono_l k
 unfold spec_l1Cur_unit.f
 repeat' (with_reducible first | exact ih0 _ _ _ _ _ _ | exact ih1 _ _ _ _ _ _ _ _ | exact spec_l1Cur_outcome.mono _ _ _ _ _ | exact spec_l1Cur_park.mono _ _ _ _ _ | exact spec_paOutcome.mono _ _ | exact LeO.refl _ | exact LeO.none _ | refine LeO.ite ?_ ?_ | refine LeO.bind ?_ (fun _ => ?_))
theorem spec_l1Cur_unit.calls (k : Nat) (g : Nat) (s0_0 : List Int) (s0_1 : Int) (s0_2 : Int) (r1 : List Int) (r2 : Int) (r3 : Int) (w0 w : World) (hI : IsS46 w0 w g s0_0 s0_1 s0_2) (hB : Below w0.heap.size w0 w) (h : spec_l1Cur_unit.f k s0_0 s0_1 s0_2 = some (r1, r2, r3)) :
  Calls Tryz.prog 20 #[.pointer (some ⟨g, 0, none⟩)] w fun e w' => ∃ v0_ : Value, e = .returned (v0_) ∧ Kd.R (Kd.int .i64) 3 w' w.heap.size (fun _ => True) v0_ r1 ∧ IsS46 w0 w' g s0_0 r2 r3 ∧ Below w0.heap.size w0 w' ∧ KeepBut w w' g none := by
 have HI0 := Aside0.mk hI
 have HK := Aside0.mk (KeepBut.refl w g none)
 have HL := Aside0.mk hB.size
 clear hI
 have HW0 := Aside0.mk hB.size
 have HB := Aside0.mk hB
 clear hB
 unfold spec_l1Cur_unit.f at h
 have H := h; clear h
 obtain ⟨⟨t209, t210, t211⟩, A2, H⟩ := ob_ H
 dsimp only at H
 obtain ⟨⟨t212, t215, t216⟩, A3, H⟩ := ob_ H
 dsimp only at H
 have HC4 := Aside0.mk H
 clear H
 go_enter Tryz.func20, Tryz.ntmps20
 go_upto_region 3 with (first | ((with_reducible refine gate_callee (f := 34) rfl ?_); refine gl_ 10 Tryz.func34 #[.pointer (some ⟨g, 0, none⟩), .int .i64 9] ?_; (with_reducible refine (spec_l1Cur_pick.calls g s0_0 s0_1 s0_2 9 t209 t210 t211 w0 _ ?s1 ?s2 A2.out).mono ?_); (case s1 => exact qdc6_ HI0.out); (case s2 => exact q59b_ HI0.out); rintro e w5 ⟨rfl, hi, hb, hk⟩; refine ⟨_, rfl, ?_⟩; replace HK := Aside0.mk (KeepBut.trans q1d6_ hk (.inl rfl)); replace HB := Aside0.mk (hb); replace HI0 := Aside0.mk (hi); clear hb hk hi) | ((with_reducible refine gate_callee (f := 33) rfl ?_); refine gl_ 13 Tryz.func33 #[.pointer (some ⟨g, 0, none⟩), .int .i64 t209] ?_; (with_reducible refine (spec_l1Cur_outcome.calls k g s0_0 t210 t211 t209 t212 t215 t216 w0 _ ?s1 ?s2 A3.out).mono ?_); (case s1 => exact qdc6_ HI0.out); (case s2 => exact q59b_ HI0.out); rintro e w6 ⟨v213, rfl, ho0, hi, hb, hk⟩; refine ⟨_, rfl, ?_⟩; have HO214 := Aside0.mk (Kd.R_lower ho0 (keep_size (w := w) (g := g) (row := none) q1d6_)); replace HK := Aside0.mk (KeepBut.trans q1d6_ hk (.inl rfl)); replace HB := Aside0.mk (hb); replace HI0 := Aside0.mk (hi); clear hb hk hi ho0))
 (try simp only [Act.put, List.setIfInBounds_toArray, List.set_cons_zero, List.set_cons_succ])
 go_cut [20] (fun v20 wc => ∃ (kq : Nat) (x20_3 : Bool) (x1001_3 : Int) (x1002_3 : Int), v20 = .bool x20_3 ∧ Aside0 (spec_l1Cur_unit.j0 kq t209 t212 x20_3 s0_0 x1001_3 x1002_3 = some (r1, r2, r3)) ∧ Aside0 (kq ≤ k) ∧ Aside0 (Kd.R (Kd.int .i64) 3 wc w.heap.size (fun _ => True) v213 t212) ∧ Aside0 (IsS46 w0 wc g s0_0 x1001_3 x1002_3) ∧ Aside0 (KeepBut w wc g none) ∧ Aside0 (Below w0.heap.size w0 wc))
 case first =>
  have H := HC4.out
  clear HC4
  obtain ⟨t217, A7, H⟩ := ob_ H
  by_cases c8 : t217 = true
  ·
   subst c8
   rw [if_pos rfl] at H
   obtain ⟨⟨t218, t219, t220⟩, A9, H⟩ := ob_ H
   dsimp only at H
   have H' := Aside0.mk H
   clear H
   obtain ⟨Ao10, co10, eo10⟩ := Kd.R_slice HO214.out
   subst eo10
   go_wp2_with (first | ((with_reducible refine gate_callee (f := 46) rfl ?_); refine gl_ 15 Tryz.func46 #[.slice Ao10 t212.length co10] ?_; (with_reducible refine (spec_paOutcome.calls k _ _ t212 true _ ?s1 ?s2 A7.out).mono ?_); (case s1 => exact q5a8_ HO214.out); (case s2 => exact (Kd.R_reads' HO214.out).2.1); rintro e w' ⟨rfl, ⟨nd, rfl⟩⟩; refine ⟨_, rfl, ?_⟩) | (go_at_call 32; (with_reducible refine (spec_l1Cur_one.calls g s0_0 t215 t216 6 t218 t219 t220 w0 _ ?s1 ?s2 A9.out).mono ?_); (case s1 => exact qdc6_ HI0.out); (case s2 => exact q59b_ HI0.out); rintro e w11 ⟨rfl, hi, hb, hk⟩; replace HO214 := Aside0.mk (Kd.R_mono (Kd.R_keep (IsS46.apart (show IsS46 w0 _ g s0_0 t215 t216 from qdc6_ HI0.out) (q9d5_ HO214.out) (by decide)) hk (fun _ h => h.2)) (fun _ h => h.1)); replace HK := Aside0.mk (KeepBut.trans q1d6_ hk (.inl rfl)); replace HB := Aside0.mk (hb); replace HI0 := Aside0.mk (hi); clear hb hk hi))
   go_meet
   case rel => exact ⟨_, (t218), (t219), (t220), qc8f_, H', ⟨q821_⟩, ⟨q9d5_ HO214.out⟩, ⟨qdc6_ HI0.out⟩, ⟨q1d6_⟩, ⟨q59b_ HI0.out⟩⟩
  ·
   replace c8 := Bool.eq_false_iff.mpr c8
   subst c8
   rw [if_neg nf_] at H
   have H' := Aside0.mk H
   clear H
   obtain ⟨Ao12, co12, eo12⟩ := Kd.R_slice HO214.out
   subst eo12
   go_wp2_with (first | ((with_reducible refine gate_callee (f := 46) rfl ?_); refine gl_ 15 Tryz.func46 #[.slice Ao12 t212.length co12] ?_; (with_reducible refine (spec_paOutcome.calls k _ _ t212 false _ ?s1 ?s2 A7.out).mono ?_); (case s1 => exact q5a8_ HO214.out); (case s2 => exact (Kd.R_reads' HO214.out).2.1); rintro e w' ⟨rfl, ⟨nd, rfl⟩⟩; refine ⟨_, rfl, ?_⟩))
   go_meet
   case rel => exact ⟨_, (true), (t215), (t216), qc8f_, H', ⟨q821_⟩, ⟨q9d5_ HO214.out⟩, ⟨qdc6_ HI0.out⟩, ⟨q1d6_⟩, ⟨q59b_ HI0.out⟩⟩
 case rest =>
  clear HC4; try clear c2; try clear p2; try clear c3; try clear c4; try clear c8
  obtain ⟨kq, x20_3, x1001_3, x1002_3, rfl, HA, HJ3, HO_4, HI0, HK, HB⟩ := hcut
  cases kq with
  | zero => exact absurd HA.out (by simp [spec_l1Cur_unit.j0])
  | succ kj3 =>
   have H := HA.out
   clear HA
   simp only [spec_l1Cur_unit.j0] at H
   by_cases c13 : x20_3 = true
   ·
    subst c13
    rw [if_pos rfl] at H
    obtain ⟨⟨t221, t224, t225⟩, A14, H⟩ := ob_ H
    dsimp only at H
    simp only [Option.some.injEq, Prod.mk.injEq] at H
    obtain ⟨rfl, rfl, rfl⟩ := H
    go_wp2_with (first | ((with_reducible refine gate_callee (f := 39) rfl ?_); refine gl_ 22 Tryz.func39 #[.pointer (some ⟨g, 0, none⟩), .int .i64 6] ?_; (with_reducible refine (spec_l1Cur_park.calls kj3 g s0_0 x1001_3 x1002_3 6 t221 t224 t225 w0 _ ?s1 ?s2 A14.out).mono ?_); (case s1 => exact qdc6_ HI0.out); (case s2 => exact q59b_ HI0.out); rintro e w15 ⟨v222, rfl, ho0, hi, hb, hk⟩; refine ⟨_, rfl, ?_⟩; have n0_ := Aside0.mk (Kd.R_mono (Kd.R_told (Kd.R_oldK (IsS46.apart (show IsS46 w0 _ g s0_0 x1001_3 x1002_3 from qdc6_ HI0.out) (q9d5_ HO_4.out) (by decide)) hk) (Kd.R_base ho0)) (fun _ h_ => h_.1)); have n1_ := Aside0.mk (Kd.R_lower (Kd.R_new' ho0 (Kd.R_lt (q9d5_ HO_4.out))) (keep_size (w := w) (g := g) (row := none) q1d6_)); have n2_ := Aside0.mk (KeepBut.trans q1d6_ hk (.inl rfl)); have n3_ := Aside0.mk (hb); have n4_ := Aside0.mk (hi); replace HO_4 := n0_; have HO223 := n1_; replace HK := n2_; replace HB := n3_; replace HI0 := n4_; clear n0_ n1_ n2_ n3_ n4_; clear hb hk hi ho0))
    go_ret
    exact ⟨_, qce7_, q7d9_ HO223.out, qdc6_ HI0.out, q59b_ HI0.out, q1d6_⟩
   ·
    replace c13 := Bool.eq_false_iff.mpr c13
    subst c13
    rw [if_neg nf_] at H
    by_cases c16 : 0 ≤ t209
    ·
     rw [if_pos c16] at H
     have c16b0 := eq_true c16
     have c16b1 := decide_eq_true c16
     clear c16
     by_cases c17 : (t209 : Int).toNat ≤ 35184372088832
     ·
      rw [if_pos c17] at H
      have c17b0 := eq_true c17
      have c17b1 := decide_eq_true c17
      clear c17
      obtain ⟨y226, hy226⟩ : ∃ y_ : List Int, y_ = (List.replicate (t209 : Int).toNat 0) := ⟨_, rfl⟩
      replace H : (spec_l1Cur_unit.l0 kj3 y226 0 t212 (t212.length : Int) 0 s0_0 x1001_3 x1002_3) = some (r1, r2, r3) := by first | (rw [hy226]; with_reducible exact H) | (have H2_ := (Option.bind_some _ _).symm.trans H; rw [hy226]; with_reducible exact H2_) | (have H2_ := (Option.bind_some _ _).symm.trans H; with_reducible exact H2_) | with_reducible exact H | (rw [hy226]; exact H) | exact H
      have Ny226 := Aside0.mk hy226
      clear hy226
      have H' := Aside0.mk H
      clear H
      go_wp2_with (first | ((with_reducible refine gate_dst (N := 24) rfl ?_); refine Kd.R_make (Kd.int .i64) _ 3 rfl (N := 24) rfl 24 _ _ rfl t209 rfl rfl Tryz.underlying24 (.int .i64 0) 8 info3 rfl (by decide) (by omega) 0 (ok := fun _ => True) (okp := fun _ => True) rfl (fun _ hk => hk) trivial (of_decide_eq_true qe84_) (Nat.le_trans (Nat.mul_le_mul_right _ (of_decide_eq_true qe84_ : t209.toNat ≤ 35184372088832)) (by omega)) (Below.refl _ _) (Nat.le_refl _) ?_; intro v227 w18 ho19 hb hg_ hnew_; clear hg_ hnew_; (first | rw [← Ny226.out] at ho19 | (simp only [Int.reduceToNat] at ho19; rw [← Ny226.out] at ho19)); have n0_ := Aside0.mk (Kd.R_elder' (q9d5_ HO_4.out) (Kd.R_base ho19) hb); have n1_ := Aside0.mk (Kd.R_lower (Kd.R_new' ho19 (Kd.R_lt (q9d5_ HO_4.out))) (keep_size (w := w) (g := g) (row := none) q1d6_)); have n2_ := Aside0.mk (IsS46.below (qdc6_ HI0.out) hb); have n3_ := Aside0.mk (KeepBut.trans q1d6_ (KeepBut.of_below hb g none) (.inl rfl)); have n4_ := Aside0.mk (below_step (q59b_ HI0.out) hb); replace HO_4 := n0_; have HO228 := n1_; replace HI0 := n2_; replace HK := n3_; replace HB := n4_; clear n0_ n1_ n2_ n3_ n4_; clear hb ho19; obtain ⟨Ao20, co20, eo20⟩ := Kd.R_slice HO_4.out; subst eo20))
      go_loopg [6, 27] kj3 (fun kq v6 v27 w' => ∃ (x5_2 : List Int) (x6_2 : Int) (x27_2 : Int) (x1001_2 : Int) (x1002_2 : Int), v6 = .int .i64 x6_2 ∧ v27 = .int .i64 x27_2 ∧ Aside0 (spec_l1Cur_unit.l0 kq x5_2 x6_2 t212 (t212.length : Int) x27_2 s0_0 x1001_2 x1002_2 = some (r1, r2, r3)) ∧ Aside0 (kq ≤ kj3) ∧ Aside0 (Kd.R (Kd.int .i64) 3 w' w.heap.size (fun k_ => some k_ ≠ ((.slice Ao20 t212.length co20) : Value).ownBlock) v227 x5_2) ∧ Aside0 (Kd.R (Kd.int .i64) 3 w' w.heap.size (fun k_ => some k_ ≠ (v227 : Value).ownBlock) (.slice Ao20 t212.length co20) t212) ∧ Aside0 (IsS46 w0 w' g s0_0 x1001_2 x1002_2) ∧ Aside0 (KeepBut w w' g none) ∧ Aside0 (Below w0.heap.size w0 w'))
      case atStart => exact ⟨(y226), (0), (0), (x1001_3), (x1002_3), qc8f_, qc8f_, H', ⟨Nat.le_refl _⟩, ⟨qe0f_ HO228.out⟩, ⟨qe0f_ HO_4.out⟩, ⟨qdc6_ HI0.out⟩, ⟨q1d6_⟩, ⟨q59b_ HI0.out⟩⟩
      case round =>
       clear H'; try clear c1; try clear c2; try clear p2; try clear c3; try clear c4; try clear c8; try clear c13; try clear c16; try clear c16b0; try clear c16b1; try clear c17; try clear c17b0; try clear c17b1; try clear c20; try clear p2
       obtain ⟨x5_2, x6_2, x27_2, x1001_2, x1002_2, rfl, rfl, HA, HK2, HO_5, HO_25, HI0, HK, HB⟩ := hrel
       cases gk with
       | zero => exact absurd HA.out (by simp [spec_l1Cur_unit.l0])
       | succ k2 =>
        have H := HA.out
        clear HA
        simp only [spec_l1Cur_unit.l0] at H
        by_cases c21 : x27_2 < (t212.length : Int)
        ·
         rw [if_pos c21] at H
         have c21b0 := decide_eq_true c21
         clear c21
         by_cases c22 : 0 ≤ x27_2
         ·
          rw [if_pos c22] at H
          have c22b0 := decide_eq_true c22
          clear c22
          by_cases c23 : x27_2 < (t212.length : Int)
          ·
           rw [if_pos c23] at H
           have c23b0 := decide_eq_true c23
           clear c23
           by_cases c24 : x27_2 > 0
           ·
            rw [if_pos c24] at H
            have c24b0 := decide_eq_true c24
            clear c24
            obtain ⟨⟨t230, t231, t232⟩, A25, H⟩ := ob_ H
            dsimp only at H
            by_cases c26 : t230 = true
            ·
             subst c26
             rw [if_pos rfl] at H
             obtain ⟨t233, A27, H⟩ := ob_ H
             by_cases c28 : 0 ≤ (rd t212 x27_2)
             ·
              rw [if_pos c28] at H
              have c28b0 := decide_eq_true c28
              clear c28
              by_cases c29 : (rd t212 x27_2) < (x5_2.length : Int)
              ·
               rw [if_pos c29] at H
               have c29b0 := decide_eq_true c29
               clear c29
               obtain ⟨y234, hy234⟩ : ∃ y_ : List Int, y_ = (x5_2.set ((rd t212 x27_2) : Int).toNat (wrap64 (x27_2 + t233))) := ⟨_, rfl⟩
               replace H : (spec_l1Cur_unit.l0 k2 y234 x27_2 t212 (t212.length : Int) (wrap64 (x27_2 + 1)) s0_0 t231 t232) = some (r1, r2, r3) := by first | (rw [hy234]; with_reducible exact H) | (have H2_ := (Option.bind_some _ _).symm.trans H; rw [hy234]; with_reducible exact H2_) | (have H2_ := (Option.bind_some _ _).symm.trans H; with_reducible exact H2_) | with_reducible exact H | (rw [hy234]; exact H) | exact H
               have Ny234 := Aside0.mk hy234
               clear hy234
               have H' := Aside0.mk H
               clear H
               have p229 : 0 ≤ (x27_2 : Int) := of_decide_eq_true qe84_
               have q229 : x27_2 < (t212.length : Int) := of_decide_eq_true qe84_
               obtain ⟨ad229, e229, hx229_0⟩ := Kd.at_int (Kd.R_reads' HO_25.out).2.2 x27_2 p229 q229
               cases e229
               replace p229 := eq_true p229
               replace q229 := eq_true q229
               go_wp2_with (first | (go_at_call 32; (with_reducible refine (spec_l1Cur_one.calls g s0_0 x1001_2 x1002_2 2 true t231 t232 w0 _ ?s1 ?s2 A25.out).mono ?_); (case s1 => exact qdc6_ HI0.out); (case s2 => exact q59b_ HI0.out); rintro e w31 ⟨rfl, hi, hb, hk⟩; replace HO_5 := Aside0.mk (Kd.R_mono (Kd.R_keep (IsS46.apart (show IsS46 w0 _ g s0_0 x1001_2 x1002_2 from qdc6_ HI0.out) (q9d5_ HO_5.out) (by decide)) hk (fun _ h => h.2)) (fun _ h => h.1)); replace HO_25 := Aside0.mk (Kd.R_mono (Kd.R_keep (IsS46.apart (show IsS46 w0 _ g s0_0 x1001_2 x1002_2 from qdc6_ HI0.out) (q9d5_ HO_25.out) (by decide)) hk (fun _ h => h.2)) (fun _ h => h.1)); replace HK := Aside0.mk (KeepBut.trans q1d6_ hk (.inl rfl)); replace HB := Aside0.mk (hb); replace HI0 := Aside0.mk (hi); clear hb hk hi) | ((with_reducible refine gate_callee (f := 37) rfl ?_); refine gl_ 46 Tryz.func37 #[.int .i64 (-1), .int .i64 0] ?_; (with_reducible refine (spec_l1Most.calls (-1) 0 t233 _ A27.out).mono ?_); rintro e w' ⟨rfl, ⟨nd, rfl⟩⟩; refine ⟨_, rfl, ?_⟩; (try (rw [drewN_self w31]; generalize hq_ : World.drewN w31 _ = w31; have n0_ : Aside0 (Kd.R (Kd.int .i64) 3 w31 w.heap.size (fun k_ => some k_ ≠ (v227 : Value).ownBlock) (.slice (some ad229) t212.length co20) t212) := ⟨q4d4_ HO_25.out⟩; have n1_ : Aside0 (Kd.R (Kd.int .i64) 3 w31 w.heap.size (fun k_ => some k_ ≠ (.slice (some ad229) t212.length co20 : Value).ownBlock) v227 x5_2) := ⟨q4d4_ HO_5.out⟩; have n2_ : Aside0 (IsS46 w0 w31 g s0_0 t231 t232) := ⟨by rw [← hq_]; exact (qdc6_ HI0.out)⟩; have n3_ : Aside0 (KeepBut w w31 g none) := ⟨by rw [← hq_]; exact q1d6_⟩; have n4_ : Aside0 (Below w0.heap.size w0 w31) := ⟨by rw [← hq_]; exact (q59b_ HI0.out)⟩; clear HO_25 HO_5 HI0 HK HB hq_; have HO_25 := n0_; have HO_5 := n1_; have HI0 := n2_; have HK := n3_; have HB := n4_; clear n0_ n1_ n2_ n3_ n4_)); have p30 : 0 ≤ ((rd t212 x27_2) : Int) := of_decide_eq_true qe84_; have q30 : ((rd t212 x27_2) : Int) < ((x5_2.length : Int) : Int) := of_decide_eq_true qe84_; obtain ⟨go30, co30, eo30, gb30, gl30, cl30, HG30⟩ := Kd.R_form HO_5.out (by omega); (first | cases eo30 | (injection eo30 with ea_ en_ ec_; (first | subst ea_ | (injection ea_ with ea_; subst ea_)); subst ec_; clear en_)); have GB30 := Aside0.mk gb30; have GG30 := Aside0.mk HG30; clear gb30 gl30 HG30; obtain ⟨hx30_0, hf30_0⟩ := Kd.R_celln 0 HO_5.out ((rd t212 x27_2) : Int) p30 q30; replace p30 := eq_true p30; replace q30 := eq_true q30; obtain ⟨hy32_, hz32_⟩ := Kd.R_celln 0 HO_5.out ((rd t212 x27_2) : Int) (of_decide_eq_true qe84_) (of_decide_eq_true qe84_); have HP32 := Kd.R_putg HO_5.out ((rd t212 x27_2) : Int) (wrap64 (x27_2 + t233))) | ((with_reducible refine gate_store (t := 3) (p := 48) rfl ?_); refine store_event (t := 3) (p := 48) (v := ?vo_w33) (w1 := (w31.setCell ⟨go30, ((rd t212 x27_2) : Int).toNat, none⟩ (.int .i64 (wrap64 (x27_2 + t233))))) ?hg ?ho ?hn ?hr ?_; (case ho => rfl); (case hg => rfl); (case hn => rfl); (case hr => exact qba7_); intro w33 hw; have hg : w31.grownBy w33 (some go30) := (by rw [hw]; exact HP32.2); have hp_ : Kd.R (Kd.int .i64) 3 w33 w.heap.size (fun k_ => some k_ ≠ (.slice (some ad229) t212.length co20 : Value).ownBlock) (.slice (some ⟨go30, 0, none⟩) x5_2.length co30) y234 := (by rw [hw, Ny234.out]; exact HP32.1); clear HP32; have n0_ := Aside0.mk (hp_); have n1_ := Aside0.mk (Kd.R_after (v := (.slice (some ⟨go30, 0, none⟩) x5_2.length co30)) (v1 := (.slice (some ⟨go30, 0, none⟩) x5_2.length co30)) (ok := (fun _ => True)) (q0ef_ HO_25.out) hg (.inl rfl)); have n2_ := Aside0.mk (IsS46.grown (qdc6_ HI0.out) hg (IsS46.own_ne HI0.out HO_5.out (by decide))); have n3_ := Aside0.mk ((by rw [hw]; exact below_set (HB.out) (Nat.le_trans HL.out GB30.out) : Below w0.heap.size w0 w33)); have n4_ := Aside0.mk (KeepBut.trans q1d6_ (KeepBut.of_grown hg g) (Kd.R_base2 HO_5.out)); replace HO_5 := n0_; replace HO_25 := n1_; replace HI0 := n2_; replace HB := n3_; replace HK := n4_; clear n0_ n1_ n2_ n3_ n4_; clear hg hw hp_))
               go_roundg k2
               case measure => have := HJ3.out; have := HK2.out; omega
               case rel => exact ⟨(y234), (x27_2), (wrap64 (x27_2 + 1)), (t231), (t232), qc8f_, qc8f_, H', ⟨q37b_ HJ3.out HK2.out⟩, ⟨q9d5_ HO_5.out⟩, ⟨qe0f_ HO_25.out⟩, ⟨qdc6_ HI0.out⟩, ⟨q1d6_⟩, ⟨q59b_ HI0.out⟩⟩
              ·
               rw [if_neg c29] at H
               exact absurd H (by simp)
             ·
              rw [if_neg c28] at H
              exact absurd H (by simp)
            ·
             replace c26 := Bool.eq_false_iff.mpr c26
             subst c26
             rw [if_neg nf_] at H
             obtain ⟨t235, A34, H⟩ := ob_ H
             by_cases c35 : 0 ≤ (rd t212 x27_2)
             ·
              rw [if_pos c35] at H
              have c35b0 := decide_eq_true c35
              clear c35
              by_cases c36 : (rd t212 x27_2) < (x5_2.length : Int)
              ·
               rw [if_pos c36] at H
               have c36b0 := decide_eq_true c36
               clear c36
               obtain ⟨y236, hy236⟩ : ∃ y_ : List Int, y_ = (x5_2.set ((rd t212 x27_2) : Int).toNat (wrap64 (x6_2 + t235))) := ⟨_, rfl⟩
               replace H : (spec_l1Cur_unit.l0 k2 y236 x6_2 t212 (t212.length : Int) (wrap64 (x27_2 + 1)) s0_0 t231 t232) = some (r1, r2, r3) := by first | (rw [hy236]; with_reducible exact H) | (have H2_ := (Option.bind_some _ _).symm.trans H; rw [hy236]; with_reducible exact H2_) | (have H2_ := (Option.bind_some _ _).symm.trans H; with_reducible exact H2_) | with_reducible exact H | (rw [hy236]; exact H) | exact H
               have Ny236 := Aside0.mk hy236
               clear hy236
               have H' := Aside0.mk H
               clear H
               have p229 : 0 ≤ (x27_2 : Int) := of_decide_eq_true qe84_
               have q229 : x27_2 < (t212.length : Int) := of_decide_eq_true qe84_
               obtain ⟨ad229, e229, hx229_0⟩ := Kd.at_int (Kd.R_reads' HO_25.out).2.2 x27_2 p229 q229
               cases e229
               replace p229 := eq_true p229
               replace q229 := eq_true q229
               go_wp2_with (first | (go_at_call 32; (with_reducible refine (spec_l1Cur_one.calls g s0_0 x1001_2 x1002_2 2 false t231 t232 w0 _ ?s1 ?s2 A25.out).mono ?_); (case s1 => exact qdc6_ HI0.out); (case s2 => exact q59b_ HI0.out); rintro e w38 ⟨rfl, hi, hb, hk⟩; replace HO_5 := Aside0.mk (Kd.R_mono (Kd.R_keep (IsS46.apart (show IsS46 w0 _ g s0_0 x1001_2 x1002_2 from qdc6_ HI0.out) (q9d5_ HO_5.out) (by decide)) hk (fun _ h => h.2)) (fun _ h => h.1)); replace HO_25 := Aside0.mk (Kd.R_mono (Kd.R_keep (IsS46.apart (show IsS46 w0 _ g s0_0 x1001_2 x1002_2 from qdc6_ HI0.out) (q9d5_ HO_25.out) (by decide)) hk (fun _ h => h.2)) (fun _ h => h.1)); replace HK := Aside0.mk (KeepBut.trans q1d6_ hk (.inl rfl)); replace HB := Aside0.mk (hb); replace HI0 := Aside0.mk (hi); clear hb hk hi) | ((with_reducible refine gate_callee (f := 37) rfl ?_); refine gl_ 46 Tryz.func37 #[.int .i64 (wrap64 ((wrap64 (x27_2 - x6_2)) - 1)), .int .i64 0] ?_; (with_reducible refine (spec_l1Most.calls (wrap64 ((wrap64 (x27_2 - x6_2)) - 1)) 0 t235 _ A34.out).mono ?_); rintro e w' ⟨rfl, ⟨nd, rfl⟩⟩; refine ⟨_, rfl, ?_⟩; (try (rw [drewN_self w38]; generalize hq_ : World.drewN w38 _ = w38; have n0_ : Aside0 (Kd.R (Kd.int .i64) 3 w38 w.heap.size (fun k_ => some k_ ≠ (v227 : Value).ownBlock) (.slice (some ad229) t212.length co20) t212) := ⟨q4d4_ HO_25.out⟩; have n1_ : Aside0 (Kd.R (Kd.int .i64) 3 w38 w.heap.size (fun k_ => some k_ ≠ (.slice (some ad229) t212.length co20 : Value).ownBlock) v227 x5_2) := ⟨q4d4_ HO_5.out⟩; have n2_ : Aside0 (IsS46 w0 w38 g s0_0 t231 t232) := ⟨by rw [← hq_]; exact (qdc6_ HI0.out)⟩; have n3_ : Aside0 (KeepBut w w38 g none) := ⟨by rw [← hq_]; exact q1d6_⟩; have n4_ : Aside0 (Below w0.heap.size w0 w38) := ⟨by rw [← hq_]; exact (q59b_ HI0.out)⟩; clear HO_25 HO_5 HI0 HK HB hq_; have HO_25 := n0_; have HO_5 := n1_; have HI0 := n2_; have HK := n3_; have HB := n4_; clear n0_ n1_ n2_ n3_ n4_)); have p37 : 0 ≤ ((rd t212 x27_2) : Int) := of_decide_eq_true qe84_; have q37 : ((rd t212 x27_2) : Int) < ((x5_2.length : Int) : Int) := of_decide_eq_true qe84_; obtain ⟨go37, co37, eo37, gb37, gl37, cl37, HG37⟩ := Kd.R_form HO_5.out (by omega); (first | cases eo37 | (injection eo37 with ea_ en_ ec_; (first | subst ea_ | (injection ea_ with ea_; subst ea_)); subst ec_; clear en_)); have GB37 := Aside0.mk gb37; have GG37 := Aside0.mk HG37; clear gb37 gl37 HG37; obtain ⟨hx37_0, hf37_0⟩ := Kd.R_celln 0 HO_5.out ((rd t212 x27_2) : Int) p37 q37; replace p37 := eq_true p37; replace q37 := eq_true q37; obtain ⟨hy39_, hz39_⟩ := Kd.R_celln 0 HO_5.out ((rd t212 x27_2) : Int) (of_decide_eq_true qe84_) (of_decide_eq_true qe84_); have HP39 := Kd.R_putg HO_5.out ((rd t212 x27_2) : Int) (wrap64 (x6_2 + t235))) | ((with_reducible refine gate_store (t := 3) (p := 48) rfl ?_); refine store_event (t := 3) (p := 48) (v := ?vo_w40) (w1 := (w38.setCell ⟨go37, ((rd t212 x27_2) : Int).toNat, none⟩ (.int .i64 (wrap64 (x6_2 + t235))))) ?hg ?ho ?hn ?hr ?_; (case ho => rfl); (case hg => rfl); (case hn => rfl); (case hr => exact qba7_); intro w40 hw; have hg : w38.grownBy w40 (some go37) := (by rw [hw]; exact HP39.2); have hp_ : Kd.R (Kd.int .i64) 3 w40 w.heap.size (fun k_ => some k_ ≠ (.slice (some ad229) t212.length co20 : Value).ownBlock) (.slice (some ⟨go37, 0, none⟩) x5_2.length co37) y236 := (by rw [hw, Ny236.out]; exact HP39.1); clear HP39; have n0_ := Aside0.mk (hp_); have n1_ := Aside0.mk (Kd.R_after (v := (.slice (some ⟨go37, 0, none⟩) x5_2.length co37)) (v1 := (.slice (some ⟨go37, 0, none⟩) x5_2.length co37)) (ok := (fun _ => True)) (q0ef_ HO_25.out) hg (.inl rfl)); have n2_ := Aside0.mk (IsS46.grown (qdc6_ HI0.out) hg (IsS46.own_ne HI0.out HO_5.out (by decide))); have n3_ := Aside0.mk ((by rw [hw]; exact below_set (HB.out) (Nat.le_trans HL.out GB37.out) : Below w0.heap.size w0 w40)); have n4_ := Aside0.mk (KeepBut.trans q1d6_ (KeepBut.of_grown hg g) (Kd.R_base2 HO_5.out)); replace HO_5 := n0_; replace HO_25 := n1_; replace HI0 := n2_; replace HB := n3_; replace HK := n4_; clear n0_ n1_ n2_ n3_ n4_; clear hg hw hp_))
               go_roundg k2
               case measure => have := HJ3.out; have := HK2.out; omega
               case rel => exact ⟨(y236), (x6_2), (wrap64 (x27_2 + 1)), (t231), (t232), qc8f_, qc8f_, H', ⟨q37b_ HJ3.out HK2.out⟩, ⟨q9d5_ HO_5.out⟩, ⟨qe0f_ HO_25.out⟩, ⟨qdc6_ HI0.out⟩, ⟨q1d6_⟩, ⟨q59b_ HI0.out⟩⟩
              ·
               rw [if_neg c36] at H
               exact absurd H (by simp)
             ·
              rw [if_neg c35] at H
              exact absurd H (by simp)
           ·
            rw [if_neg c24] at H
            have c24b0 := decide_eq_false c24
            clear c24
            obtain ⟨t237, A41, H⟩ := ob_ H
            by_cases c42 : 0 ≤ (rd t212 x27_2)
            ·
             rw [if_pos c42] at H
             have c42b0 := decide_eq_true c42
             clear c42
             by_cases c43 : (rd t212 x27_2) < (x5_2.length : Int)
             ·
              rw [if_pos c43] at H
              have c43b0 := decide_eq_true c43
              clear c43
              obtain ⟨y238, hy238⟩ : ∃ y_ : List Int, y_ = (x5_2.set ((rd t212 x27_2) : Int).toNat (wrap64 (x6_2 + t237))) := ⟨_, rfl⟩
              replace H : (spec_l1Cur_unit.l0 k2 y238 x6_2 t212 (t212.length : Int) (wrap64 (x27_2 + 1)) s0_0 x1001_2 x1002_2) = some (r1, r2, r3) := by first | (rw [hy238]; with_reducible exact H) | (have H2_ := (Option.bind_some _ _).symm.trans H; rw [hy238]; with_reducible exact H2_) | (have H2_ := (Option.bind_some _ _).symm.trans H; with_reducible exact H2_) | with_reducible exact H | (rw [hy238]; exact H) | exact H
              have Ny238 := Aside0.mk hy238
              clear hy238
              have H' := Aside0.mk H
              clear H
              have p229 : 0 ≤ (x27_2 : Int) := of_decide_eq_true qe84_
              have q229 : x27_2 < (t212.length : Int) := of_decide_eq_true qe84_
              obtain ⟨ad229, e229, hx229_0⟩ := Kd.at_int (Kd.R_reads' HO_25.out).2.2 x27_2 p229 q229
              cases e229
              replace p229 := eq_true p229
              replace q229 := eq_true q229
              go_wp2_with (first | ((with_reducible refine gate_callee (f := 37) rfl ?_); refine gl_ 46 Tryz.func37 #[.int .i64 (wrap64 ((wrap64 (x27_2 - x6_2)) - 1)), .int .i64 0] ?_; (with_reducible refine (spec_l1Most.calls (wrap64 ((wrap64 (x27_2 - x6_2)) - 1)) 0 t237 _ A41.out).mono ?_); rintro e w' ⟨rfl, ⟨nd, rfl⟩⟩; refine ⟨_, rfl, ?_⟩; (try (rw [drewN_self wr]; generalize hq_ : World.drewN wr _ = wr; have n0_ : Aside0 (Kd.R (Kd.int .i64) 3 wr w.heap.size (fun k_ => some k_ ≠ (v227 : Value).ownBlock) (.slice (some ad229) t212.length co20) t212) := ⟨q4d4_ HO_25.out⟩; have n1_ : Aside0 (Kd.R (Kd.int .i64) 3 wr w.heap.size (fun k_ => some k_ ≠ (.slice (some ad229) t212.length co20 : Value).ownBlock) v227 x5_2) := ⟨q4d4_ HO_5.out⟩; have n2_ : Aside0 (IsS46 w0 wr g s0_0 x1001_2 x1002_2) := ⟨by rw [← hq_]; exact (qdc6_ HI0.out)⟩; have n3_ : Aside0 (KeepBut w wr g none) := ⟨by rw [← hq_]; exact q1d6_⟩; have n4_ : Aside0 (Below w0.heap.size w0 wr) := ⟨by rw [← hq_]; exact (q59b_ HI0.out)⟩; clear HO_25 HO_5 HI0 HK HB hq_; have HO_25 := n0_; have HO_5 := n1_; have HI0 := n2_; have HK := n3_; have HB := n4_; clear n0_ n1_ n2_ n3_ n4_)); have p44 : 0 ≤ ((rd t212 x27_2) : Int) := of_decide_eq_true qe84_; have q44 : ((rd t212 x27_2) : Int) < ((x5_2.length : Int) : Int) := of_decide_eq_true qe84_; obtain ⟨go44, co44, eo44, gb44, gl44, cl44, HG44⟩ := Kd.R_form HO_5.out (by omega); (first | cases eo44 | (injection eo44 with ea_ en_ ec_; (first | subst ea_ | (injection ea_ with ea_; subst ea_)); subst ec_; clear en_)); have GB44 := Aside0.mk gb44; have GG44 := Aside0.mk HG44; clear gb44 gl44 HG44; obtain ⟨hx44_0, hf44_0⟩ := Kd.R_celln 0 HO_5.out ((rd t212 x27_2) : Int) p44 q44; replace p44 := eq_true p44; replace q44 := eq_true q44; obtain ⟨hy45_, hz45_⟩ := Kd.R_celln 0 HO_5.out ((rd t212 x27_2) : Int) (of_decide_eq_true qe84_) (of_decide_eq_true qe84_); have HP45 := Kd.R_putg HO_5.out ((rd t212 x27_2) : Int) (wrap64 (x6_2 + t237))) | ((with_reducible refine gate_store (t := 3) (p := 48) rfl ?_); refine store_event (t := 3) (p := 48) (v := ?vo_w46) (w1 := (wr.setCell ⟨go44, ((rd t212 x27_2) : Int).toNat, none⟩ (.int .i64 (wrap64 (x6_2 + t237))))) ?hg ?ho ?hn ?hr ?_; (case ho => rfl); (case hg => rfl); (case hn => rfl); (case hr => exact qba7_); intro w46 hw; have hg : wr.grownBy w46 (some go44) := (by rw [hw]; exact HP45.2); have hp_ : Kd.R (Kd.int .i64) 3 w46 w.heap.size (fun k_ => some k_ ≠ (.slice (some ad229) t212.length co20 : Value).ownBlock) (.slice (some ⟨go44, 0, none⟩) x5_2.length co44) y238 := (by rw [hw, Ny238.out]; exact HP45.1); clear HP45; have n0_ := Aside0.mk (hp_); have n1_ := Aside0.mk (Kd.R_after (v := (.slice (some ⟨go44, 0, none⟩) x5_2.length co44)) (v1 := (.slice (some ⟨go44, 0, none⟩) x5_2.length co44)) (ok := (fun _ => True)) (q0ef_ HO_25.out) hg (.inl rfl)); have n2_ := Aside0.mk (IsS46.grown (qdc6_ HI0.out) hg (IsS46.own_ne HI0.out HO_5.out (by decide))); have n3_ := Aside0.mk ((by rw [hw]; exact below_set (HB.out) (Nat.le_trans HL.out GB44.out) : Below w0.heap.size w0 w46)); have n4_ := Aside0.mk (KeepBut.trans q1d6_ (KeepBut.of_grown hg g) (Kd.R_base2 HO_5.out)); replace HO_5 := n0_; replace HO_25 := n1_; replace HI0 := n2_; replace HB := n3_; replace HK := n4_; clear n0_ n1_ n2_ n3_ n4_; clear hg hw hp_))
              go_roundg k2
              case measure => have := HJ3.out; have := HK2.out; omega
              case rel => exact ⟨(y238), (x6_2), (wrap64 (x27_2 + 1)), (x1001_2), (x1002_2), qc8f_, qc8f_, H', ⟨q37b_ HJ3.out HK2.out⟩, ⟨q9d5_ HO_5.out⟩, ⟨qe0f_ HO_25.out⟩, ⟨qdc6_ HI0.out⟩, ⟨q1d6_⟩, ⟨q59b_ HI0.out⟩⟩
             ·
              rw [if_neg c43] at H
              exact absurd H (by simp)
            ·
             rw [if_neg c42] at H
             exact absurd H (by simp)
          ·
           rw [if_neg c23] at H
           exact absurd H (by simp)
         ·
          rw [if_neg c22] at H
          exact absurd H (by simp)
        ·
         rw [if_neg c21] at H
         have c21b0 := decide_eq_false c21
         clear c21
         simp only [Option.some.injEq, Prod.mk.injEq] at H
         obtain ⟨rfl, rfl, rfl⟩ := H
         go_wp2
         go_ret
         exact ⟨_, qce7_, q7d9_ HO_5.out, qdc6_ HI0.out, q59b_ HI0.out, q1d6_⟩
     ·
      rw [if_neg c17] at H
      exact absurd H (by simp)
    ·
     rw [if_neg c16] at H
     exact absurd H (by simp)

/-! ### spec_DrawUnitBlocks: function 5 -/
def spec_DrawUnitBlocks.f (k : Nat) (l0 : List Int) : Option (List Int) := (spec_l1Cur_unit.f k l0 0 0).bind fun bt240 => (some bt240.1)
theorem spec_DrawUnitBlocks.mono : ∀ a0 k, LeO (spec_DrawUnitBlocks.f k a0) (spec_DrawUnitBlocks.f (k + 1) a0) := by
 intro a0 k
 unfold spec_DrawUnitBlocks.f
 repeat' (with_reducible first | exact spec_l1Cur_unit.mono _ _ _ _ | exact LeO.refl _ | exact LeO.none _ | refine LeO.ite ?_ ?_ | refine LeO.bind ?_ (fun _ => ?_))
theorem spec_DrawUnitBlocks.calls (k : Nat) (A0 : Option Addr) (c0 : Nat) (l0 : List Int) (r : List Int) (w : World) (hr0 : Kd.C (Kd.int .u8) w A0 l0.length l0) (hc0 : l0.length ≤ c0) (h : spec_DrawUnitBlocks.f k l0 = some r) :
  Calls Tryz.prog 5 #[.slice A0 l0.length c0] w fun e w' => ∃ v0_ : Value, e = .returned (v0_) ∧ Kd.R (Kd.int .i64) 3 w' w.heap.size (fun _ => True) v0_ r ∧ Below w.heap.size w w' := by
 have hu46 := Tryz.underlying46
 have HR0 := Aside0.mk hr0
 have HC0 := Aside0.mk hc0
 clear hr0 hc0
 have HB := Aside0.mk (Below.refl w.heap.size w)
 unfold spec_DrawUnitBlocks.f at h
 have H := h; clear h
 obtain ⟨⟨t240, t243, t244⟩, A2, H⟩ := ob_ H
 dsimp only at H
 obtain rfl := Option.some.inj H
 go_enter Tryz.func5, Tryz.ntmps5
 go_wp2_with (first | ((with_reducible refine gate_dst (N := 6) rfl ?_); refine box_event ?hg (N := 6) ?hd (cs := #[.slice A0 l0.length c0, .int .i64 0, .int .u64 0]) (t := 46) ?hr ?_; (case hd => rfl); (case hg => rfl); (case hr => exact qba7_); intro gb239 hg w3 hbox hb; have n0_ := Aside0.mk (below_step q0c4_ hb); have n1_ := Aside0.mk (hbox); have n2_ := Aside0.mk ((by rw [hg]; exact (below_size q0c4_) : w.heap.size ≤ gb239)); have n3_ := Aside0.mk ((by rw [hg]; exact (below_size q0c4_) : w.heap.size ≤ gb239)); have n4_ := Aside0.mk ((show IsS46 w w3 gb239 l0 0 0 from ⟨_, _, hbox, (by rw [hg]; exact (below_size q0c4_) : w.heap.size ≤ gb239), HR0.out⟩)); replace HB := n0_; have BK239 := n1_; have GW239 := n2_; have GE239 := n3_; have HI239 := n4_; clear n0_ n1_ n2_ n3_ n4_; clear hb hbox hg) | ((with_reducible refine gate_callee (f := 20) rfl ?_); refine gl_ 8 Tryz.func20 #[.pointer (some ⟨gb239, 0, none⟩)] ?_; (with_reducible refine (spec_l1Cur_unit.calls k gb239 l0 0 0 t240 t243 t244 w _ ?s1 ?s2 A2.out).mono ?_); (case s1 => exact qdc6_ HI239.out); (case s2 => exact q59b_ HI239.out); rintro e w4 ⟨v241, rfl, ho0, hi, hb, hk⟩; refine ⟨_, rfl, ?_⟩; have HO242 := Aside0.mk (Kd.R_lower ho0 (below_size (q59b_ HI239.out))); replace HB := Aside0.mk (hb); replace HI239 := Aside0.mk (hi); clear hb hk hi ho0))
 go_ret
 exact ⟨_, qce7_, q9d5_ HO242.out, q59b_ HI239.out⟩

/-! ### impl_areCars: function 47 -/
def impl_areCars.f (l0 : List Int) : Option (Bool) := if (l0.length : Int) ≤ 8 then ((impl_areBetween.f l0 0 99).bind fun t245 => (some t245)) else (some false)
theorem impl_areCars.calls (A0 : Option Addr) (c0 : Nat) (l0 : List Int) (r : Bool) (w : World) (hr0 : Kd.C (Kd.int .i64) w A0 l0.length l0) (hc0 : l0.length ≤ c0) (h : impl_areCars.f l0 = some r) :
  Calls Tryz.prog 47 #[.slice A0 l0.length c0] w fun e w' => e = .returned (.bool r) ∧ Below w.heap.size w w' := by
 have HR0 := Aside0.mk hr0
 have HC0 := Aside0.mk hc0
 clear hr0 hc0
 have HB := Aside0.mk (Below.refl w.heap.size w)
 unfold impl_areCars.f at h
 have H := h; clear h
 by_cases c2 : (l0.length : Int) ≤ 8
 ·
  rw [if_pos c2] at H
  have c2b0 := decide_eq_true c2
  have c2b1 : decide (l0.length ≤ 8) = true := decide_eq_true (by omega)
  clear c2
  obtain ⟨t245, A3, H⟩ := ob_ H
  obtain rfl := Option.some.inj H
  go_enter Tryz.func47, Tryz.ntmps47
  go_wp2_with (first | (go_at_call 60; (with_reducible refine (impl_areBetween.calls _ _ l0 0 99 t245 _ ?s1 ?s2 A3.out).mono ?_); (case s1 => exact q201_ HR0.out); (case s2 => exact HC0.out); rintro e w4 ⟨rfl, hb⟩; replace HB := Aside0.mk (below_step q0c4_ hb); clear hb))
  go_ret
  exact ⟨qce7_, q0c4_⟩
 ·
  rw [if_neg c2] at H
  have c2b0 := decide_eq_false c2
  have c2b1 : decide (l0.length ≤ 8) = false := decide_eq_false (by omega)
  clear c2
  obtain rfl := Option.some.inj H
  go_enter Tryz.func47, Tryz.ntmps47
  go_wp2
  go_ret
  exact ⟨qce7_, q0c4_⟩

/-! ### impl_drive: function 48 -/
mutual
def impl_drive.l0 : Nat → Int → List Bool → List Int → List Int → Int → Int → Option (List Int × Bool)
 | 0, _, _, _, _, _, _ => none
 | k + 1, x1, x6, x7, x13, x14, x15 => if x15 < x14 then (if 0 ≤ x15 then (if x15 < (x13.length : Int) then (impl_drive.l1 k x1 x6 x7 (rd x13 x15) x13 x14 x15) else (none)) else (none)) else (some (x7, true))
def impl_drive.l1 : Nat → Int → List Bool → List Int → Int → List Int → Int → Int → Option (List Int × Bool)
 | 0, _, _, _, _, _, _, _ => none
 | k + 1, x1, x6, x7, x9, x13, x14, x15 => if x9 < x1 then (if 0 ≤ x9 then (if x9 < (x6.length : Int) then (if rdOf false x6 x9 = true then (impl_drive.l1 k x1 x6 x7 (wrap64 (x9 + 1)) x13 x14 x15) else (if x9 ≥ x1 then (some (([] : List Int), false)) else (if x7.length < 17592186044416 then (impl_drive.l0 k x1 (x6.set (x9 : Int).toNat true) (x7 ++ [x9]) x13 x14 (wrap64 (x15 + 1))) else (none)))) else (none)) else (none)) else (if x9 ≥ x1 then (some (([] : List Int), false)) else (if 0 ≤ x9 then (if x9 < (x6.length : Int) then (if x7.length < 17592186044416 then (impl_drive.l0 k x1 (x6.set (x9 : Int).toNat true) (x7 ++ [x9]) x13 x14 (wrap64 (x15 + 1))) else (none)) else (none)) else (none)))
end
def impl_drive.f (k : Nat) (l0 : List Int) (a1 : Int) : Option (List Int × Bool) := if 0 ≤ a1 then (if (a1 : Int).toNat ≤ 281474976710656 then (impl_drive.l0 k a1 (List.replicate (a1 : Int).toNat false) (([] : List Int)) l0 (l0.length : Int) 0) else (none)) else (none)
theorem impl_drive.mono_l : ∀ k, (∀ y0 y1 y2 y3 y4 y5, LeO (impl_drive.l0 k y0 y1 y2 y3 y4 y5) (impl_drive.l0 (k + 1) y0 y1 y2 y3 y4 y5)) ∧ (∀ y0 y1 y2 y3 y4 y5 y6, LeO (impl_drive.l1 k y0 y1 y2 y3 y4 y5 y6) (impl_drive.l1 (k + 1) y0 y1 y2 y3 y4 y5 y6))
 | 0 => ⟨fun _ _ _ _ _ _ r h => by simp [impl_drive.l0] at h, fun _ _ _ _ _ _ _ r h => by simp [impl_drive.l1] at h⟩
 | k + 1 => by
  obtain ⟨ih0, ih1⟩ := impl_drive.mono_l k
  refine ⟨?_, ?_⟩
  ·
   intro y0 y1 y2 y3 y4 y5
   unfold impl_drive.l0
   repeat' (with_reducible first | exact ih0 _ _ _ _ _ _ | exact ih1 _ _ _ _ _ _ _ | exact LeO.refl _ | exact LeO.none _ | refine LeO.ite ?_ ?_ | refine LeO.bind ?_ (fun _ => ?_))
  ·
   intro y0 y1 y2 y3 y4 y5 y6
   unfold impl_drive.l1
   repeat' (with_reducible first | exact ih0 _ _ _ _ _ _ | exact ih1 _ _ _ _ _ _ _ | exact LeO.refl _ | exact LeO.none _ | refine LeO.ite ?_ ?_ | refine LeO.bind ?_ (fun _ => ?_))
theorem impl_drive.mono : ∀ a0 a1 k, LeO (impl_drive.f k a0 a1) (impl_drive.f (k + 1) a0 a1) := by
 intro a0 a1 k
 obtain ⟨ih0, ih1⟩ := impl_drive.mono_l k
 unfold impl_drive.f
 repeat' (with_reducible first | exact ih0 _ _ _ _ _ _ | exact ih1 _ _ _ _ _ _ _ | exact LeO.refl _ | exact LeO.none _ | refine LeO.ite ?_ ?_ | refine LeO.bind ?_ (fun _ => ?_))
theorem impl_drive.calls (k : Nat) (A0 : Option Addr) (c0 : Nat) (l0 : List Int) (a1 : Int) (r1 : List Int) (r2 : Bool) (w : World) (hr0 : Kd.C (Kd.int .i64) w A0 l0.length l0) (hc0 : l0.length ≤ c0) (h : impl_drive.f k l0 a1 = some (r1, r2)) :
  Calls Tryz.prog 48 #[.slice A0 l0.length c0, .int .i64 a1] w fun e w' => ∃ v0_ : Value, e = .returned (.tuple #[v0_, .bool r2]) ∧ Kd.R (Kd.int .i64) 3 w' w.heap.size (fun _ => True) v0_ r1 ∧ Below w.heap.size w w' := by
 have HR0 := Aside0.mk hr0
 have HC0 := Aside0.mk hc0
 clear hr0 hc0
 have HB := Aside0.mk (Below.refl w.heap.size w)
 unfold impl_drive.f at h
 have H := h; clear h
 by_cases c3 : 0 ≤ a1
 ·
  rw [if_pos c3] at H
  have c3b0 := eq_true c3
  have c3b1 := decide_eq_true c3
  clear c3
  by_cases c4 : (a1 : Int).toNat ≤ 281474976710656
  ·
   rw [if_pos c4] at H
   have c4b0 := eq_true c4
   have c4b1 := decide_eq_true c4
   clear c4
   obtain ⟨y246, hy246⟩ : ∃ y_ : List Bool, y_ = (List.replicate (a1 : Int).toNat false) := ⟨_, rfl⟩
   replace H : (impl_drive.l0 k a1 y246 (([] : List Int)) l0 (l0.length : Int) 0) = some (r1, r2) := by first | (rw [hy246]; with_reducible exact H) | (have H2_ := (Option.bind_some _ _).symm.trans H; rw [hy246]; with_reducible exact H2_) | (have H2_ := (Option.bind_some _ _).symm.trans H; with_reducible exact H2_) | with_reducible exact H | (rw [hy246]; exact H) | exact H
   have Ny246 := Aside0.mk hy246
   clear hy246
   obtain ⟨y249, hy249⟩ : ∃ y_ : List Int, y_ = (([] : List Int)) := ⟨_, rfl⟩
   replace H : (impl_drive.l0 k a1 y246 y249 l0 (l0.length : Int) 0) = some (r1, r2) := by first | (rw [hy249]; with_reducible exact H) | (have H2_ := (Option.bind_some _ _).symm.trans H; rw [hy249]; with_reducible exact H2_) | (have H2_ := (Option.bind_some _ _).symm.trans H; with_reducible exact H2_) | with_reducible exact H | (rw [hy249]; exact H) | exact H
   have Ny249 := Aside0.mk hy249
   clear hy249
   have H' := Aside0.mk H
   clear H
   go_enter Tryz.func48, Tryz.ntmps48
   go_wp2_with (first | ((with_reducible refine gate_dst (N := 11) rfl ?_); refine Kd.R_make Kd.bool _ 4 rfl (N := 11) rfl 68 _ _ rfl a1 rfl rfl Tryz.underlying68 (.bool false) 1 info4 rfl (by decide) (by omega) false (ok := fun _ => True) (okp := fun _ => True) rfl (fun _ hk => hk) trivial (of_decide_eq_true qe84_) (Nat.le_trans (Nat.mul_le_mul_right _ (of_decide_eq_true qe84_ : a1.toNat ≤ 281474976710656)) (by omega)) (Below.refl _ _) (Nat.le_refl _) ?_; intro v247 w5 ho6 hb hg_ hnew_; clear hg_ hnew_; (first | rw [← Ny246.out] at ho6 | (simp only [Int.reduceToNat] at ho6; rw [← Ny246.out] at ho6)); have HO248 := Aside0.mk (Kd.R_lower ho6 (below_size q0c4_)); replace HB := Aside0.mk (below_step q0c4_ hb); clear hb ho6) | ((with_reducible refine gate_dst (N := 12) rfl ?_); refine Kd.R_lit (Kd.int .i64) _ 3 ?hg (N := 12) ?hd (xs := ([] : List Int)) (inner := []) (ok := fun _ => True) (okp := fun _ => True) ?hr ?hp (fun _ hk => hk) trivial (Below.refl _ _) (Nat.le_refl _) (by simp) ?_; (case hd => rfl); (case hg => rfl); (case hr => exact qba7_); (case hp => exact (Reps.none _ _)); intro v250 w7 ho8 hb hg_ hnew_; clear hg_ hnew_; (first | rw [← Ny249.out] at ho8 | (simp only [Int.reduceToNat] at ho8; rw [← Ny249.out] at ho8)); replace HO248 := Aside0.mk (Kd.R_below (q9d5_ HO248.out) hb); have HO251 := Aside0.mk (Kd.R_lower ho8 (below_size q0c4_)); replace HB := Aside0.mk (below_step q0c4_ hb); clear hb ho8))
   go_loopg [7, 15] k (fun kq v7 v15 w' => ∃ (x6_1 : List Bool) (x7_1 : List Int) (x15_1 : Int), v15 = .int .i64 x15_1 ∧ Aside0 (impl_drive.l0 kq a1 x6_1 x7_1 l0 (l0.length : Int) x15_1 = some (r1, r2)) ∧ Aside0 (kq ≤ k) ∧ Aside0 (Kd.R Kd.bool 4 w' w.heap.size (fun _ => True) v247 x6_1) ∧ Aside0 (Kd.R (Kd.int .i64) 3 w' w.heap.size (fun _ => True) v7 x7_1) ∧ Aside0 (Below w.heap.size w w'))
   case atStart => exact ⟨(y246), (y249), (0), qc8f_, H', ⟨Nat.le_refl _⟩, ⟨q9d5_ HO248.out⟩, ⟨q9d5_ HO251.out⟩, ⟨q0c4_⟩⟩
   case round =>
    clear H'; try clear p2; try clear c3; try clear c3b0; try clear c3b1; try clear c4; try clear c4b0; try clear c4b1
    obtain ⟨x6_1, x7_1, x15_1, rfl, HA, HK1, HO_6, HO_7, HB⟩ := hrel
    cases gk with
    | zero => exact absurd HA.out (by simp [impl_drive.l0])
    | succ k1 =>
     have H := HA.out
     clear HA
     simp only [impl_drive.l0] at H
     by_cases c9 : x15_1 < (l0.length : Int)
     ·
      rw [if_pos c9] at H
      have c9b0 := decide_eq_true c9
      clear c9
      by_cases c10 : 0 ≤ x15_1
      ·
       rw [if_pos c10] at H
       have c10b0 := decide_eq_true c10
       clear c10
       by_cases c11 : x15_1 < (l0.length : Int)
       ·
        rw [if_pos c11] at H
        have c11b0 := decide_eq_true c11
        clear c11
        have H' := Aside0.mk H
        clear H
        have p252 : 0 ≤ (x15_1 : Int) := of_decide_eq_true qe84_
        have q252 : x15_1 < (l0.length : Int) := of_decide_eq_true qe84_
        obtain ⟨ad252, e252, hx252_0⟩ := Kd.at_int HR0.out x15_1 p252 q252
        cases e252
        (try (replace hx252_0 := (HB.out.cell (World.block_lt_of_cell? w _ hx252_0)).trans hx252_0))
        replace p252 := eq_true p252
        replace q252 := eq_true q252
        go_wp2
        go_loopg [9] k1 (fun kq v9 w' => ∃ (x9_2 : Int), v9 = .int .i64 x9_2 ∧ Aside0 (impl_drive.l1 kq a1 x6_1 x7_1 x9_2 l0 (l0.length : Int) x15_1 = some (r1, r2)) ∧ Aside0 (kq ≤ k1) ∧ Aside0 (Kd.R Kd.bool 4 w' w.heap.size (fun _ => True) v247 x6_1) ∧ Aside0 (Kd.R (Kd.int .i64) 3 w' w.heap.size (fun _ => True) u7 x7_1) ∧ Aside0 (Below w.heap.size w w'))
        case atStart => exact ⟨(rd l0 x15_1), qc8f_, H', ⟨Nat.le_refl _⟩, ⟨q9d5_ HO_6.out⟩, ⟨q9d5_ HO_7.out⟩, ⟨q0c4_⟩⟩
        case round =>
         clear H'; try clear c1; try clear p2; try clear q2; try clear hx2; try clear c3; try clear c3b0; try clear c3b1; try clear c4; try clear c4b0; try clear c4b1; try clear c9; try clear c9b0; try clear c10; try clear c10b0; try clear c11; try clear c11b0; try clear hx252_0; try clear p2; try clear p252; try clear q252
         obtain ⟨x9_2, rfl, HA, HK2, HO_6, HO_7, HB⟩ := hrel
         cases gk with
         | zero => exact absurd HA.out (by simp [impl_drive.l1])
         | succ k2 =>
          have H := HA.out
          clear HA
          simp only [impl_drive.l1] at H
          by_cases c12 : x9_2 < a1
          ·
           rw [if_pos c12] at H
           have c12b0 := decide_eq_true c12
           clear c12
           by_cases c13 : 0 ≤ x9_2
           ·
            rw [if_pos c13] at H
            have c13b0 := decide_eq_true c13
            clear c13
            by_cases c14 : x9_2 < (x6_1.length : Int)
            ·
             rw [if_pos c14] at H
             have c14b0 := decide_eq_true c14
             clear c14
             obtain ⟨bq15, hbq15⟩ : ∃ b_ : Bool, b_ = (rdOf false x6_1 x9_2) := ⟨_, rfl⟩
             replace H : (if bq15 = true then (impl_drive.l1 k2 a1 x6_1 x7_1 (wrap64 (x9_2 + 1)) l0 (l0.length : Int) x15_1) else (if x9_2 ≥ a1 then (some (([] : List Int), false)) else (if x7_1.length < 17592186044416 then (impl_drive.l0 k2 a1 (x6_1.set (x9_2 : Int).toNat true) (x7_1 ++ [x9_2]) l0 (l0.length : Int) (wrap64 (x15_1 + 1))) else (none)))) = some (r1, r2) := by rw [← hbq15] at H; exact H
             have Nbq15 := Aside0.mk hbq15
             clear hbq15
             by_cases c16 : bq15 = true
             ·
              subst c16
              rw [if_pos rfl] at H
              have H' := Aside0.mk H
              clear H
              obtain ⟨Ao17, co17, eo17⟩ := Kd.R_slice HO_6.out
              subst eo17
              have p253 : 0 ≤ (x9_2 : Int) := of_decide_eq_true qe84_
              have q253 : x9_2 < (x6_1.length : Int) := of_decide_eq_true qe84_
              obtain ⟨ad253, e253, hx253_0⟩ := Kd.at_bool (Kd.R_reads' HO_6.out).2.2 x9_2 p253 q253
              (try rw [← Nbq15.out] at hx253_0)
              cases e253
              replace p253 := eq_true p253
              replace q253 := eq_true q253
              go_wp2
              go_roundg k2
              case measure => have := HK1.out; have := HK2.out; omega
              case rel => exact ⟨(wrap64 (x9_2 + 1)), qc8f_, H', ⟨q37b_ HK1.out HK2.out⟩, ⟨q9d5_ HO_6.out⟩, ⟨q9d5_ HO_7.out⟩, ⟨q0c4_⟩⟩
             ·
              replace c16 := Bool.eq_false_iff.mpr c16
              subst c16
              rw [if_neg nf_] at H
              by_cases c18 : x9_2 ≥ a1
              ·
               rw [if_pos c18] at H
               have c18b0 := decide_eq_true c18
               clear c18
               simp only [Option.some.injEq, Prod.mk.injEq] at H
               obtain ⟨rfl, rfl⟩ := H
               obtain ⟨Ao19, co19, eo19⟩ := Kd.R_slice HO_6.out
               subst eo19
               have p253 : 0 ≤ (x9_2 : Int) := of_decide_eq_true qe84_
               have q253 : x9_2 < (x6_1.length : Int) := of_decide_eq_true qe84_
               obtain ⟨ad253, e253, hx253_0⟩ := Kd.at_bool (Kd.R_reads' HO_6.out).2.2 x9_2 p253 q253
               (try rw [← Nbq15.out] at hx253_0)
               cases e253
               replace p253 := eq_true p253
               replace q253 := eq_true q253
               go_wp2
               go_ret2
               exact ⟨_, qce7_, qf62_, q0c4_⟩
              ·
               rw [if_neg c18] at H
               have c18b0 := decide_eq_false c18
               clear c18
               obtain ⟨y254, hy254⟩ : ∃ y_ : List Bool, y_ = (x6_1.set (x9_2 : Int).toNat true) := ⟨_, rfl⟩
               replace H : (if x7_1.length < 17592186044416 then (impl_drive.l0 k2 a1 y254 (x7_1 ++ [x9_2]) l0 (l0.length : Int) (wrap64 (x15_1 + 1))) else (none)) = some (r1, r2) := by first | (rw [hy254]; with_reducible exact H) | (have H2_ := (Option.bind_some _ _).symm.trans H; rw [hy254]; with_reducible exact H2_) | (have H2_ := (Option.bind_some _ _).symm.trans H; with_reducible exact H2_) | with_reducible exact H | (rw [hy254]; exact H) | exact H
               have Ny254 := Aside0.mk hy254
               clear hy254
               by_cases c21 : x7_1.length < 17592186044416
               ·
                rw [if_pos c21] at H
                have LMc21 := Aside0.mk c21
                clear c21
                obtain ⟨y255, hy255⟩ : ∃ y_ : List Int, y_ = (x7_1 ++ [x9_2]) := ⟨_, rfl⟩
                replace H : (impl_drive.l0 k2 a1 y254 y255 l0 (l0.length : Int) (wrap64 (x15_1 + 1))) = some (r1, r2) := by first | (rw [hy255]; with_reducible exact H) | (have H2_ := (Option.bind_some _ _).symm.trans H; rw [hy255]; with_reducible exact H2_) | (have H2_ := (Option.bind_some _ _).symm.trans H; with_reducible exact H2_) | with_reducible exact H | (rw [hy255]; exact H) | exact H
                have Ny255 := Aside0.mk hy255
                clear hy255
                have H' := Aside0.mk H
                clear H
                obtain ⟨Ao22, co22, eo22⟩ := Kd.R_slice HO_6.out
                subst eo22
                have p253 : 0 ≤ (x9_2 : Int) := of_decide_eq_true qe84_
                have q253 : x9_2 < (x6_1.length : Int) := of_decide_eq_true qe84_
                obtain ⟨ad253, e253, hx253_0⟩ := Kd.at_bool (Kd.R_reads' HO_6.out).2.2 x9_2 p253 q253
                (try rw [← Nbq15.out] at hx253_0)
                cases e253
                replace p253 := eq_true p253
                replace q253 := eq_true q253
                have p20 : 0 ≤ (x9_2 : Int) := of_decide_eq_true qe84_
                have q20 : (x9_2 : Int) < ((x6_1.length : Int) : Int) := of_decide_eq_true qe84_
                obtain ⟨go20, co20, eo20, gb20, gl20, cl20, HG20⟩ := Kd.R_form HO_6.out (by omega)
                (first | cases eo20 | (injection eo20 with ea_ en_ ec_; (first | subst ea_ | (injection ea_ with ea_; subst ea_)); subst ec_; clear en_))
                have GB20 := Aside0.mk gb20
                have GG20 := Aside0.mk HG20
                clear gb20 gl20 HG20
                (first | simp only [add_plain] at hx253_0 | skip)
                obtain ⟨hx20_0, hf20_0⟩ := Kd.R_celln false HO_6.out (x9_2 : Int) p20 q20
                replace p20 := eq_true p20
                replace q20 := eq_true q20
                have HP23 := Kd.R_putg HO_6.out (x9_2 : Int) true
                go_wp2_with (first | ((with_reducible refine gate_store (t := 4) (p := 35) rfl ?_); refine store_event (t := 4) (p := 35) (v := ?vo_w24) (w1 := (wr.setCell ⟨go20, (x9_2 : Int).toNat, none⟩ (.bool true))) ?hg ?ho ?hn ?hr ?_; (case ho => rfl); (case hg => rfl); (case hn => rfl); (case hr => exact qba7_); intro w24 hw; have hg : wr.grownBy w24 (some go20) := (by rw [hw]; exact HP23.2); have hp_ : Kd.R Kd.bool 4 w24 w.heap.size (fun _ => True) (.slice (some ⟨go20, 0, none⟩) x6_1.length co22) y254 := (by rw [hw, Ny254.out]; exact HP23.1); clear HP23; have n0_ := Aside0.mk (hp_); have n1_ := Aside0.mk (Kd.R_over' (v := (.slice (some ⟨go20, 0, none⟩) x6_1.length co22)) (q9d5_ HO_7.out) (Kd.R_typed HO_6.out) (by decide) hg); have n2_ := Aside0.mk ((by rw [hw]; exact below_set (HB.out) GB20.out : Below w.heap.size w w24)); replace HO_6 := n0_; replace HO_7 := n1_; replace HB := n2_; clear n0_ n1_ n2_; clear hg hw hp_) | ((with_reducible refine gate_builtin (b := .append) (xs := #[.tmp 36, .tmp 38]) rfl ?_); at_builtin; refine Kd.R_append (Kd.int .i64) (w0 := w) w.heap.size rfl (.tmp 36) (.tmp 38) 24 3 (.int .i64 0) 8 rfl Tryz.underlying24 info3 rfl (by decide) (by omega) u7 x7_1 x9_2 [.int .i64 x9_2] (fun _ => True) (fun _ => False) rfl rfl ?aP (fun _ hk => hk.elim) ?aF ?aO ?aB ?aS ?aL ?_; (case aP => exact rfl); (case aB => exact q0c4_); (case aF => exact (fun _ _ => trivial)); (case aO => exact (q9d5_ HO_7.out)); (case aS => exact (below_size q0c4_)); (case aL => have := LMc21.out; omega); intro v256 w25 ho hb hg hat; rw [← Ny255.out] at ho; have n0_ := Aside0.mk (Kd.R_over' (q9d5_ HO_6.out) (Kd.R_typed (q9d5_ HO_7.out)) (by decide) hg); have n1_ := Aside0.mk (hb); have n2_ := Aside0.mk (ho); replace HO_6 := n0_; replace HB := n1_; have HO257 := n2_; clear n0_ n1_ n2_; clear ho hb hg hat))
                go_roundg k2
                case measure => have := HK1.out; have := HK2.out; omega
                case rel => exact ⟨(y254), (y255), (wrap64 (x15_1 + 1)), qc8f_, H', ⟨q37b_ HK1.out HK2.out⟩, ⟨q9d5_ HO_6.out⟩, ⟨q9d5_ HO257.out⟩, ⟨q0c4_⟩⟩
               ·
                rw [if_neg c21] at H
                exact absurd H (by simp)
            ·
             rw [if_neg c14] at H
             exact absurd H (by simp)
           ·
            rw [if_neg c13] at H
            exact absurd H (by simp)
          ·
           rw [if_neg c12] at H
           have c12b0 := decide_eq_false c12
           clear c12
           by_cases c26 : x9_2 ≥ a1
           ·
            rw [if_pos c26] at H
            have c26b0 := decide_eq_true c26
            clear c26
            simp only [Option.some.injEq, Prod.mk.injEq] at H
            obtain ⟨rfl, rfl⟩ := H
            go_wp2
            go_ret2
            exact ⟨_, qce7_, qf62_, q0c4_⟩
           ·
            rw [if_neg c26] at H
            have c26b0 := decide_eq_false c26
            clear c26
            by_cases c27 : 0 ≤ x9_2
            ·
             rw [if_pos c27] at H
             have c27b0 := decide_eq_true c27
             clear c27
             by_cases c28 : x9_2 < (x6_1.length : Int)
             ·
              rw [if_pos c28] at H
              have c28b0 := decide_eq_true c28
              clear c28
              obtain ⟨y258, hy258⟩ : ∃ y_ : List Bool, y_ = (x6_1.set (x9_2 : Int).toNat true) := ⟨_, rfl⟩
              replace H : (if x7_1.length < 17592186044416 then (impl_drive.l0 k2 a1 y258 (x7_1 ++ [x9_2]) l0 (l0.length : Int) (wrap64 (x15_1 + 1))) else (none)) = some (r1, r2) := by first | (rw [hy258]; with_reducible exact H) | (have H2_ := (Option.bind_some _ _).symm.trans H; rw [hy258]; with_reducible exact H2_) | (have H2_ := (Option.bind_some _ _).symm.trans H; with_reducible exact H2_) | with_reducible exact H | (rw [hy258]; exact H) | exact H
              have Ny258 := Aside0.mk hy258
              clear hy258
              by_cases c30 : x7_1.length < 17592186044416
              ·
               rw [if_pos c30] at H
               have LMc30 := Aside0.mk c30
               clear c30
               obtain ⟨y259, hy259⟩ : ∃ y_ : List Int, y_ = (x7_1 ++ [x9_2]) := ⟨_, rfl⟩
               replace H : (impl_drive.l0 k2 a1 y258 y259 l0 (l0.length : Int) (wrap64 (x15_1 + 1))) = some (r1, r2) := by first | (rw [hy259]; with_reducible exact H) | (have H2_ := (Option.bind_some _ _).symm.trans H; rw [hy259]; with_reducible exact H2_) | (have H2_ := (Option.bind_some _ _).symm.trans H; with_reducible exact H2_) | with_reducible exact H | (rw [hy259]; exact H) | exact H
               have Ny259 := Aside0.mk hy259
               clear hy259
               have H' := Aside0.mk H
               clear H
               have p29 : 0 ≤ (x9_2 : Int) := of_decide_eq_true qe84_
               have q29 : (x9_2 : Int) < ((x6_1.length : Int) : Int) := of_decide_eq_true qe84_
               obtain ⟨go29, co29, eo29, gb29, gl29, cl29, HG29⟩ := Kd.R_form HO_6.out (by omega)
               (first | cases eo29 | (injection eo29 with ea_ en_ ec_; (first | subst ea_ | (injection ea_ with ea_; subst ea_)); subst ec_; clear en_))
               have GB29 := Aside0.mk gb29
               have GG29 := Aside0.mk HG29
               clear gb29 gl29 HG29
               obtain ⟨hx29_0, hf29_0⟩ := Kd.R_celln false HO_6.out (x9_2 : Int) p29 q29
               replace p29 := eq_true p29
               replace q29 := eq_true q29
               have HP31 := Kd.R_putg HO_6.out (x9_2 : Int) true
               go_wp2_with (first | ((with_reducible refine gate_store (t := 4) (p := 35) rfl ?_); refine store_event (t := 4) (p := 35) (v := ?vo_w32) (w1 := (wr.setCell ⟨go29, (x9_2 : Int).toNat, none⟩ (.bool true))) ?hg ?ho ?hn ?hr ?_; (case ho => rfl); (case hg => rfl); (case hn => rfl); (case hr => exact qba7_); intro w32 hw; have hg : wr.grownBy w32 (some go29) := (by rw [hw]; exact HP31.2); have hp_ : Kd.R Kd.bool 4 w32 w.heap.size (fun _ => True) (.slice (some ⟨go29, 0, none⟩) x6_1.length co29) y258 := (by rw [hw, Ny258.out]; exact HP31.1); clear HP31; have n0_ := Aside0.mk (hp_); have n1_ := Aside0.mk (Kd.R_over' (v := (.slice (some ⟨go29, 0, none⟩) x6_1.length co29)) (q9d5_ HO_7.out) (Kd.R_typed HO_6.out) (by decide) hg); have n2_ := Aside0.mk ((by rw [hw]; exact below_set (HB.out) GB29.out : Below w.heap.size w w32)); replace HO_6 := n0_; replace HO_7 := n1_; replace HB := n2_; clear n0_ n1_ n2_; clear hg hw hp_) | ((with_reducible refine gate_builtin (b := .append) (xs := #[.tmp 36, .tmp 38]) rfl ?_); at_builtin; refine Kd.R_append (Kd.int .i64) (w0 := w) w.heap.size rfl (.tmp 36) (.tmp 38) 24 3 (.int .i64 0) 8 rfl Tryz.underlying24 info3 rfl (by decide) (by omega) u7 x7_1 x9_2 [.int .i64 x9_2] (fun _ => True) (fun _ => False) rfl rfl ?aP (fun _ hk => hk.elim) ?aF ?aO ?aB ?aS ?aL ?_; (case aP => exact rfl); (case aB => exact q0c4_); (case aF => exact (fun _ _ => trivial)); (case aO => exact (q9d5_ HO_7.out)); (case aS => exact (below_size q0c4_)); (case aL => have := LMc30.out; omega); intro v260 w33 ho hb hg hat; rw [← Ny259.out] at ho; have n0_ := Aside0.mk (Kd.R_over' (q9d5_ HO_6.out) (Kd.R_typed (q9d5_ HO_7.out)) (by decide) hg); have n1_ := Aside0.mk (hb); have n2_ := Aside0.mk (ho); replace HO_6 := n0_; replace HB := n1_; have HO261 := n2_; clear n0_ n1_ n2_; clear ho hb hg hat))
               go_roundg k2
               case measure => have := HK1.out; have := HK2.out; omega
               case rel => exact ⟨(y258), (y259), (wrap64 (x15_1 + 1)), qc8f_, H', ⟨q37b_ HK1.out HK2.out⟩, ⟨q9d5_ HO_6.out⟩, ⟨q9d5_ HO261.out⟩, ⟨q0c4_⟩⟩
              ·
               rw [if_neg c30] at H
               exact absurd H (by simp)
             ·
              rw [if_neg c28] at H
              exact absurd H (by simp)
            ·
             rw [if_neg c27] at H
             exact absurd H (by simp)
       ·
        rw [if_neg c11] at H
        exact absurd H (by simp)
      ·
       rw [if_neg c10] at H
       exact absurd H (by simp)
     ·
      rw [if_neg c9] at H
      have c9b0 := decide_eq_false c9
      clear c9
      simp only [Option.some.injEq, Prod.mk.injEq] at H
      obtain ⟨rfl, rfl⟩ := H
      go_wp2
      go_ret2
      exact ⟨_, qce7_, q9d5_ HO_7.out, q0c4_⟩
  ·
   rw [if_neg c4] at H
   exact absurd H (by simp)
 ·
  rw [if_neg c3] at H
  exact absurd H (by simp)

/-! ### impl_isParking: function 21 -/
def impl_isParking.f (k : Nat) (l0 : List Int) : Option (Bool) := (impl_areCars.f l0).bind fun t262 => (if t262 = true then ((impl_drive.f k l0 (l0.length : Int)).bind fun bt263 => (some bt263.2)) else (some false))
theorem impl_isParking.mono : ∀ a0 k, LeO (impl_isParking.f k a0) (impl_isParking.f (k + 1) a0) := by
 intro a0 k
 unfold impl_isParking.f
 repeat' (with_reducible first | exact impl_drive.mono _ _ _ | exact LeO.refl _ | exact LeO.none _ | refine LeO.ite ?_ ?_ | refine LeO.bind ?_ (fun _ => ?_))
theorem impl_isParking.calls (k : Nat) (A0 : Option Addr) (c0 : Nat) (l0 : List Int) (r : Bool) (w : World) (hr0 : Kd.C (Kd.int .i64) w A0 l0.length l0) (hc0 : l0.length ≤ c0) (h : impl_isParking.f k l0 = some r) :
  Calls Tryz.prog 21 #[.slice A0 l0.length c0] w fun e w' => e = .returned (.bool r) ∧ Below w.heap.size w w' := by
 have HR0 := Aside0.mk hr0
 have HC0 := Aside0.mk hc0
 clear hr0 hc0
 have HB := Aside0.mk (Below.refl w.heap.size w)
 unfold impl_isParking.f at h
 have H := h; clear h
 obtain ⟨t262, A2, H⟩ := ob_ H
 by_cases c3 : t262 = true
 ·
  subst c3
  rw [if_pos rfl] at H
  obtain ⟨⟨t263, t264⟩, A4, H⟩ := ob_ H
  dsimp only at H
  obtain rfl := Option.some.inj H
  go_enter Tryz.func21, Tryz.ntmps21
  go_wp2_with (first | ((with_reducible refine gate_callee (f := 47) rfl ?_); refine gl_ 6 Tryz.func47 #[.slice A0 l0.length c0] ?_; (with_reducible refine (impl_areCars.calls _ _ l0 true _ ?s1 ?s2 A2.out).mono ?_); (case s1 => exact q201_ HR0.out); (case s2 => exact HC0.out); rintro e w5 ⟨rfl, hb⟩; refine ⟨_, rfl, ?_⟩; replace HB := Aside0.mk (below_step q0c4_ hb); clear hb) | ((with_reducible refine gate_callee (f := 48) rfl ?_); refine gl_ 12 Tryz.func48 #[.slice A0 l0.length c0, .int .i64 (l0.length : Int)] ?_; (with_reducible refine (impl_drive.calls k _ _ l0 (l0.length : Int) t263 t264 _ ?s1 ?s2 A4.out).mono ?_); (case s1 => exact qe02_ HR0.out); (case s2 => exact HC0.out); rintro e w6 ⟨v265, rfl, ho0, hb⟩; refine ⟨_, rfl, ?_⟩; have HO266 := Aside0.mk (Kd.R_lower ho0 (below_size q0c4_)); replace HB := Aside0.mk (below_step q0c4_ hb); clear hb ho0))
  go_ret
  exact ⟨qce7_, q0c4_⟩
 ·
  replace c3 := Bool.eq_false_iff.mpr c3
  subst c3
  rw [if_neg nf_] at H
  obtain rfl := Option.some.inj H
  go_enter Tryz.func21, Tryz.ntmps21
  go_wp2_with (first | ((with_reducible refine gate_callee (f := 47) rfl ?_); refine gl_ 6 Tryz.func47 #[.slice A0 l0.length c0] ?_; (with_reducible refine (impl_areCars.calls _ _ l0 false _ ?s1 ?s2 A2.out).mono ?_); (case s1 => exact q201_ HR0.out); (case s2 => exact HC0.out); rintro e w7 ⟨rfl, hb⟩; refine ⟨_, rfl, ?_⟩; replace HB := Aside0.mk (below_step q0c4_ hb); clear hb))
  go_ret
  exact ⟨qce7_, q0c4_⟩

/-! ### impl_between: function 42 -/
def impl_between.f (a0 : Int) (a1 : Int) (a2 : Int) : Option (Bool) := if a0 ≥ a1 then (some (decide (a0 ≤ a2))) else (some false)
theorem impl_between.calls (a0 : Int) (a1 : Int) (a2 : Int) (r : Bool) (w : World) (h : impl_between.f a0 a1 a2 = some r) :
  Calls Tryz.prog 42 #[.int .i64 a0, .int .i64 a1, .int .i64 a2] w fun e w' => e = .returned (.bool r) ∧ Drawn0 w w' := by
 unfold impl_between.f at h
 have H := h; clear h
 by_cases c4 : a0 ≥ a1
 ·
  rw [if_pos c4] at H
  have c4b0 := decide_eq_true c4
  clear c4
  obtain rfl := Option.some.inj H
  go_enter Tryz.func42, Tryz.ntmps42
  go_wp2
  go_ret
  exact ⟨qc8f_, qffa_⟩
 ·
  rw [if_neg c4] at H
  have c4b0 := decide_eq_false c4
  clear c4
  obtain rfl := Option.some.inj H
  go_enter Tryz.func42, Tryz.ntmps42
  go_wp2
  go_ret
  exact ⟨qc8f_, qffa_⟩

/-! ### impl_AreFavourites: function 81 -/
def impl_AreFavourites.f (l0 : List Int) (a1 : Int) : Option (Bool) := (impl_between.f a1 1 12).bind fun t267 => (if t267 = true then (if (l0.length : Int) ≤ 8 then ((impl_areBetween.f l0 0 (wrap64 (a1 - 1))).bind fun t268 => (some t268)) else (some false)) else (some false))
theorem impl_AreFavourites.calls (A0 : Option Addr) (c0 : Nat) (l0 : List Int) (a1 : Int) (r : Bool) (w : World) (hr0 : Kd.C (Kd.int .i64) w A0 l0.length l0) (hc0 : l0.length ≤ c0) (h : impl_AreFavourites.f l0 a1 = some r) :
  Calls Tryz.prog 81 #[.slice A0 l0.length c0, .int .i64 a1] w fun e w' => e = .returned (.bool r) ∧ Below w.heap.size w w' := by
 have HR0 := Aside0.mk hr0
 have HC0 := Aside0.mk hc0
 clear hr0 hc0
 have HB := Aside0.mk (Below.refl w.heap.size w)
 unfold impl_AreFavourites.f at h
 have H := h; clear h
 obtain ⟨t267, A3, H⟩ := ob_ H
 by_cases c4 : t267 = true
 ·
  subst c4
  rw [if_pos rfl] at H
  by_cases c5 : (l0.length : Int) ≤ 8
  ·
   rw [if_pos c5] at H
   have c5b0 := decide_eq_true c5
   have c5b1 : decide (l0.length ≤ 8) = true := decide_eq_true (by omega)
   clear c5
   obtain ⟨t268, A6, H⟩ := ob_ H
   obtain rfl := Option.some.inj H
   go_enter Tryz.func81, Tryz.ntmps81
   go_wp2_with (first | ((with_reducible refine gate_callee (f := 42) rfl ?_); refine gl_ 6 Tryz.func42 #[.int .i64 a1, .int .i64 1, .int .i64 12] ?_; (with_reducible refine (impl_between.calls a1 1 12 true _ A3.out).mono ?_); rintro e w' ⟨rfl, ⟨nd, rfl⟩⟩; refine ⟨_, rfl, ?_⟩) | (go_at_call 60; (with_reducible refine (impl_areBetween.calls _ _ l0 0 (wrap64 (a1 - 1)) t268 _ ?s1 ?s2 A6.out).mono ?_); (case s1 => exact q201_ HR0.out); (case s2 => exact HC0.out); rintro e w7 ⟨rfl, hb⟩; replace HB := Aside0.mk (below_step q0c4_ hb); clear hb))
   go_ret
   exact ⟨qce7_, q0c4_⟩
  ·
   rw [if_neg c5] at H
   have c5b0 := decide_eq_false c5
   have c5b1 : decide (l0.length ≤ 8) = false := decide_eq_false (by omega)
   clear c5
   obtain rfl := Option.some.inj H
   go_enter Tryz.func81, Tryz.ntmps81
   go_wp2_with (first | ((with_reducible refine gate_callee (f := 42) rfl ?_); refine gl_ 6 Tryz.func42 #[.int .i64 a1, .int .i64 1, .int .i64 12] ?_; (with_reducible refine (impl_between.calls a1 1 12 true _ A3.out).mono ?_); rintro e w' ⟨rfl, ⟨nd, rfl⟩⟩; refine ⟨_, rfl, ?_⟩))
   go_ret
   exact ⟨qce7_, q0c4_⟩
 ·
  replace c4 := Bool.eq_false_iff.mpr c4
  subst c4
  rw [if_neg nf_] at H
  obtain rfl := Option.some.inj H
  go_enter Tryz.func81, Tryz.ntmps81
  go_wp2_with (first | ((with_reducible refine gate_callee (f := 42) rfl ?_); refine gl_ 6 Tryz.func42 #[.int .i64 a1, .int .i64 1, .int .i64 12] ?_; (with_reducible refine (impl_between.calls a1 1 12 false _ A3.out).mono ?_); rintro e w' ⟨rfl, ⟨nd, rfl⟩⟩; refine ⟨_, rfl, ?_⟩))
  go_ret
  exact ⟨qce7_, q0c4_⟩

/-! ### impl_DriveCars: function 72 -/
def impl_DriveCars.f (k : Nat) (l0 : List Int) (a1 : Int) : Option (List Int × Bool) := (impl_AreFavourites.f l0 a1).bind fun t269 => (if t269 = true then ((impl_drive.f k l0 a1).bind fun bt270 => (some (bt270.1, bt270.2))) else (some (([] : List Int), false)))
theorem impl_DriveCars.mono : ∀ a0 a1 k, LeO (impl_DriveCars.f k a0 a1) (impl_DriveCars.f (k + 1) a0 a1) := by
 intro a0 a1 k
 unfold impl_DriveCars.f
 repeat' (with_reducible first | exact impl_drive.mono _ _ _ | exact LeO.refl _ | exact LeO.none _ | refine LeO.ite ?_ ?_ | refine LeO.bind ?_ (fun _ => ?_))
theorem impl_DriveCars.calls (k : Nat) (A0 : Option Addr) (c0 : Nat) (l0 : List Int) (a1 : Int) (r1 : List Int) (r2 : Bool) (w : World) (hr0 : Kd.C (Kd.int .i64) w A0 l0.length l0) (hc0 : l0.length ≤ c0) (h : impl_DriveCars.f k l0 a1 = some (r1, r2)) :
  Calls Tryz.prog 72 #[.slice A0 l0.length c0, .int .i64 a1] w fun e w' => ∃ v0_ : Value, e = .returned (.tuple #[v0_, .bool r2]) ∧ Kd.R (Kd.int .i64) 3 w' w.heap.size (fun _ => True) v0_ r1 ∧ Below w.heap.size w w' := by
 have HR0 := Aside0.mk hr0
 have HC0 := Aside0.mk hc0
 clear hr0 hc0
 have HB := Aside0.mk (Below.refl w.heap.size w)
 unfold impl_DriveCars.f at h
 have H := h; clear h
 obtain ⟨t269, A3, H⟩ := ob_ H
 by_cases c4 : t269 = true
 ·
  subst c4
  rw [if_pos rfl] at H
  obtain ⟨⟨t270, t271⟩, A5, H⟩ := ob_ H
  dsimp only at H
  simp only [Option.some.injEq, Prod.mk.injEq] at H
  obtain ⟨rfl, rfl⟩ := H
  go_enter Tryz.func72, Tryz.ntmps72
  go_wp2_with (first | ((with_reducible refine gate_callee (f := 81) rfl ?_); refine gl_ 8 Tryz.func81 #[.slice A0 l0.length c0, .int .i64 a1] ?_; (with_reducible refine (impl_AreFavourites.calls _ _ l0 a1 true _ ?s1 ?s2 A3.out).mono ?_); (case s1 => exact q201_ HR0.out); (case s2 => exact HC0.out); rintro e w6 ⟨rfl, hb⟩; refine ⟨_, rfl, ?_⟩; replace HB := Aside0.mk (below_step q0c4_ hb); clear hb) | ((with_reducible refine gate_callee (f := 48) rfl ?_); refine gl_ 12 Tryz.func48 #[.slice A0 l0.length c0, .int .i64 a1] ?_; (with_reducible refine (impl_drive.calls k _ _ l0 a1 t270 t271 _ ?s1 ?s2 A5.out).mono ?_); (case s1 => exact qe02_ HR0.out); (case s2 => exact HC0.out); rintro e w7 ⟨v272, rfl, ho0, hb⟩; refine ⟨_, rfl, ?_⟩; have HO273 := Aside0.mk (Kd.R_lower ho0 (below_size q0c4_)); replace HB := Aside0.mk (below_step q0c4_ hb); clear hb ho0))
  go_ret2
  exact ⟨_, qce7_, q9d5_ HO273.out, q0c4_⟩
 ·
  replace c4 := Bool.eq_false_iff.mpr c4
  subst c4
  rw [if_neg nf_] at H
  simp only [Option.some.injEq, Prod.mk.injEq] at H
  obtain ⟨rfl, rfl⟩ := H
  go_enter Tryz.func72, Tryz.ntmps72
  go_wp2_with (first | ((with_reducible refine gate_callee (f := 81) rfl ?_); refine gl_ 8 Tryz.func81 #[.slice A0 l0.length c0, .int .i64 a1] ?_; (with_reducible refine (impl_AreFavourites.calls _ _ l0 a1 false _ ?s1 ?s2 A3.out).mono ?_); (case s1 => exact q201_ HR0.out); (case s2 => exact HC0.out); rintro e w8 ⟨rfl, hb⟩; refine ⟨_, rfl, ?_⟩; replace HB := Aside0.mk (below_step q0c4_ hb); clear hb))
  go_ret2
  exact ⟨_, qce7_, qf62_, q0c4_⟩

/-! ### impl_DistancesOf: function 61 -/
def impl_DistancesOf.l0 : Nat → List Int → List Int → Bool → Int → Int → Option (List Int × Bool)
 | 0, _, _, _, _, _ => none
 | k + 1, x0, x6, x7, x16, x17 => if x17 < x16 then (if 0 ≤ x17 then (if x17 < (x6.length : Int) then (if x17 < (x0.length : Int) then (impl_DistancesOf.l0 k x0 (x6.set (x17 : Int).toNat (wrap64 ((rd x6 x17) - (rd x0 x17)))) x7 x16 (wrap64 (x17 + 1))) else (none)) else (none)) else (none)) else (some (x6, x7))
def impl_DistancesOf.f (k : Nat) (l0 : List Int) (a1 : Int) : Option (List Int × Bool) := (impl_DriveCars.f k l0 a1).bind fun bt274 => (impl_DistancesOf.l0 k l0 bt274.1 bt274.2 (bt274.1.length : Int) 0)
theorem impl_DistancesOf.mono_l : ∀ k, (∀ y0 y1 y2 y3 y4, LeO (impl_DistancesOf.l0 k y0 y1 y2 y3 y4) (impl_DistancesOf.l0 (k + 1) y0 y1 y2 y3 y4))
 | 0 => fun _ _ _ _ _ r h => by simp [impl_DistancesOf.l0] at h
 | k + 1 => by
  have ih0 := impl_DistancesOf.mono_l k
  ·
   intro y0 y1 y2 y3 y4
   unfold impl_DistancesOf.l0
   repeat' (with_reducible first | exact ih0 _ _ _ _ _ | exact impl_DriveCars.mono _ _ _ | exact LeO.refl _ | exact LeO.none _ | refine LeO.ite ?_ ?_ | refine LeO.bind ?_ (fun _ => ?_))
theorem impl_DistancesOf.mono : ∀ a0 a1 k, LeO (impl_DistancesOf.f k a0 a1) (impl_DistancesOf.f (k + 1) a0 a1) := by
 intro a0 a1 k
 have ih0 := impl_DistancesOf.mono_l k
 unfold impl_DistancesOf.f
 repeat' (with_reducible first | exact ih0 _ _ _ _ _ | exact impl_DriveCars.mono _ _ _ | exact LeO.refl _ | exact LeO.none _ | refine LeO.ite ?_ ?_ | refine LeO.bind ?_ (fun _ => ?_))
def impl_DistancesOf.T5 : Bool × List (List Nat × List Nat) := (true, [([], []), ([], []), ([0, 1], [0, 1]), ([2], [2]), ([], []), ([], []), ([4, 5], [4, 5]), ([6], [6]), ([3, 7], [3, 7]), ([0, 1, 0, 1, 2, 3, 4, 5, 6, 7, 8], [0, 1]), ([9, 8, 0, 1, 2, 3, 4, 5, 6, 7, 8], [8, 9])])
def impl_DistancesOf.B5 : List Nat := [0, 0, 3, 7, 0, 0, 48, 112, 255, 511, 1023]
theorem impl_DistancesOf.tab5 : rtab .any (opsOf Tryz.f61 5) = impl_DistancesOf.T5 := by kernel_rfl
theorem impl_DistancesOf.bits5 : waitsOk impl_DistancesOf.T5.2 impl_DistancesOf.B5 = true := by kernel_rfl
theorem impl_DistancesOf.calls (k : Nat) (A0 : Option Addr) (c0 : Nat) (l0 : List Int) (a1 : Int) (r1 : List Int) (r2 : Bool) (w : World) (hr0 : Kd.C (Kd.int .i64) w A0 l0.length l0) (hc0 : l0.length ≤ c0) (h : impl_DistancesOf.f k l0 a1 = some (r1, r2)) :
  Calls Tryz.prog 61 #[.slice A0 l0.length c0, .int .i64 a1] w fun e w' => ∃ v0_ : Value, e = .returned (.tuple #[v0_, .bool r2]) ∧ Kd.R (Kd.int .i64) 3 w' w.heap.size (fun _ => True) v0_ r1 ∧ Below w.heap.size w w' := by
 have HR0 := Aside0.mk hr0
 have HC0 := Aside0.mk hc0
 clear hr0 hc0
 have HB := Aside0.mk (Below.refl w.heap.size w)
 unfold impl_DistancesOf.f at h
 have H := h; clear h
 obtain ⟨⟨t274, t275⟩, A3, H⟩ := ob_ H
 dsimp only at H
 have H' := Aside0.mk H
 clear H
 go_enter Tryz.func61, Tryz.ntmps61
 go_wp2_with (first | ((with_reducible refine gate_callee (f := 72) rfl ?_); refine gl_ 12 Tryz.func72 #[.slice A0 l0.length c0, .int .i64 a1] ?_; (with_reducible refine (impl_DriveCars.calls k _ _ l0 a1 t274 t275 _ ?s1 ?s2 A3.out).mono ?_); (case s1 => exact q201_ HR0.out); (case s2 => exact HC0.out); rintro e w4 ⟨v276, rfl, ho0, hb⟩; refine ⟨_, rfl, ?_⟩; have HO277 := Aside0.mk (Kd.R_lower ho0 (below_size q0c4_)); replace HB := Aside0.mk (below_step q0c4_ hb); clear hb ho0; obtain ⟨Ao5, co5, eo5⟩ := Kd.R_slice HO277.out; subst eo5))
 go_loopg [17] k (fun kq v17 w' => ∃ (x6_1 : List Int) (x17_1 : Int), v17 = .int .i64 x17_1 ∧ Aside0 (impl_DistancesOf.l0 kq l0 x6_1 t275 (t274.length : Int) x17_1 = some (r1, r2)) ∧ Aside0 (kq ≤ k) ∧ Aside0 (Kd.R (Kd.int .i64) 3 w' w.heap.size (fun _ => True) (.slice Ao5 t274.length co5) x6_1) ∧ Aside0 (Below w.heap.size w w'))
 case atStart => exact ⟨(t274), (0), qc8f_, H', ⟨Nat.le_refl _⟩, ⟨q9d5_ HO277.out⟩, ⟨q0c4_⟩⟩
 case round =>
  clear H'; try clear p2
  obtain ⟨x6_1, x17_1, rfl, HA, HK1, HO_6, HB⟩ := hrel
  have hl6_1 := (Kd.R_reads' HO_6.out).1
  rw [hl6_1] at HO_6
  (try simp only [hl6_1])
  cases gk with
  | zero => exact absurd HA.out (by simp [impl_DistancesOf.l0])
  | succ k1 =>
   have H := HA.out
   clear HA
   simp only [impl_DistancesOf.l0] at H
   by_cases c6 : x17_1 < (t274.length : Int)
   ·
    rw [if_pos c6] at H
    have c6b0 := decide_eq_true c6
    (try simp only [hl6_1] at c6b0)
    clear c6
    by_cases c7 : 0 ≤ x17_1
    ·
     rw [if_pos c7] at H
     have c7b0 := decide_eq_true c7
     clear c7
     by_cases c8 : x17_1 < (x6_1.length : Int)
     ·
      rw [if_pos c8] at H
      have c8b0 := decide_eq_true c8
      (try simp only [hl6_1] at c8b0)
      clear c8
      by_cases c9 : x17_1 < (l0.length : Int)
      ·
       rw [if_pos c9] at H
       have c9b0 := decide_eq_true c9
       (try simp only [hl6_1] at c9b0)
       clear c9
       obtain ⟨y280, hy280⟩ : ∃ y_ : List Int, y_ = (x6_1.set (x17_1 : Int).toNat (wrap64 ((rd x6_1 x17_1) - (rd l0 x17_1)))) := ⟨_, rfl⟩
       replace H : (impl_DistancesOf.l0 k1 l0 y280 t275 (t274.length : Int) (wrap64 (x17_1 + 1))) = some (r1, r2) := by first | (rw [hy280]; with_reducible exact H) | (have H2_ := (Option.bind_some _ _).symm.trans H; rw [hy280]; with_reducible exact H2_) | (have H2_ := (Option.bind_some _ _).symm.trans H; with_reducible exact H2_) | with_reducible exact H | (rw [hy280]; exact H) | exact H
       have Ny280 := Aside0.mk hy280
       clear hy280
       have H' := Aside0.mk H
       clear H
       try go_wp2
       have n0_ := Aside0.mk (Kd.R_drew HO_6.out)
       have n1_ := Aside0.mk (below_drew1 HB.out)
       clear HO_6 HB; have HO_6 := n0_; have HB := n1_; clear n0_ n1_
       have p278 : 0 ≤ (x17_1 : Int) := of_decide_eq_true qe84_
       have q278 : x17_1 < (x6_1.length : Int) := of_decide_eq_true qe84_
       obtain ⟨ad278, e278, hx278_0⟩ := Kd.at_int (Kd.R_reads' HO_6.out).2.2 x17_1 p278 q278
       cases e278
       replace p278 := eq_true p278
       replace q278 := eq_true q278
       have p279 : 0 ≤ (x17_1 : Int) := of_decide_eq_true qe84_
       have q279 : x17_1 < (l0.length : Int) := of_decide_eq_true qe84_
       obtain ⟨ad279, e279, hx279_0⟩ := Kd.at_int HR0.out x17_1 p279 q279
       have hw279_0 := hx279_0
       cases e279
       (try (replace hx279_0 := (HB.out.cell (World.block_lt_of_cell? w _ hx279_0)).trans hx279_0))
       replace p279 := eq_true p279
       replace q279 := eq_true q279
       have p10 : 0 ≤ (x17_1 : Int) := of_decide_eq_true qe84_
       have q10 : (x17_1 : Int) < ((x6_1.length : Int) : Int) := of_decide_eq_true qe84_
       obtain ⟨go10, co10, eo10, gb10, gl10, cl10, HG10⟩ := Kd.R_form HO_6.out (by omega)
       (first | cases eo10 | (injection eo10 with ea_ en_ ec_; (first | subst ea_ | (injection ea_ with ea_; subst ea_)); subst ec_; clear en_))
       have GB10 := Aside0.mk gb10
       have GG10 := Aside0.mk HG10
       clear gb10 gl10 HG10
       (first | simp only [add_plain] at hx278_0 | skip)
       obtain ⟨hx10_0, hf10_0⟩ := Kd.R_celln 0 HO_6.out (x17_1 : Int) p10 q10
       replace p10 := eq_true p10
       replace q10 := eq_true q10
       have HP12 := Kd.R_putn HO_6.out (x17_1 : Int) (wrap64 ((rd x6_1 x17_1) - (rd l0 x17_1)))
       rw [← Ny280.out] at HP12
       have HQ12 := Aside0.mk HP12
       clear HP12
       refine start_ (n := 11) (S := fun w' => w'.cell? ⟨go10, (x17_1).toNat, none⟩ = some (.int .i64 (rd x6_1 x17_1)) ∧ w'.cell? (ad279.add (x17_1).toNat) = some (.int .i64 (rd l0 x17_1))) (ds := [10]) #[false, false, false, false, false, false, false, false, false, false, false] (by kernel_rfl) rfl rfl ⟨hx278_0, ((HB.out.cell (World.block_lt_of_cell? w _ hw279_0)).trans hw279_0)⟩ (fun hHeld => ?_); refine with_tabW impl_DistancesOf.tab5 impl_DistancesOf.bits5 (fun HT_ HW_ => ?_)
       generalize wr.drew = w11 at HO_6 HB GG10 HQ12 hf10_0 hx10_0 hx278_0 hx279_0 hHeld ⊢
       refine pure_ (i := 0) (N := some 20) (v := ?_) (a' := ?_) #[true, false, false, false, false, false, false, false, false, false, false] rfl rfl (any_of HT_.out (by kernel_rfl)) (fun _ _ _ h => h) (Or.inl ⟨by rfl, ?_⟩) ?_ ?_
       rotate_left
       ·
        intro w'
        go_simp
        with_reducible rfl
       rotate_left
       ·
        simp only [Act.put, List.setIfInBounds_toArray, List.set_cons_zero, List.set_cons_succ, i64_w, i32_w]
        rfl
       refine pure_ (i := 1) (N := some 21) (v := ?_) (a' := ?_) #[true, true, false, false, false, false, false, false, false, false, false] rfl rfl (any_of HT_.out (by kernel_rfl)) (fun _ _ _ h => h) (Or.inl ⟨by rfl, ?_⟩) ?_ ?_
       rotate_left
       ·
        intro w'
        go_simp
        with_reducible rfl
       rotate_left
       ·
        simp only [Act.put, List.setIfInBounds_toArray, List.set_cons_zero, List.set_cons_succ, i64_w, i32_w]
        rfl
       refine pure_ (i := 2) (N := some 22) (v := ?_) (a' := ?_) #[true, true, true, false, false, false, false, false, false, false, false] rfl rfl (any_of HT_.out (by kernel_rfl)) (fun _ _ _ h => h) (Or.inl ⟨by rfl, ?_⟩) ?_ ?_
       rotate_left
       ·
        intro w'
        go_simp
        with_reducible rfl
       rotate_left
       ·
        simp only [Act.put, List.setIfInBounds_toArray, List.set_cons_zero, List.set_cons_succ, i64_w, i32_w]
        rfl
       refine pure_ (i := 4) (N := some 24) (v := ?_) (a' := ?_) #[true, true, true, false, true, false, false, false, false, false, false] rfl rfl (any_of HT_.out (by kernel_rfl)) (fun _ _ _ h => h) (Or.inl ⟨by rfl, ?_⟩) ?_ ?_
       rotate_left
       ·
        intro w'
        go_simp
        with_reducible rfl
       rotate_left
       ·
        simp only [Act.put, List.setIfInBounds_toArray, List.set_cons_zero, List.set_cons_succ, i64_w, i32_w]
        rfl
       refine pure_ (i := 5) (N := some 25) (v := ?_) (a' := ?_) #[true, true, true, false, true, true, false, false, false, false, false] rfl rfl (any_of HT_.out (by kernel_rfl)) (fun _ _ _ h => h) (Or.inl ⟨by rfl, ?_⟩) ?_ ?_
       rotate_left
       ·
        intro w'
        go_simp
        with_reducible rfl
       rotate_left
       ·
        simp only [Act.put, List.setIfInBounds_toArray, List.set_cons_zero, List.set_cons_succ, i64_w, i32_w]
        rfl
       refine pure_ (i := 6) (N := some 26) (v := ?_) (a' := ?_) #[true, true, true, false, true, true, true, false, false, false, false] rfl rfl (any_of HT_.out (by kernel_rfl)) (fun _ _ _ h => h) (Or.inl ⟨by rfl, ?_⟩) ?_ ?_
       rotate_left
       ·
        intro w'
        go_simp
        with_reducible rfl
       rotate_left
       ·
        simp only [Act.put, List.setIfInBounds_toArray, List.set_cons_zero, List.set_cons_succ, i64_w, i32_w]
        rfl
       refine take_ (i := 3) (N := some 23) (v := ?_) (a' := ?_) #[true, true, true, true, true, true, true, false, false, false, false] rfl rfl (take_ofW HT_.out HW_.out (by kernel_rfl)) (fun _ _ _ h => h) (Or.inl ⟨by rfl, ?_⟩) hHeld ?_ ?_
       rotate_left
       ·
        rintro w' ⟨s0, s1⟩
        go_simp
        with_reducible rfl
       rotate_left
       ·
        simp only [Act.put, List.setIfInBounds_toArray, List.set_cons_zero, List.set_cons_succ, i64_w, i32_w]
        rfl
       refine take_ (i := 7) (N := some 27) (v := ?_) (a' := ?_) #[true, true, true, true, true, true, true, true, false, false, false] rfl rfl (take_ofW HT_.out HW_.out (by kernel_rfl)) (fun _ _ _ h => h) (Or.inl ⟨by rfl, ?_⟩) hHeld ?_ ?_
       rotate_left
       ·
        rintro w' ⟨s0, s1⟩
        go_simp
        with_reducible rfl
       rotate_left
       ·
        simp only [Act.put, List.setIfInBounds_toArray, List.set_cons_zero, List.set_cons_succ, i64_w, i32_w]
        rfl
       refine pure_ (i := 8) (N := some 28) (v := ?_) (a' := ?_) #[true, true, true, true, true, true, true, true, true, false, false] rfl rfl (any_of HT_.out (by kernel_rfl)) (fun _ _ _ h => h) (Or.inl ⟨by rfl, ?_⟩) ?_ ?_
       rotate_left
       ·
        intro w'
        go_simp
        with_reducible rfl
       rotate_left
       ·
        simp only [Act.put, List.setIfInBounds_toArray, List.set_cons_zero, List.set_cons_succ, i64_w, i32_w]
        rfl
       refine pure_ (i := 9) (N := some 29) (v := ?_) (a' := ?_) #[true, true, true, true, true, true, true, true, true, true, false] rfl rfl (any_of HT_.out (by kernel_rfl)) (fun _ _ _ h => h) (Or.inl ⟨by rfl, ?_⟩) ?_ ?_
       rotate_left
       ·
        intro w'
        go_simp
        with_reducible rfl
       rotate_left
       ·
        simp only [Act.put, List.setIfInBounds_toArray, List.set_cons_zero, List.set_cons_succ, i64_w, i32_w]
        rfl
       refine last_ (i := 10) (N := none) #[true, true, true, true, true, true, true, true, true, true, true] rfl rfl (one_of HT_.out (by kernel_rfl)) (by decide) (fun K hK => ?_)
       refine skip_ (w1 := ?_) (by rfl) rfl ?_ ?_
       rotate_left
       ·
        go_simp
        rfl
       refine hK.out _ _ ?_
       clear hK K
       refine done_ (done_of HT_.out (by kernel_rfl)) ?_
       try go_wp2
       (try simp only [← hl6_1])
       go_roundg k1
       case measure => have := HK1.out; omega
       case rel => exact ⟨(y280), (wrap64 (x17_1 + 1)), qc8f_, H', ⟨q1d0_ HK1.out⟩, ⟨by (try simp only [hl6_1]); (with_reducible repeat (first | apply Kd.R_alloc | apply Kd.R_drewN | apply Kd.R_drew)); exact HQ12.out⟩, ⟨by repeat (first | (with_reducible first | exact HB.out | apply below_alloc | apply pw_below_drewN | apply below_drew1 | refine below_set ?_ GB10.out) | exact HB.out)⟩⟩
      ·
       rw [if_neg c9] at H
       exact absurd H (by simp)
     ·
      rw [if_neg c8] at H
      exact absurd H (by simp)
    ·
     rw [if_neg c7] at H
     exact absurd H (by simp)
   ·
    rw [if_neg c6] at H
    have c6b0 := decide_eq_false c6
    (try simp only [hl6_1] at c6b0)
    clear c6
    simp only [Option.some.injEq, Prod.mk.injEq] at H
    obtain ⟨rfl, rfl⟩ := H
    go_wp2
    go_ret2
    exact ⟨_, qce7_, q9d5_ HO_6.out, q0c4_⟩

end Go.Proofs.YtleemfmhilhklaaGreat.PAll
