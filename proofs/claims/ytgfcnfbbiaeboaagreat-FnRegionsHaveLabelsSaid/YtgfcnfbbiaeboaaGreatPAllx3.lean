-- written by a program of this session (wip/gen/xpatch.py over the translation); Lean checks it
import Derived.Test.YtgfcnfbbiaeboaaGreatPAllx0
import Derived.Test.YtgfcnfbbiaeboaaGreatPAllx1
import Derived.Test.YtgfcnfbbiaeboaaGreatPAllx2
namespace Go.Proofs.YtgfcnfbbiaeboaaGreat.PAll
open Go.RowKit Go.Proofs.YtgfcnfbbiaeboaaGreat.Hand Go.Proofs.YtgfcnfbbiaeboaaGreatW.PrintWords Go.Proofs.YtgfcnfbbiaeboaaGreatW.PrintLast Go.Proofs.YtgfcnfbbiaeboaaGreatW.PrintMore
attribute [local go_sem] max2_int min2_int max_two min_two max_three min_three max_four min_four   -- for this text's walks alone
set_option maxHeartbeats 8000000
set_option maxRecDepth 100000
set_option linter.unusedVariables false
set_option linter.unusedSimpArgs false

/-! ### spec_reCount: function 45 -/
def spec_reCount.l0 : Nat → Int → Int → Int → List Int → Int → Int → Option (Int)
 | 0, _, _, _, _, _, _ => none
 | k + 1, x1, x2, x7, x10, x11, x12 => if x12 < x11 then (if 0 ≤ x12 then (if x12 < (x10.length : Int) then (if (rd x10 x12) > x2 then (spec_reCount.l0 k x1 x2 (wrap64 (x7 + 1)) x10 x11 (wrap64 (x12 + 1))) else (if x12 < x1 then (spec_reCount.l0 k x1 x2 (wrap64 (x7 + 1)) x10 x11 (wrap64 (x12 + 1))) else (spec_reCount.l0 k x1 x2 x7 x10 x11 (wrap64 (x12 + 1))))) else (none)) else (none)) else (some x7)
def spec_reCount.f (k : Nat) (l0 : List Int) (a1 : Int) (a2 : Int) : Option (Int) := spec_reCount.l0 k a1 a2 0 l0 (l0.length : Int) 0
theorem spec_reCount.mono_l : ∀ k, (∀ y0 y1 y2 y3 y4 y5, LeO (spec_reCount.l0 k y0 y1 y2 y3 y4 y5) (spec_reCount.l0 (k + 1) y0 y1 y2 y3 y4 y5))
 | 0 => fun _ _ _ _ _ _ r h => by simp [spec_reCount.l0] at h
 | k + 1 => by
  have ih0 := spec_reCount.mono_l k
  ·
   intro y0 y1 y2 y3 y4 y5
   unfold spec_reCount.l0
   repeat' (with_reducible first | exact ih0 _ _ _ _ _ _ | exact LeO.refl _ | exact LeO.none _ | refine LeO.ite ?_ ?_ | refine LeO.bind ?_ (fun _ => ?_))
theorem spec_reCount.mono : ∀ a0 a1 a2 k, LeO (spec_reCount.f k a0 a1 a2) (spec_reCount.f (k + 1) a0 a1 a2) := by
 intro a0 a1 a2 k
 have ih0 := spec_reCount.mono_l k
 unfold spec_reCount.f
 repeat' (with_reducible first | exact ih0 _ _ _ _ _ _ | exact LeO.refl _ | exact LeO.none _ | refine LeO.ite ?_ ?_ | refine LeO.bind ?_ (fun _ => ?_))
theorem spec_reCount.calls (k : Nat) (A0 : Option Addr) (c0 : Nat) (l0 : List Int) (a1 : Int) (a2 : Int) (r : Int) (w : World) (hr0 : Kd.C (Kd.int .i64) w A0 l0.length l0) (hc0 : l0.length ≤ c0) (h : spec_reCount.f k l0 a1 a2 = some r) :
  Calls Tryz.prog 45 #[.slice A0 l0.length c0, .int .i64 a1, .int .i64 a2] w fun e w' => e = .returned (.int .i64 r) ∧ Drawn0 w w' := by
 have HR0 := Aside0.mk hr0
 have HC0 := Aside0.mk hc0
 clear hr0 hc0
 unfold spec_reCount.f at h
 have H := h; clear h
 have H' := Aside0.mk H
 clear H
 go_enter Tryz.func45, Tryz.ntmps45
 go_wp2
 go_loopg [7, 12] k (fun kq v7 v12 w' => ∃ (x7_1 : Int) (x12_1 : Int), v7 = .int .i64 x7_1 ∧ v12 = .int .i64 x12_1 ∧ Aside0 (spec_reCount.l0 kq a1 a2 x7_1 l0 (l0.length : Int) x12_1 = some r) ∧ Aside0 (kq ≤ k) ∧ Drawn0 w w')
 case atStart => exact ⟨(0), (0), qc8f_, qc8f_, H', ⟨Nat.le_refl _⟩, qffa_⟩
 case round =>
  clear H'; try clear p2
  obtain ⟨x7_1, x12_1, rfl, rfl, HA, HK1, ⟨m1, rfl⟩⟩ := hrel
  cases gk with
  | zero => exact absurd HA.out (by simp [spec_reCount.l0])
  | succ k1 =>
   have H := HA.out
   clear HA
   simp only [spec_reCount.l0] at H
   by_cases c4 : x12_1 < (l0.length : Int)
   ·
    rw [if_pos c4] at H
    have c4b0 := decide_eq_true c4
    clear c4
    by_cases c5 : 0 ≤ x12_1
    ·
     rw [if_pos c5] at H
     have c5b0 := decide_eq_true c5
     clear c5
     by_cases c6 : x12_1 < (l0.length : Int)
     ·
      rw [if_pos c6] at H
      have c6b0 := decide_eq_true c6
      clear c6
      by_cases c7 : (rd l0 x12_1) > a2
      ·
       rw [if_pos c7] at H
       have c7b0 := decide_eq_true c7
       clear c7
       have H' := Aside0.mk H
       clear H
       have p266 : 0 ≤ (x12_1 : Int) := of_decide_eq_true qe84_
       have q266 : x12_1 < (l0.length : Int) := of_decide_eq_true qe84_
       obtain ⟨ad266, e266, hx266_0⟩ := Kd.at_int HR0.out x12_1 p266 q266
       cases e266
       replace p266 := eq_true p266
       replace q266 := eq_true q266
       go_wp2
       go_roundg k1
       case measure => have := HK1.out; omega
       case rel => exact ⟨(wrap64 (x7_1 + 1)), (wrap64 (x12_1 + 1)), qc8f_, qc8f_, H', ⟨by have := HK1.out; omega⟩, qffa_⟩
      ·
       rw [if_neg c7] at H
       have c7b0 := decide_eq_false c7
       clear c7
       by_cases c8 : x12_1 < a1
       ·
        rw [if_pos c8] at H
        have c8b0 := decide_eq_true c8
        clear c8
        have H' := Aside0.mk H
        clear H
        have p266 : 0 ≤ (x12_1 : Int) := of_decide_eq_true qe84_
        have q266 : x12_1 < (l0.length : Int) := of_decide_eq_true qe84_
        obtain ⟨ad266, e266, hx266_0⟩ := Kd.at_int HR0.out x12_1 p266 q266
        cases e266
        replace p266 := eq_true p266
        replace q266 := eq_true q266
        go_wp2
        go_roundg k1
        case measure => have := HK1.out; omega
        case rel => exact ⟨(wrap64 (x7_1 + 1)), (wrap64 (x12_1 + 1)), qc8f_, qc8f_, H', ⟨by have := HK1.out; omega⟩, qffa_⟩
       ·
        rw [if_neg c8] at H
        have c8b0 := decide_eq_false c8
        clear c8
        have H' := Aside0.mk H
        clear H
        have p266 : 0 ≤ (x12_1 : Int) := of_decide_eq_true qe84_
        have q266 : x12_1 < (l0.length : Int) := of_decide_eq_true qe84_
        obtain ⟨ad266, e266, hx266_0⟩ := Kd.at_int HR0.out x12_1 p266 q266
        cases e266
        replace p266 := eq_true p266
        replace q266 := eq_true q266
        go_wp2
        go_roundg k1
        case measure => have := HK1.out; omega
        case rel => exact ⟨(x7_1), (wrap64 (x12_1 + 1)), qc8f_, qc8f_, H', ⟨by have := HK1.out; omega⟩, qffa_⟩
     ·
      rw [if_neg c6] at H
      exact absurd H (by simp)
    ·
     rw [if_neg c5] at H
     exact absurd H (by simp)
   ·
    rw [if_neg c4] at H
    have c4b0 := decide_eq_false c4
    clear c4
    obtain rfl := Option.some.inj H
    go_wp2
    go_ret
    exact ⟨qc8f_, qffa_⟩

/-! ### spec_reGoOn: function 23 -/
mutual
def spec_reGoOn.j0 : Nat → List Int → Int → Int → List Int → List Int → Option (List Int × List Int × Bool)
 | 0, _, _, _, _, _ => none
 | k + 1, x1, x6, x7, x282000, x282001 => spec_reGoOn.l0 k x1 x6 x7 x1 (x1.length : Int) 0 x282000 x282001
def spec_reGoOn.l0 : Nat → List Int → Int → Int → List Int → Int → Int → List Int → List Int → Option (List Int × List Int × Bool)
 | 0, _, _, _, _, _, _, _, _ => none
 | k + 1, x1, x6, x7, x30, x31, x32, x282000, x282001 => if x32 < x31 then (if 0 ≤ x32 then (if x32 < (x30.length : Int) then ((spec_l1Has.f k x282000 x32).bind fun t285 => (if t285 = true then (spec_reGoOn.l0 k x1 x6 x7 x30 x31 (wrap64 (x32 + 1)) x282000 x282001) else (spec_reGoOn.l1 k x1 x6 x7 x32 (rd x30 x32) x7 x30 x31 x32 x282000 x282001))) else (none)) else (none)) else (some (([] : List Int), ([] : List Int), false))
def spec_reGoOn.l1 : Nat → List Int → Int → Int → Int → Int → Int → List Int → Int → Int → List Int → List Int → Option (List Int × List Int × Bool)
 | 0, _, _, _, _, _, _, _, _, _, _, _ => none
 | k + 1, x1, x6, x7, x8, x9, x10, x30, x31, x32, x282000, x282001 => if x10 ≤ x6 then (if x10 > x7 then (if 0 ≤ (wrap64 (x10 - 1)) then (if (wrap64 (x10 - 1)) < (x282000.length : Int) then (if (rd x282000 (wrap64 (x10 - 1))) > x8 then (spec_reGoOn.j3 k x1 x6 x7 x8 x9 x10 x30 x31 x32 true x282000 x282001) else ((spec_reCount.f k x282000 x10 x8).bind fun t287 => (spec_reGoOn.j3 k x1 x6 x7 x8 x9 x10 x30 x31 x32 (t287 != x9) x282000 x282001))) else (none)) else (none)) else ((spec_reCount.f k x282000 x10 x8).bind fun t288 => (spec_reGoOn.j3 k x1 x6 x7 x8 x9 x10 x30 x31 x32 (t288 != x9) x282000 x282001))) else (spec_reGoOn.l0 k x1 x6 x7 x30 x31 (wrap64 (x32 + 1)) x282000 x282001)
def spec_reGoOn.j3 : Nat → List Int → Int → Int → Int → Int → Int → List Int → Int → Int → Bool → List Int → List Int → Option (List Int × List Int × Bool)
 | 0, _, _, _, _, _, _, _, _, _, _, _, _ => none
 | k + 1, x1, x6, x7, x8, x9, x10, x30, x31, x32, x68, x282000, x282001 => if x68 = true then (spec_reGoOn.l1 k x1 x6 x7 x8 x9 (wrap64 (x10 + 1)) x30 x31 x32 x282000 x282001) else ((spec_l1Own.f x282000).bind fun t289 => ((some (([x8] : List Int) : List Int)).bind fun y292 => (if t289.length + y292.length < 17592186044416 then ((spec_l1Own.f x282001).bind fun t298 => ((some (([x10] : List Int) : List Int)).bind fun y301 => (if t298.length + y301.length < 17592186044416 then ((spec_reGoOn.f k (t289 ++ y292) (t298 ++ y301) x1).bind fun bt308 => (if bt308.2.2 = true then (some (bt308.1, bt308.2.1, true)) else (spec_reGoOn.l1 k x1 x6 x7 x8 x9 (wrap64 (x10 + 1)) x30 x31 x32 x282000 x282001))) else (none)))) else (none))))
def spec_reGoOn.f : Nat → List Int → List Int → List Int → Option (List Int × List Int × Bool)
 | 0, _, _, _ => none
 | k + 1, l0_0, l0_1, l1 => if (l0_0.length : Int) = (l1.length : Int) then (some (l0_0, l0_1, true)) else (if (l0_0.length : Int) > 0 then (if 0 ≤ (wrap64 ((l0_0.length : Int) - 1)) then (if (wrap64 ((l0_0.length : Int) - 1)) < (l0_1.length : Int) then (spec_reGoOn.j0 k l1 (l0_0.length : Int) (rd l0_1 (wrap64 ((l0_0.length : Int) - 1))) l0_0 l0_1) else (none)) else (none)) else (spec_reGoOn.j0 k l1 (l0_0.length : Int) 0 l0_0 l0_1))
end
theorem spec_reGoOn.mono_l : ∀ k, (∀ y0 y1 y2, LeO (spec_reGoOn.f k y0 y1 y2) (spec_reGoOn.f (k + 1) y0 y1 y2)) ∧ (∀ y0 y1 y2 y3 y4, LeO (spec_reGoOn.j0 k y0 y1 y2 y3 y4) (spec_reGoOn.j0 (k + 1) y0 y1 y2 y3 y4)) ∧ (∀ y0 y1 y2 y3 y4 y5 y6 y7, LeO (spec_reGoOn.l0 k y0 y1 y2 y3 y4 y5 y6 y7) (spec_reGoOn.l0 (k + 1) y0 y1 y2 y3 y4 y5 y6 y7)) ∧ (∀ y0 y1 y2 y3 y4 y5 y6 y7 y8 y9 y10, LeO (spec_reGoOn.l1 k y0 y1 y2 y3 y4 y5 y6 y7 y8 y9 y10) (spec_reGoOn.l1 (k + 1) y0 y1 y2 y3 y4 y5 y6 y7 y8 y9 y10)) ∧ (∀ y0 y1 y2 y3 y4 y5 y6 y7 y8 y9 y10 y11, LeO (spec_reGoOn.j3 k y0 y1 y2 y3 y4 y5 y6 y7 y8 y9 y10 y11) (spec_reGoOn.j3 (k + 1) y0 y1 y2 y3 y4 y5 y6 y7 y8 y9 y10 y11))
 | 0 => ⟨fun _ _ _ r h => by simp [spec_reGoOn.f] at h, fun _ _ _ _ _ r h => by simp [spec_reGoOn.j0] at h, fun _ _ _ _ _ _ _ _ r h => by simp [spec_reGoOn.l0] at h, fun _ _ _ _ _ _ _ _ _ _ _ r h => by simp [spec_reGoOn.l1] at h, fun _ _ _ _ _ _ _ _ _ _ _ _ r h => by simp [spec_reGoOn.j3] at h⟩
 | k + 1 => by
  obtain ⟨ih0, ih1, ih2, ih3, ih4⟩ := spec_reGoOn.mono_l k
  refine ⟨?_, ?_, ?_, ?_, ?_⟩
  ·
   intro y0 y1 y2
   unfold spec_reGoOn.f
   repeat' (with_reducible first | exact ih0 _ _ _ | exact ih1 _ _ _ _ _ | exact ih2 _ _ _ _ _ _ _ _ | exact ih3 _ _ _ _ _ _ _ _ _ _ _ | exact ih4 _ _ _ _ _ _ _ _ _ _ _ _ | exact spec_l1Has.mono _ _ _ | exact spec_reCount.mono _ _ _ _ | exact LeO.refl _ | exact LeO.none _ | refine LeO.ite ?_ ?_ | refine LeO.bind ?_ (fun _ => ?_))
  ·
   intro y0 y1 y2 y3 y4
   unfold spec_reGoOn.j0
   repeat' (with_reducible first | exact ih0 _ _ _ | exact ih1 _ _ _ _ _ | exact ih2 _ _ _ _ _ _ _ _ | exact ih3 _ _ _ _ _ _ _ _ _ _ _ | exact ih4 _ _ _ _ _ _ _ _ _ _ _ _ | exact spec_l1Has.mono _ _ _ | exact spec_reCount.mono _ _ _ _ | exact LeO.refl _ | exact LeO.none _ | refine LeO.ite ?_ ?_ | refine LeO.bind ?_ (fun _ => ?_))
  ·
   intro y0 y1 y2 y3 y4 y5 y6 y7
   unfold spec_reGoOn.l0
   repeat' (with_reducible first | exact ih0 _ _ _ | exact ih1 _ _ _ _ _ | exact ih2 _ _ _ _ _ _ _ _ | exact ih3 _ _ _ _ _ _ _ _ _ _ _ | exact ih4 _ _ _ _ _ _ _ _ _ _ _ _ | exact spec_l1Has.mono _ _ _ | exact spec_reCount.mono _ _ _ _ | exact LeO.refl _ | exact LeO.none _ | refine LeO.ite ?_ ?_ | refine LeO.bind ?_ (fun _ => ?_))
  ·
   intro y0 y1 y2 y3 y4 y5 y6 y7 y8 y9 y10
   unfold spec_reGoOn.l1
   repeat' (with_reducible first | exact ih0 _ _ _ | exact ih1 _ _ _ _ _ | exact ih2 _ _ _ _ _ _ _ _ | exact ih3 _ _ _ _ _ _ _ _ _ _ _ | exact ih4 _ _ _ _ _ _ _ _ _ _ _ _ | exact spec_l1Has.mono _ _ _ | exact spec_reCount.mono _ _ _ _ | exact LeO.refl _ | exact LeO.none _ | refine LeO.ite ?_ ?_ | refine LeO.bind ?_ (fun _ => ?_))
  ·
   intro y0 y1 y2 y3 y4 y5 y6 y7 y8 y9 y10 y11
   unfold spec_reGoOn.j3
   repeat' (with_reducible first | exact ih0 _ _ _ | exact ih1 _ _ _ _ _ | exact ih2 _ _ _ _ _ _ _ _ | exact ih3 _ _ _ _ _ _ _ _ _ _ _ | exact ih4 _ _ _ _ _ _ _ _ _ _ _ _ | exact spec_l1Has.mono _ _ _ | exact spec_reCount.mono _ _ _ _ | exact LeO.refl _ | exact LeO.none _ | refine LeO.ite ?_ ?_ | refine LeO.bind ?_ (fun _ => ?_))
theorem spec_reGoOn.mono : ∀ a0 a1 a2 k, LeO (spec_reGoOn.f k a0 a1 a2) (spec_reGoOn.f (k + 1) a0 a1 a2) := by
 intro a0 a1 a2 k
 obtain ⟨ih0, ih1, ih2, ih3, ih4⟩ := spec_reGoOn.mono_l k
 exact ih0 a0 a1 a2
def spec_reGoOn.T15 : Bool × List (List Nat × List Nat) := (true, [([], []), ([0], [0]), ([1], [1]), ([], []), ([3], [3]), ([2, 4, 2], [2, 4]), ([], []), ([6], [6]), ([7, 5], [7]), ([], []), ([9], [9]), ([8, 10, 8], [8, 10]), ([5, 11], [5, 11]), ([], []), ([13, 12, 11, 0, 1, 2, 3, 4, 5, 6, 7, 8, 9, 10, 11, 12, 13], [12, 13])])
def spec_reGoOn.B15 : List Nat := [0, 1, 3, 0, 8, 31, 0, 64, 255, 0, 512, 2047, 4095, 0, 16383]
theorem spec_reGoOn.tab15 : rtab .any (opsOf Tryz.f23 15) = spec_reGoOn.T15 := by kernel_rfl
theorem spec_reGoOn.bits15 : waitsOk spec_reGoOn.T15.2 spec_reGoOn.B15 = true := by kernel_rfl
theorem spec_reGoOn.calls0 (k : Nat) : ∀ (A0 : Option Addr) (c0 : Nat) (l0 : List Int) (B0 : Option Addr) (d0 : Nat) (l1_0 : List Int) (B1 : Option Addr) (d1 : Nat) (l1_1 r1 r2 : List Int) (r3 : Bool) (w : World) (hr0 : Kd.C (Kd.int .i64) w A0 l0.length l0) (hc0 : l0.length ≤ c0) (hr1 : Kd.C (Kd.int .i64) w B0 l1_0.length l1_0) (hc1 : l1_0.length ≤ d0) (hr2 : Kd.C (Kd.int .i64) w B1 l1_1.length l1_1) (hc2 : l1_1.length ≤ d1) (h : spec_reGoOn.f k l1_0 l1_1 l0 = some (r1, r2, r3)),
  Calls Tryz.prog 23 #[.agg #[.slice B0 l1_0.length d0, .slice B1 l1_1.length d1], .slice A0 l0.length c0] w fun e w' => ∃ v0_ v1_ : Value, e = .returned (.tuple #[.agg #[v0_, v1_], .bool r3]) ∧ RgR w w' (.slice B0 l1_0.length d0 : Value) (.slice B1 l1_1.length d1 : Value) l1_0 l1_1 v0_ v1_ r1 r2 := by
 induction k using Nat.strongRecOn with
 | _ k ih =>
 intro A0 c0 l0 B0 d0 l1_0 B1 d1 l1_1 r1 r2 r3 w hr0 hc0 hr1 hc1 hr2 hc2 h
 cases k with
 | zero => exact absurd h (by simp [spec_reGoOn.f])
 | succ k =>
 simp only [spec_reGoOn.f] at h
 have hu33 := Tryz.underlying27
 have HR0 := Aside0.mk hr0
 have HC0 := Aside0.mk hc0
 have HR1 := Aside0.mk hr1
 have HC1 := Aside0.mk hc1
 have HR2 := Aside0.mk hr2
 have HC2 := Aside0.mk hc2
 clear hr0 hc0 hr1 hc1 hr2 hc2; have H := h; clear h
 by_cases c3 : (l1_0.length : Int) = (l0.length : Int)
 ·
  rw [if_pos c3] at H
  have c3b0 := beq_iff_eq.mpr c3
  have c3b1 := bne_eq_false_iff_eq.mpr c3
  have c3b2 : (l1_0.length == l0.length) = true := q002_
  clear c3
  simp only [Option.some.injEq, Prod.mk.injEq] at H
  obtain ⟨rfl, rfl, rfl⟩ := H
  go_enter Tryz.func23, Tryz.ntmps23
  go_wp2_with (first | ((with_reducible refine gate_dst (N := 2) rfl ?_); refine box_event ?hg (N := 2) ?hd (cs := #[.slice B0 l1_0.length d0, .slice B1 l1_1.length d1]) (t := 27) ?hr ?_; (case hd => rfl); (case hg => rfl); (case hr => exact qfba_); intro g5 hg w4 hbox hb; have BK5 := Aside0.mk hbox; have HB := Aside0.mk (below_step (Below.refl _ _) hb); have GE5 := Aside0.mk (Nat.le_of_eq hg.symm); clear hb hbox hg) | ((with_reducible refine gate_dst (N := 4) rfl ?_); refine box_event ?hg (N := 4) ?hd (cs := #[.slice none 0 0, .slice none 0 0]) (t := 27) ?hr ?_; (case hd => rfl); (case hg => rfl); (case hr => exact qfba_); intro g6 hg w5 hbox hb; have HG := Aside0.mk (show Rg0 w w5 g5 g6 (.slice B0 l1_0.length d0 : Value) (.slice B1 l1_1.length d1 : Value) from ⟨below_step HB.out hb, blk_below BK5.out hb, hbox, GE5.out, by rw [hg]; exact HB.out.size, by rw [hg]; exact Nat.ne_of_lt (blk_lt BK5.out)⟩); clear hb hbox hg BK5 HB; have hnb := HG.out.ne; have hnc := HG.out.ne.symm; have hcz0 : w5.cell? ⟨g5, 0, none⟩ = some (.slice B0 l1_0.length d0) := (blk_cell HG.out.h5 0).trans rfl; have hcz1 : w5.cell? ⟨g5, 1, none⟩ = some (.slice B1 l1_1.length d1) := (blk_cell HG.out.h5 1).trans rfl; have hfz0 := blk_frozen HG.out.h5 0; have hfz1 := blk_frozen HG.out.h5 1; have hyz0 : w5.cell? ⟨g6, 0, none⟩ = some (.slice none 0 0) := (blk_cell HG.out.h6 0).trans rfl; have hyz1 : w5.cell? ⟨g6, 1, none⟩ = some (.slice none 0 0) := (blk_cell HG.out.h6 1).trans rfl; have hyf0 := blk_frozen HG.out.h6 0; have hyf1 := blk_frozen HG.out.h6 1))
  refine bodyPost_ret (results_ct rfl _ _ g6 27 #[.slice B0 l1_0.length d0, .slice B1 l1_1.length d1] (0, 0) _ rfl q87a_ Tryz.underlying27 rfl (by kernel_rfl)) rfl ?_
  exact ⟨_, _, q6e2_, ⟨qae6_, .inl ⟨rfl, rfl, rfl, rfl⟩⟩⟩
 ·
  rw [if_neg c3] at H
  have c3b0 := beq_eq_false_iff_ne.mpr c3
  have c3b1 := bne_iff_ne.mpr c3
  have c3b2 : (l1_0.length == l0.length) = false := q002_
  clear c3
  have HC11 := Aside0.mk H
  clear H
  go_enter Tryz.func23, Tryz.ntmps23
  go_upto_if 23 with (first | ((with_reducible refine gate_dst (N := 2) rfl ?_); refine box_event ?hg (N := 2) ?hd (cs := #[.slice B0 l1_0.length d0, .slice B1 l1_1.length d1]) (t := 27) ?hr ?_; (case hd => rfl); (case hg => rfl); (case hr => exact qfba_); intro g5 hg w4 hbox hb; have BK5 := Aside0.mk hbox; have HB := Aside0.mk (below_step (Below.refl _ _) hb); have GE5 := Aside0.mk (Nat.le_of_eq hg.symm); clear hb hbox hg) | ((with_reducible refine gate_dst (N := 4) rfl ?_); refine box_event ?hg (N := 4) ?hd (cs := #[.slice none 0 0, .slice none 0 0]) (t := 27) ?hr ?_; (case hd => rfl); (case hg => rfl); (case hr => exact qfba_); intro g6 hg w5 hbox hb; have HG := Aside0.mk (show Rg0 w w5 g5 g6 (.slice B0 l1_0.length d0 : Value) (.slice B1 l1_1.length d1 : Value) from ⟨below_step HB.out hb, blk_below BK5.out hb, hbox, GE5.out, by rw [hg]; exact HB.out.size, by rw [hg]; exact Nat.ne_of_lt (blk_lt BK5.out)⟩); clear hb hbox hg BK5 HB; have hnb := HG.out.ne; have hnc := HG.out.ne.symm; have hcz0 : w5.cell? ⟨g5, 0, none⟩ = some (.slice B0 l1_0.length d0) := (blk_cell HG.out.h5 0).trans rfl; have hcz1 : w5.cell? ⟨g5, 1, none⟩ = some (.slice B1 l1_1.length d1) := (blk_cell HG.out.h5 1).trans rfl; have hfz0 := blk_frozen HG.out.h5 0; have hfz1 := blk_frozen HG.out.h5 1))
  (try simp only [Act.put, List.setIfInBounds_toArray, List.set_cons_zero, List.set_cons_succ])
  clear hnb hnc hcz0 hcz1 hfz0 hfz1
  go_cut [7] (fun v7 wc => ∃ (kq : Nat) (x7 : Int), v7 = .int .i64 x7 ∧ Aside0 (spec_reGoOn.j0 kq l0 (l1_0.length : Int) x7 l1_0 l1_1 = some (r1, r2, r3)) ∧ Aside0 (kq ≤ k) ∧ Aside0 (Rg0 w wc g5 g6 (.slice B0 l1_0.length d0 : Value) (.slice B1 l1_1.length d1 : Value)))
  case first =>
   have H := HC11.out
   clear HC11
   by_cases c18 : (l1_0.length : Int) > 0
   ·
    rw [if_pos c18] at H
    have c18b0 := decide_eq_true c18
    have c18b1 : decide (0 < l1_0.length) = true := decide_eq_true (by omega)
    clear c18
    (first | rw [c18b1] | rw [c18b0])
    obtain ⟨ji, hji⟩ : ∃ j_ : Int, (wrap64 ((l1_0.length : Int) - 1)) = j_ := ⟨_, rfl⟩
    replace H : (if 0 ≤ ji then (if ji < (l1_1.length : Int) then (spec_reGoOn.j0 k l0 (l1_0.length : Int) (rd l1_1 ji) l1_0 l1_1) else (none)) else (none)) = some (r1, r2, r3) := by first | (rw [hji] at H; exact H) | (simp only [hji] at H ⊢; exact H)
    have hjiw : (IntKind.i64.wrap ((l1_0.length : Int) - 1)) = ji := (i64_w _).trans hji
    by_cases c20 : 0 ≤ ji
    ·
     rw [if_pos c20] at H
     by_cases c21 : ji < (l1_1.length : Int)
     ·
      rw [if_pos c21] at H
      have c20b0 := decide_eq_true c20
      have c21b0 := decide_eq_true c21
      have H' := Aside0.mk H
      clear H
      have hnb := HG.out.ne
      have hnc := HG.out.ne.symm
      have hcz0 : w5.cell? ⟨g5, 0, none⟩ = some (.slice B0 l1_0.length d0) := (blk_cell HG.out.h5 0).trans rfl
      have hcz1 : w5.cell? ⟨g5, 1, none⟩ = some (.slice B1 l1_1.length d1) := (blk_cell HG.out.h5 1).trans rfl
      have hfz0 := blk_frozen HG.out.h5 0
      have hfz1 := blk_frozen HG.out.h5 1
      obtain ⟨ad1, e1, hx1⟩ := Kd.at_int (Kd.C_below HR2.out HG.out.below) ji c20 c21
      cases e1
      replace c20 := eq_true c20
      replace c21 := eq_true c21
      go_wp2
      go_meet
      case rel => exact ⟨_, (rd l1_1 ji), (by first | rfl | (simp; done) | (simp only [← hji] <;> (first | rfl | simp)) | (simp [*]; done)), H', ⟨Nat.le_refl _⟩, ⟨qc52_⟩⟩
     · rw [if_neg c21] at H; exact absurd H (by simp)
    · rw [if_neg c20] at H; exact absurd H (by simp)
   ·
    rw [if_neg c18] at H
    have c18b0 := decide_eq_false c18
    have c18b1 : decide (0 < l1_0.length) = false := decide_eq_false (by omega)
    clear c18
    (first | rw [c18b1] | rw [c18b0])
    have H' := Aside0.mk H
    clear H
    go_wp2
    go_meet
    case rel => exact ⟨_, 0, qc8f_, H', ⟨Nat.le_refl _⟩, ⟨qc52_⟩⟩
  case rest =>
   clear HC11 HG c3b0 c3b1 c3b2; try clear GE5
   obtain ⟨kq, x7, rfl, HA, HJ1, HG⟩ := hcut
   cases kq with
   | zero => exact absurd HA.out (by simp [spec_reGoOn.j0])
   | succ kj =>
   have H := HA.out
   clear HA
   simp only [spec_reGoOn.j0] at H
   have H' := Aside0.mk H
   clear H
   go_wp2
   go_loopg [32] kj (fun kq v32 w' => ∃ (x32 : Int), v32 = .int .i64 x32 ∧ Aside0 (spec_reGoOn.l0 kq l0 (l1_0.length : Int) x7 l0 (l0.length : Int) x32 l1_0 l1_1 = some (r1, r2, r3)) ∧ Aside0 (kq ≤ kj) ∧ Aside0 (Rg0 w w' g5 g6 (.slice B0 l1_0.length d0 : Value) (.slice B1 l1_1.length d1 : Value)))
   case atStart => exact ⟨0, q6e2_, H', ⟨Nat.le_refl _⟩, ⟨qc52_⟩⟩
   case round =>
    clear H' HG
    obtain ⟨x32, rfl, HA, HK2, HG⟩ := hrel
    cases gk with
    | zero => exact absurd HA.out (by simp [spec_reGoOn.l0])
    | succ k2 =>
    have H := HA.out
    clear HA
    simp only [spec_reGoOn.l0] at H
    by_cases c24 : x32 < (l0.length : Int)
    ·
     rw [if_pos c24] at H
     have c24b0 := decide_eq_true c24
     by_cases c25 : 0 ≤ x32
     ·
      rw [if_pos c25, if_pos c24] at H
      have c25b0 := decide_eq_true c25
      obtain ⟨t1, A1, H⟩ := ob_ H
      obtain ⟨ad2, e2, hx2⟩ := Kd.at_int (Kd.C_below HR0.out HG.out.below) x32 c25 c24
      cases e2
      replace c24 := eq_true c24
      replace c25 := eq_true c25
      have hnb := HG.out.ne
      have hnc := HG.out.ne.symm
      have hcz0 : wr.cell? ⟨g5, 0, none⟩ = some (.slice B0 l1_0.length d0) := (blk_cell HG.out.h5 0).trans rfl
      have hcz1 : wr.cell? ⟨g5, 1, none⟩ = some (.slice B1 l1_1.length d1) := (blk_cell HG.out.h5 1).trans rfl
      have hfz0 := blk_frozen HG.out.h5 0
      have hfz1 := blk_frozen HG.out.h5 1
      cases t1 with
      | true =>
       rw [if_pos rfl] at H
       have H' := Aside0.mk H
       clear H
       go_wp2_with (first | ((with_reducible refine gate_callee (f := 44) rfl ?_); refine gl_ 40 Tryz.func44 #[.slice B0 l1_0.length d0, .int .i64 x32] ?_; (with_reducible refine (spec_l1Has.calls k2 _ _ l1_0 x32 true _ ?s1 ?s2 A1.out).mono ?_); (case s1 => exact (q5e2_ HR1.out)); (case s2 => exact HC1.out); rintro e w' ⟨rfl, ⟨nd, rfl⟩⟩; refine ⟨_, rfl, ?_⟩))
       go_roundg k2
       case measure => have := HJ1.out; have := HK2.out; omega
       case rel => exact ⟨(wrap64 (x32 + 1)), qc8f_, H', ⟨q37b_ HJ1.out HK2.out⟩, ⟨qc52_⟩⟩
      | false =>
       rw [if_neg nf_] at H
       have HC31 := Aside0.mk H
       clear H
       have H' := Aside0.mk HC31.out
       clear HC31
       go_wp2_with (first | ((with_reducible refine gate_callee (f := 44) rfl ?_); refine gl_ 40 Tryz.func44 #[.slice B0 l1_0.length d0, .int .i64 x32] ?_; (with_reducible refine (spec_l1Has.calls k2 _ _ l1_0 x32 false _ ?s1 ?s2 A1.out).mono ?_); (case s1 => exact (q5e2_ HR1.out)); (case s2 => exact HC1.out); rintro e w' ⟨rfl, ⟨nd, rfl⟩⟩; refine ⟨_, rfl, ?_⟩))
       go_loopg [10] k2 (fun kq v10 w' => ∃ (x10 : Int), v10 = .int .i64 x10 ∧ Aside0 (spec_reGoOn.l1 kq l0 (l1_0.length : Int) x7 x32 (rd l0 x32) x10 l0 (l0.length : Int) x32 l1_0 l1_1 = some (r1, r2, r3)) ∧ Aside0 (kq ≤ k2) ∧ Aside0 (Rg0 w w' g5 g6 (.slice B0 l1_0.length d0 : Value) (.slice B1 l1_1.length d1 : Value)))
       case atStart => exact ⟨x7, q6e2_, H', ⟨Nat.le_refl _⟩, ⟨qc52_⟩⟩
       case round =>
        clear H' HG hnb hnc hcz0 hcz1 hfz0 hfz1
        obtain ⟨x10, rfl, HA, HK3, HG⟩ := hrel
        cases gk with
        | zero => exact absurd HA.out (by simp [spec_reGoOn.l1])
        | succ k3 =>
        have H := HA.out
        clear HA
        simp only [spec_reGoOn.l1] at H
        by_cases c33 : x10 ≤ (l1_0.length : Int)
        ·
         rw [if_pos c33] at H
         have c33b0 := decide_eq_true c33
         clear c33
         have HC34 := Aside0.mk H
         clear H
         go_upto_region 14 with (fail)
         go_cut [68] (fun v68 wc => ∃ (kq : Nat) (x68 : Bool), v68 = .bool x68 ∧ Aside0 (spec_reGoOn.j3 kq l0 (l1_0.length : Int) x7 x32 (rd l0 x32) x10 l0 (l0.length : Int) x32 x68 l1_0 l1_1 = some (r1, r2, r3)) ∧ Aside0 (kq ≤ k3) ∧ Aside0 (Rg0 w wc g5 g6 (.slice B0 l1_0.length d0 : Value) (.slice B1 l1_1.length d1 : Value)))
         case first =>
          have H := HC34.out
          clear HC34
          by_cases c35 : x10 > x7
          ·
           rw [if_pos c35] at H
           have c35b0 := decide_eq_true c35
           clear c35
           (first | rw [c35b0] | (simp only [i64_w, i32_w]; rw [c35b0]) | skip)
           obtain ⟨jj, hjj⟩ : ∃ j_ : Int, (wrap64 (x10 - 1)) = j_ := ⟨_, rfl⟩
           replace H : (if 0 ≤ jj then (if jj < (l1_0.length : Int) then (if (rd l1_0 jj) > x32 then (spec_reGoOn.j3 k3 l0 (l1_0.length : Int) x7 x32 (rd l0 x32) x10 l0 (l0.length : Int) x32 true l1_0 l1_1) else ((spec_reCount.f k3 l1_0 x10 x32).bind fun t287 => (spec_reGoOn.j3 k3 l0 (l1_0.length : Int) x7 x32 (rd l0 x32) x10 l0 (l0.length : Int) x32 (t287 != (rd l0 x32)) l1_0 l1_1))) else (none)) else (none)) = some (r1, r2, r3) := by first | (rw [hjj] at H; exact H) | (simp only [hjj] at H ⊢; exact H)
           have hjjw : (IntKind.i64.wrap (x10 - 1)) = jj := (i64_w _).trans hjj
           by_cases c37 : 0 ≤ jj
           ·
            rw [if_pos c37] at H
            by_cases c38 : jj < (l1_0.length : Int)
            ·
             rw [if_pos c38] at H
             have c37b0 := decide_eq_true c37
             have c38b0 := decide_eq_true c38
             obtain ⟨ad3, e3, hx3⟩ := Kd.at_int (Kd.C_below HR1.out HG.out.below) jj c37 c38
             cases e3
             replace c37 := eq_true c37
             replace c38 := eq_true c38
             have hnb := HG.out.ne
             have hnc := HG.out.ne.symm
             have hcz0 : wr.cell? ⟨g5, 0, none⟩ = some (.slice (some ad3) l1_0.length d0) := (blk_cell HG.out.h5 0).trans rfl
             have hcz1 : wr.cell? ⟨g5, 1, none⟩ = some (.slice B1 l1_1.length d1) := (blk_cell HG.out.h5 1).trans rfl
             have hfz0 := blk_frozen HG.out.h5 0
             have hfz1 := blk_frozen HG.out.h5 1
             by_cases c39 : (rd l1_0 jj) > x32
             ·
              rw [if_pos c39] at H
              have c39b0 := decide_eq_true c39
              clear c39
              have H' := Aside0.mk H
              clear H
              go_wp2
              go_meet
              case rel => exact ⟨_, true, qc8f_, H', ⟨q0d4_ HJ1.out HK2.out HK3.out⟩, ⟨qc52_⟩⟩
             ·
              rw [if_neg c39] at H
              have c39b0 := decide_eq_false c39
              clear c39
              obtain ⟨t4, A4, H⟩ := ob_ H
              have H' := Aside0.mk H
              clear H
              go_wp2_with (first | (go_at_call 45; (with_reducible refine (spec_reCount.calls k3 _ _ l1_0 x10 x32 t4 _ ?s1 ?s2 A4.out).mono ?_); (case s1 => exact (q5e2_ HR1.out)); (case s2 => exact HC1.out); rintro e w6 ⟨rfl, ⟨nd, rfl⟩⟩; skip))
              go_meet
              case rel => exact ⟨_, (t4 != (rd l0 x32)), qc8f_, H', ⟨q0d4_ HJ1.out HK2.out HK3.out⟩, ⟨qc52_⟩⟩
            · rw [if_neg c38] at H; exact absurd H (by simp)
           · rw [if_neg c37] at H; exact absurd H (by simp)
          ·
           rw [if_neg c35] at H
           have c35b0 := decide_eq_false c35
           clear c35
           (first | rw [c35b0] | (simp only [i64_w, i32_w]; rw [c35b0]) | skip)
           obtain ⟨t4, A4, H⟩ := ob_ H
           have H' := Aside0.mk H
           clear H
           have hnb := HG.out.ne
           have hnc := HG.out.ne.symm
           have hcz0 : wr.cell? ⟨g5, 0, none⟩ = some (.slice B0 l1_0.length d0) := (blk_cell HG.out.h5 0).trans rfl
           have hcz1 : wr.cell? ⟨g5, 1, none⟩ = some (.slice B1 l1_1.length d1) := (blk_cell HG.out.h5 1).trans rfl
           have hfz0 := blk_frozen HG.out.h5 0
           have hfz1 := blk_frozen HG.out.h5 1
           go_wp2_with (first | (go_at_call 45; (with_reducible refine (spec_reCount.calls k3 _ _ l1_0 x10 x32 t4 _ ?s1 ?s2 A4.out).mono ?_); (case s1 => exact (q5e2_ HR1.out)); (case s2 => exact HC1.out); rintro e w6 ⟨rfl, ⟨nd, rfl⟩⟩; skip))
           go_meet
           case rel => exact ⟨_, (t4 != (rd l0 x32)), qc8f_, H', ⟨q0d4_ HJ1.out HK2.out HK3.out⟩, ⟨qc52_⟩⟩
         case rest =>
          clear HC34 HG
          obtain ⟨kq, x68, rfl, HA, HJ3, HG⟩ := hcut
          cases kq with
          | zero => exact absurd HA.out (by simp [spec_reGoOn.j3])
          | succ kj3 =>
          have H := HA.out
          clear HA
          simp only [spec_reGoOn.j3] at H
          cases x68 with
          | true =>
           rw [if_pos rfl] at H
           have H' := Aside0.mk H
           clear H
           go_wp2
           go_roundg kj3
           case measure => have := HJ1.out; have := HK2.out; have := HK3.out; have := HJ3.out; omega
           case rel => exact ⟨(wrap64 (x10 + 1)), qc8f_, H', ⟨q3e9_ HJ1.out HK2.out HK3.out HJ3.out⟩, ⟨qc52_⟩⟩
          | false =>
           rw [if_neg nf_] at H
           go_wp2
           obtain ⟨t2, A2, H⟩ := ob_ H
           obtain ⟨y5, hy5⟩ : ∃ y_ : List Int, y_ = ([x32] : List Int) := ⟨_, rfl⟩
           rw [← hy5] at H
           simp only [Option.bind_some] at H
           by_cases c46 : t2.length + y5.length < 17592186044416
           ·
            rw [if_pos c46] at H
            have L5 := Aside0.mk c46
            clear c46
            obtain ⟨t3, A3, H⟩ := ob_ H
            obtain ⟨y6, hy6⟩ : ∃ y_ : List Int, y_ = ([x10] : List Int) := ⟨_, rfl⟩
            rw [← hy6] at H
            (try simp only [Option.bind_some] at H)
            by_cases c48 : t3.length + y6.length < 17592186044416
            ·
             rw [if_pos c48] at H
             have L11 := Aside0.mk c48
             clear c48
             obtain ⟨⟨s1, s2, s3⟩, A4, H2⟩ := ob_ H
             dsimp only at H2
             have Hs := Aside0.mk H2
             clear H H2
             subst hy5
             subst hy6
             refine start_ (n := 15) (S := fun w' => True) (ds := []) #[false, false, false, false, false, false, false, false, false, false, false, false, false, false, false] (by kernel_rfl) rfl rfl trivial (fun hHeld => ?_); refine with_tabW spec_reGoOn.tab15 spec_reGoOn.bits15 (fun HT_ HW_ => ?_)
             have HG2 := Aside0.mk (Rg0.drew HG.out)
             clear HG
             generalize wc.drew = wd at HG2 hHeld ⊢
             refine pure_ (i := 0) (N := some 69) (v := ?_) (a' := ?_) #[true, false, false, false, false, false, false, false, false, false, false, false, false, false, false] rfl rfl (any_of HT_.out (by kernel_rfl)) (fun _ _ _ h => h) (Or.inl ⟨by rfl, ?_⟩) ?_ ?_
             rotate_left
             · intro w'; go_simp; with_reducible rfl
             rotate_left
             · simp only [Act.put, List.setIfInBounds_toArray, List.set_cons_zero, List.set_cons_succ, i64_w, i32_w]; rfl
             refine pure_ (i := 3) (N := some 72) (v := ?_) (a' := ?_) #[true, false, false, true, false, false, false, false, false, false, false, false, false, false, false] rfl rfl (any_of HT_.out (by kernel_rfl)) (fun _ _ _ h => h) (Or.inl ⟨by rfl, ?_⟩) ?_ ?_
             rotate_left
             · intro w'; go_simp; with_reducible rfl
             rotate_left
             · simp only [Act.put, List.setIfInBounds_toArray, List.set_cons_zero, List.set_cons_succ, i64_w, i32_w]; rfl
             refine pure_ (i := 6) (N := some 75) (v := ?_) (a' := ?_) #[true, false, false, true, false, false, true, false, false, false, false, false, false, false, false] rfl rfl (any_of HT_.out (by kernel_rfl)) (fun _ _ _ h => h) (Or.inl ⟨by rfl, ?_⟩) ?_ ?_
             rotate_left
             · intro w'; go_simp; with_reducible rfl
             rotate_left
             · simp only [Act.put, List.setIfInBounds_toArray, List.set_cons_zero, List.set_cons_succ, i64_w, i32_w]; rfl
             refine pure_ (i := 9) (N := some 78) (v := ?_) (a' := ?_) #[true, false, false, true, false, false, true, false, false, true, false, false, false, false, false] rfl rfl (any_of HT_.out (by kernel_rfl)) (fun _ _ _ h => h) (Or.inl ⟨by rfl, ?_⟩) ?_ ?_
             rotate_left
             · intro w'; go_simp; with_reducible rfl
             rotate_left
             · simp only [Act.put, List.setIfInBounds_toArray, List.set_cons_zero, List.set_cons_succ, i64_w, i32_w]; rfl
             refine inv_at [1, 2, 4, 5, 7, 8, 10, 11, 12, 13, 14] (fun a0_ b a w' => ∃ (u2 u4 u5 u8 u10 u11 : Value) (gn : Nat) (m12 m13 : Value), a = putSel a0_ b [(1, 70, .slice B0 l1_0.length d0), (2, 71, u2), (4, 73, u4), (5, 74, u5), (7, 76, .slice B1 l1_1.length d1), (8, 77, u8), (10, 79, u10), (11, 80, u11), (12, 81, m12), (13, 11, m13)] ∧ (RgI w w' g5 g6 (.slice B0 l1_0.length d0 : Value) (.slice B1 l1_1.length d1 : Value) t2 t3 [x32] [x10] (b 2) (b 4) (b 5) (b 8) (b 10) (b 11) (b 13) (b 14) u2 u4 u5 u8 u10 u11 gn) ∧ (b 12 = true → m12 = .agg #[u5, u11]) ∧ (b 13 = true → m13 = .pointer (some ⟨gn, 0, none⟩))) HT_.out HW_.out (by kernel_rfl) (by kernel_rfl) ?_ ?_ ?_
             · exact ⟨.bool false, .bool false, .bool false, .bool false, .bool false, .bool false, 0, .bool false, .bool false, by simp only [putSel, Bool.false_eq_true, if_false], RgI.start HG2.out, fun h_ => absurd h_ (by decide), fun h_ => absurd h_ (by decide)⟩
             ·
              clear HG2
              refine steps_cons ?_ ?_
              ·
               rintro b a w' ⟨u2, u4, u5, u8, u10, u11, gn, m12, m13, ha, hI, h12, h13⟩ hb_ hon hoff
               refine ⟨_, rfl, fun K hK => ?_⟩
               have e69 : a.tmps[69]? = some (.pointer (some ⟨g5, 0, none⟩)) := q32c_
               replace ha := Aside0.mk ha
               have HI := Aside0.mk hI
               clear hI
               have hc0_ : w'.cell? ⟨g5, 0, none⟩ = some (.slice B0 l1_0.length d0) := (blk_cell HI.out.r0.h5 0).trans rfl
               have hc1_ : w'.cell? ⟨g5, 1, none⟩ = some (.slice B1 l1_1.length d1) := (blk_cell HI.out.r0.h5 1).trans rfl
               refine value_ (w1 := w') (v := .slice B0 l1_0.length d0) (by rfl) rfl ?_ ?_
               · go_simp; (try simp only [i64_w]); try rfl
               refine hK.out _ _ ⟨u2, u4, u5, u8, u10, u11, gn, m12, m13, (by rw [ha.out]; exact putSel_upk 0 hb_ rfl rfl rfl), HI.out, h12, h13⟩
              refine steps_cons ?_ ?_
              ·
               rintro b a w' ⟨u2, u4, u5, u8, u10, u11, gn, m12, m13, ha, hI, h12, h13⟩ hb_ hon hoff
               refine ⟨_, rfl, fun K hK => ?_⟩
               have e70 : a.tmps[70]? = some (.slice B0 l1_0.length d0) := by rw [ha]; exact putSel_on (e := (1, 70, .slice B0 l1_0.length d0)) 0 rfl rfl (hon 1 (by kernel_rfl)) rfl
               replace ha := Aside0.mk ha
               have HI := Aside0.mk hI
               clear hI
               refine goes_ Tryz.func36 (by kernel_rfl) rfl #[.slice B0 l1_0.length d0] (by rfl) rfl rfl q506_ ?_
               refine (spec_l1Own.calls _ _ l1_0 t2 _ (Kd.C_below HR1.out HI.out.r0.below) HC1.out A2.out).mono ?_
               rintro e w1 ⟨vn, rfl, ho, hb⟩
               refine ⟨_, rfl, ?_⟩
               refine hK.out _ _ ⟨vn, u4, u5, u8, u10, u11, gn, m12, m13, (by rw [ha.out]; exact putSel_upk 1 hb_ rfl rfl rfl), (HI.out.s2 (hoff 11 (by kernel_rfl)) hb ho), fun h_ => absurd ((hoff 12 (by kernel_rfl)).symm.trans h_) (by decide), h13⟩
              refine steps_cons ?_ ?_
              ·
               rintro b a w' ⟨u2, u4, u5, u8, u10, u11, gn, m12, m13, ha, hI, h12, h13⟩ hb_ hon hoff
               refine ⟨_, rfl, fun K hK => ?_⟩
               have e72 : a.tmps[72]? = some (.int .i64 x32) := q32c_
               replace ha := Aside0.mk ha
               have HI := Aside0.mk hI
               clear hI
               refine Kd.R_lit_step (Kd.int .i64) _ 3 ?hg (N := 73) ?hd (xs := ([x32] : List Int)) (inner := [.int .i64 x32]) (ok := fun _ => True) (okp := fun _ => True) ?hr ?hp (fun _ hk => hk) trivial (Below.refl _ _) (Nat.le_refl _) (by simp) ?_; (case hd => rfl); (case hg => rfl); (case hr => exact qfba_); (case hp => exact (Reps.one (show Kd.M (Kd.int .i64) _ _ _ x32 [.int .i64 x32] from rfl) (Reps.none _ _)))
               intro vn w1 ho hb hg_ hnew_
               refine hK.out _ _ ⟨u2, vn, u5, u8, u10, u11, gn, m12, m13, (by rw [ha.out]; exact putSel_upk 2 hb_ rfl rfl rfl), (HI.out.s4 hb ho), h12, h13⟩
              refine steps_cons ?_ ?_
              ·
               rintro b a w' ⟨u2, u4, u5, u8, u10, u11, gn, m12, m13, ha, hI, h12, h13⟩ hb_ hon hoff
               refine ⟨_, rfl, fun K hK => ?_⟩
               have e71 : a.tmps[71]? = some (u2) := by rw [ha]; exact putSel_on (e := (2, 71, u2)) 1 rfl rfl (hon 2 (by kernel_rfl)) rfl
               have e73 : a.tmps[73]? = some (u4) := by rw [ha]; exact putSel_on (e := (4, 73, u4)) 2 rfl rfl (hon 4 (by kernel_rfl)) rfl
               replace ha := Aside0.mk ha
               have HI := Aside0.mk hI
               clear hI
               have HS := Aside0.mk (HI.out.c2 (hon 2 (by kernel_rfl)) hb_)
               have HX := Aside0.mk (HI.out.c4 (hon 4 (by kernel_rfl)) hb_)
               obtain ⟨Ax, cx, ex⟩ := Kd.R_slice HX.out
               refine Kd.R_append_rows_step (Kd.int .i64) (w0 := w) w.heap.size (by rfl) (.tmp 71) (.tmp 73) 24 3 (.int .i64 0) 8 rfl Tryz.underlying24 info_int rfl (by decide) (by omega) u2 t2 [x32] _ _ _ (fun _ => True) (fun _ => False) (by simp only [Act.eval, Array.getD_eq_getD_getElem?, e71, Option.getD_some]) (by simp only [Act.eval, Array.getD_eq_getD_getElem?, e73, Option.getD_some]; exact ex) HS.out ?aR (fun _ _ h => h) (fun _ h => h.elim) (fun _ _ => trivial) HI.out.r0.below HI.out.r0.below.size ?aL ?_
               (case aR => exact (Kd.R_reads' (ex ▸ HX.out)).2.2)
               (case aL => have := L5.out; simp only [List.length_cons, List.length_nil] at this ⊢; omega)
               intro vn w1 ho hb hg hat
               have hI5 := HI.out
               rw [show b 2 = true from (hon 2 (by kernel_rfl)), show b 5 = false from hb_, show b 8 = false from (hoff 8 (by kernel_rfl)), show b 11 = false from (hoff 11 (by kernel_rfl))] at hI5
               have hI6 := hI5.s5 (hoff 14 (by kernel_rfl)) hb hg ho
               refine hK.out _ _ ⟨u2, u4, vn, u8, u10, u11, gn, m12, m13, (by rw [ha.out]; exact putSel_upk 3 hb_ rfl rfl rfl), (by show RgI w _ g5 g6 _ _ t2 t3 _ _ (b 2) (b 4) true (b 8) (b 10) (b 11) (b 13) (b 14) _ _ _ _ _ _ _; rw [show b 2 = true from (hon 2 (by kernel_rfl)), show b 8 = false from (hoff 8 (by kernel_rfl)), show b 11 = false from (hoff 11 (by kernel_rfl))]; exact hI6), fun h_ => absurd ((hoff 12 (by kernel_rfl)).symm.trans h_) (by decide), h13⟩
              refine steps_cons ?_ ?_
              ·
               rintro b a w' ⟨u2, u4, u5, u8, u10, u11, gn, m12, m13, ha, hI, h12, h13⟩ hb_ hon hoff
               refine ⟨_, rfl, fun K hK => ?_⟩
               have e75 : a.tmps[75]? = some (.pointer (some ⟨g5, 1, none⟩)) := q32c_
               replace ha := Aside0.mk ha
               have HI := Aside0.mk hI
               clear hI
               have hc0_ : w'.cell? ⟨g5, 0, none⟩ = some (.slice B0 l1_0.length d0) := (blk_cell HI.out.r0.h5 0).trans rfl
               have hc1_ : w'.cell? ⟨g5, 1, none⟩ = some (.slice B1 l1_1.length d1) := (blk_cell HI.out.r0.h5 1).trans rfl
               refine value_ (w1 := w') (v := .slice B1 l1_1.length d1) (by rfl) rfl ?_ ?_
               · go_simp; (try simp only [i64_w]); try rfl
               refine hK.out _ _ ⟨u2, u4, u5, u8, u10, u11, gn, m12, m13, (by rw [ha.out]; exact putSel_upk 4 hb_ rfl rfl rfl), HI.out, h12, h13⟩
              refine steps_cons ?_ ?_
              ·
               rintro b a w' ⟨u2, u4, u5, u8, u10, u11, gn, m12, m13, ha, hI, h12, h13⟩ hb_ hon hoff
               refine ⟨_, rfl, fun K hK => ?_⟩
               have e76 : a.tmps[76]? = some (.slice B1 l1_1.length d1) := by rw [ha]; exact putSel_on (e := (7, 76, .slice B1 l1_1.length d1)) 4 rfl rfl (hon 7 (by kernel_rfl)) rfl
               replace ha := Aside0.mk ha
               have HI := Aside0.mk hI
               clear hI
               refine goes_ Tryz.func36 (by kernel_rfl) rfl #[.slice B1 l1_1.length d1] (by rfl) rfl rfl (by first | (simp only [List.map_toArray, List.map_cons, List.map_nil, Act.eval, Array.getD_eq_getD_getElem?, Option.getD_some, e76]; done) | (simp only [List.map_toArray, List.map_cons, List.map_nil, Act.eval, Array.getD_eq_getD_getElem?, Option.getD_some, e76]; rfl)) ?_
               refine (spec_l1Own.calls _ _ l1_1 t3 _ (Kd.C_below HR2.out HI.out.r0.below) HC2.out A3.out).mono ?_
               rintro e w1 ⟨vn, rfl, ho, hb⟩
               refine ⟨_, rfl, ?_⟩
               refine hK.out _ _ ⟨u2, u4, u5, vn, u10, u11, gn, m12, m13, (by rw [ha.out]; exact putSel_upk 5 hb_ rfl rfl rfl), (HI.out.s8 hb ho), h12, h13⟩
              refine steps_cons ?_ ?_
              ·
               rintro b a w' ⟨u2, u4, u5, u8, u10, u11, gn, m12, m13, ha, hI, h12, h13⟩ hb_ hon hoff
               refine ⟨_, rfl, fun K hK => ?_⟩
               have e78 : a.tmps[78]? = some (.int .i64 x10) := q32c_
               replace ha := Aside0.mk ha
               have HI := Aside0.mk hI
               clear hI
               refine Kd.R_lit_step (Kd.int .i64) _ 3 ?hg (N := 79) ?hd (xs := ([x10] : List Int)) (inner := [.int .i64 x10]) (ok := fun _ => True) (okp := fun _ => True) ?hr ?hp (fun _ hk => hk) trivial (Below.refl _ _) (Nat.le_refl _) (by simp) ?_; (case hd => rfl); (case hg => rfl); (case hr => exact qfba_); (case hp => exact (Reps.one (show Kd.M (Kd.int .i64) _ _ _ x10 [.int .i64 x10] from rfl) (Reps.none _ _)))
               intro vn w1 ho hb hg_ hnew_
               refine hK.out _ _ ⟨u2, u4, u5, u8, vn, u11, gn, m12, m13, (by rw [ha.out]; exact putSel_upk 6 hb_ rfl rfl rfl), (HI.out.s10 hb ho), h12, h13⟩
              refine steps_cons ?_ ?_
              ·
               rintro b a w' ⟨u2, u4, u5, u8, u10, u11, gn, m12, m13, ha, hI, h12, h13⟩ hb_ hon hoff
               refine ⟨_, rfl, fun K hK => ?_⟩
               have e77 : a.tmps[77]? = some (u8) := by rw [ha]; exact putSel_on (e := (8, 77, u8)) 5 rfl rfl (hon 8 (by kernel_rfl)) rfl
               have e79 : a.tmps[79]? = some (u10) := by rw [ha]; exact putSel_on (e := (10, 79, u10)) 6 rfl rfl (hon 10 (by kernel_rfl)) rfl
               replace ha := Aside0.mk ha
               have HI := Aside0.mk hI
               clear hI
               have HS := Aside0.mk (HI.out.c8 (hon 8 (by kernel_rfl)) hb_)
               have HX := Aside0.mk (HI.out.c10 (hon 10 (by kernel_rfl)) hb_)
               obtain ⟨Ax, cx, ex⟩ := Kd.R_slice HX.out
               refine Kd.R_append_rows_step (Kd.int .i64) (w0 := w) w.heap.size (by rfl) (.tmp 77) (.tmp 79) 24 3 (.int .i64 0) 8 rfl Tryz.underlying24 info_int rfl (by decide) (by omega) u8 t3 [x10] _ _ _ (fun _ => True) (fun _ => False) (by simp only [Act.eval, Array.getD_eq_getD_getElem?, e77, Option.getD_some]) (by simp only [Act.eval, Array.getD_eq_getD_getElem?, e79, Option.getD_some]; exact ex) HS.out ?aR (fun _ _ h => h) (fun _ h => h.elim) (fun _ _ => trivial) HI.out.r0.below HI.out.r0.below.size ?aL ?_
               (case aR => exact (Kd.R_reads' (ex ▸ HX.out)).2.2)
               (case aL => have := L11.out; simp only [List.length_cons, List.length_nil] at this ⊢; omega)
               intro vn w1 ho hb hg hat
               have hI5 := HI.out
               rw [show b 5 = true from (hon 5 (by kernel_rfl)), show b 8 = true from (hon 8 (by kernel_rfl)), show b 11 = false from hb_] at hI5
               have hI6 := hI5.s11 (hoff 14 (by kernel_rfl)) hb hg hat ho
               refine hK.out _ _ ⟨u2, u4, u5, u8, u10, vn, gn, m12, m13, (by rw [ha.out]; exact putSel_upk 7 hb_ rfl rfl rfl), (by show RgI w _ g5 g6 _ _ t2 t3 _ _ (b 2) (b 4) (b 5) (b 8) (b 10) true (b 13) (b 14) _ _ _ _ _ _ _; rw [show b 5 = true from (hon 5 (by kernel_rfl)), show b 8 = true from (hon 8 (by kernel_rfl))]; exact hI6), fun h_ => absurd ((hoff 12 (by kernel_rfl)).symm.trans h_) (by decide), h13⟩
              refine steps_cons ?_ ?_
              ·
               rintro b a w' ⟨u2, u4, u5, u8, u10, u11, gn, m12, m13, ha, hI, h12, h13⟩ hb_ hon hoff
               refine ⟨_, rfl, fun K hK => ?_⟩
               have e74 : a.tmps[74]? = some (u5) := by rw [ha]; exact putSel_on (e := (5, 74, u5)) 3 rfl rfl (hon 5 (by kernel_rfl)) rfl
               have e80 : a.tmps[80]? = some (u11) := by rw [ha]; exact putSel_on (e := (11, 80, u11)) 7 rfl rfl (hon 11 (by kernel_rfl)) rfl
               obtain ⟨A5, c5, e5_⟩ := Kd.R_slice (hI.c5 (hon 5 (by kernel_rfl)))
               obtain ⟨n5, hn5⟩ : ∃ n_, n_ = (t2 ++ [x32]).length := ⟨_, rfl⟩
               rw [← hn5] at e5_
               subst e5_
               obtain ⟨A11, c11, e11_⟩ := Kd.R_slice (hI.c11 (hon 11 (by kernel_rfl)))
               obtain ⟨n11, hn11⟩ : ∃ n_, n_ = (t3 ++ [x10]).length := ⟨_, rfl⟩
               rw [← hn11] at e11_
               subst e11_
               clear hn5 hn11
               replace ha := Aside0.mk ha
               have HI := Aside0.mk hI
               clear hI
               refine value_ (w1 := w') (v := .agg #[.slice A5 n5 c5, .slice A11 n11 c11]) (by rfl) rfl ?_ ?_
               · go_simp; (try simp only [i64_w]); try rfl
               refine hK.out _ _ ⟨u2, u4, _, u8, u10, _, gn, (.agg #[.slice A5 n5 c5, .slice A11 n11 c11]), m13, (by rw [ha.out]; exact putSel_upk 8 hb_ rfl rfl rfl), HI.out, fun _ => rfl, h13⟩
              refine steps_cons ?_ ?_
              ·
               rintro b a w' ⟨u2, u4, u5, u8, u10, u11, gn, m12, m13, ha, hI, h12, h13⟩ hb_ hon hoff
               refine ⟨_, rfl, fun K hK => ?_⟩
               replace ha := Aside0.mk ha
               have HI := Aside0.mk hI
               clear hI
               refine box_step ?hg (N := 11) ?hd (cs := #[.slice none 0 0, .slice none 0 0]) (t := 27) ?hr ?_; (case hd => rfl); (case hg => rfl); (case hr => exact qfba_)
               intro gq hgq w1 hbox hb
               refine hK.out _ _ ⟨u2, u4, u5, u8, u10, u11, gq, m12, (.pointer (some ⟨gq, 0, none⟩)), (by rw [ha.out]; exact putSel_upk 9 hb_ rfl rfl rfl), (HI.out.s13 (hoff 14 (by kernel_rfl)) hb hgq hbox), h12, fun _ => rfl⟩
              refine steps_cons ?_ ?_
              ·
               rintro b a w' ⟨u2, u4, u5, u8, u10, u11, gn, m12, m13, ha, hI, h12, h13⟩ hb_ hon hoff
               refine ⟨_, rfl, fun K hK => ?_⟩
               obtain rfl := h12 (hon 12 (by kernel_rfl))
               obtain rfl := h13 (hon 13 (by kernel_rfl))
               obtain ⟨A5, c5, e5_⟩ := Kd.R_slice (hI.c5 (hon 5 (by kernel_rfl)))
               obtain ⟨n5, hn5⟩ : ∃ n_, n_ = (t2 ++ [x32]).length := ⟨_, rfl⟩
               rw [← hn5] at e5_
               subst e5_
               obtain ⟨A11, c11, e11_⟩ := Kd.R_slice (hI.c11 (hon 11 (by kernel_rfl)))
               obtain ⟨n11, hn11⟩ : ∃ n_, n_ = (t3 ++ [x10]).length := ⟨_, rfl⟩
               rw [← hn11] at e11_
               subst e11_
               clear hn5 hn11
               have e11 : a.tmps[11]? = some (.pointer (some ⟨gn, 0, none⟩)) := by rw [ha]; exact putSel_on (e := (13, 11, .pointer (some ⟨gn, 0, none⟩))) 9 rfl rfl (hon 13 (by kernel_rfl)) rfl
               have e81 : a.tmps[81]? = some (.agg #[.slice A5 n5 c5, .slice A11 n11 c11]) := by rw [ha]; exact putSel_on (e := (12, 81, .agg #[.slice A5 n5 c5, .slice A11 n11 c11])) 8 rfl rfl (hon 12 (by kernel_rfl)) rfl
               replace ha := Aside0.mk ha
               have HI := Aside0.mk hI
               clear hI
               have hcn := HI.out.cn (hon 13 (by kernel_rfl))
               rw [show b 14 = false from hb_] at hcn
               have hs0 : w'.cell? ⟨gn, 0, none⟩ = some (.slice none 0 0) := (blk_cell hcn.2 0).trans rfl
               have hs1 : w'.cell? ⟨gn, 1, none⟩ = some (.slice none 0 0) := (blk_cell hcn.2 1).trans rfl
               have hsf0 := blk_frozen hcn.2 0
               have hsf1 := blk_frozen hcn.2 1
               clear hcn
               refine skip_ (w1 := ?_) (by rfl) rfl ?_ ?_
               rotate_left
               · go_simp; rfl
               have hI5 := HI.out
               rw [show b 5 = true from (hon 5 (by kernel_rfl)), show b 11 = true from (hon 11 (by kernel_rfl)), show b 13 = true from (hon 13 (by kernel_rfl)), show b 14 = false from hb_] at hI5
               have hI6 := hI5.s14
               refine hK.out _ _ ⟨u2, u4, _, u8, u10, _, gn, _, _, (by rw [ha.out]; exact putSel_none (v := undef) rfl), (by show RgI w _ g5 g6 _ _ t2 t3 _ _ (b 2) (b 4) (b 5) (b 8) (b 10) (b 11) (b 13) true _ _ _ _ _ _ _; rw [show b 5 = true from (hon 5 (by kernel_rfl)), show b 11 = true from (hon 11 (by kernel_rfl)), show b 13 = true from (hon 13 (by kernel_rfl))]; exact hI6), fun _ => rfl, fun _ => rfl⟩
              exact steps_nil
             rintro b a wq hall ⟨u2, u4, u5, u8, u10, u11, gn, m12, m13, ha, hI, h12, h13⟩
             have hb1_ := hall 1 (by kernel_rfl)
             have hb2_ := hall 2 (by kernel_rfl)
             have hb4_ := hall 4 (by kernel_rfl)
             have hb5_ := hall 5 (by kernel_rfl)
             have hb7_ := hall 7 (by kernel_rfl)
             have hb8_ := hall 8 (by kernel_rfl)
             have hb10_ := hall 10 (by kernel_rfl)
             have hb11_ := hall 11 (by kernel_rfl)
             have hb12_ := hall 12 (by kernel_rfl)
             have hb13_ := hall 13 (by kernel_rfl)
             have hb14_ := hall 14 (by kernel_rfl)
             subst ha
             obtain rfl := h12 hb12_
             obtain rfl := h13 hb13_
             simp only [putSel, hb1_, hb2_, hb4_, hb5_, hb7_, hb8_, hb10_, hb11_, hb12_, hb13_, hb14_, if_true, Act.put, List.setIfInBounds_toArray, List.set_cons_zero, List.set_cons_succ]
             obtain ⟨A5, c5, e5_⟩ := Kd.R_slice (hI.c5 hb5_)
             obtain ⟨n5, hn5⟩ : ∃ n_, n_ = (t2 ++ [x32]).length := ⟨_, rfl⟩
             rw [← hn5] at e5_
             subst e5_
             obtain ⟨A11, c11, e11_⟩ := Kd.R_slice (hI.c11 hb11_)
             obtain ⟨n11, hn11⟩ : ∃ n_, n_ = (t3 ++ [x10]).length := ⟨_, rfl⟩
             rw [← hn11] at e11_
             subst e11_
             have HL5 := Aside0.mk hn5
             have HL11 := Aside0.mk hn11
             clear hn5 hn11
             have HN5 := Aside0.mk (hI.c5 hb5_)
             have HN11 := Aside0.mk (hI.c11 hb11_)
             have HNA := Aside0.mk (hI.a11 hb5_ hb11_)
             have HNB := Aside0.mk (hI.cn hb13_)
             have HG := Aside0.mk hI.r0
             rw [hb14_] at HNB
             clear hI hall hb1_ hb2_ hb4_ hb5_ hb7_ hb8_ hb10_ hb11_ hb12_ hb13_ hb14_ h12 h13
             have hnb := HNB.out.1.1
             have hnc := HNB.out.1.2.1
             have hnb' := hnb.symm
             have hnc' := hnc.symm
             have hcz0 : wq.cell? ⟨gn, 0, none⟩ = some (.slice A5 n5 c5) := (blk_cell HNB.out.2 0).trans rfl
             have hcz1 : wq.cell? ⟨gn, 1, none⟩ = some (.slice A11 n11 c11) := (blk_cell HNB.out.2 1).trans rfl
             have hfz0 := blk_frozen HNB.out.2 0
             have hfz1 := blk_frozen HNB.out.2 1
             cases s3 with
             | true =>
              have H := Hs.out
              clear Hs
              rw [if_pos rfl] at H
              simp only [Option.some.injEq, Prod.mk.injEq] at H
              obtain ⟨rfl, rfl, rfl⟩ := H
              go_wp2_with (first | (go_at_call 23; obtain rfl := HL5.out; obtain rfl := HL11.out; (with_reducible refine (ih kj3 (q3e9_ HJ1.out HK2.out HK3.out HJ3.out) _ _ l0 _ _ (t2 ++ [x32]) _ _ (t3 ++ [x10]) s1 s2 true _ ?s1 ?s2 ?s3 ?s4 ?s5 ?s6 A4.out).mono ?_); (case s1 => exact (q5e2_ HR0.out)); (case s2 => exact HC0.out); (case s3 => exact (q578_ HN5.out)); (case s4 => exact (Kd.R_reads' HN5.out).2.1); (case s5 => exact (q578_ HN11.out)); (case s6 => exact (Kd.R_reads' HN11.out).2.1); rintro e w8 ⟨x0, x1, rfl, hR⟩; have hB8 := hR.1; have hO8 := hR.own q13e_ (qf1e_ HN5.out) (qf1e_ HN11.out) HNA.out; obtain ⟨A8, c8, e8_⟩ := Kd.R_slice hO8.1; subst e8_; obtain ⟨A9, c9, e9_⟩ := Kd.R_slice hO8.2.1; subst e9_; have HO8 := Aside0.mk hO8; have hg_ := Aside0.mk (Rg0.next qc52_ hB8); clear HG hR hB8 hO8 HN5 HN11 HNA HNB hcz0 hcz1 hfz0 hfz1; have HG := hg_; clear hg_) | ((with_reducible refine gate_dst (N := 12) rfl ?_); refine box_event ?hg (N := 12) ?hd (cs := #[.slice none 0 0, .slice none 0 0]) (t := 27) ?hr ?_; (case hd => rfl); (case hg => rfl); (case hr => exact qfba_); intro go hgo w9 hbox hb; have HN8 := Aside0.mk (show g5 ≠ go ∧ g6 ≠ go ∧ w.heap.size ≤ go from ⟨by have h_ := blk_lt HG.out.h5; rw [hgo]; exact Nat.ne_of_lt h_, by have h_ := blk_lt HG.out.h6; rw [hgo]; exact Nat.ne_of_lt h_, by rw [hgo]; exact HG.out.below.size⟩); have BK8 := Aside0.mk hbox; have ho_ := Aside0.mk (And.intro (Kd.R_below HO8.out.1 hb) (And.intro (Kd.R_below HO8.out.2.1 hb) HO8.out.2.2)); have hg_ := Aside0.mk (Rg0.next qc52_ hb); clear HG HO8 hb hbox hgo; have HG := hg_; have HO8 := ho_; clear hg_ ho_; have hoz0 : w9.cell? ⟨go, 0, none⟩ = some (.slice none 0 0) := (blk_cell BK8.out 0).trans rfl; have hoz1 : w9.cell? ⟨go, 1, none⟩ = some (.slice none 0 0) := (blk_cell BK8.out 1).trans rfl; have hof0 := blk_frozen BK8.out 0; have hof1 := blk_frozen BK8.out 1; have hop0 := HN8.out.1; have hop1 := HN8.out.2.1; have hop2 := hop0.symm; have hop3 := hop1.symm; have hyz0 : w9.cell? ⟨g6, 0, none⟩ = some (.slice none 0 0) := (blk_cell HG.out.h6 0).trans rfl; have hyz1 : w9.cell? ⟨g6, 1, none⟩ = some (.slice none 0 0) := (blk_cell HG.out.h6 1).trans rfl; have hyf0 := blk_frozen HG.out.h6 0; have hyf1 := blk_frozen HG.out.h6 1))
              refine bodyPost_ret (results_ct rfl _ _ g6 27 #[.slice A8 s1.length c8, .slice A9 s2.length c9] (0, 0) _ rfl qc29_ Tryz.underlying27 rfl (by kernel_rfl)) rfl ?_
              exact ⟨_, _, q6e2_, ⟨q2d1_, .inr ⟨(by (with_reducible repeat (first | apply Kd.R_alloc | apply Kd.R_drewN | apply Kd.R_drew)); exact Kd.R_mono (Kd.R_far (p := ⟨g6, 1, none⟩) (Kd.R_far (p := ⟨g6, 0, none⟩) (Kd.R_far (p := ⟨go, 1, none⟩) (Kd.R_far (p := ⟨go, 0, none⟩) (Kd.R_types (Kd.R_types HO8.out.1 BK8.out (by decide)) HG.out.h6 (by decide)) (fun _ hk => hk.1.2) _) (fun _ hk => hk.1.2) _) (fun _ hk => hk.2) _) (fun _ hk => hk.2) _) (fun _ _ => trivial)), (by (with_reducible repeat (first | apply Kd.R_alloc | apply Kd.R_drewN | apply Kd.R_drew)); exact Kd.R_mono (Kd.R_far (p := ⟨g6, 1, none⟩) (Kd.R_far (p := ⟨g6, 0, none⟩) (Kd.R_far (p := ⟨go, 1, none⟩) (Kd.R_far (p := ⟨go, 0, none⟩) (Kd.R_types (Kd.R_types HO8.out.2.1 BK8.out (by decide)) HG.out.h6 (by decide)) (fun _ hk => hk.1.2) _) (fun _ hk => hk.1.2) _) (fun _ hk => hk.2) _) (fun _ hk => hk.2) _) (fun _ _ => trivial)), HO8.out.2.2⟩⟩⟩
             | false =>
              have H := Hs.out
              clear Hs
              rw [if_neg nf_] at H
              have H' := Aside0.mk H
              clear H
              go_wp2_with (first | (go_at_call 23; obtain rfl := HL5.out; obtain rfl := HL11.out; (with_reducible refine (ih kj3 (q3e9_ HJ1.out HK2.out HK3.out HJ3.out) _ _ l0 _ _ (t2 ++ [x32]) _ _ (t3 ++ [x10]) s1 s2 false _ ?s1 ?s2 ?s3 ?s4 ?s5 ?s6 A4.out).mono ?_); (case s1 => exact (q5e2_ HR0.out)); (case s2 => exact HC0.out); (case s3 => exact (q578_ HN5.out)); (case s4 => exact (Kd.R_reads' HN5.out).2.1); (case s5 => exact (q578_ HN11.out)); (case s6 => exact (Kd.R_reads' HN11.out).2.1); rintro e w8 ⟨x0, x1, rfl, hR⟩; have hB8 := hR.1; have hO8 := hR.own q13e_ (qf1e_ HN5.out) (qf1e_ HN11.out) HNA.out; obtain ⟨A8, c8, e8_⟩ := Kd.R_slice hO8.1; subst e8_; obtain ⟨A9, c9, e9_⟩ := Kd.R_slice hO8.2.1; subst e9_; have HO8 := Aside0.mk hO8; have hg_ := Aside0.mk (Rg0.next qc52_ hB8); clear HG hR hB8 hO8 HN5 HN11 HNA HNB hcz0 hcz1 hfz0 hfz1; have HG := hg_; clear hg_) | ((with_reducible refine gate_dst (N := 12) rfl ?_); refine box_event ?hg (N := 12) ?hd (cs := #[.slice none 0 0, .slice none 0 0]) (t := 27) ?hr ?_; (case hd => rfl); (case hg => rfl); (case hr => exact qfba_); intro go hgo w9 hbox hb; have HN8 := Aside0.mk (show g5 ≠ go ∧ g6 ≠ go ∧ w.heap.size ≤ go from ⟨by have h_ := blk_lt HG.out.h5; rw [hgo]; exact Nat.ne_of_lt h_, by have h_ := blk_lt HG.out.h6; rw [hgo]; exact Nat.ne_of_lt h_, by rw [hgo]; exact HG.out.below.size⟩); have BK8 := Aside0.mk hbox; have ho_ := Aside0.mk (And.intro (Kd.R_below HO8.out.1 hb) (And.intro (Kd.R_below HO8.out.2.1 hb) HO8.out.2.2)); have hg_ := Aside0.mk (Rg0.next qc52_ hb); clear HG HO8 hb hbox hgo; have HG := hg_; have HO8 := ho_; clear hg_ ho_; have hoz0 : w9.cell? ⟨go, 0, none⟩ = some (.slice none 0 0) := (blk_cell BK8.out 0).trans rfl; have hoz1 : w9.cell? ⟨go, 1, none⟩ = some (.slice none 0 0) := (blk_cell BK8.out 1).trans rfl; have hof0 := blk_frozen BK8.out 0; have hof1 := blk_frozen BK8.out 1; have hop0 := HN8.out.1; have hop1 := HN8.out.2.1; have hop2 := hop0.symm; have hop3 := hop1.symm; have hyz0 : w9.cell? ⟨g6, 0, none⟩ = some (.slice none 0 0) := (blk_cell HG.out.h6 0).trans rfl; have hyz1 : w9.cell? ⟨g6, 1, none⟩ = some (.slice none 0 0) := (blk_cell HG.out.h6 1).trans rfl; have hyf0 := blk_frozen HG.out.h6 0; have hyf1 := blk_frozen HG.out.h6 1))
              go_roundg kj3
              case measure => have := HJ1.out; have := HK2.out; have := HK3.out; have := HJ3.out; omega
              case rel => exact ⟨(wrap64 (x10 + 1)), qc8f_, H', ⟨q3e9_ HJ1.out HK2.out HK3.out HJ3.out⟩, ⟨q0c7_⟩⟩
            · rw [if_neg c48] at H; exact absurd H (by simp)
           · rw [if_neg c46] at H; exact absurd H (by simp)
        ·
         rw [if_neg c33] at H
         have c33b0 := decide_eq_false c33
         clear c33
         have H' := Aside0.mk H
         clear H
         go_wp2
         go_roundg k3
         case measure => have := HJ1.out; have := HK2.out; have := HK3.out; omega
         case rel => exact ⟨(wrap64 (x32 + 1)), qc8f_, H', ⟨by have := HJ1.out; have := HK2.out; have := HK3.out; omega⟩, ⟨qc52_⟩⟩
     · rw [if_neg c25] at H; exact absurd H (by simp)
    ·
     rw [if_neg c24] at H
     have c24b0 := decide_eq_false c24
     clear c24
     simp only [Option.some.injEq, Prod.mk.injEq] at H
     obtain ⟨rfl, rfl, rfl⟩ := H
     have hnb := HG.out.ne
     have hnc := HG.out.ne.symm
     have hyz0 : wr.cell? ⟨g6, 0, none⟩ = some (.slice none 0 0) := (blk_cell HG.out.h6 0).trans rfl
     have hyz1 : wr.cell? ⟨g6, 1, none⟩ = some (.slice none 0 0) := (blk_cell HG.out.h6 1).trans rfl
     have hyf0 := blk_frozen HG.out.h6 0
     have hyf1 := blk_frozen HG.out.h6 1
     go_wp2
     refine bodyPost_ret (results_ct rfl _ _ g6 27 #[.slice none 0 0, .slice none 0 0] (0, 0) _ rfl q684_ Tryz.underlying27 rfl (by kernel_rfl)) rfl ?_
     exact ⟨_, _, q6e2_, ⟨q697_, .inr ⟨Kd.R_nil _ _ _ _ _, Kd.R_nil _ _ _ _ _, fun k_ h_ => by simp [Value.ownBlock] at h_⟩⟩⟩
theorem spec_reGoOn.calls (k : Nat) : ∀ (P0 : Nat → Prop) (u0 : Value) (l1_0 : List Int) (P1 : Nat → Prop) (u1 : Value) (l1_1 : List Int) (A0 : Option Addr) (c0 : Nat) (l0 : List Int) (r1 : List Int) (r2 : List Int) (r3 : Bool) (w0 w : World) (hB : Below w0.heap.size w0 w) (ho0 : Kd.R (Kd.int .i64) 3 w w0.heap.size P0 u0 l1_0) (hp0 : ∀ k_, P0 k_ → ¬ P1 k_) (ho1 : Kd.R (Kd.int .i64) 3 w w0.heap.size P1 u1 l1_1) (hp1 : ∀ k_, P1 k_ → ¬ P0 k_) (hr0 : ∀ W_, Kept w W_ (fun k_ => P0 k_ ∨ P1 k_) → Kd.C (Kd.int .i64) W_ A0 l0.length l0) (hc0 : l0.length ≤ c0) (h : spec_reGoOn.f k l1_0 l1_1 l0 = some (r1, r2, r3)),
  Calls Tryz.prog 23 #[.agg #[u0, u1], .slice A0 l0.length c0] w fun e w' => ∃ v0_ v1_ : Value, e = .returned (.tuple #[.agg #[v0_, v1_], .bool r3]) ∧ Kd.R (Kd.int .i64) 3 w' w0.heap.size (fun k_ => ((P0 k_ ∨ P1 k_) ∨ w.heap.size ≤ k_) ∧ some k_ ≠ (v1_ : Value).ownBlock) v0_ r1 ∧ Kd.R (Kd.int .i64) 3 w' w0.heap.size (fun k_ => ((P0 k_ ∨ P1 k_) ∨ w.heap.size ≤ k_) ∧ some k_ ≠ (v0_ : Value).ownBlock) v1_ r2 ∧ Below w0.heap.size w0 w' ∧ Kept w w' (fun k_ => P0 k_ ∨ P1 k_) := by
 intro P0 u0 l1_0 P1 u1 l1_1 A0 c0 l0 r1 r2 r3 w0 w hB ho0 hp0 ho1 hp1 hr0 hc0 h
 obtain ⟨B0, d0, rfl⟩ := Kd.R_slice ho0
 obtain ⟨B1, d1, rfl⟩ := Kd.R_slice ho1
 refine (spec_reGoOn.calls0 k A0 c0 l0 B0 d0 l1_0 B1 d1 l1_1 r1 r2 r3 w (hr0 w (Kept.refl w _)) hc0 (Kd.R_reads' ho0).2.2 (Kd.R_reads' ho0).2.1 (Kd.R_reads' ho1).2.2 (Kd.R_reads' ho1).2.1 h).mono ?_
 rintro e w' ⟨v0, v1, rfl, hb, hR⟩
 refine ⟨v0, v1, rfl, ?_, ?_, below_then hB hB.size hb, Kept.of_below hb _⟩
 ·
  rcases hR with ⟨rfl, rfl, rfl, rfl⟩ | ⟨h0, h1, ha⟩
  · exact R_okto (Kd.R_below ho0 hb) (fun k_ e_ => ⟨.inl (.inl (ho0.1 k_ e_)), fun e2 => hp0 k_ (ho0.1 k_ e_) (ho1.1 k_ e2.symm)⟩)
  · exact R_okto (Kd.R_lower h0 hB.size) (fun k_ e_ => ⟨.inr (Kd.R_base h0 k_ e_), fun e2 => ha k_ e_ e2.symm⟩)
 ·
  rcases hR with ⟨rfl, rfl, rfl, rfl⟩ | ⟨h0, h1, ha⟩
  · exact R_okto (Kd.R_below ho1 hb) (fun k_ e_ => ⟨.inl (.inr (ho1.1 k_ e_)), fun e2 => hp1 k_ (ho1.1 k_ e_) (ho0.1 k_ e2.symm)⟩)
  · exact R_okto (Kd.R_lower h1 hB.size) (fun k_ e_ => ⟨.inr (Kd.R_base h1 k_ e_), fun e2 => ha k_ e2.symm e_⟩)

/-! ### spec_RegionOfLabel: function 7 -/
def spec_RegionOfLabel.f (k : Nat) (l0 : List Int) : Option (List Int × List Int × Bool) := (spec_paParking.f k l0).bind fun t303 => (if t303 = true then ((spec_reGoOn.f k ([] : List Int) ([] : List Int) l0).bind fun bt304 => (some (bt304.1, bt304.2.1, bt304.2.2))) else (some (([] : List Int), ([] : List Int), false)))
theorem spec_RegionOfLabel.mono : ∀ a0 k, LeO (spec_RegionOfLabel.f k a0) (spec_RegionOfLabel.f (k + 1) a0) := by
 intro a0 k
 unfold spec_RegionOfLabel.f
 repeat' (with_reducible first | exact spec_paParking.mono _ _ | exact spec_reGoOn.mono _ _ _ _ | exact LeO.refl _ | exact LeO.none _ | refine LeO.ite ?_ ?_ | refine LeO.bind ?_ (fun _ => ?_))
theorem spec_RegionOfLabel.calls (k : Nat) (A0 : Option Addr) (c0 : Nat) (l0 : List Int) (r1 : List Int) (r2 : List Int) (r3 : Bool) (w : World) (hr0 : Kd.C (Kd.int .i64) w A0 l0.length l0) (hc0 : l0.length ≤ c0) (h : spec_RegionOfLabel.f k l0 = some (r1, r2, r3)) :
  Calls Tryz.prog 7 #[.slice A0 l0.length c0] w fun e w' => ∃ v0_ v1_ : Value, e = .returned (.tuple #[.agg #[v0_, v1_], .bool r3]) ∧ Kd.R (Kd.int .i64) 3 w' w.heap.size (fun k_ => some k_ ≠ (v1_ : Value).ownBlock) v0_ r1 ∧ Kd.R (Kd.int .i64) 3 w' w.heap.size (fun k_ => some k_ ≠ (v0_ : Value).ownBlock) v1_ r2 ∧ Below w.heap.size w w' := by
 have hu27 := Tryz.underlying27
 have HR0 := Aside0.mk hr0
 have HC0 := Aside0.mk hc0
 clear hr0 hc0
 have HB := Aside0.mk (Below.refl w.heap.size w)
 unfold spec_RegionOfLabel.f at h
 have H := h; clear h
 obtain ⟨t303, A2, H⟩ := ob_ H
 by_cases c3 : t303 = true
 ·
  subst c3
  rw [if_pos rfl] at H
  obtain ⟨⟨t304, t307, t310⟩, A4, H⟩ := ob_ H
  dsimp only at H
  simp only [Option.some.injEq, Prod.mk.injEq] at H
  obtain ⟨rfl, rfl, rfl⟩ := H
  go_enter Tryz.func7, Tryz.ntmps7
  go_wp2_with (first | ((with_reducible refine gate_dst (N := 2) rfl ?_); refine box_event ?hg (N := 2) ?hd (cs := #[.slice none 0 0, .slice none 0 0]) (t := 27) ?hr ?_; (case hd => rfl); (case hg => rfl); (case hr => exact qfba_); intro gb302 hg w5 hbox hb; have n0_ := Aside0.mk (below_step q0c4_ hb); have n1_ := Aside0.mk (hbox); have n2_ := Aside0.mk ((by rw [hg]; exact (below_size q0c4_) : w.heap.size ≤ gb302)); have n3_ := Aside0.mk ((by rw [hg]; exact (below_size q0c4_) : w.heap.size ≤ gb302)); replace HB := n0_; have BK302 := n1_; have GW302 := n2_; have GE302 := n3_; clear n0_ n1_ n2_ n3_; clear hb hbox hg) | ((with_reducible refine gate_callee (f := 22) rfl ?_); refine gl_ 5 Tryz.func22 #[.slice A0 l0.length c0] ?_; (with_reducible refine (spec_paParking.calls k _ _ l0 true _ ?s1 ?s2 A2.out).mono ?_); (case s1 => exact qe02_ HR0.out); (case s2 => exact HC0.out); rintro e w6 ⟨rfl, hb⟩; refine ⟨_, rfl, ?_⟩; replace BK302 := Aside0.mk (blk_below (g := gb302) (o := .cells #[.slice none 0 0, .slice none 0 0] 27 (0, 0)) qb1a_ hb); replace HB := Aside0.mk (below_step q5b3_ hb); clear hb) | ((with_reducible refine gate_callee (f := 23) rfl ?_); refine gl_ 10 Tryz.func23 #[.agg #[.slice none 0 0, .slice none 0 0], .slice A0 l0.length c0] ?_; (refine (spec_reGoOn.calls k (fun k_ => some k_ = (.slice none 0 0 : Value).ownBlock) (.slice none 0 0) ([] : List Int) (fun k_ => some k_ = (.slice none 0 0 : Value).ownBlock) (.slice none 0 0) ([] : List Int) _ _ l0 t304 t307 t310 w _ ?s1 ?s2 ?s3 ?s4 ?s5 ?s6 ?s7 A4.out).mono ?_); (case s1 => exact q5b3_); (case s2 => exact Kd.R_nil _ _ _ _ _); (case s3 => intro k_ e_ e2_; simp [Value.ownBlock] at e_ e2_); (case s4 => exact Kd.R_nil _ _ _ _ _); (case s5 => intro k_ e_ e2_; simp [Value.ownBlock] at e_ e2_); (case s6 => exact Kd.C_kept_came (Kd.heap_int .i64) HR0.out q5b3_ (fun k_ hs_ => Or.elim hs_ (fun e_ => (fun e_ => by simp [Value.ownBlock] at e_) e_) (fun e_ => (fun e_ => by simp [Value.ownBlock] at e_) e_))); (case s7 => exact HC0.out); rintro e w7 ⟨v305, v308, rfl, ho0, ho1, hb, hkp⟩; refine ⟨_, rfl, ?_⟩; replace BK302 := Aside0.mk (blk_kept qb1a_ hkp (fun hs_ => Or.elim hs_ (fun e_ => (fun e_ => by simp [Value.ownBlock] at e_) e_) (fun e_ => (fun e_ => by simp [Value.ownBlock] at e_) e_))); have HO306 := Aside0.mk (Kd.R_mono (ok' := fun k_ => some k_ ≠ (v308 : Value).ownBlock) ho0 (fun k_ hk_ => hk_.2)); have HO309 := Aside0.mk (Kd.R_mono (ok' := fun k_ => some k_ ≠ (v305 : Value).ownBlock) ho1 (fun k_ hk_ => hk_.2)); replace HB := Aside0.mk (hb); clear hb; (try clear hkp); clear ho0 ho1; obtain ⟨Ao8, co8, eo8⟩ := Kd.R_slice HO306.out; subst eo8; have hcz9_0 : w7.cell? ⟨gb302, 0, none⟩ = some (.slice none 0 0) := (blk_cell BK302.out 0).trans rfl; have hcz9_1 : w7.cell? ⟨gb302, 1, none⟩ = some (.slice none 0 0) := (blk_cell BK302.out 1).trans rfl; have hfz9_0 := blk_frozen BK302.out 0; have hfz9_1 := blk_frozen BK302.out 1; obtain ⟨Ao10, co10, eo10⟩ := Kd.R_slice HO309.out; subst eo10))
  refine bodyPost_ret (results_ct rfl _ _ gb302 27 #[.slice Ao8 t304.length co8, .slice Ao10 t307.length co10] (0, 0) _ rfl (by (with_reducible repeat (first | refine blk_drewN ?_ _ | refine blk_drew ?_ | refine blk_alloc ?_ _)); refine blk_put (cs := #[.slice Ao8 t304.length co8, .slice none 0 0]) ?_ 1 _ rfl; (with_reducible repeat (first | refine blk_drewN ?_ _ | refine blk_drew ?_ | refine blk_alloc ?_ _)); refine blk_put (cs := #[.slice none 0 0, .slice none 0 0]) ?_ 0 _ rfl; (with_reducible repeat (first | refine blk_drewN ?_ _ | refine blk_drew ?_ | refine blk_alloc ?_ _)); exact BK302.out) Tryz.underlying27 rfl (by kernel_rfl)) rfl ?_
  exact ⟨_, _, qce7_, by (with_reducible repeat (first | apply Kd.R_alloc | apply Kd.R_drewN | apply Kd.R_drew)); exact Kd.R_mono (Kd.R_far (p := ⟨gb302, 1, none⟩) (Kd.R_far (p := ⟨gb302, 0, none⟩) (Kd.R_types HO306.out BK302.out (by decide)) (fun _ hk => hk.2) (.slice Ao8 t304.length co8)) (fun _ hk => hk.2) (.slice Ao10 t307.length co10)) (fun _ hk => hk.1), by (with_reducible repeat (first | apply Kd.R_alloc | apply Kd.R_drewN | apply Kd.R_drew)); exact Kd.R_mono (Kd.R_far (p := ⟨gb302, 1, none⟩) (Kd.R_far (p := ⟨gb302, 0, none⟩) (Kd.R_types HO309.out BK302.out (by decide)) (fun _ hk => hk.2) (.slice Ao8 t304.length co8)) (fun _ hk => hk.2) (.slice Ao10 t307.length co10)) (fun _ hk => hk.1), q5b3_⟩
 ·
  replace c3 := Bool.eq_false_iff.mpr c3
  subst c3
  rw [if_neg nf_] at H
  simp only [Option.some.injEq, Prod.mk.injEq] at H
  obtain ⟨rfl, rfl, rfl⟩ := H
  go_enter Tryz.func7, Tryz.ntmps7
  go_wp2_with (first | ((with_reducible refine gate_dst (N := 2) rfl ?_); refine box_event ?hg (N := 2) ?hd (cs := #[.slice none 0 0, .slice none 0 0]) (t := 27) ?hr ?_; (case hd => rfl); (case hg => rfl); (case hr => exact qfba_); intro gb302 hg w11 hbox hb; have n0_ := Aside0.mk (below_step q0c4_ hb); have n1_ := Aside0.mk (hbox); have n2_ := Aside0.mk ((by rw [hg]; exact (below_size q0c4_) : w.heap.size ≤ gb302)); have n3_ := Aside0.mk ((by rw [hg]; exact (below_size q0c4_) : w.heap.size ≤ gb302)); replace HB := n0_; have BK302 := n1_; have GW302 := n2_; have GE302 := n3_; clear n0_ n1_ n2_ n3_; clear hb hbox hg) | ((with_reducible refine gate_callee (f := 22) rfl ?_); refine gl_ 5 Tryz.func22 #[.slice A0 l0.length c0] ?_; (with_reducible refine (spec_paParking.calls k _ _ l0 false _ ?s1 ?s2 A2.out).mono ?_); (case s1 => exact qe02_ HR0.out); (case s2 => exact HC0.out); rintro e w12 ⟨rfl, hb⟩; refine ⟨_, rfl, ?_⟩; replace BK302 := Aside0.mk (blk_below (g := gb302) (o := .cells #[.slice none 0 0, .slice none 0 0] 27 (0, 0)) qb1a_ hb); replace HB := Aside0.mk (below_step q5b3_ hb); clear hb; have hcz13_0 : w12.cell? ⟨gb302, 0, none⟩ = some (.slice none 0 0) := (blk_cell BK302.out 0).trans rfl; have hcz13_1 : w12.cell? ⟨gb302, 1, none⟩ = some (.slice none 0 0) := (blk_cell BK302.out 1).trans rfl; have hfz13_0 := blk_frozen BK302.out 0; have hfz13_1 := blk_frozen BK302.out 1))
  refine bodyPost_ret (results_ct rfl _ _ gb302 27 #[.slice none 0 0, .slice none 0 0] (0, 0) _ rfl (by (with_reducible repeat (first | refine blk_drewN ?_ _ | refine blk_drew ?_ | refine blk_alloc ?_ _)); refine blk_put (cs := #[.slice none 0 0, .slice none 0 0]) ?_ 1 _ rfl; (with_reducible repeat (first | refine blk_drewN ?_ _ | refine blk_drew ?_ | refine blk_alloc ?_ _)); refine blk_put (cs := #[.slice none 0 0, .slice none 0 0]) ?_ 0 _ rfl; (with_reducible repeat (first | refine blk_drewN ?_ _ | refine blk_drew ?_ | refine blk_alloc ?_ _)); exact BK302.out) Tryz.underlying27 rfl (by kernel_rfl)) rfl ?_
  exact ⟨_, _, qce7_, qf62_, qf62_, q5b3_⟩

/-! ### laws_wSame: function 15 -/
def laws_wSame.l0 : Nat → List Int → List Int → Int → Int → Option (Bool)
 | 0, _, _, _, _ => none
 | k + 1, x0, x1, x12, x13 => if x13 < x12 then (if 0 ≤ x13 then (if x13 < (x0.length : Int) then (if x13 < (x1.length : Int) then (if (rd x0 x13) = (rd x1 x13) then (laws_wSame.l0 k x0 x1 x12 (wrap64 (x13 + 1))) else (some false)) else (none)) else (none)) else (none)) else (some true)
def laws_wSame.f (k : Nat) (l0 : List Int) (l1 : List Int) : Option (Bool) := if (l0.length : Int) = (l1.length : Int) then (laws_wSame.l0 k l0 l1 (l0.length : Int) 0) else (some false)
theorem laws_wSame.mono_l : ∀ k, (∀ y0 y1 y2 y3, LeO (laws_wSame.l0 k y0 y1 y2 y3) (laws_wSame.l0 (k + 1) y0 y1 y2 y3))
 | 0 => fun _ _ _ _ r h => by simp [laws_wSame.l0] at h
 | k + 1 => by
  have ih0 := laws_wSame.mono_l k
  ·
   intro y0 y1 y2 y3
   unfold laws_wSame.l0
   repeat' (with_reducible first | exact ih0 _ _ _ _ | exact LeO.refl _ | exact LeO.none _ | refine LeO.ite ?_ ?_ | refine LeO.bind ?_ (fun _ => ?_))
theorem laws_wSame.mono : ∀ a0 a1 k, LeO (laws_wSame.f k a0 a1) (laws_wSame.f (k + 1) a0 a1) := by
 intro a0 a1 k
 have ih0 := laws_wSame.mono_l k
 unfold laws_wSame.f
 repeat' (with_reducible first | exact ih0 _ _ _ _ | exact LeO.refl _ | exact LeO.none _ | refine LeO.ite ?_ ?_ | refine LeO.bind ?_ (fun _ => ?_))
theorem laws_wSame.calls (k : Nat) (A0 : Option Addr) (c0 : Nat) (l0 : List Int) (A1 : Option Addr) (c1 : Nat) (l1 : List Int) (r : Bool) (w : World) (hr0 : Kd.C (Kd.int .i64) w A0 l0.length l0) (hc0 : l0.length ≤ c0) (hr1 : Kd.C (Kd.int .i64) w A1 l1.length l1) (hc1 : l1.length ≤ c1) (h : laws_wSame.f k l0 l1 = some r) :
  Calls Tryz.prog 15 #[.slice A0 l0.length c0, .slice A1 l1.length c1] w fun e w' => e = .returned (.bool r) ∧ Drawn0 w w' := by
 have HR0 := Aside0.mk hr0
 have HC0 := Aside0.mk hc0
 clear hr0 hc0
 have HR1 := Aside0.mk hr1
 have HC1 := Aside0.mk hc1
 clear hr1 hc1
 unfold laws_wSame.f at h
 have H := h; clear h
 by_cases c3 : (l0.length : Int) = (l1.length : Int)
 ·
  rw [if_pos c3] at H
  have c3b0 := beq_iff_eq.mpr c3
  have c3b1 := bne_eq_false_iff_eq.mpr c3
  have c3b2 : (l0.length == l1.length) = true := q002_
  clear c3
  have H' := Aside0.mk H
  clear H
  go_enter Tryz.func15, Tryz.ntmps15
  go_wp2
  repeat (go_quiet (fail); try go_wp2)
  go_loopg [13] k (fun kq v13 w' => ∃ (x13_1 : Int), v13 = .int .i64 x13_1 ∧ Aside0 (laws_wSame.l0 kq l0 l1 (l0.length : Int) x13_1 = some r) ∧ Aside0 (kq ≤ k) ∧ Drawn0 w w')
  case atStart => exact ⟨(0), qc8f_, H', ⟨Nat.le_refl _⟩, qffa_⟩
  case round =>
   clear H'; try clear c1; try clear p2; try clear c3; try clear c3b0; try clear c3b1; try clear c3b2
   obtain ⟨x13_1, rfl, HA, HK1, ⟨m1, rfl⟩⟩ := hrel
   cases gk with
   | zero => exact absurd HA.out (by simp [laws_wSame.l0])
   | succ k1 =>
    have H := HA.out
    clear HA
    simp only [laws_wSame.l0] at H
    by_cases c4 : x13_1 < (l0.length : Int)
    ·
     rw [if_pos c4] at H
     have c4b0 := decide_eq_true c4
     clear c4
     by_cases c5 : 0 ≤ x13_1
     ·
      rw [if_pos c5] at H
      have c5b0 := decide_eq_true c5
      clear c5
      by_cases c6 : x13_1 < (l0.length : Int)
      ·
       rw [if_pos c6] at H
       have c6b0 := decide_eq_true c6
       clear c6
       by_cases c7 : x13_1 < (l1.length : Int)
       ·
        rw [if_pos c7] at H
        have c7b0 := decide_eq_true c7
        clear c7
        by_cases c8 : (rd l0 x13_1) = (rd l1 x13_1)
        ·
         rw [if_pos c8] at H
         have c8b0 := beq_iff_eq.mpr c8
         have c8b1 := bne_eq_false_iff_eq.mpr c8
         clear c8
         have H' := Aside0.mk H
         clear H
         have p311 : 0 ≤ (x13_1 : Int) := of_decide_eq_true qe84_
         have q311 : x13_1 < (l0.length : Int) := of_decide_eq_true qe84_
         obtain ⟨ad311, e311, hx311_0⟩ := Kd.at_int HR0.out x13_1 p311 q311
         cases e311
         replace p311 := eq_true p311
         replace q311 := eq_true q311
         have p312 : 0 ≤ (x13_1 : Int) := of_decide_eq_true qe84_
         have q312 : x13_1 < (l1.length : Int) := of_decide_eq_true qe84_
         obtain ⟨ad312, e312, hx312_0⟩ := Kd.at_int HR1.out x13_1 p312 q312
         cases e312
         replace p312 := eq_true p312
         replace q312 := eq_true q312
         go_wp2
         repeat (go_quiet (fail); try go_wp2)
         go_roundg k1
         case measure => have := HK1.out; omega
         case rel => exact ⟨(wrap64 (x13_1 + 1)), qc8f_, H', ⟨by have := HK1.out; omega⟩, qffa_⟩
        ·
         rw [if_neg c8] at H
         have c8b0 := beq_eq_false_iff_ne.mpr c8
         have c8b1 := bne_iff_ne.mpr c8
         obtain rfl := Option.some.inj H
         have p311 : 0 ≤ (x13_1 : Int) := of_decide_eq_true qe84_
         have q311 : x13_1 < (l0.length : Int) := of_decide_eq_true qe84_
         obtain ⟨ad311, e311, hx311_0⟩ := Kd.at_int HR0.out x13_1 p311 q311
         cases e311
         replace p311 := eq_true p311
         replace q311 := eq_true q311
         have p312 : 0 ≤ (x13_1 : Int) := of_decide_eq_true qe84_
         have q312 : x13_1 < (l1.length : Int) := of_decide_eq_true qe84_
         obtain ⟨ad312, e312, hx312_0⟩ := Kd.at_int HR1.out x13_1 p312 q312
         cases e312
         replace p312 := eq_true p312
         replace q312 := eq_true q312
         go_wp2
         repeat (go_quiet (fail); try go_wp2)
         go_ret
         exact ⟨qc8f_, qffa_⟩
       ·
        rw [if_neg c7] at H
        exact absurd H (by simp)
      ·
       rw [if_neg c6] at H
       exact absurd H (by simp)
     ·
      rw [if_neg c5] at H
      exact absurd H (by simp)
    ·
     rw [if_neg c4] at H
     have c4b0 := decide_eq_false c4
     clear c4
     obtain rfl := Option.some.inj H
     go_wp2
     repeat (go_quiet (fail); try go_wp2)
     go_ret
     exact ⟨qc8f_, qffa_⟩
 ·
  rw [if_neg c3] at H
  have c3b0 := beq_eq_false_iff_ne.mpr c3
  have c3b1 := bne_iff_ne.mpr c3
  have c3b2 : (l0.length == l1.length) = false := q002_
  obtain rfl := Option.some.inj H
  go_enter Tryz.func15, Tryz.ntmps15
  go_wp2
  repeat (go_quiet (fail); try go_wp2)
  go_ret
  exact ⟨qc8f_, qffa_⟩

/-! ### laws_wSameRegion: function 8 -/
def laws_wSameRegion.f (k : Nat) (l0_0 : List Int) (l0_1 : List Int) (l1_0 : List Int) (l1_1 : List Int) : Option (Bool) := (laws_wSame.f k l0_0 l1_0).bind fun t315 => (if t315 = true then ((laws_wSame.f k l0_1 l1_1).bind fun t316 => (some t316)) else (some false))
theorem laws_wSameRegion.mono : ∀ a0 a1 a2 a3 k, LeO (laws_wSameRegion.f k a0 a1 a2 a3) (laws_wSameRegion.f (k + 1) a0 a1 a2 a3) := by
 intro a0 a1 a2 a3 k
 unfold laws_wSameRegion.f
 repeat' (with_reducible first | exact laws_wSame.mono _ _ _ | exact LeO.refl _ | exact LeO.none _ | refine LeO.ite ?_ ?_ | refine LeO.bind ?_ (fun _ => ?_))
theorem laws_wSameRegion.calls (k : Nat) (A0_0 : Option Addr) (c0_0 : Nat) (l0_0 : List Int) (A0_1 : Option Addr) (c0_1 : Nat) (l0_1 : List Int) (A1_0 : Option Addr) (c1_0 : Nat) (l1_0 : List Int) (A1_1 : Option Addr) (c1_1 : Nat) (l1_1 : List Int) (r : Bool) (w : World) (hr0_0 : Kd.C (Kd.int .i64) w A0_0 l0_0.length l0_0) (hc0_0 : l0_0.length ≤ c0_0) (hr0_1 : Kd.C (Kd.int .i64) w A0_1 l0_1.length l0_1) (hc0_1 : l0_1.length ≤ c0_1) (hr1_0 : Kd.C (Kd.int .i64) w A1_0 l1_0.length l1_0) (hc1_0 : l1_0.length ≤ c1_0) (hr1_1 : Kd.C (Kd.int .i64) w A1_1 l1_1.length l1_1) (hc1_1 : l1_1.length ≤ c1_1) (h : laws_wSameRegion.f k l0_0 l0_1 l1_0 l1_1 = some r) :
  Calls Tryz.prog 8 #[.agg #[.slice A0_0 l0_0.length c0_0, .slice A0_1 l0_1.length c0_1], .agg #[.slice A1_0 l1_0.length c1_0, .slice A1_1 l1_1.length c1_1]] w fun e w' => e = .returned (.bool r) ∧ Below w.heap.size w w' := by
 have hu27 := Tryz.underlying27
 have HR0_0 := Aside0.mk hr0_0
 have HC0_0 := Aside0.mk hc0_0
 clear hr0_0 hc0_0
 have HR0_1 := Aside0.mk hr0_1
 have HC0_1 := Aside0.mk hc0_1
 clear hr0_1 hc0_1
 have HR1_0 := Aside0.mk hr1_0
 have HC1_0 := Aside0.mk hc1_0
 clear hr1_0 hc1_0
 have HR1_1 := Aside0.mk hr1_1
 have HC1_1 := Aside0.mk hc1_1
 clear hr1_1 hc1_1
 have HB := Aside0.mk (Below.refl w.heap.size w)
 unfold laws_wSameRegion.f at h
 have H := h; clear h
 obtain ⟨t315, A3, H⟩ := ob_ H
 by_cases c4 : t315 = true
 ·
  subst c4
  rw [if_pos rfl] at H
  obtain ⟨t316, A5, H⟩ := ob_ H
  obtain rfl := Option.some.inj H
  go_enter Tryz.func8, Tryz.ntmps8
  go_wp2_with (first | ((with_reducible refine gate_dst (N := 2) rfl ?_); refine box_event ?hg (N := 2) ?hd (cs := #[.slice A0_0 l0_0.length c0_0, .slice A0_1 l0_1.length c0_1]) (t := 27) ?hr ?_; (case hd => rfl); (case hg => rfl); (case hr => exact qfba_); intro gb313 hg w6 hbox hb; have n0_ := Aside0.mk (below_step q0c4_ hb); have n1_ := Aside0.mk (hbox); have n2_ := Aside0.mk ((by rw [hg]; exact (below_size q0c4_) : w.heap.size ≤ gb313)); have n3_ := Aside0.mk ((by rw [hg]; exact (below_size q0c4_) : w.heap.size ≤ gb313)); replace HB := n0_; have BK313 := n1_; have GW313 := n2_; have GE313 := n3_; clear n0_ n1_ n2_ n3_; clear hb hbox hg) | ((with_reducible refine gate_dst (N := 3) rfl ?_); refine box_event ?hg (N := 3) ?hd (cs := #[.slice A1_0 l1_0.length c1_0, .slice A1_1 l1_1.length c1_1]) (t := 27) ?hr ?_; (case hd => rfl); (case hg => rfl); (case hr => exact qfba_); intro gb314 hg w7 hbox hb; have n0_ := Aside0.mk (blk_below (g := gb313) (o := .cells #[.slice A0_0 l0_0.length c0_0, .slice A0_1 l0_1.length c0_1] 27 (0, 0)) q57a_ hb); have n1_ := Aside0.mk (below_step qfda_ hb); have n2_ := Aside0.mk (hbox); have n3_ := Aside0.mk ((by rw [hg]; exact (below_size qfda_) : w.heap.size ≤ gb314)); have n4_ := Aside0.mk ((by rw [hg]; exact (below_size qfda_) : w.heap.size ≤ gb314)); have n5_ := Aside0.mk ((by rw [hg]; exact Nat.ne_of_lt (blk_lt (g := gb313) (o := .cells #[.slice A0_0 l0_0.length c0_0, .slice A0_1 l0_1.length c0_1] 27 (0, 0)) q57a_) : gb313 ≠ gb314)); have n6_ := Aside0.mk ((by rw [hg]; exact Nat.ne_of_gt (blk_lt (g := gb313) (o := .cells #[.slice A0_0 l0_0.length c0_0, .slice A0_1 l0_1.length c0_1] 27 (0, 0)) q57a_) : gb314 ≠ gb313)); replace BK313 := n0_; replace HB := n1_; have BK314 := n2_; have GW314 := n3_; have GE314 := n4_; have NB313_314 := n5_; have NB314_313 := n6_; clear n0_ n1_ n2_ n3_ n4_ n5_ n6_; clear hb hbox hg; have hnb8 := NB313_314.out; have hnc8 := NB314_313.out; have hcz9_0 : w7.cell? ⟨gb313, 0, none⟩ = some (.slice A0_0 l0_0.length c0_0) := (blk_cell BK313.out 0).trans rfl; have hcz9_1 : w7.cell? ⟨gb313, 1, none⟩ = some (.slice A0_1 l0_1.length c0_1) := (blk_cell BK313.out 1).trans rfl; have hfz9_0 := blk_frozen BK313.out 0; have hfz9_1 := blk_frozen BK313.out 1; have hcz10_0 : w7.cell? ⟨gb314, 0, none⟩ = some (.slice A1_0 l1_0.length c1_0) := (blk_cell BK314.out 0).trans rfl; have hcz10_1 : w7.cell? ⟨gb314, 1, none⟩ = some (.slice A1_1 l1_1.length c1_1) := (blk_cell BK314.out 1).trans rfl; have hfz10_0 := blk_frozen BK314.out 0; have hfz10_1 := blk_frozen BK314.out 1) | ((with_reducible refine gate_callee (f := 15) rfl ?_); refine gl_ 9 Tryz.func15 #[.slice A0_0 l0_0.length c0_0, .slice A1_0 l1_0.length c1_0] ?_; (with_reducible refine (laws_wSame.calls k _ _ l0_0 _ _ l1_0 true _ ?s1 ?s2 ?s3 ?s4 A3.out).mono ?_); (case s1 => exact qe02_ HR0_0.out); (case s2 => exact HC0_0.out); (case s3 => exact qe02_ HR1_0.out); (case s4 => exact HC1_0.out); rintro e w' ⟨rfl, ⟨nd, rfl⟩⟩; refine ⟨_, rfl, ?_⟩) | (go_at_call 15; (with_reducible refine (laws_wSame.calls k _ _ l0_1 _ _ l1_1 t316 _ ?s1 ?s2 ?s3 ?s4 A5.out).mono ?_); (case s1 => exact q02c_ HR0_1.out); (case s2 => exact HC0_1.out); (case s3 => exact q02c_ HR1_1.out); (case s4 => exact HC1_1.out); rintro e w' ⟨rfl, ⟨nd, rfl⟩⟩))
  go_ret
  exact ⟨qce7_, q7e3_⟩
 ·
  replace c4 := Bool.eq_false_iff.mpr c4
  subst c4
  rw [if_neg nf_] at H
  obtain rfl := Option.some.inj H
  go_enter Tryz.func8, Tryz.ntmps8
  go_wp2_with (first | ((with_reducible refine gate_dst (N := 2) rfl ?_); refine box_event ?hg (N := 2) ?hd (cs := #[.slice A0_0 l0_0.length c0_0, .slice A0_1 l0_1.length c0_1]) (t := 27) ?hr ?_; (case hd => rfl); (case hg => rfl); (case hr => exact qfba_); intro gb313 hg w11 hbox hb; have n0_ := Aside0.mk (below_step q0c4_ hb); have n1_ := Aside0.mk (hbox); have n2_ := Aside0.mk ((by rw [hg]; exact (below_size q0c4_) : w.heap.size ≤ gb313)); have n3_ := Aside0.mk ((by rw [hg]; exact (below_size q0c4_) : w.heap.size ≤ gb313)); replace HB := n0_; have BK313 := n1_; have GW313 := n2_; have GE313 := n3_; clear n0_ n1_ n2_ n3_; clear hb hbox hg) | ((with_reducible refine gate_dst (N := 3) rfl ?_); refine box_event ?hg (N := 3) ?hd (cs := #[.slice A1_0 l1_0.length c1_0, .slice A1_1 l1_1.length c1_1]) (t := 27) ?hr ?_; (case hd => rfl); (case hg => rfl); (case hr => exact qfba_); intro gb314 hg w12 hbox hb; have n0_ := Aside0.mk (blk_below (g := gb313) (o := .cells #[.slice A0_0 l0_0.length c0_0, .slice A0_1 l0_1.length c0_1] 27 (0, 0)) q57a_ hb); have n1_ := Aside0.mk (below_step qfda_ hb); have n2_ := Aside0.mk (hbox); have n3_ := Aside0.mk ((by rw [hg]; exact (below_size qfda_) : w.heap.size ≤ gb314)); have n4_ := Aside0.mk ((by rw [hg]; exact (below_size qfda_) : w.heap.size ≤ gb314)); have n5_ := Aside0.mk ((by rw [hg]; exact Nat.ne_of_lt (blk_lt (g := gb313) (o := .cells #[.slice A0_0 l0_0.length c0_0, .slice A0_1 l0_1.length c0_1] 27 (0, 0)) q57a_) : gb313 ≠ gb314)); have n6_ := Aside0.mk ((by rw [hg]; exact Nat.ne_of_gt (blk_lt (g := gb313) (o := .cells #[.slice A0_0 l0_0.length c0_0, .slice A0_1 l0_1.length c0_1] 27 (0, 0)) q57a_) : gb314 ≠ gb313)); replace BK313 := n0_; replace HB := n1_; have BK314 := n2_; have GW314 := n3_; have GE314 := n4_; have NB313_314 := n5_; have NB314_313 := n6_; clear n0_ n1_ n2_ n3_ n4_ n5_ n6_; clear hb hbox hg; have hnb13 := NB313_314.out; have hnc13 := NB314_313.out; have hcz14_0 : w12.cell? ⟨gb313, 0, none⟩ = some (.slice A0_0 l0_0.length c0_0) := (blk_cell BK313.out 0).trans rfl; have hcz14_1 : w12.cell? ⟨gb313, 1, none⟩ = some (.slice A0_1 l0_1.length c0_1) := (blk_cell BK313.out 1).trans rfl; have hfz14_0 := blk_frozen BK313.out 0; have hfz14_1 := blk_frozen BK313.out 1; have hcz15_0 : w12.cell? ⟨gb314, 0, none⟩ = some (.slice A1_0 l1_0.length c1_0) := (blk_cell BK314.out 0).trans rfl; have hcz15_1 : w12.cell? ⟨gb314, 1, none⟩ = some (.slice A1_1 l1_1.length c1_1) := (blk_cell BK314.out 1).trans rfl; have hfz15_0 := blk_frozen BK314.out 0; have hfz15_1 := blk_frozen BK314.out 1) | ((with_reducible refine gate_callee (f := 15) rfl ?_); refine gl_ 9 Tryz.func15 #[.slice A0_0 l0_0.length c0_0, .slice A1_0 l1_0.length c1_0] ?_; (with_reducible refine (laws_wSame.calls k _ _ l0_0 _ _ l1_0 false _ ?s1 ?s2 ?s3 ?s4 A3.out).mono ?_); (case s1 => exact qe02_ HR0_0.out); (case s2 => exact HC0_0.out); (case s3 => exact qe02_ HR1_0.out); (case s4 => exact HC1_0.out); rintro e w' ⟨rfl, ⟨nd, rfl⟩⟩; refine ⟨_, rfl, ?_⟩))
  go_ret
  exact ⟨qce7_, q7e3_⟩

/-! ### impl_IsParking: function 24 -/
def impl_IsParking.f (k : Nat) (l0 : List Int) : Option (Bool × Bool) := (impl_areCars.f l0).bind fun t317 => (if t317 = true then ((impl_isParking.f k l0).bind fun t318 => (some (t318, true))) else (some (false, false)))
theorem impl_IsParking.mono : ∀ a0 k, LeO (impl_IsParking.f k a0) (impl_IsParking.f (k + 1) a0) := by
 intro a0 k
 unfold impl_IsParking.f
 repeat' (with_reducible first | exact impl_isParking.mono _ _ | exact LeO.refl _ | exact LeO.none _ | refine LeO.ite ?_ ?_ | refine LeO.bind ?_ (fun _ => ?_))
theorem impl_IsParking.calls (k : Nat) (A0 : Option Addr) (c0 : Nat) (l0 : List Int) (r1 : Bool) (r2 : Bool) (w : World) (hr0 : Kd.C (Kd.int .i64) w A0 l0.length l0) (hc0 : l0.length ≤ c0) (h : impl_IsParking.f k l0 = some (r1, r2)) :
  Calls Tryz.prog 24 #[.slice A0 l0.length c0] w fun e w' => e = .returned (.tuple #[.bool r1, .bool r2]) ∧ Below w.heap.size w w' := by
 have HR0 := Aside0.mk hr0
 have HC0 := Aside0.mk hc0
 clear hr0 hc0
 have HB := Aside0.mk (Below.refl w.heap.size w)
 unfold impl_IsParking.f at h
 have H := h; clear h
 obtain ⟨t317, A2, H⟩ := ob_ H
 by_cases c3 : t317 = true
 ·
  subst c3
  rw [if_pos rfl] at H
  obtain ⟨t318, A4, H⟩ := ob_ H
  simp only [Option.some.injEq, Prod.mk.injEq] at H
  obtain ⟨rfl, rfl⟩ := H
  go_enter Tryz.func24, Tryz.ntmps24
  go_wp2_with (first | ((with_reducible refine gate_callee (f := 38) rfl ?_); refine gl_ 5 Tryz.func38 #[.slice A0 l0.length c0] ?_; (with_reducible refine (impl_areCars.calls _ _ l0 true _ ?s1 ?s2 A2.out).mono ?_); (case s1 => exact q201_ HR0.out); (case s2 => exact HC0.out); rintro e w5 ⟨rfl, hb⟩; refine ⟨_, rfl, ?_⟩; replace HB := Aside0.mk (below_step q0c4_ hb); clear hb) | ((with_reducible refine gate_callee (f := 20) rfl ?_); refine gl_ 8 Tryz.func20 #[.slice A0 l0.length c0] ?_; (with_reducible refine (impl_isParking.calls k _ _ l0 t318 _ ?s1 ?s2 A4.out).mono ?_); (case s1 => exact qe02_ HR0.out); (case s2 => exact HC0.out); rintro e w6 ⟨rfl, hb⟩; refine ⟨_, rfl, ?_⟩; replace HB := Aside0.mk (below_step q0c4_ hb); clear hb))
  go_ret2
  exact ⟨qce7_, q0c4_⟩
 ·
  replace c3 := Bool.eq_false_iff.mpr c3
  subst c3
  rw [if_neg nf_] at H
  simp only [Option.some.injEq, Prod.mk.injEq] at H
  obtain ⟨rfl, rfl⟩ := H
  go_enter Tryz.func24, Tryz.ntmps24
  go_wp2_with (first | ((with_reducible refine gate_callee (f := 38) rfl ?_); refine gl_ 5 Tryz.func38 #[.slice A0 l0.length c0] ?_; (with_reducible refine (impl_areCars.calls _ _ l0 false _ ?s1 ?s2 A2.out).mono ?_); (case s1 => exact q201_ HR0.out); (case s2 => exact HC0.out); rintro e w7 ⟨rfl, hb⟩; refine ⟨_, rfl, ?_⟩; replace HB := Aside0.mk (below_step q0c4_ hb); clear hb))
  go_ret2
  exact ⟨qce7_, q0c4_⟩

/-! ### laws_wParking: function 9 -/
def laws_wParking.f (k : Nat) (l0 : List Int) : Option (Bool) := (impl_IsParking.f k l0).bind fun bt319 => (if bt319.2 = true then (some bt319.1) else (some false))
theorem laws_wParking.mono : ∀ a0 k, LeO (laws_wParking.f k a0) (laws_wParking.f (k + 1) a0) := by
 intro a0 k
 unfold laws_wParking.f
 repeat' (with_reducible first | exact impl_IsParking.mono _ _ | exact LeO.refl _ | exact LeO.none _ | refine LeO.ite ?_ ?_ | refine LeO.bind ?_ (fun _ => ?_))
theorem laws_wParking.calls (k : Nat) (A0 : Option Addr) (c0 : Nat) (l0 : List Int) (r : Bool) (w : World) (hr0 : Kd.C (Kd.int .i64) w A0 l0.length l0) (hc0 : l0.length ≤ c0) (h : laws_wParking.f k l0 = some r) :
  Calls Tryz.prog 9 #[.slice A0 l0.length c0] w fun e w' => e = .returned (.bool r) ∧ Below w.heap.size w w' := by
 have HR0 := Aside0.mk hr0
 have HC0 := Aside0.mk hc0
 clear hr0 hc0
 have HB := Aside0.mk (Below.refl w.heap.size w)
 unfold laws_wParking.f at h
 have H := h; clear h
 obtain ⟨⟨t319, t320⟩, A2, H⟩ := ob_ H
 dsimp only at H
 by_cases c3 : t320 = true
 ·
  subst c3
  rw [if_pos rfl] at H
  obtain rfl := Option.some.inj H
  go_enter Tryz.func9, Tryz.ntmps9
  go_wp2_with (first | ((with_reducible refine gate_callee (f := 24) rfl ?_); refine gl_ 7 Tryz.func24 #[.slice A0 l0.length c0] ?_; (with_reducible refine (impl_IsParking.calls k _ _ l0 t319 true _ ?s1 ?s2 A2.out).mono ?_); (case s1 => exact q201_ HR0.out); (case s2 => exact HC0.out); rintro e w4 ⟨rfl, hb⟩; refine ⟨_, rfl, ?_⟩; replace HB := Aside0.mk (below_step q0c4_ hb); clear hb))
  go_ret
  exact ⟨qce7_, q0c4_⟩
 ·
  replace c3 := Bool.eq_false_iff.mpr c3
  subst c3
  rw [if_neg nf_] at H
  obtain rfl := Option.some.inj H
  go_enter Tryz.func9, Tryz.ntmps9
  go_wp2_with (first | ((with_reducible refine gate_callee (f := 24) rfl ?_); refine gl_ 7 Tryz.func24 #[.slice A0 l0.length c0] ?_; (with_reducible refine (impl_IsParking.calls k _ _ l0 t319 false _ ?s1 ?s2 A2.out).mono ?_); (case s1 => exact q201_ HR0.out); (case s2 => exact HC0.out); rintro e w5 ⟨rfl, hb⟩; refine ⟨_, rfl, ?_⟩; replace HB := Aside0.mk (below_step q0c4_ hb); clear hb))
  go_ret
  exact ⟨qce7_, q0c4_⟩

end Go.Proofs.YtgfcnfbbiaeboaaGreat.PAll
