-- written by a program of this session (wip/gen/xpatch.py over the translation); Lean checks it
import Derived.Test.YtflgalpfbjhdlaaGreatPAllx0
import Derived.Test.YtflgalpfbjhdlaaGreatPAllx2
import Derived.Test.YtflgalpfbjhdlaaGreatPAllx3
namespace Go.Proofs.YtflgalpfbjhdlaaGreat.PAll
open Go.RowKit Go.Proofs.YtflgalpfbjhdlaaGreat.Hand Go.Proofs.YtflgalpfbjhdlaaGreatW.PrintWords Go.Proofs.YtflgalpfbjhdlaaGreatW.PrintLast Go.Proofs.YtflgalpfbjhdlaaGreatW.PrintMore
attribute [local go_sem] max2_int min2_int max_two min_two max_three min_three max_four min_four   -- for this text's walks alone
set_option maxHeartbeats 8000000
set_option maxRecDepth 100000
set_option linter.unusedVariables false
set_option linter.unusedSimpArgs false

/-! ### impl_total: function 52 -/
def impl_total.l0 : Nat → Int → List Int → Int → Int → Option (Int)
 | 0, _, _, _, _ => none
 | k + 1, x3, x6, x7, x8 => if x8 < x7 then (if 0 ≤ x8 then (if x8 < (x6.length : Int) then (impl_total.l0 k (wrap64 (x3 + (rd x6 x8))) x6 x7 (wrap64 (x8 + 1))) else (none)) else (none)) else (some x3)
def impl_total.f (k : Nat) (l0 : List Int) : Option (Int) := impl_total.l0 k 0 l0 (l0.length : Int) 0
theorem impl_total.mono_l : ∀ k, (∀ y0 y1 y2 y3, LeO (impl_total.l0 k y0 y1 y2 y3) (impl_total.l0 (k + 1) y0 y1 y2 y3))
 | 0 => fun _ _ _ _ r h => by simp [impl_total.l0] at h
 | k + 1 => by
  have ih0 := impl_total.mono_l k
  ·
   intro y0 y1 y2 y3
   unfold impl_total.l0
   repeat' (with_reducible first | exact ih0 _ _ _ _ | exact LeO.refl _ | exact LeO.none _ | refine LeO.ite ?_ ?_ | refine LeO.bind ?_ (fun _ => ?_))
theorem impl_total.mono : ∀ a0 k, LeO (impl_total.f k a0) (impl_total.f (k + 1) a0) := by
 intro a0 k
 have ih0 := impl_total.mono_l k
 unfold impl_total.f
 repeat' (with_reducible first | exact ih0 _ _ _ _ | exact LeO.refl _ | exact LeO.none _ | refine LeO.ite ?_ ?_ | refine LeO.bind ?_ (fun _ => ?_))
theorem impl_total.calls (k : Nat) (A0 : Option Addr) (c0 : Nat) (l0 : List Int) (r : Int) (w : World) (hr0 : Kd.C (Kd.int .i64) w A0 l0.length l0) (hc0 : l0.length ≤ c0) (h : impl_total.f k l0 = some r) :
  Calls Tryz.prog 52 #[.slice A0 l0.length c0] w fun e w' => e = .returned (.int .i64 r) ∧ Drawn0 w w' := by
 have HR0 := Aside0.mk hr0
 have HC0 := Aside0.mk hc0
 clear hr0 hc0
 unfold impl_total.f at h
 have H := h; clear h
 have H' := Aside0.mk H
 clear H
 go_enter Tryz.func52, Tryz.ntmps52
 go_wp2
 go_loopg [3, 8] k (fun kq v3 v8 w' => ∃ (x3_1 : Int) (x8_1 : Int), v3 = .int .i64 x3_1 ∧ v8 = .int .i64 x8_1 ∧ Aside0 (impl_total.l0 kq x3_1 l0 (l0.length : Int) x8_1 = some r) ∧ Aside0 (kq ≤ k) ∧ Drawn0 w w')
 case atStart => exact ⟨(0), (0), qc8f_, qc8f_, H', ⟨Nat.le_refl _⟩, qffa_⟩
 case round =>
  clear H'
  obtain ⟨x3_1, x8_1, rfl, rfl, HA, HK1, ⟨m1, rfl⟩⟩ := hrel
  cases gk with
  | zero => exact absurd HA.out (by simp [impl_total.l0])
  | succ k1 =>
   have H := HA.out
   clear HA
   simp only [impl_total.l0] at H
   by_cases c2 : x8_1 < (l0.length : Int)
   ·
    rw [if_pos c2] at H
    have c2b0 := decide_eq_true c2
    clear c2
    by_cases c3 : 0 ≤ x8_1
    ·
     rw [if_pos c3] at H
     have c3b0 := decide_eq_true c3
     clear c3
     by_cases c4 : x8_1 < (l0.length : Int)
     ·
      rw [if_pos c4] at H
      have c4b0 := decide_eq_true c4
      clear c4
      have H' := Aside0.mk H
      clear H
      have p602 : 0 ≤ (x8_1 : Int) := of_decide_eq_true qe84_
      have q602 : x8_1 < (l0.length : Int) := of_decide_eq_true qe84_
      obtain ⟨ad602, e602, hx602_0⟩ := Kd.at_int HR0.out x8_1 p602 q602
      cases e602
      replace p602 := eq_true p602
      replace q602 := eq_true q602
      go_wp2
      go_roundg k1
      case measure => have := HK1.out; omega
      case rel => exact ⟨(wrap64 (x3_1 + (rd l0 x8_1))), (wrap64 (x8_1 + 1)), qc8f_, qc8f_, H', ⟨q1d0_ HK1.out⟩, qffa_⟩
     ·
      rw [if_neg c4] at H
      exact absurd H (by simp)
    ·
     rw [if_neg c3] at H
     exact absurd H (by simp)
   ·
    rw [if_neg c2] at H
    have c2b0 := decide_eq_false c2
    clear c2
    obtain rfl := Option.some.inj H
    go_wp2
    go_ret
    exact ⟨qc8f_, qffa_⟩

/-! ### impl_TotalDistance: function 20 -/
def impl_TotalDistance.f (k : Nat) (l0 : List Int) (a1 : Int) : Option (Int × Bool) := (impl_DistancesOf.f k l0 a1).bind fun bt603 => ((impl_total.f k bt603.1).bind fun t607 => (some (t607, bt603.2)))
theorem impl_TotalDistance.mono : ∀ a0 a1 k, LeO (impl_TotalDistance.f k a0 a1) (impl_TotalDistance.f (k + 1) a0 a1) := by
 intro a0 a1 k
 unfold impl_TotalDistance.f
 repeat' (with_reducible first | exact impl_DistancesOf.mono _ _ _ | exact impl_total.mono _ _ | exact LeO.refl _ | exact LeO.none _ | refine LeO.ite ?_ ?_ | refine LeO.bind ?_ (fun _ => ?_))
theorem impl_TotalDistance.calls (k : Nat) (A0 : Option Addr) (c0 : Nat) (l0 : List Int) (a1 : Int) (r1 : Int) (r2 : Bool) (w : World) (hr0 : Kd.C (Kd.int .i64) w A0 l0.length l0) (hc0 : l0.length ≤ c0) (h : impl_TotalDistance.f k l0 a1 = some (r1, r2)) :
  Calls Tryz.prog 20 #[.slice A0 l0.length c0, .int .i64 a1] w fun e w' => e = .returned (.tuple #[.int .i64 r1, .bool r2]) ∧ Below w.heap.size w w' := by
 have HR0 := Aside0.mk hr0
 have HC0 := Aside0.mk hc0
 clear hr0 hc0
 have HB := Aside0.mk (Below.refl w.heap.size w)
 unfold impl_TotalDistance.f at h
 have H := h; clear h
 obtain ⟨⟨t603, t604⟩, A3, H⟩ := ob_ H
 dsimp only at H
 obtain ⟨t607, A4, H⟩ := ob_ H
 simp only [Option.some.injEq, Prod.mk.injEq] at H
 obtain ⟨rfl, rfl⟩ := H
 go_enter Tryz.func20, Tryz.ntmps20
 go_wp2_with (first | ((with_reducible refine gate_callee (f := 24) rfl ?_); refine gl_ 11 Tryz.func24 #[.slice A0 l0.length c0, .int .i64 a1] ?_; (with_reducible refine (impl_DistancesOf.calls k _ _ l0 a1 t603 t604 _ ?s1 ?s2 A3.out).mono ?_); (case s1 => exact q201_ HR0.out); (case s2 => exact HC0.out); rintro e w5 ⟨v605, rfl, ho0, hb⟩; refine ⟨_, rfl, ?_⟩; have HO606 := Aside0.mk (Kd.R_lower ho0 (below_size q0c4_)); replace HB := Aside0.mk (below_step q0c4_ hb); clear hb ho0; obtain ⟨Ao6, co6, eo6⟩ := Kd.R_slice HO606.out; subst eo6) | ((with_reducible refine gate_callee (f := 52) rfl ?_); refine gl_ 15 Tryz.func52 #[.slice Ao6 t603.length co6] ?_; (with_reducible refine (impl_total.calls k _ _ t603 t607 _ ?s1 ?s2 A4.out).mono ?_); (case s1 => exact q5a8_ HO606.out); (case s2 => exact (Kd.R_reads' HO606.out).2.1); rintro e w' ⟨rfl, ⟨nd, rfl⟩⟩; refine ⟨_, rfl, ?_⟩))
 go_ret2
 exact ⟨qce7_, q0c4_⟩

/-! ### laws_jSum: function 21 -/
def laws_jSum.l0 : Nat → Int → List Int → Int → Int → Option (Int)
 | 0, _, _, _, _ => none
 | k + 1, x3, x6, x7, x8 => if x8 < x7 then (if 0 ≤ x8 then (if x8 < (x6.length : Int) then (laws_jSum.l0 k (wrap64 (x3 + (rd x6 x8))) x6 x7 (wrap64 (x8 + 1))) else (none)) else (none)) else (some x3)
def laws_jSum.f (k : Nat) (l0 : List Int) : Option (Int) := laws_jSum.l0 k 0 l0 (l0.length : Int) 0
theorem laws_jSum.mono_l : ∀ k, (∀ y0 y1 y2 y3, LeO (laws_jSum.l0 k y0 y1 y2 y3) (laws_jSum.l0 (k + 1) y0 y1 y2 y3))
 | 0 => fun _ _ _ _ r h => by simp [laws_jSum.l0] at h
 | k + 1 => by
  have ih0 := laws_jSum.mono_l k
  ·
   intro y0 y1 y2 y3
   unfold laws_jSum.l0
   repeat' (with_reducible first | exact ih0 _ _ _ _ | exact LeO.refl _ | exact LeO.none _ | refine LeO.ite ?_ ?_ | refine LeO.bind ?_ (fun _ => ?_))
theorem laws_jSum.mono : ∀ a0 k, LeO (laws_jSum.f k a0) (laws_jSum.f (k + 1) a0) := by
 intro a0 k
 have ih0 := laws_jSum.mono_l k
 unfold laws_jSum.f
 repeat' (with_reducible first | exact ih0 _ _ _ _ | exact LeO.refl _ | exact LeO.none _ | refine LeO.ite ?_ ?_ | refine LeO.bind ?_ (fun _ => ?_))
theorem laws_jSum.calls (k : Nat) (A0 : Option Addr) (c0 : Nat) (l0 : List Int) (r : Int) (w : World) (hr0 : Kd.C (Kd.int .i64) w A0 l0.length l0) (hc0 : l0.length ≤ c0) (h : laws_jSum.f k l0 = some r) :
  Calls Tryz.prog 21 #[.slice A0 l0.length c0] w fun e w' => e = .returned (.int .i64 r) ∧ Drawn0 w w' := by
 have HR0 := Aside0.mk hr0
 have HC0 := Aside0.mk hc0
 clear hr0 hc0
 unfold laws_jSum.f at h
 have H := h; clear h
 have H' := Aside0.mk H
 clear H
 go_enter Tryz.func21, Tryz.ntmps21
 go_wp2
 go_loopg [3, 8] k (fun kq v3 v8 w' => ∃ (x3_1 : Int) (x8_1 : Int), v3 = .int .i64 x3_1 ∧ v8 = .int .i64 x8_1 ∧ Aside0 (laws_jSum.l0 kq x3_1 l0 (l0.length : Int) x8_1 = some r) ∧ Aside0 (kq ≤ k) ∧ Drawn0 w w')
 case atStart => exact ⟨(0), (0), qc8f_, qc8f_, H', ⟨Nat.le_refl _⟩, qffa_⟩
 case round =>
  clear H'
  obtain ⟨x3_1, x8_1, rfl, rfl, HA, HK1, ⟨m1, rfl⟩⟩ := hrel
  cases gk with
  | zero => exact absurd HA.out (by simp [laws_jSum.l0])
  | succ k1 =>
   have H := HA.out
   clear HA
   simp only [laws_jSum.l0] at H
   by_cases c2 : x8_1 < (l0.length : Int)
   ·
    rw [if_pos c2] at H
    have c2b0 := decide_eq_true c2
    clear c2
    by_cases c3 : 0 ≤ x8_1
    ·
     rw [if_pos c3] at H
     have c3b0 := decide_eq_true c3
     clear c3
     by_cases c4 : x8_1 < (l0.length : Int)
     ·
      rw [if_pos c4] at H
      have c4b0 := decide_eq_true c4
      clear c4
      have H' := Aside0.mk H
      clear H
      have p608 : 0 ≤ (x8_1 : Int) := of_decide_eq_true qe84_
      have q608 : x8_1 < (l0.length : Int) := of_decide_eq_true qe84_
      obtain ⟨ad608, e608, hx608_0⟩ := Kd.at_int HR0.out x8_1 p608 q608
      cases e608
      replace p608 := eq_true p608
      replace q608 := eq_true q608
      go_wp2
      go_roundg k1
      case measure => have := HK1.out; omega
      case rel => exact ⟨(wrap64 (x3_1 + (rd l0 x8_1))), (wrap64 (x8_1 + 1)), qc8f_, qc8f_, H', ⟨q1d0_ HK1.out⟩, qffa_⟩
     ·
      rw [if_neg c4] at H
      exact absurd H (by simp)
    ·
     rw [if_neg c3] at H
     exact absurd H (by simp)
   ·
    rw [if_neg c2] at H
    have c2b0 := decide_eq_false c2
    clear c2
    obtain rfl := Option.some.inj H
    go_wp2
    go_ret
    exact ⟨qc8f_, qffa_⟩

/-! ### laws_jSwapped: function 22 -/
def laws_jSwapped.f (l0 : List Int) (a1 : Int) : Option (List Int) := (some (([] : List Int) : List Int)).bind fun y609 => (if y609.length + l0.length < 17592186044416 then ((some (y609 ++ l0 : List Int)).bind fun y612 => (if (wrap64 (a1 + 1)) < (y612.length : Int) then (if 0 ≤ a1 then (if a1 < (y612.length : Int) then (if 0 ≤ (wrap64 (a1 + 1)) then (some ((y612.set (a1 : Int).toNat (rd y612 (wrap64 (a1 + 1)))).set ((wrap64 (a1 + 1)) : Int).toNat (rd y612 a1))) else (none)) else (none)) else (none)) else (some y612))) else (none))
theorem laws_jSwapped.calls (A0 : Option Addr) (c0 : Nat) (l0 : List Int) (a1 : Int) (r : List Int) (w : World) (hr0 : Kd.C (Kd.int .i64) w A0 l0.length l0) (hc0 : l0.length ≤ c0) (h : laws_jSwapped.f l0 a1 = some r) :
  Calls Tryz.prog 22 #[.slice A0 l0.length c0, .int .i64 a1] w fun e w' => ∃ v0_ : Value, e = .returned (v0_) ∧ Kd.R (Kd.int .i64) 3 w' w.heap.size (fun _ => True) v0_ r ∧ Below w.heap.size w w' := by
 have HR0 := Aside0.mk hr0
 have HC0 := Aside0.mk hc0
 clear hr0 hc0
 have HB := Aside0.mk (Below.refl w.heap.size w)
 unfold laws_jSwapped.f at h
 have H := h; clear h
 obtain ⟨y609, hy609⟩ : ∃ y_ : List Int, y_ = (([] : List Int)) := ⟨_, rfl⟩
 replace H : (if y609.length + l0.length < 17592186044416 then ((some (y609 ++ l0 : List Int)).bind fun y612 => (if (wrap64 (a1 + 1)) < (y612.length : Int) then (if 0 ≤ a1 then (if a1 < (y612.length : Int) then (if 0 ≤ (wrap64 (a1 + 1)) then (some ((y612.set (a1 : Int).toNat (rd y612 (wrap64 (a1 + 1)))).set ((wrap64 (a1 + 1)) : Int).toNat (rd y612 a1))) else (none)) else (none)) else (none)) else (some y612))) else (none)) = some r := by first | (rw [hy609]; with_reducible exact H) | (have H2_ := (Option.bind_some _ _).symm.trans H; rw [hy609]; with_reducible exact H2_) | (have H2_ := (Option.bind_some _ _).symm.trans H; with_reducible exact H2_) | with_reducible exact H | (rw [hy609]; exact H) | exact H
 have Ny609 := Aside0.mk hy609
 clear hy609
 by_cases c3 : y609.length + l0.length < 17592186044416
 ·
  rw [if_pos c3] at H
  have LMc3 := Aside0.mk c3
  clear c3
  obtain ⟨y612, hy612⟩ : ∃ y_ : List Int, y_ = (y609 ++ l0) := ⟨_, rfl⟩
  replace H : (if (wrap64 (a1 + 1)) < (y612.length : Int) then (if 0 ≤ a1 then (if a1 < (y612.length : Int) then (if 0 ≤ (wrap64 (a1 + 1)) then (some ((y612.set (a1 : Int).toNat (rd y612 (wrap64 (a1 + 1)))).set ((wrap64 (a1 + 1)) : Int).toNat (rd y612 a1))) else (none)) else (none)) else (none)) else (some y612)) = some r := by first | (rw [hy612]; with_reducible exact H) | (have H2_ := (Option.bind_some _ _).symm.trans H; rw [hy612]; with_reducible exact H2_) | (have H2_ := (Option.bind_some _ _).symm.trans H; with_reducible exact H2_) | with_reducible exact H | (rw [hy612]; exact H) | exact H
  have Ny612 := Aside0.mk hy612
  clear hy612
  by_cases c4 : (wrap64 (a1 + 1)) < (y612.length : Int)
  ·
   rw [if_pos c4] at H
   have c4b0 := decide_eq_true c4
   clear c4
   by_cases c5 : 0 ≤ a1
   ·
    rw [if_pos c5] at H
    have c5b0 := decide_eq_true c5
    clear c5
    by_cases c6 : a1 < (y612.length : Int)
    ·
     rw [if_pos c6] at H
     have c6b0 := decide_eq_true c6
     clear c6
     obtain ⟨ji7, hji7⟩ : ∃ j_ : Int, (wrap64 (a1 + 1)) = j_ := ⟨_, rfl⟩
     replace H : (if 0 ≤ (ji7) then (some ((y612.set (a1 : Int).toNat (rd y612 (ji7))).set ((ji7) : Int).toNat (rd y612 a1))) else (none)) = some r := by first | (rw [hji7] at H; exact H) | (simp only [hji7] at H ⊢; exact H)
     (try rw [hji7] at c4b0)
     have hji7w : (IntKind.i64.wrap (a1 + 1)) = ji7 := (i64_w _).trans hji7
     by_cases c8 : 0 ≤ (ji7)
     ·
      rw [if_pos c8] at H
      have c8b0 := decide_eq_true c8
      clear c8
      obtain ⟨y617, hy617⟩ : ∃ y_ : List Int, y_ = (y612.set (a1 : Int).toNat (rd y612 (ji7))) := ⟨_, rfl⟩
      replace H : (some (y617.set ((ji7) : Int).toNat (rd y612 a1))) = some r := by first | (rw [hy617]; with_reducible exact H) | (have H2_ := (Option.bind_some _ _).symm.trans H; rw [hy617]; with_reducible exact H2_) | (have H2_ := (Option.bind_some _ _).symm.trans H; with_reducible exact H2_) | with_reducible exact H | (rw [hy617]; exact H) | exact H
      have Ny617 := Aside0.mk hy617
      clear hy617
      obtain ⟨y618, hy618⟩ : ∃ y_ : List Int, y_ = (y617.set ((ji7) : Int).toNat (rd y612 a1)) := ⟨_, rfl⟩
      replace H : (some y618) = some r := by first | (rw [hy618]; with_reducible exact H) | (have H2_ := (Option.bind_some _ _).symm.trans H; rw [hy618]; with_reducible exact H2_) | (have H2_ := (Option.bind_some _ _).symm.trans H; with_reducible exact H2_) | with_reducible exact H | (rw [hy618]; exact H) | exact H
      have Ny618 := Aside0.mk hy618
      clear hy618
      obtain rfl := Option.some.inj H
      go_enter Tryz.func22, Tryz.ntmps22
      have zz_ := trivial
      repeat (clear zz_; go_wp2_with (first | ((with_reducible refine gate_dst (N := 8) rfl ?_); refine Kd.R_lit (Kd.int .i64) _ 3 ?hg (N := 8) ?hd (xs := ([] : List Int)) (inner := []) (ok := fun _ => True) (okp := fun _ => True) ?hr ?hp (fun _ hk => hk) trivial (Below.refl _ _) (Nat.le_refl _) (by simp) ?_; (case hd => rfl); (case hg => rfl); (case hr => exact qba7_); (case hp => exact (Reps.none _ _)); intro v610 w11 ho12 hb hg_ hnew_; clear hg_ hnew_; (first | rw [← Ny609.out] at ho12 | (simp only [Int.reduceToNat] at ho12; rw [← Ny609.out] at ho12)); have HO611 := Aside0.mk (Kd.R_lower ho12 (below_size q0c4_)); replace HB := Aside0.mk (below_step q0c4_ hb); clear hb ho12) | ((with_reducible refine gate_builtin (b := .append) (xs := #[.tmp 8, .tmp 9]) rfl ?_); at_builtin; refine Kd.R_append_rows (Kd.int .i64) (w0 := w) w.heap.size rfl (.tmp 8) (.tmp 9) 24 3 (.int .i64 0) 8 rfl Tryz.underlying24 info3 rfl (by decide) (by omega) v610 y609 l0 _ _ _ (fun _ => True) (fun _ => False) rfl rfl ?aO ?aR (fun _ _ h => h) (fun _ h => h.elim) ?aF ?aB ?aS ?aL ?_; (case aR => exact q02f_ HR0.out); (case aB => exact q0c4_); (case aF => exact (fun _ _ => trivial)); (case aO => exact (q9d5_ HO611.out)); (case aS => exact (below_size q0c4_)); (case aL => have := LMc3.out; omega); intro v613 w13 ho hb hg hat; rw [← Ny612.out] at ho; have n0_ := Aside0.mk (hb); have n1_ := Aside0.mk (ho); replace HB := n0_; have HO614 := n1_; clear n0_ n1_; clear ho hb hg hat; obtain ⟨Ao14, co14, eo14⟩ := Kd.R_slice HO614.out; subst eo14; have p615 : 0 ≤ (a1 : Int) := of_decide_eq_true qe84_; have q615 : a1 < (y612.length : Int) := of_decide_eq_true qe84_; obtain ⟨ad615, e615, hx615_0⟩ := Kd.at_int (Kd.R_reads' HO614.out).2.2 a1 p615 q615; cases e615; replace p615 := eq_true p615; replace q615 := eq_true q615; have p616 : 0 ≤ ((ji7) : Int) := of_decide_eq_true qe84_; have q616 : (ji7) < (y612.length : Int) := of_decide_eq_true qe84_; obtain ⟨ad616, e616, hx616_0⟩ := Kd.at_int (Kd.R_reads' HO614.out).2.2 (ji7) p616 q616; obtain rfl : ad615 = ad616 := (by injection e616); replace p616 := eq_true p616; replace q616 := eq_true q616; have p9 : 0 ≤ (a1 : Int) := of_decide_eq_true qe84_; have q9 : (a1 : Int) < ((y612.length : Int) : Int) := of_decide_eq_true qe84_; obtain ⟨go9, co9, eo9, gb9, gl9, cl9, HG9⟩ := Kd.R_form HO614.out (by omega); (first | cases eo9 | (injection eo9 with ea_ en_ ec_; (first | subst ea_ | (injection ea_ with ea_; subst ea_)); subst ec_; clear en_)); have GB9 := Aside0.mk gb9; have GG9 := Aside0.mk HG9; clear gb9 gl9 HG9; (first | simp only [add_plain] at hx615_0 | skip); (first | simp only [add_plain] at hx616_0 | skip); obtain ⟨hx9_0, hf9_0⟩ := Kd.R_celln 0 HO614.out (a1 : Int) p9 q9; replace p9 := eq_true p9; replace q9 := eq_true q9; obtain ⟨hy15_, hz15_⟩ := Kd.R_celln 0 HO614.out (a1 : Int) (of_decide_eq_true qe84_) (of_decide_eq_true qe84_); have HP15 := Kd.R_putg HO614.out (a1 : Int) (rd y612 (ji7))) | ((with_reducible refine gate_store (t := 3) (p := 28) rfl ?_); (try (rw [drewN_self w13]; generalize hq_ : World.drewN w13 _ = w13; have n0_ := Aside0.mk (Kd.R_at hq_ HO614.out); have n1_ := Aside0.mk (below_at hq_ HB.out); clear hq_ HO614 HB; have HO614 := n0_; have HB := n1_; clear n0_ n1_; (try (obtain ⟨hy15_, hz15_⟩ := Kd.R_celln 0 HO614.out (a1 : Int) (of_decide_eq_true qe84_) (of_decide_eq_true qe84_))); (try (have HP15 := Kd.R_putg HO614.out (a1 : Int) (rd y612 (ji7)))))); refine store_event (t := 3) (p := 28) (v := ?vo_w16) (w1 := (w13.setCell ⟨go9, (a1 : Int).toNat, none⟩ (.int .i64 (rd y612 (ji7))))) ?hg ?ho ?hn ?hr ?_; (case ho => rfl); (case hg => rfl); (case hn => rfl); (case hr => exact qba7_); intro w16 hw; have hg : w13.grownBy w16 (some go9) := (by rw [hw]; exact HP15.2); have hp_ : Kd.R (Kd.int .i64) 3 w16 w.heap.size (fun _ => True) (.slice (some ⟨go9, 0, none⟩) y612.length co14) y617 := (by rw [hw, Ny617.out]; exact HP15.1); clear HP15; replace HO614 := Aside0.mk (hp_); replace HB := Aside0.mk ((by rw [hw]; exact below_set (HB.out) GB9.out : Below w.heap.size w w16)); clear hg hw hp_; have p10 : 0 ≤ ((ji7) : Int) := of_decide_eq_true qe84_; have q10 : ((ji7) : Int) < ((y612.length : Int) : Int) := of_decide_eq_true qe84_; obtain ⟨hx10_0, hf10_0⟩ := Kd.R_celln 0 HO614.out ((ji7) : Int) p10 q10; replace p10 := eq_true p10; replace q10 := eq_true q10; obtain ⟨hy17_, hz17_⟩ := Kd.R_celln 0 HO614.out ((ji7) : Int) (of_decide_eq_true qe84_) (of_decide_eq_true qe84_); have HP17 := Kd.R_putg HO614.out ((ji7) : Int) (rd y612 a1)) | ((with_reducible refine gate_store (t := 3) (p := 33) rfl ?_); (try (rw [drewN_self w16]; generalize hq_ : World.drewN w16 _ = w16; have n0_ := Aside0.mk (Kd.R_at hq_ HO614.out); have n1_ := Aside0.mk (below_at hq_ HB.out); clear hq_ HO614 HB; have HO614 := n0_; have HB := n1_; clear n0_ n1_; (try (obtain ⟨hy17_, hz17_⟩ := Kd.R_celln 0 HO614.out ((ji7) : Int) (of_decide_eq_true qe84_) (of_decide_eq_true qe84_))); (try (have HP17 := Kd.R_putg HO614.out ((ji7) : Int) (rd y612 a1))))); refine store_event (t := 3) (p := 33) (v := ?vo_w18) (w1 := (w16.setCell ⟨go9, ((ji7) : Int).toNat, none⟩ (.int .i64 (rd y612 a1)))) ?hg ?ho ?hn ?hr ?_; (case ho => rfl); (case hg => rfl); (case hn => rfl); (case hr => exact qba7_); intro w18 hw; have hg : w16.grownBy w18 (some go9) := (by rw [hw]; exact HP17.2); have hp_ : Kd.R (Kd.int .i64) 3 w18 w.heap.size (fun _ => True) (.slice (some ⟨go9, 0, none⟩) y612.length co14) y618 := (by rw [hw, Ny618.out]; exact HP17.1); clear HP17; replace HO614 := Aside0.mk (hp_); replace HB := Aside0.mk ((by rw [hw]; exact below_set (HB.out) GB9.out : Below w.heap.size w w18)); clear hg hw hp_)); try (go_quiet (fail); have zz_ := trivial))
      go_ret
      exact ⟨_, by first | rfl | (simp [errW_none, errW_some] <;> rfl) | (simp only [← hji7]; first | rfl | (simp [errW_none, errW_some] <;> rfl)) | (simp [*, errW_none, errW_some] <;> rfl), q9d5_ HO614.out, q0c4_⟩
     ·
      rw [if_neg c8] at H
      exact absurd H (by simp)
    ·
     rw [if_neg c6] at H
     exact absurd H (by simp)
   ·
    rw [if_neg c5] at H
    exact absurd H (by simp)
  ·
   rw [if_neg c4] at H
   have c4b0 := decide_eq_false c4
   clear c4
   obtain rfl := Option.some.inj H
   go_enter Tryz.func22, Tryz.ntmps22
   have zz_ := trivial
   repeat (clear zz_; go_wp2_with (first | ((with_reducible refine gate_dst (N := 8) rfl ?_); refine Kd.R_lit (Kd.int .i64) _ 3 ?hg (N := 8) ?hd (xs := ([] : List Int)) (inner := []) (ok := fun _ => True) (okp := fun _ => True) ?hr ?hp (fun _ hk => hk) trivial (Below.refl _ _) (Nat.le_refl _) (by simp) ?_; (case hd => rfl); (case hg => rfl); (case hr => exact qba7_); (case hp => exact (Reps.none _ _)); intro v610 w19 ho20 hb hg_ hnew_; clear hg_ hnew_; (first | rw [← Ny609.out] at ho20 | (simp only [Int.reduceToNat] at ho20; rw [← Ny609.out] at ho20)); have HO611 := Aside0.mk (Kd.R_lower ho20 (below_size q0c4_)); replace HB := Aside0.mk (below_step q0c4_ hb); clear hb ho20) | ((with_reducible refine gate_builtin (b := .append) (xs := #[.tmp 8, .tmp 9]) rfl ?_); at_builtin; refine Kd.R_append_rows (Kd.int .i64) (w0 := w) w.heap.size rfl (.tmp 8) (.tmp 9) 24 3 (.int .i64 0) 8 rfl Tryz.underlying24 info3 rfl (by decide) (by omega) v610 y609 l0 _ _ _ (fun _ => True) (fun _ => False) rfl rfl ?aO ?aR (fun _ _ h => h) (fun _ h => h.elim) ?aF ?aB ?aS ?aL ?_; (case aR => exact q02f_ HR0.out); (case aB => exact q0c4_); (case aF => exact (fun _ _ => trivial)); (case aO => exact (q9d5_ HO611.out)); (case aS => exact (below_size q0c4_)); (case aL => have := LMc3.out; omega); intro v613 w21 ho hb hg hat; rw [← Ny612.out] at ho; have n0_ := Aside0.mk (hb); have n1_ := Aside0.mk (ho); replace HB := n0_; have HO614 := n1_; clear n0_ n1_; clear ho hb hg hat; obtain ⟨Ao22, co22, eo22⟩ := Kd.R_slice HO614.out; subst eo22)); try (go_quiet (fail); have zz_ := trivial))
   go_ret
   exact ⟨_, qce7_, q9d5_ HO614.out, q0c4_⟩
 ·
  rw [if_neg c3] at H
  exact absurd H (by simp)

/-! ### laws_numberOf: function 23 -/
def laws_numberOf.l0 : Nat → Int → List Int → Int → Int → Option (Int)
 | 0, _, _, _, _ => none
 | k + 1, x3, x6, x7, x8 => if x8 < x7 then (if 0 ≤ x8 then (if x8 < (x6.length : Int) then (laws_numberOf.l0 k (Int.tmod (wrap64 ((wrap64 (31 * x3)) + (wrap64 (rd x6 x8)))) 1000003) x6 x7 (wrap64 (x8 + 1))) else (none)) else (none)) else (some x3)
def laws_numberOf.f (k : Nat) (l0 : List Int) : Option (Int) := laws_numberOf.l0 k 0 l0 (l0.length : Int) 0
theorem laws_numberOf.mono_l : ∀ k, (∀ y0 y1 y2 y3, LeO (laws_numberOf.l0 k y0 y1 y2 y3) (laws_numberOf.l0 (k + 1) y0 y1 y2 y3))
 | 0 => fun _ _ _ _ r h => by simp [laws_numberOf.l0] at h
 | k + 1 => by
  have ih0 := laws_numberOf.mono_l k
  ·
   intro y0 y1 y2 y3
   unfold laws_numberOf.l0
   repeat' (with_reducible first | exact ih0 _ _ _ _ | exact LeO.refl _ | exact LeO.none _ | refine LeO.ite ?_ ?_ | refine LeO.bind ?_ (fun _ => ?_))
theorem laws_numberOf.mono : ∀ a0 k, LeO (laws_numberOf.f k a0) (laws_numberOf.f (k + 1) a0) := by
 intro a0 k
 have ih0 := laws_numberOf.mono_l k
 unfold laws_numberOf.f
 repeat' (with_reducible first | exact ih0 _ _ _ _ | exact LeO.refl _ | exact LeO.none _ | refine LeO.ite ?_ ?_ | refine LeO.bind ?_ (fun _ => ?_))
theorem laws_numberOf.calls (k : Nat) (A0 : Option Addr) (c0 : Nat) (l0 : List Int) (r : Int) (w : World) (hr0 : Kd.C (Kd.int .u8) w A0 l0.length l0) (hc0 : l0.length ≤ c0) (h : laws_numberOf.f k l0 = some r) :
  Calls Tryz.prog 23 #[.slice A0 l0.length c0] w fun e w' => e = .returned (.int .i64 r) ∧ Drawn0 w w' := by
 have HR0 := Aside0.mk hr0
 have HC0 := Aside0.mk hc0
 clear hr0 hc0
 unfold laws_numberOf.f at h
 have H := h; clear h
 have H' := Aside0.mk H
 clear H
 go_enter Tryz.func23, Tryz.ntmps23
 go_wp2
 go_loopg [3, 8] k (fun kq v3 v8 w' => ∃ (x3_1 : Int) (x8_1 : Int), v3 = .int .i64 x3_1 ∧ v8 = .int .i64 x8_1 ∧ Aside0 (laws_numberOf.l0 kq x3_1 l0 (l0.length : Int) x8_1 = some r) ∧ Aside0 (kq ≤ k) ∧ Drawn0 w w')
 case atStart => exact ⟨(0), (0), qc8f_, qc8f_, H', ⟨Nat.le_refl _⟩, qffa_⟩
 case round =>
  clear H'
  obtain ⟨x3_1, x8_1, rfl, rfl, HA, HK1, ⟨m1, rfl⟩⟩ := hrel
  cases gk with
  | zero => exact absurd HA.out (by simp [laws_numberOf.l0])
  | succ k1 =>
   have H := HA.out
   clear HA
   simp only [laws_numberOf.l0] at H
   by_cases c2 : x8_1 < (l0.length : Int)
   ·
    rw [if_pos c2] at H
    have c2b0 := decide_eq_true c2
    clear c2
    by_cases c3 : 0 ≤ x8_1
    ·
     rw [if_pos c3] at H
     have c3b0 := decide_eq_true c3
     clear c3
     by_cases c4 : x8_1 < (l0.length : Int)
     ·
      rw [if_pos c4] at H
      have c4b0 := decide_eq_true c4
      clear c4
      have H' := Aside0.mk H
      clear H
      have p619 : 0 ≤ (x8_1 : Int) := of_decide_eq_true qe84_
      have q619 : x8_1 < (l0.length : Int) := of_decide_eq_true qe84_
      obtain ⟨ad619, e619, hx619_0⟩ := Kd.at_int HR0.out x8_1 p619 q619
      cases e619
      replace p619 := eq_true p619
      replace q619 := eq_true q619
      go_wp2
      go_roundg k1
      case measure => have := HK1.out; omega
      case rel => exact ⟨(Int.tmod (wrap64 ((wrap64 (31 * x3_1)) + (wrap64 (rd l0 x8_1)))) 1000003), (wrap64 (x8_1 + 1)), qc8f_, qc8f_, H', ⟨q1d0_ HK1.out⟩, qffa_⟩
     ·
      rw [if_neg c4] at H
      exact absurd H (by simp)
    ·
     rw [if_neg c3] at H
     exact absurd H (by simp)
   ·
    rw [if_neg c2] at H
    have c2b0 := decide_eq_false c2
    clear c2
    obtain rfl := Option.some.inj H
    go_wp2
    go_ret
    exact ⟨qc8f_, qffa_⟩

/-! ### impl_LuckyCars: function 25 -/
def impl_LuckyCars.f (k : Nat) (l0 : List Int) (a1 : Int) : Option (List Int × Bool) := (impl_DistancesOf.f k l0 a1).bind fun t => (if t.2 = true then (if t.1.length ≤ 1000 then (some (idxT (fun x => decide (x = 0)) t.1 t.1.length, true)) else none) else (some (([] : List Int), false)))
theorem impl_LuckyCars.mono : ∀ a0 a1 k, LeO (impl_LuckyCars.f k a0 a1) (impl_LuckyCars.f (k + 1) a0 a1) := by
 intro a0 a1 k
 unfold impl_LuckyCars.f
 exact LeO.bind (impl_DistancesOf.mono a0 a1 k) (fun _ => LeO.refl _)
theorem impl_LuckyCars.calls (k : Nat) (A0 : Option Addr) (c0 : Nat) (l0 : List Int) (a1 : Int) (r1 : List Int) (r2 : Bool) (w : World) (hr0 : Kd.C (Kd.int .i64) w A0 l0.length l0) (hc0 : l0.length ≤ c0) (h : impl_LuckyCars.f k l0 a1 = some (r1, r2)) :
  Calls Tryz.prog 25 #[.slice A0 l0.length c0, .int .i64 a1] w fun e w' => ∃ v0_ : Value, e = .returned (.tuple #[v0_, .bool r2]) ∧ Kd.R (Kd.int .i64) 3 w' w.heap.size (fun _ => True) v0_ r1 ∧ Below w.heap.size w w' := by
 have HR0 := Aside0.mk hr0
 have HC0 := Aside0.mk hc0
 clear hr0 hc0
 unfold impl_LuckyCars.f at h
 obtain ⟨⟨t1, t2⟩, h1, h2⟩ := Option.bind_eq_some_iff.mp h
 clear h
 have A1 := Aside0.mk h1
 clear h1
 dsimp only at h2
 cases t2 with
 | false =>
  rw [if_neg (by decide)] at h2
  simp only [Option.some.injEq, Prod.mk.injEq] at h2
  obtain ⟨rfl, rfl⟩ := h2
  go_enter Tryz.func25, Tryz.ntmps25
  go_wp2_with (go_at_call 24; refine (impl_DistancesOf.calls k A0 c0 l0 a1 t1 false _ HR0.out HC0.out A1.out).mono ?_; rintro e w2 ⟨v2, rfl, ho2, hb2⟩; have HB2 := Aside0.mk hb2; clear ho2 hb2)
  go_ret2
  exact ⟨_, rfl, Kd.R_nil _ _ _ _ _, HB2.out⟩
 | true =>
  rw [if_pos rfl] at h2
  split at h2
  case isFalse => cases h2
  case isTrue hl =>
  simp only [Option.some.injEq, Prod.mk.injEq] at h2
  obtain ⟨rfl, rfl⟩ := h2
  have HL := Aside0.mk hl
  clear hl
  go_enter Tryz.func25, Tryz.ntmps25
  go_wp2_with (first | (go_at_call 24; refine (impl_DistancesOf.calls k A0 c0 l0 a1 t1 true _ HR0.out HC0.out A1.out).mono ?_; rintro e w2 ⟨v2, rfl, ho2, hb2⟩; have HO2 := Aside0.mk ho2; have HB2 := Aside0.mk hb2; clear ho2 hb2; obtain ⟨A2, c2, e2⟩ := Kd.R_slice HO2.out; subst e2) | (go_at_call 53; refine (indices_any (fun x => decide (x = 0)) 54 #[] (enters_of Tryz.func54 (by kernel_rfl) rfl) A2 c2 t1 _ (Kd.R_reads' HO2.out).2.2 HL.out lucky_tells).mono ?_; rintro e w3 ⟨v3, rfl, ho3, hb3⟩; have HO3 := Aside0.mk (Kd.R_lower ho3 HB2.out.size); have HB3 := Aside0.mk (below_step HB2.out hb3); clear ho3 hb3))
  go_ret2
  exact ⟨_, rfl, HO3.out, HB3.out⟩

/-! ### impl_GreatestGreatest: function 8 -/
/-- What GreatestGreatest's closure makes of an order and of the greatest number so far. -/
def ggStep.f (k : Nat) (l0 : List Int) (a1 : Int) (order : List Int) (o : Int) : Option Int := (impl_reordered.f k l0 order).bind fun s => (impl_greatest.f k s a1).bind fun g => some (mx o g)
theorem ggStep.mono (k : Nat) (l0 : List Int) (a1 : Int) (order : List Int) (o : Int) : LeO (ggStep.f k l0 a1 order o) (ggStep.f (k + 1) l0 a1 order o) := by
 unfold ggStep.f
 exact LeO.bind (impl_reordered.mono _ _ k) (fun _ => LeO.bind (impl_greatest.mono _ _ k) (fun _ => LeO.refl _))
mutual
def impl_orders.f : Nat → List Int → Int → Int → List Int → Int → Option Int
 | 0, _, _, _, _, _ => none
 | k + 1, l0, a1, n, ls, o => if (ls.length : Int) = n then ggStep.f k l0 a1 ls o else impl_orders.l0 k l0 a1 n ls o 0
def impl_orders.l0 : Nat → List Int → Int → Int → List Int → Int → Int → Option Int
 | 0, _, _, _, _, _, _ => none
 | k + 1, l0, a1, n, ls, o, i => if i < n then ((slices_Contains_int_int.f k ls i).bind fun c => (if c = true then impl_orders.l0 k l0 a1 n ls o (wrap64 (i + 1)) else ((slices_Clone_int_int.f ls).bind fun s => (if s.length < 17592186044416 then ((impl_orders.f k l0 a1 n (s ++ [i]) o).bind fun o2 => impl_orders.l0 k l0 a1 n ls o2 (wrap64 (i + 1))) else none)))) else some o
end
theorem impl_orders.mono_l : ∀ k, (∀ l a n s o, LeO (impl_orders.f k l a n s o) (impl_orders.f (k + 1) l a n s o)) ∧ (∀ l a n s o i, LeO (impl_orders.l0 k l a n s o i) (impl_orders.l0 (k + 1) l a n s o i))
 | 0 => ⟨fun _ _ _ _ _ r h => by simp [impl_orders.f] at h, fun _ _ _ _ _ _ r h => by simp [impl_orders.l0] at h⟩
 | k + 1 => by
  obtain ⟨ih0, ih1⟩ := impl_orders.mono_l k
  refine ⟨?_, ?_⟩
  ·
   intro l a n s o
   unfold impl_orders.f
   exact LeO.ite (ggStep.mono _ _ _ _ _) (ih1 _ _ _ _ _ _)
  ·
   intro l a n s o i
   unfold impl_orders.l0
   exact LeO.ite (LeO.bind (slices_Contains_int_int.mono _ _ k) (fun _ => LeO.ite (ih1 _ _ _ _ _ _) (LeO.bind (LeO.refl _) (fun _ => LeO.ite (LeO.bind (ih0 _ _ _ _ _) (fun _ => ih1 _ _ _ _ _ _)) (LeO.refl _))))) (LeO.refl _)
def impl_GreatestGreatest.f (k : Nat) (l0 : List Int) (a1 : Int) : Option (Int × Bool) := (impl_doPark.f k l0 a1).bind fun t => (if t = true then (if (l0.length : Int) > 6 then (some (0, false)) else ((impl_orders.f k l0 a1 (l0.length : Int) [] 0).bind fun o => (some (o, true)))) else (some (0, false)))
theorem impl_GreatestGreatest.mono : ∀ a0 a1 k, LeO (impl_GreatestGreatest.f k a0 a1) (impl_GreatestGreatest.f (k + 1) a0 a1) := by
 intro a0 a1 k
 unfold impl_GreatestGreatest.f
 exact LeO.bind (impl_doPark.mono a0 a1 k) (fun _ => LeO.ite (LeO.ite (LeO.refl _) (LeO.bind ((impl_orders.mono_l k).1 _ _ _ _ _) (fun _ => LeO.refl _))) (LeO.refl _))
def ggStep.T : Bool × List (List Nat × List Nat) := (true, [([], []), ([], []), ([], []), ([1, 2], [1, 2]), ([], []), ([3, 4, 3], [3, 4]), ([0, 5], [0, 5]), ([6, 5, 0, 1, 2, 3, 4, 5, 6], [6])])
def ggStep.B : List Nat := [0, 0, 0, 6, 0, 30, 63, 127]
theorem ggStep.tab : rtab .any (opsOf Tryz.f37 0) = ggStep.T := by kernel_rfl
theorem ggStep.bits : waitsOk ggStep.T.2 ggStep.B = true := by kernel_rfl
theorem ggStep.calls (k : Nat) (w0 : World) (go gl gp : Nat) (A0 : Option Addr) (c0 : Nat) (l0 : List Int) (a1 : Int) (A1 : Option Addr) (c1 : Nat) (ls : List Int) (o r : Int) (w : World) (hB : Below w0.heap.size w0 w) (hgo : w0.heap.size ≤ go) (hgl : gl ≠ go) (hgp : gp ≠ go)
  (h1 : w.heap[go]? = some (.cells #[.int .i64 o] 3 (0, 0))) (h2 : w.heap[gl]? = some (.cells #[.slice A0 l0.length c0] 24 (0, 0))) (h3 : w.heap[gp]? = some (.cells #[.int .i64 a1] 3 (0, 0)))
  (hr0 : Kd.C (Kd.int .i64) w A0 l0.length l0) (hc0 : l0.length ≤ c0) (hr1 : Kd.C (Kd.int .i64) w A1 ls.length ls) (hc1 : ls.length ≤ c1) (h : ggStep.f k l0 a1 ls o = some r) :
  Calls Tryz.prog 37 #[.slice A1 ls.length c1, .pointer (some ⟨go, 0, none⟩), .pointer (some ⟨gl, 0, none⟩), .pointer (some ⟨gp, 0, none⟩)] w fun e w' =>
   e = .returned (.tuple #[]) ∧ w'.heap[go]? = some (.cells #[.int .i64 r] 3 (0, 0)) ∧ KeepBut w w' go none ∧ Below w0.heap.size w0 w' := by
 unfold ggStep.f at h
 obtain ⟨s, hs, h⟩ := Option.bind_eq_some_iff.mp h
 obtain ⟨g, hg, h⟩ := Option.bind_eq_some_iff.mp h
 obtain rfl := Option.some.inj h
 clear h
 have A2 := Aside0.mk hs
 have A3 := Aside0.mk hg
 have HB := Aside0.mk hB
 have HR0 := Aside0.mk hr0
 have HR1 := Aside0.mk hr1
 have HC0 := Aside0.mk hc0
 have HC1 := Aside0.mk hc1
 have H1 := Aside0.mk h1
 have H2 := Aside0.mk h2
 have H3 := Aside0.mk h3
 have HG := Aside0.mk hgo
 have c1_ : w.cell? ⟨go, 0, none⟩ = some (.int .i64 o) := (blk_cell h1 0).trans rfl
 have c2_ : w.cell? ⟨gl, 0, none⟩ = some (.slice A0 l0.length c0) := (blk_cell h2 0).trans rfl
 have c3_ : w.cell? ⟨gp, 0, none⟩ = some (.int .i64 a1) := (blk_cell h3 0).trans rfl
 have f1_ : w.frozen? ⟨go, 0, none⟩ = false := blk_frozen h1 0
 clear hs hg hB hr0 hr1 hc0 hc1 h1 h2 h3 hgo
 go_enter Tryz.func37, Tryz.ntmps37
 refine start_ (n := 8) (S := fun w' => w'.cell? ⟨go, 0, none⟩ = some (.int .i64 o) ∧ w'.cell? ⟨gl, 0, none⟩ = some (.slice A0 l0.length c0) ∧ w'.cell? ⟨gp, 0, none⟩ = some (.int .i64 a1)) (ds := [7]) #[false, false, false, false, false, false, false, false] (by kernel_rfl) rfl rfl ⟨(blk_cell H1.out 0).trans rfl, (blk_cell H2.out 0).trans rfl, (blk_cell H3.out 0).trans rfl⟩ (fun hHeld => ?_)
 refine with_tabW ggStep.tab ggStep.bits (fun HT_ HW_ => ?_)
 refine pure_ (i := 2) (N := some 7) (v := ?_) (a' := ?_) #[false, false, true, false, false, false, false, false] rfl rfl (any_of HT_.out (by kernel_rfl)) (fun _ _ _ h => h) (Or.inl ⟨by rfl, ?_⟩) ?_ ?_
 rotate_left
 ·
  intro w'
  go_simp
  with_reducible rfl
 rotate_left
 ·
  simp only [Act.put, List.setIfInBounds_toArray, List.set_cons_zero, List.set_cons_succ, i64_w, i32_w]
  rfl
 refine take_ (i := 0) (N := some 5) (v := ?_) (a' := ?_) #[true, false, true, false, false, false, false, false] rfl rfl (take_ofW HT_.out HW_.out (by kernel_rfl)) (fun _ _ _ h => h) (Or.inl ⟨by rfl, ?_⟩) hHeld ?_ ?_
 rotate_left
 ·
  rintro w' ⟨s0, s1, s2⟩
  go_simp
  with_reducible rfl
 rotate_left
 ·
  simp only [Act.put, List.setIfInBounds_toArray, List.set_cons_zero, List.set_cons_succ, i64_w, i32_w]
  rfl
 refine take_ (i := 1) (N := some 6) (v := ?_) (a' := ?_) #[true, true, true, false, false, false, false, false] rfl rfl (take_ofW HT_.out HW_.out (by kernel_rfl)) (fun _ _ _ h => h) (Or.inl ⟨by rfl, ?_⟩) hHeld ?_ ?_
 rotate_left
 ·
  rintro w' ⟨s0, s1, s2⟩
  go_simp
  with_reducible rfl
 rotate_left
 ·
  simp only [Act.put, List.setIfInBounds_toArray, List.set_cons_zero, List.set_cons_succ, i64_w, i32_w]
  rfl
 refine take_ (i := 4) (N := some 9) (v := ?_) (a' := ?_) #[true, true, true, false, true, false, false, false] rfl rfl (take_ofW HT_.out HW_.out (by kernel_rfl)) (fun _ _ _ h => h) (Or.inl ⟨by rfl, ?_⟩) hHeld ?_ ?_
 rotate_left
 ·
  rintro w' ⟨s0, s1, s2⟩
  go_simp
  with_reducible rfl
 rotate_left
 ·
  simp only [Act.put, List.setIfInBounds_toArray, List.set_cons_zero, List.set_cons_succ, i64_w, i32_w]
  rfl
 refine one_ (i := 3) (N := some 8) #[true, true, true, true, true, false, false, false] rfl rfl (one_of HT_.out (by kernel_rfl)) (by decide) (fun K hK => ?_)
 refine goes_ Tryz.func29 (by kernel_rfl) rfl #[.slice A0 l0.length c0, .slice A1 ls.length c1] (by rfl) rfl rfl (by (try simp only [List.map_toArray, List.map_cons, List.map_nil]); first | done | rfl) ?_
 refine (impl_reordered.calls k A0 c0 l0 A1 c1 ls s _ (Kd.C_drew HR0.out) HC0.out (Kd.C_drew HR1.out) HC1.out A2.out).mono ?_
 rintro e w4 ⟨v4, rfl, ho4, hb4⟩
 refine ⟨_, rfl, ?_⟩
 obtain ⟨A4, c4, hv4⟩ := Kd.R_slice ho4
 subst hv4
 have HO4 := Aside0.mk ho4
 have HB4 := Aside0.mk hb4
 have H14 := Aside0.mk (blk_below (blk_drew H1.out) hb4)
 have H24 := Aside0.mk (blk_below (blk_drew H2.out) hb4)
 have H34 := Aside0.mk (blk_below (blk_drew H3.out) hb4)
 clear ho4 hb4
 refine hK.out _ _ ⟨(blk_cell H14.out 0).trans rfl, (blk_cell H24.out 0).trans rfl, (blk_cell H34.out 0).trans rfl⟩ (fun hHeld => ?_)
 clear hK K
 refine norm_ (a' := ?_) ?_ ?_
 rotate_left
 ·
  show Act.put _ (some 8) _ = _
  simp only [Act.put, List.setIfInBounds_toArray, List.set_cons_zero, List.set_cons_succ, i64_w, i32_w]
  rfl
 refine one_ (i := 5) (N := some 10) #[true, true, true, true, true, true, false, false] rfl rfl (one_of HT_.out (by kernel_rfl)) (by decide) (fun K hK => ?_)
 refine goes_ Tryz.func28 (by kernel_rfl) rfl #[.slice A4 s.length c4, .int .i64 a1] (by rfl) rfl rfl (by (try simp only [List.map_toArray, List.map_cons, List.map_nil]); first | done | rfl) ?_
 refine (impl_greatest.calls k A4 c4 s a1 g _ (Kd.R_reads' HO4.out).2.2 (Kd.R_reads' HO4.out).2.1 A3.out).mono ?_
 rintro e w5 ⟨rfl, hb5⟩
 refine ⟨_, rfl, ?_⟩
 have HB5 := Aside0.mk hb5
 have H15 := Aside0.mk (blk_below H14.out hb5)
 have H25 := Aside0.mk (blk_below H24.out hb5)
 have H35 := Aside0.mk (blk_below H34.out hb5)
 clear hb5
 refine hK.out _ _ ⟨(blk_cell H15.out 0).trans rfl, (blk_cell H25.out 0).trans rfl, (blk_cell H35.out 0).trans rfl⟩ (fun hHeld => ?_)
 clear hK K
 refine norm_ (a' := ?_) ?_ ?_
 rotate_left
 ·
  show Act.put _ (some 10) _ = _
  simp only [Act.put, List.setIfInBounds_toArray, List.set_cons_zero, List.set_cons_succ, i64_w, i32_w]
  rfl
 refine pure_ (i := 6) (N := some 11) (v := ?_) (a' := ?_) #[true, true, true, true, true, true, true, false] rfl rfl (any_of HT_.out (by kernel_rfl)) (fun _ _ _ h => h) (Or.inl ⟨by rfl, ?_⟩) ?_ ?_
 rotate_left
 ·
  intro w'
  go_simp
  with_reducible rfl
 rotate_left
 ·
  simp only [Act.put, List.setIfInBounds_toArray, List.set_cons_zero, List.set_cons_succ, i64_w, i32_w]
  rfl
 have hx_ : w5.cell? ⟨go, 0, none⟩ = some (.int .i64 o) := (blk_cell H15.out 0).trans rfl
 have hf_ : w5.frozen? ⟨go, 0, none⟩ = false := blk_frozen H15.out 0
 refine last_ (i := 7) (N := none) #[true, true, true, true, true, true, true, true] rfl rfl (one_of HT_.out (by kernel_rfl)) (by decide) (fun K hK => ?_)
 refine skip_ (w1 := ?_) (by rfl) rfl ?_ ?_
 rotate_left
 ·
  go_simp
  rfl
 refine hK.out _ _ ?_
 clear hK K
 refine done_ (done_of HT_.out (by kernel_rfl)) ?_
 go_end0
 refine ⟨rfl, ?_, ?_, ?_⟩
 · exact blk_put H15.out 0 _ rfl
 · exact KeepBut.set_ (KeepBut.trans (row1 := none) (KeepBut.of_below (show Below w.heap.size w w.drew from below_drew (Below.refl _ _)) go none) (KeepBut.trans (row1 := none) (KeepBut.of_below HB4.out go none) (KeepBut.of_below HB5.out go none) (.inl rfl)) (.inl rfl)) 0 _
 · exact below_set (below_step (below_step (below_drew HB.out) HB4.out) HB5.out) HG.out
theorem impl_orders.calls (k : Nat) : ∀ (w0 : World) (go gl gp : Nat) (A0 : Option Addr) (c0 : Nat) (l0 : List Int) (a1 n : Int) (v : Value) (ls : List Int) (o r : Int) (w : World) (hB : Below w0.heap.size w0 w) (hgo : w0.heap.size ≤ go) (hgl : gl ≠ go) (hgp : gp ≠ go)
  (h1 : w.heap[go]? = some (.cells #[.int .i64 o] 3 (0, 0))) (h2 : w.heap[gl]? = some (.cells #[.slice A0 l0.length c0] 24 (0, 0))) (h3 : w.heap[gp]? = some (.cells #[.int .i64 a1] 3 (0, 0)))
  (hr0 : Kd.C (Kd.int .i64) w0 A0 l0.length l0) (hc0 : l0.length ≤ c0) (ho : Kd.R (Kd.int .i64) 3 w w0.heap.size (fun k_ => k_ ≠ go) v ls) (h : impl_orders.f k l0 a1 n ls o = some r),
  Calls Tryz.prog 36 #[.int .i64 n, v, .func (.func 37) #[] #[.pointer (some ⟨go, 0, none⟩), .pointer (some ⟨gl, 0, none⟩), .pointer (some ⟨gp, 0, none⟩)]] w fun e w' =>
   e = .returned (.tuple #[]) ∧ w'.heap[go]? = some (.cells #[.int .i64 r] 3 (0, 0)) ∧ KeepBut w w' go none ∧ Below w0.heap.size w0 w' := by
 induction k using Nat.strongRecOn with
 | _ k ih =>
 intro w0 go gl gp A0 c0 l0 a1 n v ls o r w hB hgo hgl hgp h1 h2 h3 hr0 hc0 ho h
 cases k with
 | zero => exact absurd h (by simp [impl_orders.f])
 | succ k =>
 have IH := Aside0.mk ih
 clear ih
 simp only [impl_orders.f] at h
 obtain ⟨Av, cv, hv⟩ := Kd.R_slice ho
 subst hv
 have HR0 := Aside0.mk hr0
 have HC0 := Aside0.mk hc0
 have HO := Aside0.mk ho
 have HB := Aside0.mk hB
 have HG := Aside0.mk hgo
 have HN := Aside0.mk (And.intro hgl hgp)
 have H1 := Aside0.mk h1
 have H2 := Aside0.mk h2
 have H3 := Aside0.mk h3
 clear hr0 hc0 ho hB hgo hgl hgp h1 h2 h3
 by_cases hc : (ls.length : Int) = n
 ·
  rw [if_pos hc] at h
  have A1 := Aside0.mk h
  have q1 : ((ls.length : Int) == n) = true := beq_iff_eq.2 hc
  clear hc h
  go_enter Tryz.func36, Tryz.ntmps36
  go_wp2_with (go_at_call 37; refine (ggStep.calls k w0 go gl gp A0 c0 l0 a1 Av cv ls o r w HB.out HG.out HN.out.1 HN.out.2 H1.out H2.out H3.out (Kd.C_below HR0.out HB.out) HC0.out (Kd.R_reads' HO.out).2.2 (Kd.R_reads' HO.out).2.1 A1.out).mono ?_; rintro e w' ⟨rfl, p1, p2, p3⟩)
  exact bodyPost_ret (v := .tuple #[]) (by simp [results, Tryz.results36, go_sem]) rfl ⟨rfl, p1, p2, p3⟩
 ·
  rw [if_neg hc] at h
  have H' := Aside0.mk h
  have q1 : ((ls.length : Int) == n) = false := beq_eq_false_iff_ne.2 hc
  clear hc h
  have HK := Aside0.mk (KeepBut.refl w go none)
  go_enter Tryz.func36, Tryz.ntmps36
  go_wp2
  go_loopg [15] k (fun kq v15 w' => ∃ (o1 i : Int), v15 = .int .i64 i ∧ Aside0 (impl_orders.l0 kq l0 a1 n ls o1 i = some r) ∧ Aside0 (kq ≤ k) ∧ Aside0 (w'.heap[go]? = some (.cells #[.int .i64 o1] 3 (0, 0))) ∧ Aside0 (KeepBut w w' go none) ∧ Aside0 (Below w0.heap.size w0 w'))
  case atStart => exact ⟨o, 0, rfl, H', ⟨Nat.le_refl _⟩, H1, HK, HB⟩
  case round =>
   clear H' HK HB H1
   obtain ⟨o1, i, rfl, HA, HK1, H1, HK, HB⟩ := hrel
   cases gk with
   | zero => exact absurd HA.out (by simp [impl_orders.l0])
   | succ k1 =>
    have H := HA.out
    clear HA
    simp only [impl_orders.l0] at H
    by_cases c3 : i < n
    ·
     rw [if_pos c3] at H
     have c3b0 := decide_eq_true c3
     clear c3
     obtain ⟨c, hcn, H⟩ := Option.bind_eq_some_iff.mp H
     have AC := Aside0.mk hcn
     clear hcn
     have HOr := Aside0.mk (Kd.R_keep HO.out HK.out (fun _ hk => hk))
     cases c with
     | true =>
      rw [if_pos rfl] at H
      have H' := Aside0.mk H
      clear H
      go_wp2_with (go_at_call 64; refine (slices_Contains_int_int.calls k1 Av cv ls i true wr (Kd.R_reads' HOr.out).2.2 (Kd.R_reads' HOr.out).2.1 AC.out).mono ?_; rintro e w' ⟨rfl, ⟨nd, rfl⟩⟩)
      go_roundg k1
      case measure => have := HK1.out; omega
      case rel => exact ⟨o1, wrap64 (i + 1), (by first | rfl | (simp; done)), H', ⟨q1d0_ HK1.out⟩, H1, ⟨KeepBut.trans (row1 := none) HK.out (KeepBut.of_below (pw_below_drewN (Below.refl _ _) nd) go none) (.inl rfl)⟩, ⟨pw_below_drewN HB.out _⟩⟩
     | false =>
      rw [if_neg (by decide)] at H
      obtain ⟨s, hs, H⟩ := Option.bind_eq_some_iff.mp H
      have hsl : s = ls := by
       unfold slices_Clone_int_int.f at hs
       split at hs
       · exact (Option.some.inj hs).symm
       · cases hs
      subst hsl
      have AS := Aside0.mk hs
      clear hs
      by_cases c4 : s.length < 17592186044416
      ·
       rw [if_pos c4] at H
       have LM := Aside0.mk c4
       clear c4
       obtain ⟨o2, ho2, H⟩ := Option.bind_eq_some_iff.mp H
       have AO := Aside0.mk ho2
       have H' := Aside0.mk H
       clear H ho2
       have LG := Aside0.mk (blk_lt H1.out)
       go_wp2_with (first | (go_at_call 64; refine (slices_Contains_int_int.calls k1 Av cv s i false wr (Kd.R_reads' HOr.out).2.2 (Kd.R_reads' HOr.out).2.1 AC.out).mono ?_; rintro e w' ⟨rfl, ⟨nd, rfl⟩⟩) | (go_at_call 65; refine (slices_Clone_int_int.calls Av cv s s _ (Kd.R_reads' (Kd.R_drewN HOr.out nd)).2.2 (Kd.R_reads' HOr.out).2.1 AS.out).mono ?_; rintro e w5 ⟨v5, rfl, ho5, hb5⟩; have HO5 := Aside0.mk ho5; have HB5 := Aside0.mk hb5; clear ho5 hb5) | ((with_reducible refine gate_builtin (b := .append) (xs := #[.tmp 24, .tmp 26]) rfl ?_); at_builtin; refine Kd.R_append (Kd.int .i64) (w0 := wr.drewN nd) (wr.drewN nd).heap.size rfl (.tmp 24) (.tmp 26) 24 3 (.int .i64 0) 8 rfl Tryz.underlying24 info_int rfl (by decide) (by omega) v5 s i [.int .i64 i] (fun _ => True) (fun _ => False) rfl rfl ?aP (fun _ hk => hk.elim) ?aF ?aO ?aB ?aS ?aL ?_; (case aP => exact rfl); (case aB => exact (by repeat (first | (with_reducible first | exact HB5.out | apply below_alloc | apply pw_below_drewN | apply below_drew1) | exact HB5.out))); (case aF => exact (fun _ _ => trivial)); (case aO => exact (q9d5_ HO5.out)); (case aS => exact (below_size (by repeat (first | (with_reducible first | exact HB5.out | apply below_alloc | apply pw_below_drewN | apply below_drew1) | exact HB5.out)))); (case aL => have := LM.out; omega); intro v6 w8 ho hb hg hat; have HB8 := Aside0.mk hb; have HO8 := Aside0.mk ho; clear ho hb hg hat) | (go_at_call 36; refine (IH.out k1 (q1d0_ HK1.out) w0 go gl gp A0 c0 l0 a1 n v6 (s ++ [i]) o1 o2 w8 (below_step (pw_below_drewN HB.out nd) HB8.out) HG.out HN.out.1 HN.out.2 (blk_below (blk_drewN H1.out nd) HB8.out) (blk_below (blk_drewN (HK.out.blk H2.out HN.out.1 (by simp)) nd) HB8.out) (blk_below (blk_drewN (HK.out.blk H3.out HN.out.2 (by simp)) nd) HB8.out) HR0.out HC0.out (Kd.R_mono (Kd.R_lower (Kd.R_bound HO8.out) HB.out.size) (fun k_ hk_ => by have h2_ : wr.heap.size ≤ k_ := hk_.2.1; have := LG.out; omega)) AO.out).mono ?_; rintro e w9 ⟨rfl, p1, p2, p3⟩; have n1_ := Aside0.mk p1; have n2_ := Aside0.mk (KeepBut.trans (row1 := none) HK.out (KeepBut.trans (row1 := none) (KeepBut.of_below (pw_below_drewN (Below.refl wr.heap.size wr) nd) go none) (KeepBut.trans (row1 := none) (KeepBut.of_below HB8.out go none) p2 (.inl rfl)) (.inl rfl)) (.inl rfl)); have n3_ := Aside0.mk p3; clear p1 p2 p3 H1 HK HB; have H1 := n1_; have HK := n2_; have HB := n3_; clear n1_ n2_ n3_))
       go_roundg k1
       case measure => have := HK1.out; omega
       case rel => exact ⟨o2, wrap64 (i + 1), (by first | rfl | (simp; done)), H', ⟨q1d0_ HK1.out⟩, H1, HK, HB⟩
      ·
       rw [if_neg c4] at H
       exact absurd H (by simp)
    ·
     rw [if_neg c3] at H
     have c3b0 := decide_eq_false c3
     clear c3
     obtain rfl := Option.some.inj H
     go_wp2
     go_end0
     exact ⟨rfl, H1.out, HK.out, HB.out⟩
theorem impl_GreatestGreatest.calls (k : Nat) (A0 : Option Addr) (c0 : Nat) (l0 : List Int) (a1 : Int) (r1 : Int) (r2 : Bool) (w : World) (hr0 : Kd.C (Kd.int .i64) w A0 l0.length l0) (hc0 : l0.length ≤ c0) (h : impl_GreatestGreatest.f k l0 a1 = some (r1, r2)) :
  Calls Tryz.prog 8 #[.slice A0 l0.length c0, .int .i64 a1] w fun e w' => e = .returned (.tuple #[.int .i64 r1, .bool r2]) ∧ Below w.heap.size w w' := by
 have HR0 := Aside0.mk hr0
 have HC0 := Aside0.mk hc0
 have HBa := Aside0.mk (show Below w.heap.size w ((w.alloc (.cells #[.slice A0 l0.length c0] 24)).alloc (.cells #[.int .i64 a1] 3)) from below_alloc (below_alloc (Below.refl _ _) _) _)
 have HXa := Aside0.mk (show ((w.alloc (.cells #[.slice A0 l0.length c0] 24)).alloc (.cells #[.int .i64 a1] 3)).heap[w.heap.size]? = some (.cells #[.slice A0 l0.length c0] 24 (0, 0)) from blk_alloc (blk_new w _) _)
 have HXb := Aside0.mk (show ((w.alloc (.cells #[.slice A0 l0.length c0] 24)).alloc (.cells #[.int .i64 a1] 3)).heap[w.heap.size + 1]? = some (.cells #[.int .i64 a1] 3 (0, 0)) by
  have h1 := blk_new (w.alloc (.cells #[.slice A0 l0.length c0] 24)) (.cells #[.int .i64 a1] 3)
  rw [show (w.alloc (.cells #[.slice A0 l0.length c0] 24)).heap.size = w.heap.size + 1 by simp] at h1
  exact h1)
 clear hr0 hc0
 unfold impl_GreatestGreatest.f at h
 obtain ⟨t, h1, h2⟩ := Option.bind_eq_some_iff.mp h
 clear h
 have A1 := Aside0.mk h1
 clear h1
 cases t with
 | false =>
  rw [if_neg (by decide)] at h2
  simp only [Option.some.injEq, Prod.mk.injEq] at h2
  obtain ⟨rfl, rfl⟩ := h2
  go_enter Tryz.func8, Tryz.ntmps8
  go_wp2_with (go_at_call 27; refine (impl_doPark.calls k A0 c0 l0 a1 false _ (Kd.C_alloc (Kd.C_alloc HR0.out _) _) HC0.out A1.out).mono ?_; rintro e w4 ⟨rfl, hb⟩)
  go_ret2
  exact ⟨rfl, below_step HBa.out hb⟩
 | true =>
  rw [if_pos rfl] at h2
  by_cases h6 : (l0.length : Int) > 6
  ·
   rw [if_pos h6] at h2
   simp only [Option.some.injEq, Prod.mk.injEq] at h2
   obtain ⟨rfl, rfl⟩ := h2
   have q6 : decide ((6 : Int) < (l0.length : Int)) = true := decide_eq_true h6
   clear h6
   go_enter Tryz.func8, Tryz.ntmps8
   go_wp2_with (go_at_call 27; refine (impl_doPark.calls k A0 c0 l0 a1 true _ (Kd.C_alloc (Kd.C_alloc HR0.out _) _) HC0.out A1.out).mono ?_; rintro e w4 ⟨rfl, hb⟩; have hcz : w4.cell? ⟨w.heap.size, 0, none⟩ = some (.slice A0 l0.length c0) := (blk_cell (blk_below HXa.out hb) 0).trans rfl)
   go_ret2
   exact ⟨rfl, below_step HBa.out hb⟩
  ·
   rw [if_neg h6] at h2
   obtain ⟨o, h3, h4⟩ := Option.bind_eq_some_iff.mp h2
   simp only [Option.some.injEq, Prod.mk.injEq] at h4
   obtain ⟨rfl, rfl⟩ := h4
   have A2 := Aside0.mk h3
   have q6 : decide ((6 : Int) < (l0.length : Int)) = false := decide_eq_false (by omega)
   clear h6 h2 h3
   go_enter Tryz.func8, Tryz.ntmps8
   go_wp2_with (first | (go_at_call 27; refine (impl_doPark.calls k A0 c0 l0 a1 true _ (Kd.C_alloc (Kd.C_alloc HR0.out _) _) HC0.out A1.out).mono ?_; rintro e w4 ⟨rfl, hb⟩; have hcz : w4.cell? ⟨w.heap.size, 0, none⟩ = some (.slice A0 l0.length c0) := (blk_cell (blk_below HXa.out hb) 0).trans rfl; have HB4 := Aside0.mk (below_step HBa.out hb); have H24 := Aside0.mk (blk_below HXa.out hb); have H34 := Aside0.mk (blk_below HXb.out hb); have hcz2 : ∀ o_ : Obj, (w4.alloc o_).cell? ⟨w.heap.size, 0, none⟩ = some (.slice A0 l0.length c0) := (fun o_ => (blk_cell (blk_alloc H24.out o_) 0).trans rfl); clear hb) | (go_at_call 36; refine (impl_orders.calls k w w4.heap.size w.heap.size (w.heap.size + 1) A0 c0 l0 a1 (l0.length : Int) (.slice none 0 0) [] 0 o (w4.alloc (.cells #[.int .i64 0] 3)) (below_alloc HB4.out _) HB4.out.size (by have := blk_lt H24.out; omega) (by have := blk_lt H34.out; omega) (blk_new w4 _) (blk_alloc H24.out _) (blk_alloc H34.out _) HR0.out HC0.out (Kd.R_nil _ _ _ _ _) A2.out).mono ?_; rintro e w6 ⟨rfl, p1, p2, p3⟩; have hcr : w6.cell? ⟨w4.heap.size, 0, none⟩ = some (.int .i64 o) := (blk_cell p1 0).trans rfl))
   go_ret2
   exact ⟨rfl, p3⟩

end Go.Proofs.YtflgalpfbjhdlaaGreat.PAll
