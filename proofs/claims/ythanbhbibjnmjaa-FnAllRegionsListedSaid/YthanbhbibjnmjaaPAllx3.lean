-- written by a program of this session (wip/gen/xpatch.py over the translation); Lean checks it
import Derived.Test.YthanbhbibjnmjaaPAllx0
import Derived.Test.YthanbhbibjnmjaaPAllx2
namespace Go.Proofs.Ythanbhbibjnmjaa.PAll
open Go.RowKit Go.Proofs.Ythanbhbibjnmjaa.Hand Go.Proofs.YthanbhbibjnmjaaW.PrintWords Go.Proofs.YthanbhbibjnmjaaW.PrintLast Go.Proofs.YthanbhbibjnmjaaW.PrintMore
attribute [local go_sem] max2_int min2_int max_two min_two max_three min_three max_four min_four   -- for this text's walks alone
set_option maxHeartbeats 8000000
set_option maxRecDepth 100000
set_option linter.unusedVariables false
set_option linter.unusedSimpArgs false

/-! ### spec_l1Own: function 35 -/
def spec_l1Own.f (l0 : List Int) : Option (List Int) := (some (([] : List Int) : List Int)).bind fun y228 => (if y228.length + l0.length < 17592186044416 then (some (y228 ++ l0)) else (none))
theorem spec_l1Own.calls (A0 : Option Addr) (c0 : Nat) (l0 : List Int) (r : List Int) (w : World) (hr0 : Kd.C (Kd.int .i64) w A0 l0.length l0) (hc0 : l0.length ≤ c0) (h : spec_l1Own.f l0 = some r) :
  Calls Try.prog 35 #[.slice A0 l0.length c0] w fun e w' => ∃ v0_ : Value, e = .returned (v0_) ∧ Kd.R (Kd.int .i64) 3 w' w.heap.size (fun _ => True) v0_ r ∧ Below w.heap.size w w' := by
 have HR0 := Aside0.mk hr0
 have HC0 := Aside0.mk hc0
 clear hr0 hc0
 have HB := Aside0.mk (Below.refl w.heap.size w)
 unfold spec_l1Own.f at h
 have H := h; clear h
 obtain ⟨y228, hy228⟩ : ∃ y_ : List Int, y_ = (([] : List Int)) := ⟨_, rfl⟩
 replace H : (if y228.length + l0.length < 17592186044416 then (some (y228 ++ l0)) else (none)) = some r := by first | (rw [hy228]; with_reducible exact H) | (have H2_ := (Option.bind_some _ _).symm.trans H; rw [hy228]; with_reducible exact H2_) | (have H2_ := (Option.bind_some _ _).symm.trans H; with_reducible exact H2_) | with_reducible exact H | (rw [hy228]; exact H) | exact H
 have Ny228 := Aside0.mk hy228
 clear hy228
 by_cases c2 : y228.length + l0.length < 17592186044416
 ·
  rw [if_pos c2] at H
  have LMc2 := Aside0.mk c2
  clear c2
  obtain ⟨y231, hy231⟩ : ∃ y_ : List Int, y_ = (y228 ++ l0) := ⟨_, rfl⟩
  replace H : (some y231) = some r := by first | (rw [hy231]; with_reducible exact H) | (have H2_ := (Option.bind_some _ _).symm.trans H; rw [hy231]; with_reducible exact H2_) | (have H2_ := (Option.bind_some _ _).symm.trans H; with_reducible exact H2_) | with_reducible exact H | (rw [hy231]; exact H) | exact H
  have Ny231 := Aside0.mk hy231
  clear hy231
  obtain rfl := Option.some.inj H
  go_enter Try.func35, Try.ntmps35
  go_wp2_with (first | ((with_reducible refine gate_dst (N := 3) rfl ?_); refine Kd.R_lit (Kd.int .i64) _ 3 ?hg (N := 3) ?hd (xs := ([] : List Int)) (inner := []) (ok := fun _ => True) (okp := fun _ => True) ?hr ?hp (fun _ hk => hk) trivial (Below.refl _ _) (Nat.le_refl _) (by simp) ?_; (case hd => rfl); (case hg => rfl); (case hr => exact qba7_); (case hp => exact (Reps.none _ _)); intro v229 w3 ho4 hb hg_ hnew_; clear hg_ hnew_; (first | rw [← Ny228.out] at ho4 | (simp only [Int.reduceToNat] at ho4; rw [← Ny228.out] at ho4)); have HO230 := Aside0.mk (Kd.R_lower ho4 (below_size q0c4_)); replace HB := Aside0.mk (below_step q0c4_ hb); clear hb ho4) | ((with_reducible refine gate_builtin (b := .append) (xs := #[.tmp 3, .tmp 4]) rfl ?_); at_builtin; refine Kd.R_append_rows (Kd.int .i64) (w0 := w) w.heap.size rfl (.tmp 3) (.tmp 4) 31 3 (.int .i64 0) 8 rfl Try.underlying31 info3 rfl (by decide) (by omega) v229 y228 l0 _ _ _ (fun _ => True) (fun _ => False) rfl rfl ?aO ?aR (fun _ _ h => h) (fun _ h => h.elim) ?aF ?aB ?aS ?aL ?_; (case aR => exact qe02_ HR0.out); (case aB => exact q0c4_); (case aF => exact (fun _ _ => trivial)); (case aO => exact (q9d5_ HO230.out)); (case aS => exact (below_size q0c4_)); (case aL => have := LMc2.out; omega); intro v232 w5 ho hb hg hat; rw [← Ny231.out] at ho; have n0_ := Aside0.mk (hb); have n1_ := Aside0.mk (ho); replace HB := n0_; have HO233 := n1_; clear n0_ n1_; clear ho hb hg hat))
  go_ret
  exact ⟨_, qce7_, q9d5_ HO233.out, q0c4_⟩
 ·
  rw [if_neg c2] at H
  exact absurd H (by simp)

/-! ### spec_l1All: function 52 -/
def spec_l1All.l0 : Nat → Int → Int → List Int → Int → Int → Option (Bool)
 | 0, _, _, _, _, _ => none
 | k + 1, x1, x2, x9, x10, x11 => if x11 < x10 then (if 0 ≤ x11 then (if x11 < (x9.length : Int) then ((spec_l1In.f (rd x9 x11) x1 x2).bind fun t235 => (if t235 = true then (spec_l1All.l0 k x1 x2 x9 x10 (wrap64 (x11 + 1))) else (some false))) else (none)) else (none)) else (some true)
def spec_l1All.f (k : Nat) (l0 : List Int) (a1 : Int) (a2 : Int) : Option (Bool) := spec_l1All.l0 k a1 a2 l0 (l0.length : Int) 0
theorem spec_l1All.mono_l : ∀ k, (∀ y0 y1 y2 y3 y4, LeO (spec_l1All.l0 k y0 y1 y2 y3 y4) (spec_l1All.l0 (k + 1) y0 y1 y2 y3 y4))
 | 0 => fun _ _ _ _ _ r h => by simp [spec_l1All.l0] at h
 | k + 1 => by
  have ih0 := spec_l1All.mono_l k
  ·
   intro y0 y1 y2 y3 y4
   unfold spec_l1All.l0
   repeat' (with_reducible first | exact ih0 _ _ _ _ _ | exact LeO.refl _ | exact LeO.none _ | refine LeO.ite ?_ ?_ | refine LeO.bind ?_ (fun _ => ?_))
theorem spec_l1All.mono : ∀ a0 a1 a2 k, LeO (spec_l1All.f k a0 a1 a2) (spec_l1All.f (k + 1) a0 a1 a2) := by
 intro a0 a1 a2 k
 have ih0 := spec_l1All.mono_l k
 unfold spec_l1All.f
 repeat' (with_reducible first | exact ih0 _ _ _ _ _ | exact LeO.refl _ | exact LeO.none _ | refine LeO.ite ?_ ?_ | refine LeO.bind ?_ (fun _ => ?_))
theorem spec_l1All.calls (k : Nat) (A0 : Option Addr) (c0 : Nat) (l0 : List Int) (a1 : Int) (a2 : Int) (r : Bool) (w : World) (hr0 : Kd.C (Kd.int .i64) w A0 l0.length l0) (hc0 : l0.length ≤ c0) (h : spec_l1All.f k l0 a1 a2 = some r) :
  Calls Try.prog 52 #[.slice A0 l0.length c0, .int .i64 a1, .int .i64 a2] w fun e w' => e = .returned (.bool r) ∧ Drawn0 w w' := by
 have HR0 := Aside0.mk hr0
 have HC0 := Aside0.mk hc0
 clear hr0 hc0
 unfold spec_l1All.f at h
 have H := h; clear h
 have H' := Aside0.mk H
 clear H
 go_enter Try.func52, Try.ntmps52
 go_wp2
 go_loopg [11] k (fun kq v11 w' => ∃ (x11_1 : Int), v11 = .int .i64 x11_1 ∧ Aside0 (spec_l1All.l0 kq a1 a2 l0 (l0.length : Int) x11_1 = some r) ∧ Aside0 (kq ≤ k) ∧ Drawn0 w w')
 case atStart => exact ⟨(0), qc8f_, H', ⟨Nat.le_refl _⟩, qffa_⟩
 case round =>
  clear H'; try clear p2
  obtain ⟨x11_1, rfl, HA, HK1, ⟨m1, rfl⟩⟩ := hrel
  cases gk with
  | zero => exact absurd HA.out (by simp [spec_l1All.l0])
  | succ k1 =>
   have H := HA.out
   clear HA
   simp only [spec_l1All.l0] at H
   by_cases c4 : x11_1 < (l0.length : Int)
   ·
    rw [if_pos c4] at H
    have c4b0 := decide_eq_true c4
    clear c4
    by_cases c5 : 0 ≤ x11_1
    ·
     rw [if_pos c5] at H
     have c5b0 := decide_eq_true c5
     clear c5
     by_cases c6 : x11_1 < (l0.length : Int)
     ·
      rw [if_pos c6] at H
      have c6b0 := decide_eq_true c6
      clear c6
      obtain ⟨t235, A7, H⟩ := ob_ H
      by_cases c8 : t235 = true
      ·
       subst c8
       rw [if_pos rfl] at H
       have H' := Aside0.mk H
       clear H
       have p234 : 0 ≤ (x11_1 : Int) := of_decide_eq_true qe84_
       have q234 : x11_1 < (l0.length : Int) := of_decide_eq_true qe84_
       obtain ⟨ad234, e234, hx234_0⟩ := Kd.at_int HR0.out x11_1 p234 q234
       cases e234
       replace p234 := eq_true p234
       replace q234 := eq_true q234
       go_wp2_with (first | ((with_reducible refine gate_callee (f := 18) rfl ?_); refine gl_ 18 Try.func18 #[.int .i64 (rd l0 x11_1), .int .i64 a1, .int .i64 a2] ?_; (with_reducible refine (spec_l1In.calls (rd l0 x11_1) a1 a2 true _ A7.out).mono ?_); rintro e w' ⟨rfl, ⟨nd, rfl⟩⟩; refine ⟨_, rfl, ?_⟩))
       go_roundg k1
       case measure => have := HK1.out; omega
       case rel => exact ⟨(wrap64 (x11_1 + 1)), qc8f_, H', ⟨by have := HK1.out; omega⟩, qffa_⟩
      ·
       replace c8 := Bool.eq_false_iff.mpr c8
       subst c8
       rw [if_neg nf_] at H
       obtain rfl := Option.some.inj H
       have p234 : 0 ≤ (x11_1 : Int) := of_decide_eq_true qe84_
       have q234 : x11_1 < (l0.length : Int) := of_decide_eq_true qe84_
       obtain ⟨ad234, e234, hx234_0⟩ := Kd.at_int HR0.out x11_1 p234 q234
       cases e234
       replace p234 := eq_true p234
       replace q234 := eq_true q234
       go_wp2_with (first | ((with_reducible refine gate_callee (f := 18) rfl ?_); refine gl_ 18 Try.func18 #[.int .i64 (rd l0 x11_1), .int .i64 a1, .int .i64 a2] ?_; (with_reducible refine (spec_l1In.calls (rd l0 x11_1) a1 a2 false _ A7.out).mono ?_); rintro e w' ⟨rfl, ⟨nd, rfl⟩⟩; refine ⟨_, rfl, ?_⟩))
       go_ret
       exact ⟨qc8f_, qffa_⟩
     ·
      rw [if_neg c6] at H
      exact absurd H (by simp)
    ·
     rw [if_neg c5] at H
     exact absurd H (by simp)
   ·
    rw [if_neg c4] at H
    have c4b0 := decide_eq_false c4
    clear c4
    obtain rfl := Option.some.inj H
    go_wp2
    go_ret
    exact ⟨qc8f_, qffa_⟩

/-! ### spec_l1Has: function 33 -/
def spec_l1Has.l0 : Nat → Int → List Int → Int → Int → Option (Bool)
 | 0, _, _, _, _ => none
 | k + 1, x1, x7, x8, x9 => if x9 < x8 then (if 0 ≤ x9 then (if x9 < (x7.length : Int) then (if (rd x7 x9) = x1 then (some true) else (spec_l1Has.l0 k x1 x7 x8 (wrap64 (x9 + 1)))) else (none)) else (none)) else (some false)
def spec_l1Has.f (k : Nat) (l0 : List Int) (a1 : Int) : Option (Bool) := spec_l1Has.l0 k a1 l0 (l0.length : Int) 0
theorem spec_l1Has.mono_l : ∀ k, (∀ y0 y1 y2 y3, LeO (spec_l1Has.l0 k y0 y1 y2 y3) (spec_l1Has.l0 (k + 1) y0 y1 y2 y3))
 | 0 => fun _ _ _ _ r h => by simp [spec_l1Has.l0] at h
 | k + 1 => by
  have ih0 := spec_l1Has.mono_l k
  ·
   intro y0 y1 y2 y3
   unfold spec_l1Has.l0
   repeat' (with_reducible first | exact ih0 _ _ _ _ | exact LeO.refl _ | exact LeO.none _ | refine LeO.ite ?_ ?_ | refine LeO.bind ?_ (fun _ => ?_))
theorem spec_l1Has.mono : ∀ a0 a1 k, LeO (spec_l1Has.f k a0 a1) (spec_l1Has.f (k + 1) a0 a1) := by
 intro a0 a1 k
 have ih0 := spec_l1Has.mono_l k
 unfold spec_l1Has.f
 repeat' (with_reducible first | exact ih0 _ _ _ _ | exact LeO.refl _ | exact LeO.none _ | refine LeO.ite ?_ ?_ | refine LeO.bind ?_ (fun _ => ?_))
theorem spec_l1Has.calls (k : Nat) (A0 : Option Addr) (c0 : Nat) (l0 : List Int) (a1 : Int) (r : Bool) (w : World) (hr0 : Kd.C (Kd.int .i64) w A0 l0.length l0) (hc0 : l0.length ≤ c0) (h : spec_l1Has.f k l0 a1 = some r) :
  Calls Try.prog 33 #[.slice A0 l0.length c0, .int .i64 a1] w fun e w' => e = .returned (.bool r) ∧ Drawn0 w w' := by
 have HR0 := Aside0.mk hr0
 have HC0 := Aside0.mk hc0
 clear hr0 hc0
 unfold spec_l1Has.f at h
 have H := h; clear h
 have H' := Aside0.mk H
 clear H
 go_enter Try.func33, Try.ntmps33
 go_wp2
 go_loopg [9] k (fun kq v9 w' => ∃ (x9_1 : Int), v9 = .int .i64 x9_1 ∧ Aside0 (spec_l1Has.l0 kq a1 l0 (l0.length : Int) x9_1 = some r) ∧ Aside0 (kq ≤ k) ∧ Drawn0 w w')
 case atStart => exact ⟨(0), qc8f_, H', ⟨Nat.le_refl _⟩, qffa_⟩
 case round =>
  clear H'; try clear p2
  obtain ⟨x9_1, rfl, HA, HK1, ⟨m1, rfl⟩⟩ := hrel
  cases gk with
  | zero => exact absurd HA.out (by simp [spec_l1Has.l0])
  | succ k1 =>
   have H := HA.out
   clear HA
   simp only [spec_l1Has.l0] at H
   by_cases c3 : x9_1 < (l0.length : Int)
   ·
    rw [if_pos c3] at H
    have c3b0 := decide_eq_true c3
    clear c3
    by_cases c4 : 0 ≤ x9_1
    ·
     rw [if_pos c4] at H
     have c4b0 := decide_eq_true c4
     clear c4
     by_cases c5 : x9_1 < (l0.length : Int)
     ·
      rw [if_pos c5] at H
      have c5b0 := decide_eq_true c5
      clear c5
      by_cases c6 : (rd l0 x9_1) = a1
      ·
       rw [if_pos c6] at H
       have c6b0 := beq_iff_eq.mpr c6
       have c6b1 := bne_eq_false_iff_eq.mpr c6
       clear c6
       obtain rfl := Option.some.inj H
       have p236 : 0 ≤ (x9_1 : Int) := of_decide_eq_true qe84_
       have q236 : x9_1 < (l0.length : Int) := of_decide_eq_true qe84_
       obtain ⟨ad236, e236, hx236_0⟩ := Kd.at_int HR0.out x9_1 p236 q236
       cases e236
       replace p236 := eq_true p236
       replace q236 := eq_true q236
       go_wp2
       go_ret
       exact ⟨qc8f_, qffa_⟩
      ·
       rw [if_neg c6] at H
       have c6b0 := beq_eq_false_iff_ne.mpr c6
       have c6b1 := bne_iff_ne.mpr c6
       have H' := Aside0.mk H
       clear H
       have p236 : 0 ≤ (x9_1 : Int) := of_decide_eq_true qe84_
       have q236 : x9_1 < (l0.length : Int) := of_decide_eq_true qe84_
       obtain ⟨ad236, e236, hx236_0⟩ := Kd.at_int HR0.out x9_1 p236 q236
       cases e236
       replace p236 := eq_true p236
       replace q236 := eq_true q236
       go_wp2
       go_roundg k1
       case measure => have := HK1.out; omega
       case rel => exact ⟨(wrap64 (x9_1 + 1)), qc8f_, H', ⟨by have := HK1.out; omega⟩, qffa_⟩
     ·
      rw [if_neg c5] at H
      exact absurd H (by simp)
    ·
     rw [if_neg c4] at H
     exact absurd H (by simp)
   ·
    rw [if_neg c3] at H
    have c3b0 := decide_eq_false c3
    clear c3
    obtain rfl := Option.some.inj H
    go_wp2
    go_ret
    exact ⟨qc8f_, qffa_⟩

/-! ### spec_paDrive: function 57 -/
mutual
def spec_paDrive.l0 : Nat → Int → List Int → List Int → Int → Int → Option (List Int)
 | 0, _, _, _, _, _ => none
 | k + 1, x1, x5, x8, x9, x10 => if x10 < x9 then (if 0 ≤ x10 then (if x10 < (x8.length : Int) then (spec_paDrive.l1 k x1 x5 (rd x8 x10) x8 x9 x10) else (none)) else (none)) else (some x5)
def spec_paDrive.l1 : Nat → Int → List Int → Int → List Int → Int → Int → Option (List Int)
 | 0, _, _, _, _, _, _ => none
 | k + 1, x1, x5, x7, x8, x9, x10 => if x7 < x1 then ((spec_l1Has.f k x5 x7).bind fun t238 => (if t238 = true then (spec_paDrive.l1 k x1 x5 (wrap64 (x7 + 1)) x8 x9 x10) else (if x7 ≥ x1 then (if x5.length < 17592186044416 then (spec_paDrive.l0 k x1 (x5 ++ [(-1)]) x8 x9 (wrap64 (x10 + 1))) else (none)) else (if x5.length < 17592186044416 then (spec_paDrive.l0 k x1 (x5 ++ [x7]) x8 x9 (wrap64 (x10 + 1))) else (none))))) else (if x7 ≥ x1 then (if x5.length < 17592186044416 then (spec_paDrive.l0 k x1 (x5 ++ [(-1)]) x8 x9 (wrap64 (x10 + 1))) else (none)) else (if x5.length < 17592186044416 then (spec_paDrive.l0 k x1 (x5 ++ [x7]) x8 x9 (wrap64 (x10 + 1))) else (none)))
end
def spec_paDrive.f (k : Nat) (l0 : List Int) (a1 : Int) : Option (List Int) := spec_paDrive.l0 k a1 ([] : List Int) l0 (l0.length : Int) 0
theorem spec_paDrive.mono_l : ∀ k, (∀ y0 y1 y2 y3 y4, LeO (spec_paDrive.l0 k y0 y1 y2 y3 y4) (spec_paDrive.l0 (k + 1) y0 y1 y2 y3 y4)) ∧ (∀ y0 y1 y2 y3 y4 y5, LeO (spec_paDrive.l1 k y0 y1 y2 y3 y4 y5) (spec_paDrive.l1 (k + 1) y0 y1 y2 y3 y4 y5))
 | 0 => ⟨fun _ _ _ _ _ r h => by simp [spec_paDrive.l0] at h, fun _ _ _ _ _ _ r h => by simp [spec_paDrive.l1] at h⟩
 | k + 1 => by
  obtain ⟨ih0, ih1⟩ := spec_paDrive.mono_l k
  refine ⟨?_, ?_⟩
  ·
   intro y0 y1 y2 y3 y4
   unfold spec_paDrive.l0
   repeat' (with_reducible first | exact ih0 _ _ _ _ _ | exact ih1 _ _ _ _ _ _ | exact spec_l1Has.mono _ _ _ | exact LeO.refl _ | exact LeO.none _ | refine LeO.ite ?_ ?_ | refine LeO.bind ?_ (fun _ => ?_))
  ·
   intro y0 y1 y2 y3 y4 y5
   unfold spec_paDrive.l1
   repeat' (with_reducible first | exact ih0 _ _ _ _ _ | exact ih1 _ _ _ _ _ _ | exact spec_l1Has.mono _ _ _ | exact LeO.refl _ | exact LeO.none _ | refine LeO.ite ?_ ?_ | refine LeO.bind ?_ (fun _ => ?_))
theorem spec_paDrive.mono : ∀ a0 a1 k, LeO (spec_paDrive.f k a0 a1) (spec_paDrive.f (k + 1) a0 a1) := by
 intro a0 a1 k
 obtain ⟨ih0, ih1⟩ := spec_paDrive.mono_l k
 unfold spec_paDrive.f
 repeat' (with_reducible first | exact ih0 _ _ _ _ _ | exact ih1 _ _ _ _ _ _ | exact spec_l1Has.mono _ _ _ | exact LeO.refl _ | exact LeO.none _ | refine LeO.ite ?_ ?_ | refine LeO.bind ?_ (fun _ => ?_))
theorem spec_paDrive.calls (k : Nat) (A0 : Option Addr) (c0 : Nat) (l0 : List Int) (a1 : Int) (r : List Int) (w : World) (hr0 : Kd.C (Kd.int .i64) w A0 l0.length l0) (hc0 : l0.length ≤ c0) (h : spec_paDrive.f k l0 a1 = some r) :
  Calls Try.prog 57 #[.slice A0 l0.length c0, .int .i64 a1] w fun e w' => ∃ v0_ : Value, e = .returned (v0_) ∧ Kd.R (Kd.int .i64) 3 w' w.heap.size (fun _ => True) v0_ r ∧ Below w.heap.size w w' := by
 have HR0 := Aside0.mk hr0
 have HC0 := Aside0.mk hc0
 clear hr0 hc0
 have HB := Aside0.mk (Below.refl w.heap.size w)
 unfold spec_paDrive.f at h
 have H := h; clear h
 have H' := Aside0.mk H
 clear H
 go_enter Try.func57, Try.ntmps57
 go_wp2
 go_loopg [5, 10] k (fun kq v5 v10 w' => ∃ (x5_1 : List Int) (x10_1 : Int), v10 = .int .i64 x10_1 ∧ Aside0 (spec_paDrive.l0 kq a1 x5_1 l0 (l0.length : Int) x10_1 = some r) ∧ Aside0 (kq ≤ k) ∧ Aside0 (Kd.R (Kd.int .i64) 3 w' w.heap.size (fun _ => True) v5 x5_1) ∧ Aside0 (Below w.heap.size w w'))
 case atStart => exact ⟨(([] : List Int)), (0), qc8f_, H', ⟨Nat.le_refl _⟩, ⟨qf62_⟩, ⟨q0c4_⟩⟩
 case round =>
  clear H'; try clear p2
  obtain ⟨x5_1, x10_1, rfl, HA, HK1, HO_5, HB⟩ := hrel
  cases gk with
  | zero => exact absurd HA.out (by simp [spec_paDrive.l0])
  | succ k1 =>
   have H := HA.out
   clear HA
   simp only [spec_paDrive.l0] at H
   by_cases c3 : x10_1 < (l0.length : Int)
   ·
    rw [if_pos c3] at H
    have c3b0 := decide_eq_true c3
    clear c3
    by_cases c4 : 0 ≤ x10_1
    ·
     rw [if_pos c4] at H
     have c4b0 := decide_eq_true c4
     clear c4
     by_cases c5 : x10_1 < (l0.length : Int)
     ·
      rw [if_pos c5] at H
      have c5b0 := decide_eq_true c5
      clear c5
      have H' := Aside0.mk H
      clear H
      have p237 : 0 ≤ (x10_1 : Int) := of_decide_eq_true qe84_
      have q237 : x10_1 < (l0.length : Int) := of_decide_eq_true qe84_
      obtain ⟨ad237, e237, hx237_0⟩ := Kd.at_int HR0.out x10_1 p237 q237
      cases e237
      (try (replace hx237_0 := (HB.out.cell (World.block_lt_of_cell? w _ hx237_0)).trans hx237_0))
      replace p237 := eq_true p237
      replace q237 := eq_true q237
      go_wp2
      go_loopg [7] k1 (fun kq v7 w' => ∃ (x7_2 : Int), v7 = .int .i64 x7_2 ∧ Aside0 (spec_paDrive.l1 kq a1 x5_1 x7_2 l0 (l0.length : Int) x10_1 = some r) ∧ Aside0 (kq ≤ k1) ∧ Aside0 (Kd.R (Kd.int .i64) 3 w' w.heap.size (fun _ => True) u5 x5_1) ∧ Aside0 (Below w.heap.size w w'))
      case atStart => exact ⟨(rd l0 x10_1), qc8f_, H', ⟨Nat.le_refl _⟩, ⟨q9d5_ HO_5.out⟩, ⟨q0c4_⟩⟩
      case round =>
       clear H'; try clear p2; try clear q2; try clear hx2; try clear c3; try clear c3b0; try clear c4; try clear c4b0; try clear c5; try clear c5b0; try clear hx237_0; try clear p2; try clear p237; try clear q237
       obtain ⟨x7_2, rfl, HA, HK2, HO_5, HB⟩ := hrel
       cases gk with
       | zero => exact absurd HA.out (by simp [spec_paDrive.l1])
       | succ k2 =>
        have H := HA.out
        clear HA
        simp only [spec_paDrive.l1] at H
        by_cases c6 : x7_2 < a1
        ·
         rw [if_pos c6] at H
         have c6b0 := decide_eq_true c6
         clear c6
         obtain ⟨t238, A7, H⟩ := ob_ H
         by_cases c8 : t238 = true
         ·
          subst c8
          rw [if_pos rfl] at H
          have H' := Aside0.mk H
          clear H
          obtain ⟨Ao9, co9, eo9⟩ := Kd.R_slice HO_5.out
          subst eo9
          go_wp2_with (first | (go_at_call 33; (with_reducible refine (spec_l1Has.calls k2 _ _ x5_1 x7_2 true _ ?s1 ?s2 A7.out).mono ?_); (case s1 => exact q5a8_ HO_5.out); (case s2 => exact (Kd.R_reads' HO_5.out).2.1); rintro e w' ⟨rfl, ⟨nd, rfl⟩⟩))
          go_roundg k2
          case measure => have := HK1.out; have := HK2.out; omega
          case rel => exact ⟨(wrap64 (x7_2 + 1)), qc8f_, H', ⟨q37b_ HK1.out HK2.out⟩, ⟨q9d5_ HO_5.out⟩, ⟨q0c4_⟩⟩
         ·
          replace c8 := Bool.eq_false_iff.mpr c8
          subst c8
          rw [if_neg nf_] at H
          by_cases c10 : x7_2 ≥ a1
          ·
           rw [if_pos c10] at H
           have c10b0 := decide_eq_true c10
           clear c10
           by_cases c11 : x5_1.length < 17592186044416
           ·
            rw [if_pos c11] at H
            have LMc11 := Aside0.mk c11
            clear c11
            obtain ⟨y239, hy239⟩ : ∃ y_ : List Int, y_ = (x5_1 ++ [(-1)]) := ⟨_, rfl⟩
            replace H : (spec_paDrive.l0 k2 a1 y239 l0 (l0.length : Int) (wrap64 (x10_1 + 1))) = some r := by first | (rw [hy239]; with_reducible exact H) | (have H2_ := (Option.bind_some _ _).symm.trans H; rw [hy239]; with_reducible exact H2_) | (have H2_ := (Option.bind_some _ _).symm.trans H; with_reducible exact H2_) | with_reducible exact H | (rw [hy239]; exact H) | exact H
            have Ny239 := Aside0.mk hy239
            clear hy239
            have H' := Aside0.mk H
            clear H
            obtain ⟨Ao12, co12, eo12⟩ := Kd.R_slice HO_5.out
            subst eo12
            go_wp2_with (first | (go_at_call 33; (with_reducible refine (spec_l1Has.calls k2 _ _ x5_1 x7_2 false _ ?s1 ?s2 A7.out).mono ?_); (case s1 => exact q5a8_ HO_5.out); (case s2 => exact (Kd.R_reads' HO_5.out).2.1); rintro e w' ⟨rfl, ⟨nd, rfl⟩⟩) | ((with_reducible refine gate_builtin (b := .append) (xs := #[.tmp 27, .tmp 29]) rfl ?_); at_builtin; refine Kd.R_append (Kd.int .i64) (w0 := w) w.heap.size rfl (.tmp 27) (.tmp 29) 31 3 (.int .i64 0) 8 rfl Try.underlying31 info3 rfl (by decide) (by omega) (.slice Ao12 x5_1.length co12) x5_1 (-1) [.int .i64 (-1)] (fun _ => True) (fun _ => False) rfl rfl ?aP (fun _ hk => hk.elim) ?aF ?aO ?aB ?aS ?aL ?_; (case aP => exact rfl); (case aB => exact q0c4_); (case aF => exact (fun _ _ => trivial)); (case aO => exact (q9d5_ HO_5.out)); (case aS => exact (below_size q0c4_)); (case aL => have := LMc11.out; omega); intro v240 w13 ho hb hg hat; rw [← Ny239.out] at ho; have n0_ := Aside0.mk (hb); have n1_ := Aside0.mk (ho); replace HB := n0_; have HO241 := n1_; clear n0_ n1_; clear ho hb hg hat))
            go_roundg k2
            case measure => have := HK1.out; have := HK2.out; omega
            case rel => exact ⟨(y239), (wrap64 (x10_1 + 1)), qc8f_, H', ⟨q37b_ HK1.out HK2.out⟩, ⟨q9d5_ HO241.out⟩, ⟨q0c4_⟩⟩
           ·
            rw [if_neg c11] at H
            exact absurd H (by simp)
          ·
           rw [if_neg c10] at H
           have c10b0 := decide_eq_false c10
           clear c10
           by_cases c14 : x5_1.length < 17592186044416
           ·
            rw [if_pos c14] at H
            have LMc14 := Aside0.mk c14
            clear c14
            obtain ⟨y242, hy242⟩ : ∃ y_ : List Int, y_ = (x5_1 ++ [x7_2]) := ⟨_, rfl⟩
            replace H : (spec_paDrive.l0 k2 a1 y242 l0 (l0.length : Int) (wrap64 (x10_1 + 1))) = some r := by first | (rw [hy242]; with_reducible exact H) | (have H2_ := (Option.bind_some _ _).symm.trans H; rw [hy242]; with_reducible exact H2_) | (have H2_ := (Option.bind_some _ _).symm.trans H; with_reducible exact H2_) | with_reducible exact H | (rw [hy242]; exact H) | exact H
            have Ny242 := Aside0.mk hy242
            clear hy242
            have H' := Aside0.mk H
            clear H
            obtain ⟨Ao15, co15, eo15⟩ := Kd.R_slice HO_5.out
            subst eo15
            go_wp2_with (first | (go_at_call 33; (with_reducible refine (spec_l1Has.calls k2 _ _ x5_1 x7_2 false _ ?s1 ?s2 A7.out).mono ?_); (case s1 => exact q5a8_ HO_5.out); (case s2 => exact (Kd.R_reads' HO_5.out).2.1); rintro e w' ⟨rfl, ⟨nd, rfl⟩⟩) | ((with_reducible refine gate_builtin (b := .append) (xs := #[.tmp 27, .tmp 29]) rfl ?_); at_builtin; refine Kd.R_append (Kd.int .i64) (w0 := w) w.heap.size rfl (.tmp 27) (.tmp 29) 31 3 (.int .i64 0) 8 rfl Try.underlying31 info3 rfl (by decide) (by omega) (.slice Ao15 x5_1.length co15) x5_1 x7_2 [.int .i64 x7_2] (fun _ => True) (fun _ => False) rfl rfl ?aP (fun _ hk => hk.elim) ?aF ?aO ?aB ?aS ?aL ?_; (case aP => exact rfl); (case aB => exact q0c4_); (case aF => exact (fun _ _ => trivial)); (case aO => exact (q9d5_ HO_5.out)); (case aS => exact (below_size q0c4_)); (case aL => have := LMc14.out; omega); intro v243 w16 ho hb hg hat; rw [← Ny242.out] at ho; have n0_ := Aside0.mk (hb); have n1_ := Aside0.mk (ho); replace HB := n0_; have HO244 := n1_; clear n0_ n1_; clear ho hb hg hat))
            go_roundg k2
            case measure => have := HK1.out; have := HK2.out; omega
            case rel => exact ⟨(y242), (wrap64 (x10_1 + 1)), qc8f_, H', ⟨q37b_ HK1.out HK2.out⟩, ⟨q9d5_ HO244.out⟩, ⟨q0c4_⟩⟩
           ·
            rw [if_neg c14] at H
            exact absurd H (by simp)
        ·
         rw [if_neg c6] at H
         have c6b0 := decide_eq_false c6
         clear c6
         by_cases c17 : x7_2 ≥ a1
         ·
          rw [if_pos c17] at H
          have c17b0 := decide_eq_true c17
          clear c17
          by_cases c18 : x5_1.length < 17592186044416
          ·
           rw [if_pos c18] at H
           have LMc18 := Aside0.mk c18
           clear c18
           obtain ⟨y245, hy245⟩ : ∃ y_ : List Int, y_ = (x5_1 ++ [(-1)]) := ⟨_, rfl⟩
           replace H : (spec_paDrive.l0 k2 a1 y245 l0 (l0.length : Int) (wrap64 (x10_1 + 1))) = some r := by first | (rw [hy245]; with_reducible exact H) | (have H2_ := (Option.bind_some _ _).symm.trans H; rw [hy245]; with_reducible exact H2_) | (have H2_ := (Option.bind_some _ _).symm.trans H; with_reducible exact H2_) | with_reducible exact H | (rw [hy245]; exact H) | exact H
           have Ny245 := Aside0.mk hy245
           clear hy245
           have H' := Aside0.mk H
           clear H
           go_wp2_with (first | ((with_reducible refine gate_builtin (b := .append) (xs := #[.tmp 27, .tmp 29]) rfl ?_); at_builtin; refine Kd.R_append (Kd.int .i64) (w0 := w) w.heap.size rfl (.tmp 27) (.tmp 29) 31 3 (.int .i64 0) 8 rfl Try.underlying31 info3 rfl (by decide) (by omega) u5 x5_1 (-1) [.int .i64 (-1)] (fun _ => True) (fun _ => False) rfl rfl ?aP (fun _ hk => hk.elim) ?aF ?aO ?aB ?aS ?aL ?_; (case aP => exact rfl); (case aB => exact q0c4_); (case aF => exact (fun _ _ => trivial)); (case aO => exact (q9d5_ HO_5.out)); (case aS => exact (below_size q0c4_)); (case aL => have := LMc18.out; omega); intro v246 w19 ho hb hg hat; rw [← Ny245.out] at ho; have n0_ := Aside0.mk (hb); have n1_ := Aside0.mk (ho); replace HB := n0_; have HO247 := n1_; clear n0_ n1_; clear ho hb hg hat))
           go_roundg k2
           case measure => have := HK1.out; have := HK2.out; omega
           case rel => exact ⟨(y245), (wrap64 (x10_1 + 1)), qc8f_, H', ⟨q37b_ HK1.out HK2.out⟩, ⟨q9d5_ HO247.out⟩, ⟨q0c4_⟩⟩
          ·
           rw [if_neg c18] at H
           exact absurd H (by simp)
         ·
          rw [if_neg c17] at H
          have c17b0 := decide_eq_false c17
          clear c17
          by_cases c20 : x5_1.length < 17592186044416
          ·
           rw [if_pos c20] at H
           have LMc20 := Aside0.mk c20
           clear c20
           obtain ⟨y248, hy248⟩ : ∃ y_ : List Int, y_ = (x5_1 ++ [x7_2]) := ⟨_, rfl⟩
           replace H : (spec_paDrive.l0 k2 a1 y248 l0 (l0.length : Int) (wrap64 (x10_1 + 1))) = some r := by first | (rw [hy248]; with_reducible exact H) | (have H2_ := (Option.bind_some _ _).symm.trans H; rw [hy248]; with_reducible exact H2_) | (have H2_ := (Option.bind_some _ _).symm.trans H; with_reducible exact H2_) | with_reducible exact H | (rw [hy248]; exact H) | exact H
           have Ny248 := Aside0.mk hy248
           clear hy248
           have H' := Aside0.mk H
           clear H
           go_wp2_with (first | ((with_reducible refine gate_builtin (b := .append) (xs := #[.tmp 27, .tmp 29]) rfl ?_); at_builtin; refine Kd.R_append (Kd.int .i64) (w0 := w) w.heap.size rfl (.tmp 27) (.tmp 29) 31 3 (.int .i64 0) 8 rfl Try.underlying31 info3 rfl (by decide) (by omega) u5 x5_1 x7_2 [.int .i64 x7_2] (fun _ => True) (fun _ => False) rfl rfl ?aP (fun _ hk => hk.elim) ?aF ?aO ?aB ?aS ?aL ?_; (case aP => exact rfl); (case aB => exact q0c4_); (case aF => exact (fun _ _ => trivial)); (case aO => exact (q9d5_ HO_5.out)); (case aS => exact (below_size q0c4_)); (case aL => have := LMc20.out; omega); intro v249 w21 ho hb hg hat; rw [← Ny248.out] at ho; have n0_ := Aside0.mk (hb); have n1_ := Aside0.mk (ho); replace HB := n0_; have HO250 := n1_; clear n0_ n1_; clear ho hb hg hat))
           go_roundg k2
           case measure => have := HK1.out; have := HK2.out; omega
           case rel => exact ⟨(y248), (wrap64 (x10_1 + 1)), qc8f_, H', ⟨q37b_ HK1.out HK2.out⟩, ⟨q9d5_ HO250.out⟩, ⟨q0c4_⟩⟩
          ·
           rw [if_neg c20] at H
           exact absurd H (by simp)
     ·
      rw [if_neg c5] at H
      exact absurd H (by simp)
    ·
     rw [if_neg c4] at H
     exact absurd H (by simp)
   ·
    rw [if_neg c3] at H
    have c3b0 := decide_eq_false c3
    clear c3
    obtain rfl := Option.some.inj H
    go_wp2
    go_ret
    exact ⟨_, qce7_, q9d5_ HO_5.out, q0c4_⟩

/-! ### spec_paAll: function 53 -/
def spec_paAll.f (k : Nat) (l0 : List Int) (a1 : Int) : Option (Bool) := (spec_paDrive.f k l0 a1).bind fun t251 => ((spec_l1Has.f k t251 (-1)).bind fun t254 => (some (!t254)))
theorem spec_paAll.mono : ∀ a0 a1 k, LeO (spec_paAll.f k a0 a1) (spec_paAll.f (k + 1) a0 a1) := by
 intro a0 a1 k
 unfold spec_paAll.f
 repeat' (with_reducible first | exact spec_l1Has.mono _ _ _ | exact spec_paDrive.mono _ _ _ | exact LeO.refl _ | exact LeO.none _ | refine LeO.ite ?_ ?_ | refine LeO.bind ?_ (fun _ => ?_))
theorem spec_paAll.calls (k : Nat) (A0 : Option Addr) (c0 : Nat) (l0 : List Int) (a1 : Int) (r : Bool) (w : World) (hr0 : Kd.C (Kd.int .i64) w A0 l0.length l0) (hc0 : l0.length ≤ c0) (h : spec_paAll.f k l0 a1 = some r) :
  Calls Try.prog 53 #[.slice A0 l0.length c0, .int .i64 a1] w fun e w' => e = .returned (.bool r) ∧ Below w.heap.size w w' := by
 have HR0 := Aside0.mk hr0
 have HC0 := Aside0.mk hc0
 clear hr0 hc0
 have HB := Aside0.mk (Below.refl w.heap.size w)
 unfold spec_paAll.f at h
 have H := h; clear h
 obtain ⟨t251, A3, H⟩ := ob_ H
 obtain ⟨t254, A4, H⟩ := ob_ H
 obtain rfl := Option.some.inj H
 go_enter Try.func53, Try.ntmps53
 go_wp2_with (first | ((with_reducible refine gate_callee (f := 57) rfl ?_); refine gl_ 7 Try.func57 #[.slice A0 l0.length c0, .int .i64 a1] ?_; (with_reducible refine (spec_paDrive.calls k _ _ l0 a1 t251 _ ?s1 ?s2 A3.out).mono ?_); (case s1 => exact q201_ HR0.out); (case s2 => exact HC0.out); rintro e w5 ⟨v252, rfl, ho0, hb⟩; refine ⟨_, rfl, ?_⟩; have HO253 := Aside0.mk (Kd.R_lower ho0 (below_size q0c4_)); replace HB := Aside0.mk (below_step q0c4_ hb); clear hb ho0; obtain ⟨Ao6, co6, eo6⟩ := Kd.R_slice HO253.out; subst eo6) | ((with_reducible refine gate_callee (f := 33) rfl ?_); refine gl_ 8 Try.func33 #[.slice Ao6 t251.length co6, .int .i64 (-1)] ?_; (with_reducible refine (spec_l1Has.calls k _ _ t251 (-1) t254 _ ?s1 ?s2 A4.out).mono ?_); (case s1 => exact q5a8_ HO253.out); (case s2 => exact (Kd.R_reads' HO253.out).2.1); rintro e w' ⟨rfl, ⟨nd, rfl⟩⟩; refine ⟨_, rfl, ?_⟩))
 go_ret
 exact ⟨qce7_, q0c4_⟩

/-! ### spec_paParking: function 46 -/
def spec_paParking.f (k : Nat) (l0 : List Int) : Option (Bool) := if (l0.length : Int) ≤ 8 then ((spec_l1All.f k l0 0 (wrap64 ((l0.length : Int) - 1))).bind fun t255 => (if t255 = true then ((spec_paAll.f k l0 (l0.length : Int)).bind fun t256 => (some t256)) else (some false))) else (some false)
theorem spec_paParking.mono : ∀ a0 k, LeO (spec_paParking.f k a0) (spec_paParking.f (k + 1) a0) := by
 intro a0 k
 unfold spec_paParking.f
 repeat' (with_reducible first | exact spec_l1All.mono _ _ _ _ | exact spec_paAll.mono _ _ _ | exact LeO.refl _ | exact LeO.none _ | refine LeO.ite ?_ ?_ | refine LeO.bind ?_ (fun _ => ?_))
theorem spec_paParking.calls (k : Nat) (A0 : Option Addr) (c0 : Nat) (l0 : List Int) (r : Bool) (w : World) (hr0 : Kd.C (Kd.int .i64) w A0 l0.length l0) (hc0 : l0.length ≤ c0) (h : spec_paParking.f k l0 = some r) :
  Calls Try.prog 46 #[.slice A0 l0.length c0] w fun e w' => e = .returned (.bool r) ∧ Below w.heap.size w w' := by
 have HR0 := Aside0.mk hr0
 have HC0 := Aside0.mk hc0
 clear hr0 hc0
 have HB := Aside0.mk (Below.refl w.heap.size w)
 unfold spec_paParking.f at h
 have H := h; clear h
 by_cases c2 : (l0.length : Int) ≤ 8
 ·
  rw [if_pos c2] at H
  have c2b0 := decide_eq_true c2
  have c2b1 : decide (l0.length ≤ 8) = true := decide_eq_true (by omega)
  clear c2
  obtain ⟨t255, A3, H⟩ := ob_ H
  by_cases c4 : t255 = true
  ·
   subst c4
   rw [if_pos rfl] at H
   obtain ⟨t256, A5, H⟩ := ob_ H
   obtain rfl := Option.some.inj H
   go_enter Try.func46, Try.ntmps46
   go_wp2_with (first | (go_at_call 52; (with_reducible refine (spec_l1All.calls k _ _ l0 0 (wrap64 ((l0.length : Int) - 1)) true _ ?s1 ?s2 A3.out).mono ?_); (case s1 => exact q201_ HR0.out); (case s2 => exact HC0.out); rintro e w' ⟨rfl, ⟨nd, rfl⟩⟩) | (go_at_call 53; (with_reducible refine (spec_paAll.calls k _ _ l0 (l0.length : Int) t256 _ ?s1 ?s2 A5.out).mono ?_); (case s1 => exact q201_ HR0.out); (case s2 => exact HC0.out); rintro e w6 ⟨rfl, hb⟩; replace HB := Aside0.mk (below_step q0c4_ hb); clear hb))
   go_ret
   exact ⟨qce7_, q0c4_⟩
  ·
   replace c4 := Bool.eq_false_iff.mpr c4
   subst c4
   rw [if_neg nf_] at H
   obtain rfl := Option.some.inj H
   go_enter Try.func46, Try.ntmps46
   go_wp2_with (first | (go_at_call 52; (with_reducible refine (spec_l1All.calls k _ _ l0 0 (wrap64 ((l0.length : Int) - 1)) false _ ?s1 ?s2 A3.out).mono ?_); (case s1 => exact q201_ HR0.out); (case s2 => exact HC0.out); rintro e w' ⟨rfl, ⟨nd, rfl⟩⟩))
   go_ret
   exact ⟨qce7_, q0c4_⟩
 ·
  rw [if_neg c2] at H
  have c2b0 := decide_eq_false c2
  have c2b1 : decide (l0.length ≤ 8) = false := decide_eq_false (by omega)
  clear c2
  obtain rfl := Option.some.inj H
  go_enter Try.func46, Try.ntmps46
  go_wp2
  go_ret
  exact ⟨qce7_, q0c4_⟩

/-! ### spec_cnAll: function 32 -/
mutual
def spec_cnAll.l0 : Nat → List Int → Int → List (List Int) → Int → Option ((List (List Int)))
 | 0, _, _, _, _ => none
 | k + 1, x0, x1, x5, x6 => if x6 < x1 then ((spec_l1Own.f x0).bind fun t264 => (if t264.length < 17592186044416 then ((spec_cnAll.f k (t264 ++ [x6]) x1).bind fun t270 => (if x5.length + t270.length < 5864062014805 then (spec_cnAll.l0 k x0 x1 (x5 ++ t270) (wrap64 (x6 + 1))) else (none))) else (none))) else (some x5)
def spec_cnAll.f : Nat → List Int → Int → Option ((List (List Int)))
 | 0, _, _ => none
 | k + 1, l0, a1 => if (l0.length : Int) = a1 then ((spec_paParking.f k l0).bind fun t257 => (if t257 = true then ((spec_l1Own.f l0).bind fun t258 => (some (([t258] : List (List Int))))) else (some ([] : List (List Int))))) else (spec_cnAll.l0 k l0 a1 ([] : List (List Int)) 0)
end
theorem spec_cnAll.mono_l : ∀ k, (∀ y0 y1, LeO (spec_cnAll.f k y0 y1) (spec_cnAll.f (k + 1) y0 y1)) ∧ (∀ y0 y1 y2 y3, LeO (spec_cnAll.l0 k y0 y1 y2 y3) (spec_cnAll.l0 (k + 1) y0 y1 y2 y3))
 | 0 => ⟨fun _ _ r h => by simp [spec_cnAll.f] at h, fun _ _ _ _ r h => by simp [spec_cnAll.l0] at h⟩
 | k + 1 => by
  obtain ⟨ih0, ih1⟩ := spec_cnAll.mono_l k
  refine ⟨?_, ?_⟩
  ·
   intro y0 y1
   unfold spec_cnAll.f
   repeat' (with_reducible first | exact ih0 _ _ | exact ih1 _ _ _ _ | exact spec_paParking.mono _ _ | exact LeO.refl _ | exact LeO.none _ | refine LeO.ite ?_ ?_ | refine LeO.bind ?_ (fun _ => ?_))
  ·
   intro y0 y1 y2 y3
   unfold spec_cnAll.l0
   repeat' (with_reducible first | exact ih0 _ _ | exact ih1 _ _ _ _ | exact spec_paParking.mono _ _ | exact LeO.refl _ | exact LeO.none _ | refine LeO.ite ?_ ?_ | refine LeO.bind ?_ (fun _ => ?_))
theorem spec_cnAll.mono : ∀ a0 a1 k, LeO (spec_cnAll.f k a0 a1) (spec_cnAll.f (k + 1) a0 a1) := by
 intro a0 a1 k
 obtain ⟨ih0, ih1⟩ := spec_cnAll.mono_l k
 exact ih0 a0 a1
theorem spec_cnAll.calls (k : Nat) : ∀ (A0 : Option Addr) (c0 : Nat) (l0 : List Int) (a1 : Int) (r : List (List Int)) (w : World) (hr0 : Kd.C (Kd.int .i64) w A0 l0.length l0) (hc0 : l0.length ≤ c0) (h : spec_cnAll.f k l0 a1 = some r),
  Calls Try.prog 32 #[.slice A0 l0.length c0, .int .i64 a1] w fun e w' => ∃ v0_ : Value, e = .returned (v0_) ∧ Kd.N (Kd.slice 3 (Kd.int .i64)) 31 w' w.heap.size (fun k_ => (w.heap.size ≤ k_)) v0_ r ∧ Below w.heap.size w w' := by
 induction k using Nat.strongRecOn with
 | _ k ih =>
 intro A0 c0 l0 a1 r w hr0 hc0 h
 cases k with
 | zero => exact absurd h (by simp [spec_cnAll.f])
 | succ k =>
 simp only [spec_cnAll.f] at h
 have HR0 := Aside0.mk hr0
 have HC0 := Aside0.mk hc0
 clear hr0 hc0
 have HB := Aside0.mk (Below.refl w.heap.size w)
 have H : (if (l0.length : Int) = a1 then ((spec_paParking.f k l0).bind fun t257 => (if t257 = true then ((spec_l1Own.f l0).bind fun t258 => (some (([t258] : List (List Int))))) else (some ([] : List (List Int))))) else (spec_cnAll.l0 k l0 a1 ([] : List (List Int)) 0)) = some r := h
 clear h
 by_cases c3 : (l0.length : Int) = a1
 ·
  rw [if_pos c3] at H
  have c3b0 := beq_iff_eq.mpr c3
  have c3b1 := bne_eq_false_iff_eq.mpr c3
  clear c3
  obtain ⟨t257, A4, H⟩ := ob_ H
  by_cases c5 : t257 = true
  ·
   subst c5
   rw [if_pos rfl] at H
   obtain ⟨t258, A6, H⟩ := ob_ H
   obtain ⟨y261, hy261⟩ : ∃ y_ : List (List Int), y_ = (([t258] : List (List Int))) := ⟨_, rfl⟩
   replace H : (some y261) = some r := by first | (rw [hy261]; with_reducible exact H) | (have H2_ := (Option.bind_some _ _).symm.trans H; rw [hy261]; with_reducible exact H2_) | (have H2_ := (Option.bind_some _ _).symm.trans H; with_reducible exact H2_) | with_reducible exact H | (rw [hy261]; exact H) | exact H
   have Ny261 := Aside0.mk hy261
   clear hy261
   obtain rfl := Option.some.inj H
   go_enter Try.func32, Try.ntmps32
   go_wp2_with (first | ((with_reducible refine gate_callee (f := 46) rfl ?_); refine gl_ 12 Try.func46 #[.slice A0 l0.length c0] ?_; (with_reducible refine (spec_paParking.calls k _ _ l0 true _ ?s1 ?s2 A4.out).mono ?_); (case s1 => exact q201_ HR0.out); (case s2 => exact HC0.out); rintro e w7 ⟨rfl, hb⟩; refine ⟨_, rfl, ?_⟩; replace HB := Aside0.mk (below_step q0c4_ hb); clear hb) | ((with_reducible refine gate_callee (f := 35) rfl ?_); refine gl_ 14 Try.func35 #[.slice A0 l0.length c0] ?_; (with_reducible refine (spec_l1Own.calls _ _ l0 t258 _ ?s1 ?s2 A6.out).mono ?_); (case s1 => exact qe02_ HR0.out); (case s2 => exact HC0.out); rintro e w8 ⟨v259, rfl, ho0, hb⟩; refine ⟨_, rfl, ?_⟩; have HO260 := Aside0.mk (Kd.R_lower (Kd.R_newM (M := fun k_ => (w.heap.size ≤ k_)) ho0 (below_size q0c4_) (fun k_ h_ => h_)) (below_size q0c4_)); replace HB := Aside0.mk (below_step q0c4_ hb); clear hb ho0; obtain ⟨Ao9, co9, eo9⟩ := Kd.R_slice HO260.out; subst eo9) | ((with_reducible refine gate_dst (N := 15) rfl ?_); refine Kd.N_lit (Kd.slice 3 (Kd.int .i64)) _ 31 ?hg (N' := 15) ?hd (xs := ([t258] : List (List Int))) (inner := [.slice Ao9 t258.length co9]) (ok := (fun k_ => (w.heap.size ≤ k_))) (okp := (fun k_ => (w.heap.size ≤ k_))) ?hr ?hp (fun _ hk => hk) ((show ∀ k_, w8.heap.size ≤ k_ → (fun k_ => (w.heap.size ≤ k_)) k_ from fun k_ hk => (Nat.le_trans (below_size q0c4_) hk)) _ (Nat.le_refl _)) (Below.refl _ _) (Nat.le_refl _) (by simp) ?_; (case hd => rfl); (case hg => rfl); (case hr => exact qba7_); (case hp => exact (Reps.one (show Kd.FK (Kd.slice 3 (Kd.int .i64)) _ _ t258 [.slice Ao9 t258.length co9] from (Kd.FK_slice_mk (Kd.R_reads' (Kd.R_mono (ok' := (fun k_ => (w.heap.size ≤ k_))) (HO260.out) (fun k_ hk => hk.1))).2.1 (Kd.R_F (Kd.R_mono (ok' := (fun k_ => (w.heap.size ≤ k_))) (HO260.out) (fun k_ hk => hk.1))))) (Reps.none _ _))); intro v262 w10 ho11 hb hg_ hnew_; clear hg_ hnew_; (first | rw [← Ny261.out] at ho11 | (simp only [Int.reduceToNat] at ho11; rw [← Ny261.out] at ho11)); have n0_ := Aside0.mk (Kd.N_lower ho11 (below_size q0c4_)); have n1_ := Aside0.mk (below_step q0c4_ hb); have HO263 := n0_; replace HB := n1_; clear n0_ n1_; clear hb ho11))
   go_ret
   exact ⟨_, qce7_, qfba_ HO263.out, q0c4_⟩
  ·
   replace c5 := Bool.eq_false_iff.mpr c5
   subst c5
   rw [if_neg nf_] at H
   obtain rfl := Option.some.inj H
   go_enter Try.func32, Try.ntmps32
   go_wp2_with (first | ((with_reducible refine gate_callee (f := 46) rfl ?_); refine gl_ 12 Try.func46 #[.slice A0 l0.length c0] ?_; (with_reducible refine (spec_paParking.calls k _ _ l0 false _ ?s1 ?s2 A4.out).mono ?_); (case s1 => exact q201_ HR0.out); (case s2 => exact HC0.out); rintro e w12 ⟨rfl, hb⟩; refine ⟨_, rfl, ?_⟩; replace HB := Aside0.mk (below_step q0c4_ hb); clear hb))
   go_ret
   exact ⟨_, qce7_, qc14_, q0c4_⟩
 ·
  rw [if_neg c3] at H
  have c3b0 := beq_eq_false_iff_ne.mpr c3
  have c3b1 := bne_iff_ne.mpr c3
  have H' := Aside0.mk H
  clear H
  go_enter Try.func32, Try.ntmps32
  go_wp2
  go_loopg [5, 6] k (fun kq v5 v6 w' => ∃ (x5_1 : List (List Int)) (x6_1 : Int), v6 = .int .i64 x6_1 ∧ Aside0 (spec_cnAll.l0 kq l0 a1 x5_1 x6_1 = some r) ∧ Aside0 (kq ≤ k) ∧ Aside0 (Kd.N (Kd.slice 3 (Kd.int .i64)) 31 w' w.heap.size (fun k_ => (w.heap.size ≤ k_)) v5 x5_1) ∧ Aside0 (Below w.heap.size w w'))
  case atStart => exact ⟨(([] : List (List Int))), (0), qc8f_, H', ⟨Nat.le_refl _⟩, ⟨qc14_⟩, ⟨q0c4_⟩⟩
  case round =>
   clear H'; try clear p2; try clear c3; try clear c3b0; try clear c3b1; try clear c4; try clear c5
   obtain ⟨x5_1, x6_1, rfl, HA, HK1, HO_5, HB⟩ := hrel
   cases gk with
   | zero => exact absurd HA.out (by simp [spec_cnAll.l0])
   | succ k1 =>
    have H := HA.out
    clear HA
    simp only [spec_cnAll.l0] at H
    by_cases c13 : x6_1 < a1
    ·
     rw [if_pos c13] at H
     have c13b0 := decide_eq_true c13
     clear c13
     obtain ⟨t264, A14, H⟩ := ob_ H
     by_cases c15 : t264.length < 17592186044416
     ·
      rw [if_pos c15] at H
      have LMc15 := Aside0.mk c15
      clear c15
      obtain ⟨y267, hy267⟩ : ∃ y_ : List Int, y_ = (t264 ++ [x6_1]) := ⟨_, rfl⟩
      replace H : ((spec_cnAll.f k1 y267 a1).bind fun t270 => (if x5_1.length + t270.length < 5864062014805 then (spec_cnAll.l0 k1 l0 a1 (x5_1 ++ t270) (wrap64 (x6_1 + 1))) else (none))) = some r := by first | (rw [hy267]; with_reducible exact H) | (have H2_ := (Option.bind_some _ _).symm.trans H; rw [hy267]; with_reducible exact H2_) | (have H2_ := (Option.bind_some _ _).symm.trans H; with_reducible exact H2_) | with_reducible exact H | (rw [hy267]; exact H) | exact H
      have Ny267 := Aside0.mk hy267
      clear hy267
      obtain ⟨t270, A16, H⟩ := ob_ H
      by_cases c17 : x5_1.length + t270.length < 5864062014805
      ·
       rw [if_pos c17] at H
       have LMc17 := Aside0.mk c17
       clear c17
       obtain ⟨y273, hy273⟩ : ∃ y_ : List (List Int), y_ = (x5_1 ++ t270) := ⟨_, rfl⟩
       replace H : (spec_cnAll.l0 k1 l0 a1 y273 (wrap64 (x6_1 + 1))) = some r := by first | (rw [hy273]; with_reducible exact H) | (have H2_ := (Option.bind_some _ _).symm.trans H; rw [hy273]; with_reducible exact H2_) | (have H2_ := (Option.bind_some _ _).symm.trans H; with_reducible exact H2_) | with_reducible exact H | (rw [hy273]; exact H) | exact H
       have Ny273 := Aside0.mk hy273
       clear hy273
       have H' := Aside0.mk H
       clear H
       go_wp2_with (first | ((with_reducible refine gate_callee (f := 35) rfl ?_); refine gl_ 23 Try.func35 #[.slice A0 l0.length c0] ?_; (with_reducible refine (spec_l1Own.calls _ _ l0 t264 _ ?s1 ?s2 A14.out).mono ?_); (case s1 => exact qe02_ HR0.out); (case s2 => exact HC0.out); rintro e w18 ⟨v265, rfl, ho0, hb⟩; refine ⟨_, rfl, ?_⟩; replace HO_5 := Aside0.mk (Kd.N_elder' (qfba_ HO_5.out) (Kd.R_base ho0) hb); have HO266 := Aside0.mk (Kd.R_lower (Kd.R_newM (M := fun k_ => (w.heap.size ≤ k_)) ho0 (below_size q0c4_) (fun k_ h_ => h_)) (below_size q0c4_)); replace HB := Aside0.mk (below_step q0c4_ hb); clear hb ho0) | ((with_reducible refine gate_builtin (b := .append) (xs := #[.tmp 23, .tmp 25]) rfl ?_); at_builtin; refine Kd.R_append (Kd.int .i64) (w0 := w) w.heap.size rfl (.tmp 23) (.tmp 25) 31 3 (.int .i64 0) 8 rfl Try.underlying31 info3 rfl (by decide) (by omega) v265 t264 x6_1 [.int .i64 x6_1] (fun k_ => (w.heap.size ≤ k_)) (fun _ => False) rfl rfl ?aP (fun _ hk => hk.elim) ?aF ?aO ?aB ?aS ?aL ?_; (case aP => exact rfl); (case aB => exact q0c4_); (case aF => exact (fun k_ hk => (Nat.le_trans (below_size q0c4_) hk))); (case aO => exact (by (with_reducible repeat (first | apply Kd.R_alloc | apply Kd.R_drewN | apply Kd.R_drew)); exact Kd.R_mono HO266.out (fun _ hk => hk.1))); (case aS => exact (below_size q0c4_)); (case aL => have := LMc15.out; omega); intro v268 w19 ho hb hg hat; rw [← Ny267.out] at ho; have n0_ := Aside0.mk (Kd.N_afterv (ok := (fun k_ => (w.heap.size ≤ k_))) (qfba_ HO_5.out) hg hat); have n1_ := Aside0.mk (hb); have n2_ := Aside0.mk (ho); replace HO_5 := n0_; replace HB := n1_; have HO269 := n2_; clear n0_ n1_ n2_; clear ho hb hg hat; obtain ⟨Ao20, co20, eo20⟩ := Kd.R_slice HO269.out; subst eo20) | ((with_reducible refine gate_callee (f := 32) rfl ?_); refine gl_ 28 Try.func32 #[.slice Ao20 y267.length co20, .int .i64 a1] ?_; (with_reducible refine (ih k1 (by have := HK1.out; omega) _ _ y267 a1 t270 _ ?s1 ?s2 A16.out).mono ?_); (case s1 => exact q5a8_ HO269.out); (case s2 => exact (Kd.R_reads' HO269.out).2.1); rintro e w21 ⟨v271, rfl, ho0, hb⟩; refine ⟨_, rfl, ?_⟩; have n0_ := Aside0.mk (Kd.N_elder' (qfba_ HO_5.out) (by first | exact Kd.N_base ho0 | exact Kd.S_base ho0) hb); have n1_ := Aside0.mk (Kd.R_below (q9d5_ HO269.out) hb); have n2_ := Aside0.mk (Kd.N_lower (Kd.N_mono (ok' := fun k_ => (w.heap.size ≤ k_) ∧ some k_ ≠ (u5 : Value).ownBlock ∧ some k_ ≠ (.slice Ao20 y267.length co20 : Value).ownBlock) ho0 (fun k_ hk_ => ⟨(Nat.le_trans (below_size q0c4_) hk_), (Kd.fresh' (Kd.N_lt (qfba_ HO_5.out)) k_ hk_), (Kd.fresh' (Kd.R_lt (q9d5_ HO269.out)) k_ hk_)⟩)) (below_size q0c4_)); have n3_ := Aside0.mk (below_step q0c4_ hb); replace HO_5 := n0_; replace HO269 := n1_; have HO272 := n2_; replace HB := n3_; clear n0_ n1_ n2_ n3_; clear hb ho0; obtain ⟨Ao23, co23, eo23⟩ := Kd.N_slice HO272.out; subst eo23) | ((with_reducible refine gate_builtin (b := .append) (xs := #[.tmp 21, .tmp 28]) rfl ?_); at_builtin; refine Kd.N_append_rows (Kd.slice 3 (Kd.int .i64)) (w0 := w) w.heap.size rfl (.tmp 21) (.tmp 28) 28 31 (.slice none 0 0) 24 rfl Try.underlying28 info31 rfl (by decide) (by omega) u5 x5_1 t270 _ _ _ (fun k_ => (w.heap.size ≤ k_) ∧ some k_ ≠ (.slice Ao20 y267.length co20 : Value).ownBlock) (fun k_ => ((fun k_ => (w.heap.size ≤ k_) ∧ some k_ ≠ (.slice Ao20 y267.length co20 : Value).ownBlock)) k_ ∧ some k_ ≠ (u5 : Value).ownBlock) rfl rfl ?aO ?aR (fun _ hk => hk) ?aF ?aB ?aS ?aL ?_; (case aR => exact (by skip; exact Kd.N_F (Kd.N_mono (ok' := (fun k_ => ((fun k_ => (w.heap.size ≤ k_) ∧ some k_ ≠ (.slice Ao20 y267.length co20 : Value).ownBlock)) k_ ∧ some k_ ≠ (u5 : Value).ownBlock)) (HO272.out) (fun k_ hk => ⟨⟨hk.1, hk.2.2⟩, hk.2.1⟩)))); (case aB => exact q0c4_); (case aF => exact (fun k_ hk => ⟨(Nat.le_trans (below_size q0c4_) hk), Kd.fresh' (Kd.R_lt (q9d5_ HO269.out)) k_ hk⟩)); (case aO => exact (by (with_reducible repeat (first | apply Kd.N_alloc | apply Kd.N_drewN | apply Kd.N_drew)); exact Kd.N_mono HO_5.out (fun _ hk => ⟨hk.1.1, hk.1.2⟩))); (case aS => exact (below_size q0c4_)); (case aL => have := LMc17.out; omega); intro v274 w22 ho hb hg hat; rw [← Ny273.out] at ho; have n0_ := Aside0.mk (Kd.R_over' (q9d5_ HO269.out) (Kd.N_typed (qfba_ HO_5.out)) (by decide) hg); have n1_ := Aside0.mk (Kd.N_afterv (ok := (fun k_ => (w.heap.size ≤ k_) ∧ some k_ ≠ (.slice Ao20 y267.length co20 : Value).ownBlock)) (by (with_reducible repeat (first | apply Kd.N_alloc | apply Kd.N_drewN | apply Kd.N_drew)); exact Kd.N_mono HO272.out (fun _ hk => ⟨⟨hk.1, hk.2.2⟩, hk.2.1⟩)) hg hat); have n2_ := Aside0.mk (hb); have n3_ := Aside0.mk (ho); replace HO269 := n0_; replace HO272 := n1_; replace HB := n2_; have HO275 := n3_; clear n0_ n1_ n2_ n3_; clear ho hb hg hat))
       go_roundg k1
       case measure => have := HK1.out; omega
       case rel => exact ⟨(y273), (wrap64 (x6_1 + 1)), qc8f_, H', ⟨by have := HK1.out; omega⟩, ⟨by (with_reducible repeat (first | apply Kd.N_alloc | apply Kd.N_drewN | apply Kd.N_drew)); exact Kd.N_mono HO275.out (fun _ hk => hk.1)⟩, ⟨q0c4_⟩⟩
      ·
       rw [if_neg c17] at H
       exact absurd H (by simp)
     ·
      rw [if_neg c15] at H
      exact absurd H (by simp)
    ·
     rw [if_neg c13] at H
     have c13b0 := decide_eq_false c13
     clear c13
     obtain rfl := Option.some.inj H
     go_wp2
     go_ret
     exact ⟨_, qce7_, qfba_ HO_5.out, q0c4_⟩

/-! ### spec_AllParking: function 19 -/
def spec_AllParking.f (k : Nat) (a0 : Int) : Option ((List (List Int)) × Bool) := (spec_l1In.f a0 0 5).bind fun t276 => (if t276 = true then ((spec_cnAll.f k ([] : List Int) a0).bind fun t277 => (some (t277, true))) else (some (([] : List (List Int)), false)))
theorem spec_AllParking.mono : ∀ a0 k, LeO (spec_AllParking.f k a0) (spec_AllParking.f (k + 1) a0) := by
 intro a0 k
 unfold spec_AllParking.f
 repeat' (with_reducible first | exact spec_cnAll.mono _ _ _ | exact LeO.refl _ | exact LeO.none _ | refine LeO.ite ?_ ?_ | refine LeO.bind ?_ (fun _ => ?_))
theorem spec_AllParking.calls (k : Nat) (a0 : Int) (r1 : List (List Int)) (r2 : Bool) (w : World) (h : spec_AllParking.f k a0 = some (r1, r2)) :
  Calls Try.prog 19 #[.int .i64 a0] w fun e w' => ∃ v0_ : Value, e = .returned (.tuple #[v0_, .bool r2]) ∧ Kd.N (Kd.slice 3 (Kd.int .i64)) 31 w' w.heap.size (fun k_ => (w.heap.size ≤ k_)) v0_ r1 ∧ Below w.heap.size w w' := by
 have HB := Aside0.mk (Below.refl w.heap.size w)
 unfold spec_AllParking.f at h
 have H := h; clear h
 obtain ⟨t276, A2, H⟩ := ob_ H
 by_cases c3 : t276 = true
 ·
  subst c3
  rw [if_pos rfl] at H
  obtain ⟨t277, A4, H⟩ := ob_ H
  simp only [Option.some.injEq, Prod.mk.injEq] at H
  obtain ⟨rfl, rfl⟩ := H
  go_enter Try.func19, Try.ntmps19
  go_wp2_with (first | ((with_reducible refine gate_callee (f := 18) rfl ?_); refine gl_ 5 Try.func18 #[.int .i64 a0, .int .i64 0, .int .i64 5] ?_; (with_reducible refine (spec_l1In.calls a0 0 5 true _ A2.out).mono ?_); rintro e w' ⟨rfl, ⟨nd, rfl⟩⟩; refine ⟨_, rfl, ?_⟩) | ((with_reducible refine gate_callee (f := 32) rfl ?_); refine gl_ 8 Try.func32 #[.slice none 0 0, .int .i64 a0] ?_; (refine (spec_cnAll.calls k _ _ ([] : List Int) a0 t277 _ ?s1 ?s2 A4.out).mono ?_); (case s1 => exact Kd.C_nil _ _); (case s2 => exact Nat.le_refl _); rintro e w5 ⟨v278, rfl, ho0, hb⟩; refine ⟨_, rfl, ?_⟩; have HO279 := Aside0.mk (Kd.N_lower (Kd.N_mono (ok' := fun k_ => (w.heap.size ≤ k_)) ho0 (fun k_ hk_ => (Nat.le_trans (below_size q0c4_) hk_))) (below_size q0c4_)); replace HB := Aside0.mk (below_step q0c4_ hb); clear hb ho0))
  go_ret2
  exact ⟨_, qce7_, qfba_ HO279.out, q0c4_⟩
 ·
  replace c3 := Bool.eq_false_iff.mpr c3
  subst c3
  rw [if_neg nf_] at H
  simp only [Option.some.injEq, Prod.mk.injEq] at H
  obtain ⟨rfl, rfl⟩ := H
  go_enter Try.func19, Try.ntmps19
  go_wp2_with (first | ((with_reducible refine gate_callee (f := 18) rfl ?_); refine gl_ 5 Try.func18 #[.int .i64 a0, .int .i64 0, .int .i64 5] ?_; (with_reducible refine (spec_l1In.calls a0 0 5 false _ A2.out).mono ?_); rintro e w' ⟨rfl, ⟨nd, rfl⟩⟩; refine ⟨_, rfl, ?_⟩))
  go_ret2
  exact ⟨_, qce7_, qc14_, q0c4_⟩

/-! ### spec_reCount: function 34 -/
def spec_reCount.l0 : Nat → Int → Int → Int → List Int → Int → Int → Option (Int)
 | 0, _, _, _, _, _, _ => none
 | k + 1, x1, x2, x7, x10, x11, x12 => if x12 < x11 then (if 0 ≤ x12 then (if x12 < (x10.length : Int) then (if (rd x10 x12) > x2 then (spec_reCount.l0 k x1 x2 (wrap64 (x7 + 1)) x10 x11 (wrap64 (x12 + 1))) else (if x12 < x1 then (spec_reCount.l0 k x1 x2 (wrap64 (x7 + 1)) x10 x11 (wrap64 (x12 + 1))) else (spec_reCount.l0 k x1 x2 x7 x10 x11 (wrap64 (x12 + 1))))) else (none)) else (none)) else (some x7)
def spec_reCount.f (k : Nat) (l0 : List Int) (a1 : Int) (a2 : Int) : Option (Int) := spec_reCount.l0 k a1 a2 0 l0 (l0.length : Int) 0
theorem spec_reCount.mono_l : ∀ k, (∀ y0 y1 y2 y3 y4 y5, LeO (spec_reCount.l0 k y0 y1 y2 y3 y4 y5) (spec_reCount.l0 (k + 1) y0 y1 y2 y3 y4 y5))
 | 0 => fun _ _ _ _ _ _ r h => by simp [spec_reCount.l0] at h
 | k + 1 => by
  have ih0 := spec_reCount.mono_l k
  ·
   intro y0 y1 y2 y3 y4 y5
   unfold spec_reCount.l0
   repeat' (with_reducible first | exact ih0 _ _ _ _ _ _ | exact LeO.refl _ | exact LeO.none _ | refine LeO.ite ?_ ?_ | refine LeO.bind ?_ (fun _ => ?_))
theorem spec_reCount.mono : ∀ a0 a1 a2 k, LeO (spec_reCount.f k a0 a1 a2) (spec_reCount.f (k + 1) a0 a1 a2) := by
 intro a0 a1 a2 k
 have ih0 := spec_reCount.mono_l k
 unfold spec_reCount.f
 repeat' (with_reducible first | exact ih0 _ _ _ _ _ _ | exact LeO.refl _ | exact LeO.none _ | refine LeO.ite ?_ ?_ | refine LeO.bind ?_ (fun _ => ?_))
theorem spec_reCount.calls (k : Nat) (A0 : Option Addr) (c0 : Nat) (l0 : List Int) (a1 : Int) (a2 : Int) (r : Int) (w : World) (hr0 : Kd.C (Kd.int .i64) w A0 l0.length l0) (hc0 : l0.length ≤ c0) (h : spec_reCount.f k l0 a1 a2 = some r) :
  Calls Try.prog 34 #[.slice A0 l0.length c0, .int .i64 a1, .int .i64 a2] w fun e w' => e = .returned (.int .i64 r) ∧ Drawn0 w w' := by
 have HR0 := Aside0.mk hr0
 have HC0 := Aside0.mk hc0
 clear hr0 hc0
 unfold spec_reCount.f at h
 have H := h; clear h
 have H' := Aside0.mk H
 clear H
 go_enter Try.func34, Try.ntmps34
 go_wp2
 go_loopg [7, 12] k (fun kq v7 v12 w' => ∃ (x7_1 : Int) (x12_1 : Int), v7 = .int .i64 x7_1 ∧ v12 = .int .i64 x12_1 ∧ Aside0 (spec_reCount.l0 kq a1 a2 x7_1 l0 (l0.length : Int) x12_1 = some r) ∧ Aside0 (kq ≤ k) ∧ Drawn0 w w')
 case atStart => exact ⟨(0), (0), qc8f_, qc8f_, H', ⟨Nat.le_refl _⟩, qffa_⟩
 case round =>
  clear H'; try clear p2; try clear c3
  obtain ⟨x7_1, x12_1, rfl, rfl, HA, HK1, ⟨m1, rfl⟩⟩ := hrel
  cases gk with
  | zero => exact absurd HA.out (by simp [spec_reCount.l0])
  | succ k1 =>
   have H := HA.out
   clear HA
   simp only [spec_reCount.l0] at H
   by_cases c4 : x12_1 < (l0.length : Int)
   ·
    rw [if_pos c4] at H
    have c4b0 := decide_eq_true c4
    clear c4
    by_cases c5 : 0 ≤ x12_1
    ·
     rw [if_pos c5] at H
     have c5b0 := decide_eq_true c5
     clear c5
     by_cases c6 : x12_1 < (l0.length : Int)
     ·
      rw [if_pos c6] at H
      have c6b0 := decide_eq_true c6
      clear c6
      by_cases c7 : (rd l0 x12_1) > a2
      ·
       rw [if_pos c7] at H
       have c7b0 := decide_eq_true c7
       clear c7
       have H' := Aside0.mk H
       clear H
       have p280 : 0 ≤ (x12_1 : Int) := of_decide_eq_true qe84_
       have q280 : x12_1 < (l0.length : Int) := of_decide_eq_true qe84_
       obtain ⟨ad280, e280, hx280_0⟩ := Kd.at_int HR0.out x12_1 p280 q280
       cases e280
       replace p280 := eq_true p280
       replace q280 := eq_true q280
       go_wp2
       go_roundg k1
       case measure => have := HK1.out; omega
       case rel => exact ⟨(wrap64 (x7_1 + 1)), (wrap64 (x12_1 + 1)), qc8f_, qc8f_, H', ⟨by have := HK1.out; omega⟩, qffa_⟩
      ·
       rw [if_neg c7] at H
       have c7b0 := decide_eq_false c7
       clear c7
       by_cases c8 : x12_1 < a1
       ·
        rw [if_pos c8] at H
        have c8b0 := decide_eq_true c8
        clear c8
        have H' := Aside0.mk H
        clear H
        have p280 : 0 ≤ (x12_1 : Int) := of_decide_eq_true qe84_
        have q280 : x12_1 < (l0.length : Int) := of_decide_eq_true qe84_
        obtain ⟨ad280, e280, hx280_0⟩ := Kd.at_int HR0.out x12_1 p280 q280
        cases e280
        replace p280 := eq_true p280
        replace q280 := eq_true q280
        go_wp2
        go_roundg k1
        case measure => have := HK1.out; omega
        case rel => exact ⟨(wrap64 (x7_1 + 1)), (wrap64 (x12_1 + 1)), qc8f_, qc8f_, H', ⟨by have := HK1.out; omega⟩, qffa_⟩
       ·
        rw [if_neg c8] at H
        have c8b0 := decide_eq_false c8
        clear c8
        have H' := Aside0.mk H
        clear H
        have p280 : 0 ≤ (x12_1 : Int) := of_decide_eq_true qe84_
        have q280 : x12_1 < (l0.length : Int) := of_decide_eq_true qe84_
        obtain ⟨ad280, e280, hx280_0⟩ := Kd.at_int HR0.out x12_1 p280 q280
        cases e280
        replace p280 := eq_true p280
        replace q280 := eq_true q280
        go_wp2
        go_roundg k1
        case measure => have := HK1.out; omega
        case rel => exact ⟨(x7_1), (wrap64 (x12_1 + 1)), qc8f_, qc8f_, H', ⟨by have := HK1.out; omega⟩, qffa_⟩
     ·
      rw [if_neg c6] at H
      exact absurd H (by simp)
    ·
     rw [if_neg c5] at H
     exact absurd H (by simp)
   ·
    rw [if_neg c4] at H
    have c4b0 := decide_eq_false c4
    clear c4
    obtain rfl := Option.some.inj H
    go_wp2
    go_ret
    exact ⟨qc8f_, qffa_⟩

end Go.Proofs.Ythanbhbibjnmjaa.PAll
