-- written by a program of this session (wip/gen/xpatch.py over the translation); Lean checks it
import Derived.Test.YthanbhbibjnmjaaPAllx0
import Derived.Test.YthanbhbibjnmjaaPAllx1
namespace Go.Proofs.Ythanbhbibjnmjaa.PAll
open Go.RowKit Go.Proofs.Ythanbhbibjnmjaa.Hand Go.Proofs.YthanbhbibjnmjaaW.PrintWords Go.Proofs.YthanbhbibjnmjaaW.PrintLast Go.Proofs.YthanbhbibjnmjaaW.PrintMore
attribute [local go_sem] max2_int min2_int max_two min_two max_three min_three max_four min_four   -- for this text's walks alone
set_option maxHeartbeats 8000000
set_option maxRecDepth 100000
set_option linter.unusedVariables false
set_option linter.unusedSimpArgs false

/-! ### impl_parkingAt: function 29 -/
mutual
def impl_parkingAt.l0 : Nat → Int → Int → List Int → Option (List Int)
 | 0, _, _, _ => none
 | k + 1, x0, x1, x5 => if (x5.length : Int) < x0 then (impl_parkingAt.l1 k x0 x1 x5 0) else (some x5)
def impl_parkingAt.l1 : Nat → Int → Int → List Int → Int → Option (List Int)
 | 0, _, _, _, _ => none
 | k + 1, x0, x1, x5, x6 => (slices_Clone_int_int.f x5).bind fun t149 => (if t149.length < 17592186044416 then ((impl_completions.f k (t149 ++ [x6]) x0).bind fun t155 => (if x1 < t155 then (if x5.length < 17592186044416 then (impl_parkingAt.l0 k x0 x1 (x5 ++ [x6])) else (none)) else (impl_parkingAt.l1 k x0 (wrap64 (x1 - t155)) x5 (wrap64 (x6 + 1))))) else (none))
end
def impl_parkingAt.f (k : Nat) (a0 : Int) (a1 : Int) : Option (List Int) := impl_parkingAt.l0 k a0 a1 (([] : List Int))
theorem impl_parkingAt.mono_l : ∀ k, (∀ y0 y1 y2, LeO (impl_parkingAt.l0 k y0 y1 y2) (impl_parkingAt.l0 (k + 1) y0 y1 y2)) ∧ (∀ y0 y1 y2 y3, LeO (impl_parkingAt.l1 k y0 y1 y2 y3) (impl_parkingAt.l1 (k + 1) y0 y1 y2 y3))
 | 0 => ⟨fun _ _ _ r h => by simp [impl_parkingAt.l0] at h, fun _ _ _ _ r h => by simp [impl_parkingAt.l1] at h⟩
 | k + 1 => by
  obtain ⟨ih0, ih1⟩ := impl_parkingAt.mono_l k
  refine ⟨?_, ?_⟩
  ·
   intro y0 y1 y2
   unfold impl_parkingAt.l0
   repeat' (with_reducible first | exact ih0 _ _ _ | exact ih1 _ _ _ _ | exact impl_completions.mono _ _ _ | exact LeO.refl _ | exact LeO.none _ | refine LeO.ite ?_ ?_ | refine LeO.bind ?_ (fun _ => ?_))
  ·
   intro y0 y1 y2 y3
   unfold impl_parkingAt.l1
   repeat' (with_reducible first | exact ih0 _ _ _ | exact ih1 _ _ _ _ | exact impl_completions.mono _ _ _ | exact LeO.refl _ | exact LeO.none _ | refine LeO.ite ?_ ?_ | refine LeO.bind ?_ (fun _ => ?_))
theorem impl_parkingAt.mono : ∀ a0 a1 k, LeO (impl_parkingAt.f k a0 a1) (impl_parkingAt.f (k + 1) a0 a1) := by
 intro a0 a1 k
 obtain ⟨ih0, ih1⟩ := impl_parkingAt.mono_l k
 unfold impl_parkingAt.f
 repeat' (with_reducible first | exact ih0 _ _ _ | exact ih1 _ _ _ _ | exact impl_completions.mono _ _ _ | exact LeO.refl _ | exact LeO.none _ | refine LeO.ite ?_ ?_ | refine LeO.bind ?_ (fun _ => ?_))
theorem impl_parkingAt.calls (k : Nat) (a0 : Int) (a1 : Int) (r : List Int) (w : World) (h : impl_parkingAt.f k a0 a1 = some r) :
  Calls Try.prog 29 #[.int .i64 a0, .int .i64 a1] w fun e w' => ∃ v0_ : Value, e = .returned (v0_) ∧ Kd.R (Kd.int .i64) 3 w' w.heap.size (fun _ => True) v0_ r ∧ Below w.heap.size w w' := by
 have HB := Aside0.mk (Below.refl w.heap.size w)
 unfold impl_parkingAt.f at h
 have H := h; clear h
 obtain ⟨y146, hy146⟩ : ∃ y_ : List Int, y_ = (([] : List Int)) := ⟨_, rfl⟩
 replace H : (impl_parkingAt.l0 k a0 a1 y146) = some r := by first | (rw [hy146]; with_reducible exact H) | (have H2_ := (Option.bind_some _ _).symm.trans H; rw [hy146]; with_reducible exact H2_) | (have H2_ := (Option.bind_some _ _).symm.trans H; with_reducible exact H2_) | with_reducible exact H | (rw [hy146]; exact H) | exact H
 have Ny146 := Aside0.mk hy146
 clear hy146
 have H' := Aside0.mk H
 clear H
 go_enter Try.func29, Try.ntmps29
 go_wp2_with (first | ((with_reducible refine gate_dst (N := 8) rfl ?_); refine Kd.R_lit (Kd.int .i64) _ 3 ?hg (N := 8) ?hd (xs := ([] : List Int)) (inner := []) (ok := fun _ => True) (okp := fun _ => True) ?hr ?hp (fun _ hk => hk) trivial (Below.refl _ _) (Nat.le_refl _) (by simp) ?_; (case hd => rfl); (case hg => rfl); (case hr => exact qba7_); (case hp => exact (Reps.none _ _)); intro v147 w3 ho4 hb hg_ hnew_; clear hg_ hnew_; (first | rw [← Ny146.out] at ho4 | (simp only [Int.reduceToNat] at ho4; rw [← Ny146.out] at ho4)); have HO148 := Aside0.mk (Kd.R_lower ho4 (below_size q0c4_)); replace HB := Aside0.mk (below_step q0c4_ hb); clear hb ho4))
 go_loopg [1, 5] k (fun kq v1 v5 w' => ∃ (x1_1 : Int) (x5_1 : List Int), v1 = .int .i64 x1_1 ∧ Aside0 (impl_parkingAt.l0 kq a0 x1_1 x5_1 = some r) ∧ Aside0 (kq ≤ k) ∧ Aside0 (Kd.R (Kd.int .i64) 3 w' w.heap.size (fun _ => True) v5 x5_1) ∧ Aside0 (Below w.heap.size w w'))
 case atStart => exact ⟨(a1), (y146), qc8f_, H', ⟨Nat.le_refl _⟩, ⟨q9d5_ HO148.out⟩, ⟨q0c4_⟩⟩
 case round =>
  clear H'; try clear c2; try clear p2
  obtain ⟨x1_1, x5_1, rfl, HA, HK1, HO_5, HB⟩ := hrel
  cases gk with
  | zero => exact absurd HA.out (by simp [impl_parkingAt.l0])
  | succ k1 =>
   have H := HA.out
   clear HA
   simp only [impl_parkingAt.l0] at H
   by_cases c5 : (x5_1.length : Int) < a0
   ·
    rw [if_pos c5] at H
    have c5b0 := decide_eq_true c5
    clear c5
    have H' := Aside0.mk H
    clear H
    obtain ⟨Ao6, co6, eo6⟩ := Kd.R_slice HO_5.out
    subst eo6
    go_wp2
    go_loopg [1, 6] k1 (fun kq v1 v6 w' => ∃ (x1_2 : Int) (x6_2 : Int), v1 = .int .i64 x1_2 ∧ v6 = .int .i64 x6_2 ∧ Aside0 (impl_parkingAt.l1 kq a0 x1_2 x5_1 x6_2 = some r) ∧ Aside0 (kq ≤ k1) ∧ Aside0 (Kd.R (Kd.int .i64) 3 w' w.heap.size (fun _ => True) (.slice Ao6 x5_1.length co6) x5_1) ∧ Aside0 (Below w.heap.size w w'))
    case atStart => exact ⟨(x1_1), (0), qc8f_, qc8f_, H', ⟨Nat.le_refl _⟩, ⟨q9d5_ HO_5.out⟩, ⟨q0c4_⟩⟩
    case round =>
     clear H'; try clear c2; try clear p2; try clear c5; try clear c5b0; try clear p2
     obtain ⟨x1_2, x6_2, rfl, rfl, HA, HK2, HO_5, HB⟩ := hrel
     cases gk with
     | zero => exact absurd HA.out (by simp [impl_parkingAt.l1])
     | succ k2 =>
      have H := HA.out
      clear HA
      simp only [impl_parkingAt.l1] at H
      obtain ⟨t149, A7, H⟩ := ob_ H
      by_cases c8 : t149.length < 17592186044416
      ·
       rw [if_pos c8] at H
       have LMc8 := Aside0.mk c8
       clear c8
       obtain ⟨y152, hy152⟩ : ∃ y_ : List Int, y_ = (t149 ++ [x6_2]) := ⟨_, rfl⟩
       replace H : ((impl_completions.f k2 y152 a0).bind fun t155 => (if x1_2 < t155 then (if x5_1.length < 17592186044416 then (impl_parkingAt.l0 k2 a0 x1_2 (x5_1 ++ [x6_2])) else (none)) else (impl_parkingAt.l1 k2 a0 (wrap64 (x1_2 - t155)) x5_1 (wrap64 (x6_2 + 1))))) = some r := by first | (rw [hy152]; with_reducible exact H) | (have H2_ := (Option.bind_some _ _).symm.trans H; rw [hy152]; with_reducible exact H2_) | (have H2_ := (Option.bind_some _ _).symm.trans H; with_reducible exact H2_) | with_reducible exact H | (rw [hy152]; exact H) | exact H
       have Ny152 := Aside0.mk hy152
       clear hy152
       obtain ⟨t155, A9, H⟩ := ob_ H
       by_cases c10 : x1_2 < t155
       ·
        rw [if_pos c10] at H
        have c10b0 := decide_eq_true c10
        clear c10
        by_cases c11 : x5_1.length < 17592186044416
        ·
         rw [if_pos c11] at H
         have LMc11 := Aside0.mk c11
         clear c11
         obtain ⟨y156, hy156⟩ : ∃ y_ : List Int, y_ = (x5_1 ++ [x6_2]) := ⟨_, rfl⟩
         replace H : (impl_parkingAt.l0 k2 a0 x1_2 y156) = some r := by first | (rw [hy156]; with_reducible exact H) | (have H2_ := (Option.bind_some _ _).symm.trans H; rw [hy156]; with_reducible exact H2_) | (have H2_ := (Option.bind_some _ _).symm.trans H; with_reducible exact H2_) | with_reducible exact H | (rw [hy156]; exact H) | exact H
         have Ny156 := Aside0.mk hy156
         clear hy156
         have H' := Aside0.mk H
         clear H
         go_wp2_with (first | ((with_reducible refine gate_callee (f := 31) rfl ?_); refine gl_ 14 Try.func31 #[.slice Ao6 x5_1.length co6] ?_; (with_reducible refine (slices_Clone_int_int.calls _ _ x5_1 t149 _ ?s1 ?s2 A7.out).mono ?_); (case s1 => exact q5a8_ HO_5.out); (case s2 => exact (Kd.R_reads' HO_5.out).2.1); rintro e w12 ⟨v150, rfl, ho0, hb⟩; refine ⟨_, rfl, ?_⟩; have n0_ := Aside0.mk (Kd.R_elder' (q9d5_ HO_5.out) (Kd.R_base ho0) hb); have n1_ := Aside0.mk (Kd.R_lower (Kd.R_new' ho0 (Kd.R_lt (q9d5_ HO_5.out))) (below_size q0c4_)); have n2_ := Aside0.mk (below_step q0c4_ hb); replace HO_5 := n0_; have HO151 := n1_; replace HB := n2_; clear n0_ n1_ n2_; clear hb ho0) | ((with_reducible refine gate_builtin (b := .append) (xs := #[.tmp 14, .tmp 16]) rfl ?_); at_builtin; refine Kd.R_append (Kd.int .i64) (w0 := w) w.heap.size rfl (.tmp 14) (.tmp 16) 31 3 (.int .i64 0) 8 rfl Try.underlying31 info3 rfl (by decide) (by omega) v150 t149 x6_2 [.int .i64 x6_2] (fun k_ => some k_ ≠ (.slice Ao6 x5_1.length co6 : Value).ownBlock) (fun _ => False) rfl rfl ?aP (fun _ hk => hk.elim) ?aF ?aO ?aB ?aS ?aL ?_; (case aP => exact rfl); (case aB => exact q0c4_); (case aF => exact (fun k_ hk => Kd.fresh' (Kd.R_lt (q9d5_ HO_5.out)) k_ hk)); (case aO => exact (qe0f_ HO151.out)); (case aS => exact (below_size q0c4_)); (case aL => have := LMc8.out; omega); intro v153 w13 ho hb hg hat; rw [← Ny152.out] at ho; have n0_ := Aside0.mk (Kd.R_after (ok := (fun _ => True)) (q9d5_ HO_5.out) hg hat); have n1_ := Aside0.mk (hb); have n2_ := Aside0.mk (ho); replace HO_5 := n0_; replace HB := n1_; have HO154 := n2_; clear n0_ n1_ n2_; clear ho hb hg hat; obtain ⟨Ao14, co14, eo14⟩ := Kd.R_slice HO154.out; subst eo14) | ((with_reducible refine gate_callee (f := 44) rfl ?_); refine gl_ 19 Try.func44 #[.slice Ao14 y152.length co14, .int .i64 a0] ?_; (with_reducible refine (impl_completions.calls k2 _ _ y152 a0 t155 _ ?s1 ?s2 A9.out).mono ?_); (case s1 => exact q5a8_ HO154.out); (case s2 => exact (Kd.R_reads' HO154.out).2.1); rintro e w15 ⟨rfl, hb⟩; refine ⟨_, rfl, ?_⟩; replace HO_5 := Aside0.mk (Kd.R_below (q9d5_ HO_5.out) hb); replace HO154 := Aside0.mk (Kd.R_below (q9d5_ HO154.out) hb); replace HB := Aside0.mk (below_step q0c4_ hb); clear hb) | ((with_reducible refine gate_builtin (b := .append) (xs := #[.tmp 28, .tmp 30]) rfl ?_); at_builtin; refine Kd.R_append (Kd.int .i64) (w0 := w) w.heap.size rfl (.tmp 28) (.tmp 30) 31 3 (.int .i64 0) 8 rfl Try.underlying31 info3 rfl (by decide) (by omega) (.slice Ao6 x5_1.length co6) x5_1 x6_2 [.int .i64 x6_2] (fun k_ => some k_ ≠ (.slice Ao14 y152.length co14 : Value).ownBlock) (fun _ => False) rfl rfl ?aP (fun _ hk => hk.elim) ?aF ?aO ?aB ?aS ?aL ?_; (case aP => exact rfl); (case aB => exact q0c4_); (case aF => exact (fun k_ hk => Kd.fresh' (Kd.R_lt (q9d5_ HO154.out)) k_ hk)); (case aO => exact (qe0f_ HO_5.out)); (case aS => exact (below_size q0c4_)); (case aL => have := LMc11.out; omega); intro v157 w16 ho hb hg hat; rw [← Ny156.out] at ho; have n0_ := Aside0.mk (Kd.R_after (ok := (fun _ => True)) (by (with_reducible repeat (first | apply Kd.R_alloc | apply Kd.R_drewN | apply Kd.R_drew)); exact Kd.R_mono HO154.out (fun _ hk => ⟨trivial, hk⟩)) hg hat); have n1_ := Aside0.mk (hb); have n2_ := Aside0.mk (ho); replace HO154 := n0_; replace HB := n1_; have HO158 := n2_; clear n0_ n1_ n2_; clear ho hb hg hat))
         go_roundg k2
         case measure => have := HK1.out; have := HK2.out; omega
         case rel => exact ⟨(x1_2), (y156), qc8f_, H', ⟨q37b_ HK1.out HK2.out⟩, ⟨q7d9_ HO158.out⟩, ⟨q0c4_⟩⟩
        ·
         rw [if_neg c11] at H
         exact absurd H (by simp)
       ·
        rw [if_neg c10] at H
        have c10b0 := decide_eq_false c10
        clear c10
        have H' := Aside0.mk H
        clear H
        go_wp2_with (first | ((with_reducible refine gate_callee (f := 31) rfl ?_); refine gl_ 14 Try.func31 #[.slice Ao6 x5_1.length co6] ?_; (with_reducible refine (slices_Clone_int_int.calls _ _ x5_1 t149 _ ?s1 ?s2 A7.out).mono ?_); (case s1 => exact q5a8_ HO_5.out); (case s2 => exact (Kd.R_reads' HO_5.out).2.1); rintro e w17 ⟨v150, rfl, ho0, hb⟩; refine ⟨_, rfl, ?_⟩; have n0_ := Aside0.mk (Kd.R_elder' (q9d5_ HO_5.out) (Kd.R_base ho0) hb); have n1_ := Aside0.mk (Kd.R_lower (Kd.R_new' ho0 (Kd.R_lt (q9d5_ HO_5.out))) (below_size q0c4_)); have n2_ := Aside0.mk (below_step q0c4_ hb); replace HO_5 := n0_; have HO151 := n1_; replace HB := n2_; clear n0_ n1_ n2_; clear hb ho0) | ((with_reducible refine gate_builtin (b := .append) (xs := #[.tmp 14, .tmp 16]) rfl ?_); at_builtin; refine Kd.R_append (Kd.int .i64) (w0 := w) w.heap.size rfl (.tmp 14) (.tmp 16) 31 3 (.int .i64 0) 8 rfl Try.underlying31 info3 rfl (by decide) (by omega) v150 t149 x6_2 [.int .i64 x6_2] (fun k_ => some k_ ≠ (.slice Ao6 x5_1.length co6 : Value).ownBlock) (fun _ => False) rfl rfl ?aP (fun _ hk => hk.elim) ?aF ?aO ?aB ?aS ?aL ?_; (case aP => exact rfl); (case aB => exact q0c4_); (case aF => exact (fun k_ hk => Kd.fresh' (Kd.R_lt (q9d5_ HO_5.out)) k_ hk)); (case aO => exact (qe0f_ HO151.out)); (case aS => exact (below_size q0c4_)); (case aL => have := LMc8.out; omega); intro v153 w18 ho hb hg hat; rw [← Ny152.out] at ho; have n0_ := Aside0.mk (Kd.R_after (ok := (fun _ => True)) (q9d5_ HO_5.out) hg hat); have n1_ := Aside0.mk (hb); have n2_ := Aside0.mk (ho); replace HO_5 := n0_; replace HB := n1_; have HO154 := n2_; clear n0_ n1_ n2_; clear ho hb hg hat; obtain ⟨Ao19, co19, eo19⟩ := Kd.R_slice HO154.out; subst eo19) | ((with_reducible refine gate_callee (f := 44) rfl ?_); refine gl_ 19 Try.func44 #[.slice Ao19 y152.length co19, .int .i64 a0] ?_; (with_reducible refine (impl_completions.calls k2 _ _ y152 a0 t155 _ ?s1 ?s2 A9.out).mono ?_); (case s1 => exact q5a8_ HO154.out); (case s2 => exact (Kd.R_reads' HO154.out).2.1); rintro e w20 ⟨rfl, hb⟩; refine ⟨_, rfl, ?_⟩; replace HO_5 := Aside0.mk (Kd.R_below (q9d5_ HO_5.out) hb); replace HO154 := Aside0.mk (Kd.R_below (q9d5_ HO154.out) hb); replace HB := Aside0.mk (below_step q0c4_ hb); clear hb))
        go_roundg k2
        case measure => have := HK1.out; have := HK2.out; omega
        case rel => exact ⟨(wrap64 (x1_2 - t155)), (wrap64 (x6_2 + 1)), qc8f_, qc8f_, H', ⟨q37b_ HK1.out HK2.out⟩, ⟨q7d9_ HO_5.out⟩, ⟨q0c4_⟩⟩
      ·
       rw [if_neg c8] at H
       exact absurd H (by simp)
   ·
    rw [if_neg c5] at H
    have c5b0 := decide_eq_false c5
    clear c5
    obtain rfl := Option.some.inj H
    obtain ⟨Ao21, co21, eo21⟩ := Kd.R_slice HO_5.out
    subst eo21
    go_wp2
    go_ret
    exact ⟨_, qce7_, q9d5_ HO_5.out, q0c4_⟩

/-! ### impl_allParking: function 16 -/
def impl_allParking.l0 : Nat → Int → List (List Int) → Int → Int → Option ((List (List Int)))
 | 0, _, _, _, _ => none
 | k + 1, x0, x3, x7, x8 => if x8 < x7 then ((impl_parkingAt.f k x0 x8).bind fun t163 => (if x3.length < 5864062014805 then (impl_allParking.l0 k x0 (x3 ++ [t163]) x7 (wrap64 (x8 + 1))) else (none))) else (some x3)
def impl_allParking.f (k : Nat) (a0 : Int) : Option ((List (List Int))) := (impl_countParking.f k a0).bind fun t162 => (impl_allParking.l0 k a0 (([] : List (List Int))) t162 0)
theorem impl_allParking.mono_l : ∀ k, (∀ y0 y1 y2 y3, LeO (impl_allParking.l0 k y0 y1 y2 y3) (impl_allParking.l0 (k + 1) y0 y1 y2 y3))
 | 0 => fun _ _ _ _ r h => by simp [impl_allParking.l0] at h
 | k + 1 => by
  have ih0 := impl_allParking.mono_l k
  ·
   intro y0 y1 y2 y3
   unfold impl_allParking.l0
   repeat' (with_reducible first | exact ih0 _ _ _ _ | exact impl_countParking.mono _ _ | exact impl_parkingAt.mono _ _ _ | exact LeO.refl _ | exact LeO.none _ | refine LeO.ite ?_ ?_ | refine LeO.bind ?_ (fun _ => ?_))
theorem impl_allParking.mono : ∀ a0 k, LeO (impl_allParking.f k a0) (impl_allParking.f (k + 1) a0) := by
 intro a0 k
 have ih0 := impl_allParking.mono_l k
 unfold impl_allParking.f
 repeat' (with_reducible first | exact ih0 _ _ _ _ | exact impl_countParking.mono _ _ | exact impl_parkingAt.mono _ _ _ | exact LeO.refl _ | exact LeO.none _ | refine LeO.ite ?_ ?_ | refine LeO.bind ?_ (fun _ => ?_))
theorem impl_allParking.calls (k : Nat) (a0 : Int) (r : List (List Int)) (w : World) (h : impl_allParking.f k a0 = some r) :
  Calls Try.prog 16 #[.int .i64 a0] w fun e w' => ∃ v0_ : Value, e = .returned (v0_) ∧ Kd.S (Kd.slice 3 (Kd.int .i64)) 31 w' w.heap.size (fun _ => True) v0_ r ∧ Below w.heap.size w w' := by
 have HB := Aside0.mk (Below.refl w.heap.size w)
 unfold impl_allParking.f at h
 have H := h; clear h
 obtain ⟨y159, hy159⟩ : ∃ y_ : List (List Int), y_ = (([] : List (List Int))) := ⟨_, rfl⟩
 replace H : ((impl_countParking.f k a0).bind fun t162 => (impl_allParking.l0 k a0 y159 t162 0)) = some r := by first | (rw [hy159]; with_reducible exact H) | (have H2_ := (Option.bind_some _ _).symm.trans H; rw [hy159]; with_reducible exact H2_) | (have H2_ := (Option.bind_some _ _).symm.trans H; with_reducible exact H2_) | with_reducible exact H | (rw [hy159]; exact H) | exact H
 have Ny159 := Aside0.mk hy159
 clear hy159
 obtain ⟨t162, A2, H⟩ := ob_ H
 have H' := Aside0.mk H
 clear H
 go_enter Try.func16, Try.ntmps16
 go_wp2_with (first | ((with_reducible refine gate_dst (N := 5) rfl ?_); refine Kd.S_lit (Kd.slice 3 (Kd.int .i64)) _ 31 ?hg (N := 5) ?hd (xs := ([] : List (List Int))) (inner := []) (ok := fun _ => True) (okp := fun _ => True) ?hr ?hp (fun _ hk => hk) trivial (Below.refl _ _) (Nat.le_refl _) (by simp) ?_; (case hd => rfl); (case hg => rfl); (case hr => exact qba7_); (case hp => exact (Reps.none _ _)); intro v160 w3 ho4 hb hg_ hnew_; clear hg_ hnew_; (first | rw [← Ny159.out] at ho4 | (simp only [Int.reduceToNat] at ho4; rw [← Ny159.out] at ho4)); have HO161 := Aside0.mk (Kd.S_lower ho4 (below_size q0c4_)); replace HB := Aside0.mk (below_step q0c4_ hb); clear hb ho4) | ((with_reducible refine gate_callee (f := 28) rfl ?_); refine gl_ 7 Try.func28 #[.int .i64 a0] ?_; (with_reducible refine (impl_countParking.calls k a0 t162 _ A2.out).mono ?_); rintro e w5 ⟨rfl, hb⟩; refine ⟨_, rfl, ?_⟩; replace HO161 := Aside0.mk (Kd.S_below (qd7e_ HO161.out) hb); replace HB := Aside0.mk (below_step q0c4_ hb); clear hb))
 go_loopg [3, 8] k (fun kq v3 v8 w' => ∃ (x3_1 : List (List Int)) (x8_1 : Int), v8 = .int .i64 x8_1 ∧ Aside0 (impl_allParking.l0 kq a0 x3_1 t162 x8_1 = some r) ∧ Aside0 (kq ≤ k) ∧ Aside0 (Kd.S (Kd.slice 3 (Kd.int .i64)) 31 w' w.heap.size (fun _ => True) v3 x3_1) ∧ Aside0 (Below w.heap.size w w'))
 case atStart => exact ⟨(y159), (0), qc8f_, H', ⟨Nat.le_refl _⟩, ⟨qd7e_ HO161.out⟩, ⟨q0c4_⟩⟩
 case round =>
  clear H'; try clear c1; try clear c2; try clear p2
  obtain ⟨x3_1, x8_1, rfl, HA, HK1, HO_3, HB⟩ := hrel
  cases gk with
  | zero => exact absurd HA.out (by simp [impl_allParking.l0])
  | succ k1 =>
   have H := HA.out
   clear HA
   simp only [impl_allParking.l0] at H
   by_cases c6 : x8_1 < t162
   ·
    rw [if_pos c6] at H
    have c6b0 := decide_eq_true c6
    clear c6
    obtain ⟨t163, A7, H⟩ := ob_ H
    by_cases c8 : x3_1.length < 5864062014805
    ·
     rw [if_pos c8] at H
     have LMc8 := Aside0.mk c8
     clear c8
     obtain ⟨y166, hy166⟩ : ∃ y_ : List (List Int), y_ = (x3_1 ++ [t163]) := ⟨_, rfl⟩
     replace H : (impl_allParking.l0 k1 a0 y166 t162 (wrap64 (x8_1 + 1))) = some r := by first | (rw [hy166]; with_reducible exact H) | (have H2_ := (Option.bind_some _ _).symm.trans H; rw [hy166]; with_reducible exact H2_) | (have H2_ := (Option.bind_some _ _).symm.trans H; with_reducible exact H2_) | with_reducible exact H | (rw [hy166]; exact H) | exact H
     have Ny166 := Aside0.mk hy166
     clear hy166
     have H' := Aside0.mk H
     clear H
     go_wp2_with (first | ((with_reducible refine gate_callee (f := 29) rfl ?_); refine gl_ 14 Try.func29 #[.int .i64 a0, .int .i64 x8_1] ?_; (with_reducible refine (impl_parkingAt.calls k1 a0 x8_1 t163 _ A7.out).mono ?_); rintro e w9 ⟨v164, rfl, ho0, hb⟩; refine ⟨_, rfl, ?_⟩; replace HO_3 := Aside0.mk (Kd.S_elder' (qd7e_ HO_3.out) (Kd.R_base ho0) hb); have HO165 := Aside0.mk (Kd.R_lower ho0 (below_size q0c4_)); replace HB := Aside0.mk (below_step q0c4_ hb); clear hb ho0; obtain ⟨Ao11, co11, eo11⟩ := Kd.R_slice HO165.out; subst eo11) | ((with_reducible refine gate_builtin (b := .append) (xs := #[.tmp 11, .tmp 15]) rfl ?_); at_builtin; refine Kd.S_append (Kd.slice 3 (Kd.int .i64)) (w0 := w) w.heap.size rfl (.tmp 11) (.tmp 15) 28 31 (.slice none 0 0) 24 rfl Try.underlying28 info31 rfl (by decide) (by omega) u3 x3_1 t163 [.slice Ao11 t163.length co11] (fun _ => True) (fun k_ => some k_ = (.slice Ao11 t163.length co11 : Value).ownBlock) rfl rfl ?aP (fun k_ hk_ => ((Kd.R_mono (ok' := fun k_ => ((fun _ => True)) k_ ∧ some k_ ≠ (u3 : Value).ownBlock) (Kd.R_apart' (HO165.out) (Kd.S_typed HO_3.out) (by decide)) (fun k_ hk => ⟨trivial, hk.2⟩))).1 k_ hk_.symm) ?aF ?aO ?aB ?aS ?aL ?_; (case aP => exact Kd.M_row (Kd.R_mono (Kd.R_tight rfl (Kd.R_mono (ok' := fun k_ => ((fun _ => True)) k_ ∧ some k_ ≠ (u3 : Value).ownBlock) (Kd.R_apart' (HO165.out) (Kd.S_typed HO_3.out) (by decide)) (fun k_ hk => ⟨trivial, hk.2⟩))) (fun _ h_ => h_))); (case aB => exact q0c4_); (case aF => exact (fun _ _ => trivial)); (case aO => exact (by (with_reducible repeat (first | apply Kd.S_alloc | apply Kd.S_drewN | apply Kd.S_drew)); exact Kd.S_mono HO_3.out (fun k_ hk => ⟨trivial, fun e_ => hk.2 e_⟩))); (case aS => exact (below_size q0c4_)); (case aL => have := LMc8.out; omega); intro v167 w10 ho hb hg hat; rw [← Ny166.out] at ho; have n0_ := Aside0.mk (hb); have n1_ := Aside0.mk (ho); replace HB := n0_; have HO168 := n1_; clear n0_ n1_; clear ho hb hg hat))
     go_roundg k1
     case measure => have := HK1.out; omega
     case rel => exact ⟨(y166), (wrap64 (x8_1 + 1)), qc8f_, H', ⟨by have := HK1.out; omega⟩, ⟨qd7e_ HO168.out⟩, ⟨q0c4_⟩⟩
    ·
     rw [if_neg c8] at H
     exact absurd H (by simp)
   ·
    rw [if_neg c6] at H
    have c6b0 := decide_eq_false c6
    clear c6
    obtain rfl := Option.some.inj H
    go_wp2
    go_ret
    exact ⟨_, qce7_, qd7e_ HO_3.out, q0c4_⟩

/-! ### impl_labelAt: function 22 -/
def impl_labelAt.f (l0 : List Int) (a1 : Int) (a2 : Int) : Option (Int) := (countIf_labelAt1.f l0 a2).bind fun t170 => (if 0 ≤ a1 then (if a1 ≤ (l0.length : Int) then ((countIf_labelAt2.f (l0.take (a1 : Int).toNat) a2).bind fun t172 => (some (wrap64 (t170 + t172)))) else (none)) else (none))
def impl_labelAt.T1 : Bool × List (List Nat × List Nat) := (true, [([], []), ([], []), ([0, 1], [0, 1]), ([], []), ([], []), ([3, 4], [3, 4]), ([], []), ([5, 6, 2], [5, 6]), ([2, 7], [2, 7]), ([8, 7, 0, 1, 2, 3, 4, 5, 6, 7, 8], [8])])
def impl_labelAt.B1 : List Nat := [0, 0, 3, 0, 0, 24, 0, 127, 255, 511]
theorem impl_labelAt.tab1 : rtab .any (opsOf Try.f22 1) = impl_labelAt.T1 := by kernel_rfl
theorem impl_labelAt.bits1 : waitsOk impl_labelAt.T1.2 impl_labelAt.B1 = true := by kernel_rfl
theorem impl_labelAt.calls (A0 : Option Addr) (c0 : Nat) (l0 : List Int) (a1 : Int) (a2 : Int) (r : Int) (w : World) (hr0 : Kd.C (Kd.int .i64) w A0 l0.length l0) (hc0 : l0.length ≤ c0) (h : impl_labelAt.f l0 a1 a2 = some r) :
  Calls Try.prog 22 #[.slice A0 l0.length c0, .int .i64 a1, .int .i64 a2] w fun e w' => e = .returned (.int .i64 r) ∧ Below w.heap.size w w' := by
 have HR0 := Aside0.mk hr0
 have HC0 := Aside0.mk hc0
 clear hr0 hc0
 have HB := Aside0.mk (Below.refl w.heap.size w)
 unfold impl_labelAt.f at h
 have H := h; clear h
 obtain ⟨t170, A4, H⟩ := ob_ H
 by_cases c5 : 0 ≤ a1
 ·
  rw [if_pos c5] at H
  have c5b0 := eq_true c5
  have c5b1 := decide_eq_true c5
  clear c5
  by_cases c6 : a1 ≤ (l0.length : Int)
  ·
   rw [if_pos c6] at H
   have c6b0 := eq_true c6
   have c6b1 := decide_eq_true c6
   clear c6
   obtain ⟨t172, A7, H⟩ := ob_ H
   obtain rfl := Option.some.inj H
   go_enter Try.func22, Try.ntmps22
   try go_wp2_with (first | ((with_reducible refine gate_dst (N := 5) rfl ?_); refine box_event ?hg (N := 5) ?hd (cs := #[.int .i64 a2]) (t := 3) ?hr ?_; (case hd => rfl); (case hg => rfl); (case hr => exact qba7_); intro gb169 hg w8 hbox hb; have n0_ := Aside0.mk (below_step q0c4_ hb); have n1_ := Aside0.mk (hbox); have n2_ := Aside0.mk ((by rw [hg]; exact (below_size q0c4_) : w.heap.size ≤ gb169)); have n3_ := Aside0.mk ((by rw [hg]; exact (below_size q0c4_) : w.heap.size ≤ gb169)); replace HB := n0_; have BK169 := n1_; have GW169 := n2_; have GE169 := n3_; clear n0_ n1_ n2_ n3_; clear hb hbox hg))
   have n0_ := Aside0.mk (blk_drew BK169.out)
   have n1_ := Aside0.mk (below_drew1 HB.out)
   clear BK169 HB; have BK169 := n0_; have HB := n1_; clear n0_ n1_
   obtain ⟨i010, hi010, _, hsz10, _⟩ := info_parts info3
   obtain ⟨hcut10, hA10, hC10⟩ := print_take_of (P := Try.prog) (Value.int .i64) 0 31 3 .i64 Try.underlying31 hi010 hsz10 A0 c0 l0 a1 (of_decide_eq_true qe84_) (of_decide_eq_true qe84_) HC0.out
   have HR171 := Aside0.mk (Kd.C_of_reads (h1 := fun _ => rfl) (hA10 _ (Kd.reads_of_C HR0.out)))
   have HC171 := Aside0.mk hC10
   clear hA10 hC10 hi010 hsz10
   refine start_ (n := 10) (S := fun w' => True) (ds := []) #[false, false, false, false, false, false, false, false, false, false] (by kernel_rfl) rfl rfl trivial (fun hHeld => ?_); refine with_tabW impl_labelAt.tab1 impl_labelAt.bits1 (fun HT_ HW_ => ?_)
   generalize w8.drew = w9 at BK169 HB HR171 hHeld ⊢
   refine pure_ (i := 0) (N := some 7) (v := ?_) (a' := ?_) #[true, false, false, false, false, false, false, false, false, false] rfl rfl (any_of HT_.out (by kernel_rfl)) (fun _ _ _ h => h) (Or.inl ⟨by rfl, ?_⟩) ?_ ?_
   rotate_left
   ·
    intro w'
    go_simp
    with_reducible rfl
   rotate_left
   ·
    simp only [Act.put, List.setIfInBounds_toArray, List.set_cons_zero, List.set_cons_succ, i64_w, i32_w]
    rfl
   refine pure_ (i := 1) (N := some 8) (v := ?_) (a' := ?_) #[true, true, false, false, false, false, false, false, false, false] rfl rfl (any_of HT_.out (by kernel_rfl)) (fun _ _ _ h => h) (Or.inl ⟨by rfl, ?_⟩) ?_ ?_
   rotate_left
   ·
    intro w'
    go_simp
    with_reducible rfl
   rotate_left
   ·
    simp only [Act.put, List.setIfInBounds_toArray, List.set_cons_zero, List.set_cons_succ, i64_w, i32_w]
    rfl
   refine pure_ (i := 3) (N := some 10) (v := ?_) (a' := ?_) #[true, true, false, true, false, false, false, false, false, false] rfl rfl (any_of HT_.out (by kernel_rfl)) (fun _ _ _ h => h) (Or.inl ⟨by rfl, ?_⟩) ?_ ?_
   rotate_left
   ·
    intro w'
    go_simp
    with_reducible rfl
   rotate_left
   ·
    simp only [Act.put, List.setIfInBounds_toArray, List.set_cons_zero, List.set_cons_succ, i64_w, i32_w]
    rfl
   refine pure_ (i := 4) (N := some 11) (v := ?_) (a' := ?_) #[true, true, false, true, true, false, false, false, false, false] rfl rfl (any_of HT_.out (by kernel_rfl)) (fun _ _ _ h => h) (Or.inl ⟨by rfl, ?_⟩) ?_ ?_
   rotate_left
   ·
    intro w'
    go_simp
    with_reducible rfl
   rotate_left
   ·
    simp only [Act.put, List.setIfInBounds_toArray, List.set_cons_zero, List.set_cons_succ, i64_w, i32_w]
    rfl
   refine pure_ (i := 5) (N := some 12) (v := ?_) (a' := ?_) #[true, true, false, true, true, true, false, false, false, false] rfl rfl (any_of HT_.out (by kernel_rfl)) (fun _ _ _ h => h) (Or.inl ⟨by rfl, ?_⟩) ?_ ?_
   rotate_left
   ·
    intro w'
    go_simp
    with_reducible rfl
   rotate_left
   ·
    simp only [Act.put, List.setIfInBounds_toArray, List.set_cons_zero, List.set_cons_succ, i64_w, i32_w]
    rfl
   refine pure_ (i := 6) (N := some 13) (v := ?_) (a' := ?_) #[true, true, false, true, true, true, true, false, false, false] rfl rfl (any_of HT_.out (by kernel_rfl)) (fun _ _ _ h => h) (Or.inl ⟨by rfl, ?_⟩) ?_ ?_
   rotate_left
   ·
    intro w'
    go_simp
    with_reducible rfl
   rotate_left
   ·
    simp only [Act.put, List.setIfInBounds_toArray, List.set_cons_zero, List.set_cons_succ, i64_w, i32_w]
    rfl
   refine one_ (i := 2) (N := some 9) #[true, true, true, true, true, true, true, false, false, false] rfl rfl (one_of HT_.out (by kernel_rfl)) (by decide) (fun K hK => ?_)
   refine goes_ Try.func37 (by kernel_rfl) rfl #[.slice A0 l0.length c0, .func (.func 38) #[] #[.pointer (some ⟨gb169, 0, none⟩)]] (by rfl) rfl rfl qef5_ ?_
   with_reducible refine (countIf_labelAt1.calls _ _ l0 gb169 a2 t170 _ ?s1 ?s2 ?s3 A4.out).mono ?_
   (case s1 => exact qe02_ HR0.out)
   (case s2 => exact HC0.out)
   (case s3 => (with_reducible repeat (first | refine blk_drewN ?_ _ | refine blk_drew ?_ | refine blk_alloc ?_ _)); exact BK169.out)
   rintro e w' ⟨rfl, ⟨nd, rfl⟩⟩
   refine ⟨_, rfl, ?_⟩
   refine hK.out _ _ trivial (fun hHeld => ?_)
   clear hK K
   refine norm_ (a' := ?_) ?_ ?_
   rotate_left
   ·
    show Act.put _ (some 9) _ = _
    simp only [Act.put, List.setIfInBounds_toArray, List.set_cons_zero, List.set_cons_succ, i64_w, i32_w]
    rfl
   refine one_ (i := 7) (N := some 14) #[true, true, true, true, true, true, true, true, false, false] rfl rfl (one_of HT_.out (by kernel_rfl)) (by decide) (fun K hK => ?_)
   refine goes_ Try.func37 (by kernel_rfl) rfl #[.slice A0 (l0.take (a1 : Int).toNat).length c0, .func (.func 39) #[] #[.pointer (some ⟨gb169, 0, none⟩)]] (by rfl) rfl rfl (by (try simp only [List.map_toArray, List.map_cons, List.map_nil]); first | done | (rw [show (l0.take (a1 : Int).toNat).length = a1.toNat from (by rw [List.length_take]; have h_ : (a1 : Int) ≤ (l0.length : Int) := of_decide_eq_true qe84_; omega)] <;> rfl) | rfl | (simp only [List.length_drop, List.length_take]; rfl)) ?_
   with_reducible refine (countIf_labelAt2.calls _ _ (l0.take (a1 : Int).toNat) gb169 a2 t172 _ ?s1 ?s2 ?s3 A7.out).mono ?_
   (case s1 => repeat (first | exact (Kd.C_below HR171.out qbd5_) | (with_reducible refine Kd.C_alloc ?_ _) | (with_reducible refine Kd.C_drewN ?_ _) | (with_reducible refine Kd.C_drew ?_)))
   (case s2 => exact HC171.out)
   (case s3 => (with_reducible repeat (first | refine blk_drewN ?_ _ | refine blk_drew ?_ | refine blk_alloc ?_ _)); exact BK169.out)
   rintro e w' ⟨rfl, ⟨nd, rfl⟩⟩
   refine ⟨_, rfl, ?_⟩
   refine hK.out _ _ trivial (fun hHeld => ?_)
   clear hK K
   refine norm_ (a' := ?_) ?_ ?_
   rotate_left
   ·
    show Act.put _ (some 14) _ = _
    simp only [Act.put, List.setIfInBounds_toArray, List.set_cons_zero, List.set_cons_succ, i64_w, i32_w]
    rfl
   refine pure_ (i := 8) (N := some 15) (v := ?_) (a' := ?_) #[true, true, true, true, true, true, true, true, true, false] rfl rfl (any_of HT_.out (by kernel_rfl)) (fun _ _ _ h => h) (Or.inl ⟨by rfl, ?_⟩) ?_ ?_
   rotate_left
   ·
    intro w'
    go_simp
    with_reducible rfl
   rotate_left
   ·
    simp only [Act.put, List.setIfInBounds_toArray, List.set_cons_zero, List.set_cons_succ, i64_w, i32_w]
    rfl
   refine pure_ (i := 9) (N := some 6) (v := ?_) (a' := ?_) #[true, true, true, true, true, true, true, true, true, true] rfl rfl (any_of HT_.out (by kernel_rfl)) (fun _ _ _ h => h) (Or.inl ⟨by rfl, ?_⟩) ?_ ?_
   rotate_left
   ·
    intro w'
    go_simp
    with_reducible rfl
   rotate_left
   ·
    simp only [Act.put, List.setIfInBounds_toArray, List.set_cons_zero, List.set_cons_succ, i64_w, i32_w]
    rfl
   refine done_ (done_of HT_.out (by kernel_rfl)) ?_
   try go_wp2
   go_ret
   exact ⟨qce7_, qbd5_⟩
  ·
   rw [if_neg c6] at H
   exact absurd H (by simp)
 ·
  rw [if_neg c5] at H
  exact absurd H (by simp)

/-! ### slices_Index_int_int: function 45 -/
def slices_Index_int_int.l0 : Nat → List Int → Int → Int → Int → Option (Int)
 | 0, _, _, _, _ => none
 | k + 1, x0, x1, x7, x8 => if x8 < x7 then (if 0 ≤ x8 then (if x8 < (x0.length : Int) then (if x1 = (rd x0 x8) then (some x8) else (slices_Index_int_int.l0 k x0 x1 x7 (wrap64 (x8 + 1)))) else (none)) else (none)) else (some (-1))
def slices_Index_int_int.f (k : Nat) (l0 : List Int) (a1 : Int) : Option (Int) := slices_Index_int_int.l0 k l0 a1 (l0.length : Int) 0
theorem slices_Index_int_int.mono_l : ∀ k, (∀ y0 y1 y2 y3, LeO (slices_Index_int_int.l0 k y0 y1 y2 y3) (slices_Index_int_int.l0 (k + 1) y0 y1 y2 y3))
 | 0 => fun _ _ _ _ r h => by simp [slices_Index_int_int.l0] at h
 | k + 1 => by
  have ih0 := slices_Index_int_int.mono_l k
  ·
   intro y0 y1 y2 y3
   unfold slices_Index_int_int.l0
   repeat' (with_reducible first | exact ih0 _ _ _ _ | exact LeO.refl _ | exact LeO.none _ | refine LeO.ite ?_ ?_ | refine LeO.bind ?_ (fun _ => ?_))
theorem slices_Index_int_int.mono : ∀ a0 a1 k, LeO (slices_Index_int_int.f k a0 a1) (slices_Index_int_int.f (k + 1) a0 a1) := by
 intro a0 a1 k
 have ih0 := slices_Index_int_int.mono_l k
 unfold slices_Index_int_int.f
 repeat' (with_reducible first | exact ih0 _ _ _ _ | exact LeO.refl _ | exact LeO.none _ | refine LeO.ite ?_ ?_ | refine LeO.bind ?_ (fun _ => ?_))
theorem slices_Index_int_int.calls (k : Nat) (A0 : Option Addr) (c0 : Nat) (l0 : List Int) (a1 : Int) (r : Int) (w : World) (hr0 : Kd.C (Kd.int .i64) w A0 l0.length l0) (hc0 : l0.length ≤ c0) (h : slices_Index_int_int.f k l0 a1 = some r) :
  Calls Try.prog 45 #[.slice A0 l0.length c0, .int .i64 a1] w fun e w' => e = .returned (.int .i64 r) ∧ Drawn0 w w' := by
 have HR0 := Aside0.mk hr0
 have HC0 := Aside0.mk hc0
 clear hr0 hc0
 unfold slices_Index_int_int.f at h
 have H := h; clear h
 have H' := Aside0.mk H
 clear H
 go_enter Try.func45, Try.ntmps45
 go_wp2
 go_loopg [8] k (fun kq v8 w' => ∃ (x8_1 : Int), v8 = .int .i64 x8_1 ∧ Aside0 (slices_Index_int_int.l0 kq l0 a1 (l0.length : Int) x8_1 = some r) ∧ Aside0 (kq ≤ k) ∧ Drawn0 w w')
 case atStart => exact ⟨(0), qc8f_, H', ⟨Nat.le_refl _⟩, qffa_⟩
 case round =>
  clear H'; try clear p2
  obtain ⟨x8_1, rfl, HA, HK1, ⟨m1, rfl⟩⟩ := hrel
  cases gk with
  | zero => exact absurd HA.out (by simp [slices_Index_int_int.l0])
  | succ k1 =>
   have H := HA.out
   clear HA
   simp only [slices_Index_int_int.l0] at H
   by_cases c3 : x8_1 < (l0.length : Int)
   ·
    rw [if_pos c3] at H
    have c3b0 := decide_eq_true c3
    clear c3
    by_cases c4 : 0 ≤ x8_1
    ·
     rw [if_pos c4] at H
     have c4b0 := decide_eq_true c4
     clear c4
     by_cases c5 : x8_1 < (l0.length : Int)
     ·
      rw [if_pos c5] at H
      have c5b0 := decide_eq_true c5
      clear c5
      by_cases c6 : a1 = (rd l0 x8_1)
      ·
       rw [if_pos c6] at H
       have c6b0 := beq_iff_eq.mpr c6
       have c6b1 := bne_eq_false_iff_eq.mpr c6
       clear c6
       obtain rfl := Option.some.inj H
       have p173 : 0 ≤ (x8_1 : Int) := of_decide_eq_true qe84_
       have q173 : x8_1 < (l0.length : Int) := of_decide_eq_true qe84_
       obtain ⟨ad173, e173, hx173_0⟩ := Kd.at_int HR0.out x8_1 p173 q173
       cases e173
       replace p173 := eq_true p173
       replace q173 := eq_true q173
       go_wp2
       go_ret
       exact ⟨qc8f_, qffa_⟩
      ·
       rw [if_neg c6] at H
       have c6b0 := beq_eq_false_iff_ne.mpr c6
       have c6b1 := bne_iff_ne.mpr c6
       have H' := Aside0.mk H
       clear H
       have p173 : 0 ≤ (x8_1 : Int) := of_decide_eq_true qe84_
       have q173 : x8_1 < (l0.length : Int) := of_decide_eq_true qe84_
       obtain ⟨ad173, e173, hx173_0⟩ := Kd.at_int HR0.out x8_1 p173 q173
       cases e173
       replace p173 := eq_true p173
       replace q173 := eq_true q173
       go_wp2
       go_roundg k1
       case measure => have := HK1.out; omega
       case rel => exact ⟨(wrap64 (x8_1 + 1)), qc8f_, H', ⟨by have := HK1.out; omega⟩, qffa_⟩
     ·
      rw [if_neg c5] at H
      exact absurd H (by simp)
    ·
     rw [if_neg c4] at H
     exact absurd H (by simp)
   ·
    rw [if_neg c3] at H
    have c3b0 := decide_eq_false c3
    clear c3
    obtain rfl := Option.some.inj H
    go_wp2
    go_ret
    exact ⟨qc8f_, qffa_⟩

/-! ### slices_Contains_int_int: function 30 -/
def slices_Contains_int_int.f (k : Nat) (l0 : List Int) (a1 : Int) : Option (Bool) := (slices_Index_int_int.f k l0 a1).bind fun t174 => (some (decide (t174 ≥ 0)))
theorem slices_Contains_int_int.mono : ∀ a0 a1 k, LeO (slices_Contains_int_int.f k a0 a1) (slices_Contains_int_int.f (k + 1) a0 a1) := by
 intro a0 a1 k
 unfold slices_Contains_int_int.f
 repeat' (with_reducible first | exact slices_Index_int_int.mono _ _ _ | exact LeO.refl _ | exact LeO.none _ | refine LeO.ite ?_ ?_ | refine LeO.bind ?_ (fun _ => ?_))
theorem slices_Contains_int_int.calls (k : Nat) (A0 : Option Addr) (c0 : Nat) (l0 : List Int) (a1 : Int) (r : Bool) (w : World) (hr0 : Kd.C (Kd.int .i64) w A0 l0.length l0) (hc0 : l0.length ≤ c0) (h : slices_Contains_int_int.f k l0 a1 = some r) :
  Calls Try.prog 30 #[.slice A0 l0.length c0, .int .i64 a1] w fun e w' => e = .returned (.bool r) ∧ Drawn0 w w' := by
 have HR0 := Aside0.mk hr0
 have HC0 := Aside0.mk hc0
 clear hr0 hc0
 unfold slices_Contains_int_int.f at h
 have H := h; clear h
 obtain ⟨t174, A3, H⟩ := ob_ H
 obtain rfl := Option.some.inj H
 go_enter Try.func30, Try.ntmps30
 go_wp2_with (first | ((with_reducible refine gate_callee (f := 45) rfl ?_); refine gl_ 7 Try.func45 #[.slice A0 l0.length c0, .int .i64 a1] ?_; (with_reducible refine (slices_Index_int_int.calls k _ _ l0 a1 t174 _ ?s1 ?s2 A3.out).mono ?_); (case s1 => exact q201_ HR0.out); (case s2 => exact HC0.out); rintro e w' ⟨rfl, ⟨nd, rfl⟩⟩; refine ⟨_, rfl, ?_⟩))
 go_ret
 exact ⟨qc8f_, qffa_⟩

/-! ### impl_regionOf: function 17 -/
mutual
def impl_regionOf.j0 : Nat → List Int → Int → Int → List Int → List Int → Option (List Int × List Int × Bool)
 | 0, _, _, _, _, _ => none
 | k + 1, x0, x6, x7, x176000, x176001 => impl_regionOf.l0 k x0 x6 x7 x0 (x0.length : Int) 0 x176000 x176001
def impl_regionOf.l0 : Nat → List Int → Int → Int → List Int → Int → Int → List Int → List Int → Option (List Int × List Int × Bool)
 | 0, _, _, _, _, _, _, _, _ => none
 | k + 1, x0, x6, x7, x30, x31, x32, x176000, x176001 => if x32 < x31 then (if 0 ≤ x32 then (if x32 < (x30.length : Int) then ((slices_Contains_int_int.f k x176000 x32).bind fun t179 => (if t179 = true then (impl_regionOf.l0 k x0 x6 x7 x30 x31 (wrap64 (x32 + 1)) x176000 x176001) else (impl_regionOf.l1 k x0 x6 x7 x32 (rd x30 x32) x7 x30 x31 x32 x176000 x176001))) else (none)) else (none)) else (some (([] : List Int), ([] : List Int), false))
def impl_regionOf.j3 : Nat → List Int → Int → Int → Int → Int → Int → List Int → Int → Int → List Int → List Int → Option (List Int × List Int × Bool)
 | 0, _, _, _, _, _, _, _, _, _, _, _ => none
 | k + 1, x0, x6, x7, x8, x9, x10, x30, x31, x32, x176000, x176001 => (impl_labelAt.f x176000 x10 x8).bind fun t181 => (if t181 = x9 then ((slices_Clone_int_int.f x176000).bind fun t182 => ((some (([x8] : List Int) : List Int)).bind fun y185 => (if t182.length + y185.length < 17592186044416 then ((slices_Clone_int_int.f x176001).bind fun t191 => ((some (([x10] : List Int) : List Int)).bind fun y194 => (if t191.length + y194.length < 17592186044416 then ((impl_regionOf.f k x0 (t182 ++ y185) (t191 ++ y194)).bind fun bt201 => (if bt201.2.2 = true then (some (bt201.1, bt201.2.1, true)) else (impl_regionOf.l0 k x0 x6 x7 x30 x31 (wrap64 (x32 + 1)) x176000 x176001))) else (none)))) else (none)))) else (impl_regionOf.l0 k x0 x6 x7 x30 x31 (wrap64 (x32 + 1)) x176000 x176001))
def impl_regionOf.l1 : Nat → List Int → Int → Int → Int → Int → Int → List Int → Int → Int → List Int → List Int → Option (List Int × List Int × Bool)
 | 0, _, _, _, _, _, _, _, _, _, _, _ => none
 | k + 1, x0, x6, x7, x8, x9, x10, x30, x31, x32, x176000, x176001 => if x10 < x6 then ((impl_labelAt.f x176000 x10 x8).bind fun t180 => (if t180 < x9 then (impl_regionOf.l1 k x0 x6 x7 x8 x9 (wrap64 (x10 + 1)) x30 x31 x32 x176000 x176001) else (impl_regionOf.j3 k x0 x6 x7 x8 x9 x10 x30 x31 x32 x176000 x176001))) else (impl_regionOf.j3 k x0 x6 x7 x8 x9 x10 x30 x31 x32 x176000 x176001)
def impl_regionOf.f : Nat → List Int → List Int → List Int → Option (List Int × List Int × Bool)
 | 0, _, _, _ => none
 | k + 1, l0, l1_0, l1_1 => if (l1_0.length : Int) = (l0.length : Int) then (some (l1_0, l1_1, true)) else (if (l1_0.length : Int) > 0 then (if 0 ≤ (wrap64 ((l1_0.length : Int) - 1)) then (if (wrap64 ((l1_0.length : Int) - 1)) < (l1_1.length : Int) then (impl_regionOf.j0 k l0 (l1_0.length : Int) (rd l1_1 (wrap64 ((l1_0.length : Int) - 1))) l1_0 l1_1) else (none)) else (none)) else (impl_regionOf.j0 k l0 (l1_0.length : Int) 0 l1_0 l1_1))
end
theorem impl_regionOf.mono_l : ∀ k, (∀ y0 y1 y2, LeO (impl_regionOf.f k y0 y1 y2) (impl_regionOf.f (k + 1) y0 y1 y2)) ∧ (∀ y0 y1 y2 y3 y4, LeO (impl_regionOf.j0 k y0 y1 y2 y3 y4) (impl_regionOf.j0 (k + 1) y0 y1 y2 y3 y4)) ∧ (∀ y0 y1 y2 y3 y4 y5 y6 y7, LeO (impl_regionOf.l0 k y0 y1 y2 y3 y4 y5 y6 y7) (impl_regionOf.l0 (k + 1) y0 y1 y2 y3 y4 y5 y6 y7)) ∧ (∀ y0 y1 y2 y3 y4 y5 y6 y7 y8 y9 y10, LeO (impl_regionOf.j3 k y0 y1 y2 y3 y4 y5 y6 y7 y8 y9 y10) (impl_regionOf.j3 (k + 1) y0 y1 y2 y3 y4 y5 y6 y7 y8 y9 y10)) ∧ (∀ y0 y1 y2 y3 y4 y5 y6 y7 y8 y9 y10, LeO (impl_regionOf.l1 k y0 y1 y2 y3 y4 y5 y6 y7 y8 y9 y10) (impl_regionOf.l1 (k + 1) y0 y1 y2 y3 y4 y5 y6 y7 y8 y9 y10))
 | 0 => ⟨fun _ _ _ r h => by simp [impl_regionOf.f] at h, fun _ _ _ _ _ r h => by simp [impl_regionOf.j0] at h, fun _ _ _ _ _ _ _ _ r h => by simp [impl_regionOf.l0] at h, fun _ _ _ _ _ _ _ _ _ _ _ r h => by simp [impl_regionOf.j3] at h, fun _ _ _ _ _ _ _ _ _ _ _ r h => by simp [impl_regionOf.l1] at h⟩
 | k + 1 => by
  obtain ⟨ih0, ih1, ih2, ih3, ih4⟩ := impl_regionOf.mono_l k
  refine ⟨?_, ?_, ?_, ?_, ?_⟩
  ·
   intro y0 y1 y2
   unfold impl_regionOf.f
   repeat' (with_reducible first | exact ih0 _ _ _ | exact ih1 _ _ _ _ _ | exact ih2 _ _ _ _ _ _ _ _ | exact ih3 _ _ _ _ _ _ _ _ _ _ _ | exact ih4 _ _ _ _ _ _ _ _ _ _ _ | exact slices_Contains_int_int.mono _ _ _ | exact LeO.refl _ | exact LeO.none _ | refine LeO.ite ?_ ?_ | refine LeO.bind ?_ (fun _ => ?_))
  ·
   intro y0 y1 y2 y3 y4
   unfold impl_regionOf.j0
   repeat' (with_reducible first | exact ih0 _ _ _ | exact ih1 _ _ _ _ _ | exact ih2 _ _ _ _ _ _ _ _ | exact ih3 _ _ _ _ _ _ _ _ _ _ _ | exact ih4 _ _ _ _ _ _ _ _ _ _ _ | exact slices_Contains_int_int.mono _ _ _ | exact LeO.refl _ | exact LeO.none _ | refine LeO.ite ?_ ?_ | refine LeO.bind ?_ (fun _ => ?_))
  ·
   intro y0 y1 y2 y3 y4 y5 y6 y7
   unfold impl_regionOf.l0
   repeat' (with_reducible first | exact ih0 _ _ _ | exact ih1 _ _ _ _ _ | exact ih2 _ _ _ _ _ _ _ _ | exact ih3 _ _ _ _ _ _ _ _ _ _ _ | exact ih4 _ _ _ _ _ _ _ _ _ _ _ | exact slices_Contains_int_int.mono _ _ _ | exact LeO.refl _ | exact LeO.none _ | refine LeO.ite ?_ ?_ | refine LeO.bind ?_ (fun _ => ?_))
  ·
   intro y0 y1 y2 y3 y4 y5 y6 y7 y8 y9 y10
   unfold impl_regionOf.j3
   repeat' (with_reducible first | exact ih0 _ _ _ | exact ih1 _ _ _ _ _ | exact ih2 _ _ _ _ _ _ _ _ | exact ih3 _ _ _ _ _ _ _ _ _ _ _ | exact ih4 _ _ _ _ _ _ _ _ _ _ _ | exact slices_Contains_int_int.mono _ _ _ | exact LeO.refl _ | exact LeO.none _ | refine LeO.ite ?_ ?_ | refine LeO.bind ?_ (fun _ => ?_))
  ·
   intro y0 y1 y2 y3 y4 y5 y6 y7 y8 y9 y10
   unfold impl_regionOf.l1
   repeat' (with_reducible first | exact ih0 _ _ _ | exact ih1 _ _ _ _ _ | exact ih2 _ _ _ _ _ _ _ _ | exact ih3 _ _ _ _ _ _ _ _ _ _ _ | exact ih4 _ _ _ _ _ _ _ _ _ _ _ | exact slices_Contains_int_int.mono _ _ _ | exact LeO.refl _ | exact LeO.none _ | refine LeO.ite ?_ ?_ | refine LeO.bind ?_ (fun _ => ?_))
theorem impl_regionOf.mono : ∀ a0 a1 a2 k, LeO (impl_regionOf.f k a0 a1 a2) (impl_regionOf.f (k + 1) a0 a1 a2) := by
 intro a0 a1 a2 k
 obtain ⟨ih0, ih1, ih2, ih3, ih4⟩ := impl_regionOf.mono_l k
 exact ih0 a0 a1 a2
def impl_regionOf.T15 : Bool × List (List Nat × List Nat) := (true, [([], []), ([0], [0]), ([1], [1]), ([], []), ([3], [3]), ([2, 4, 2], [2, 4]), ([], []), ([6], [6]), ([7, 5], [7]), ([], []), ([9], [9]), ([8, 10, 8], [8, 10]), ([5, 11], [5, 11]), ([], []), ([13, 12, 11, 0, 1, 2, 3, 4, 5, 6, 7, 8, 9, 10, 11, 12, 13], [12, 13])])
def impl_regionOf.B15 : List Nat := [0, 1, 3, 0, 8, 31, 0, 64, 255, 0, 512, 2047, 4095, 0, 16383]
theorem impl_regionOf.tab15 : rtab .any (opsOf Try.f17 15) = impl_regionOf.T15 := by kernel_rfl
theorem impl_regionOf.bits15 : waitsOk impl_regionOf.T15.2 impl_regionOf.B15 = true := by kernel_rfl
theorem impl_regionOf.calls0 (k : Nat) : ∀ (A0 : Option Addr) (c0 : Nat) (l0 : List Int) (B0 : Option Addr) (d0 : Nat) (l1_0 : List Int) (B1 : Option Addr) (d1 : Nat) (l1_1 r1 r2 : List Int) (r3 : Bool) (w : World) (hr0 : Kd.C (Kd.int .i64) w A0 l0.length l0) (hc0 : l0.length ≤ c0) (hr1 : Kd.C (Kd.int .i64) w B0 l1_0.length l1_0) (hc1 : l1_0.length ≤ d0) (hr2 : Kd.C (Kd.int .i64) w B1 l1_1.length l1_1) (hc2 : l1_1.length ≤ d1) (h : impl_regionOf.f k l0 l1_0 l1_1 = some (r1, r2, r3)),
  Calls Try.prog 17 #[.slice A0 l0.length c0, .agg #[.slice B0 l1_0.length d0, .slice B1 l1_1.length d1]] w fun e w' => ∃ v0_ v1_ : Value, e = .returned (.tuple #[.agg #[v0_, v1_], .bool r3]) ∧ RgR w w' (.slice B0 l1_0.length d0 : Value) (.slice B1 l1_1.length d1 : Value) l1_0 l1_1 v0_ v1_ r1 r2 := by
 induction k using Nat.strongRecOn with
 | _ k ih =>
 intro A0 c0 l0 B0 d0 l1_0 B1 d1 l1_1 r1 r2 r3 w hr0 hc0 hr1 hc1 hr2 hc2 h
 cases k with
 | zero => exact absurd h (by simp [impl_regionOf.f])
 | succ k =>
 simp only [impl_regionOf.f] at h
 have hu33 := Try.underlying33
 have HR0 := Aside0.mk hr0
 have HC0 := Aside0.mk hc0
 have HR1 := Aside0.mk hr1
 have HC1 := Aside0.mk hc1
 have HR2 := Aside0.mk hr2
 have HC2 := Aside0.mk hc2
 clear hr0 hc0 hr1 hc1 hr2 hc2; have H := h; clear h
 by_cases c3 : (l1_0.length : Int) = (l0.length : Int)
 ·
  rw [if_pos c3] at H
  have c3b0 := beq_iff_eq.mpr c3
  have c3b1 := bne_eq_false_iff_eq.mpr c3
  have c3b2 : (l1_0.length == l0.length) = true := q02f_
  clear c3
  simp only [Option.some.injEq, Prod.mk.injEq] at H
  obtain ⟨rfl, rfl, rfl⟩ := H
  go_enter Try.func17, Try.ntmps17
  go_wp2_with (first | ((with_reducible refine gate_dst (N := 3) rfl ?_); refine box_event ?hg (N := 3) ?hd (cs := #[.slice B0 l1_0.length d0, .slice B1 l1_1.length d1]) (t := 33) ?hr ?_; (case hd => rfl); (case hg => rfl); (case hr => exact qba7_); intro g5 hg w4 hbox hb; have BK5 := Aside0.mk hbox; have HB := Aside0.mk (below_step (Below.refl _ _) hb); have GE5 := Aside0.mk (Nat.le_of_eq hg.symm); clear hb hbox hg) | ((with_reducible refine gate_dst (N := 4) rfl ?_); refine box_event ?hg (N := 4) ?hd (cs := #[.slice none 0 0, .slice none 0 0]) (t := 33) ?hr ?_; (case hd => rfl); (case hg => rfl); (case hr => exact qba7_); intro g6 hg w5 hbox hb; have HG := Aside0.mk (show Rg0 w w5 g5 g6 (.slice B0 l1_0.length d0 : Value) (.slice B1 l1_1.length d1 : Value) from ⟨below_step HB.out hb, blk_below BK5.out hb, hbox, GE5.out, by rw [hg]; exact HB.out.size, by rw [hg]; exact Nat.ne_of_lt (blk_lt BK5.out)⟩); clear hb hbox hg BK5 HB; have hnb := HG.out.ne; have hnc := HG.out.ne.symm; have hcz0 : w5.cell? ⟨g5, 0, none⟩ = some (.slice B0 l1_0.length d0) := (blk_cell HG.out.h5 0).trans rfl; have hcz1 : w5.cell? ⟨g5, 1, none⟩ = some (.slice B1 l1_1.length d1) := (blk_cell HG.out.h5 1).trans rfl; have hfz0 := blk_frozen HG.out.h5 0; have hfz1 := blk_frozen HG.out.h5 1; have hyz0 : w5.cell? ⟨g6, 0, none⟩ = some (.slice none 0 0) := (blk_cell HG.out.h6 0).trans rfl; have hyz1 : w5.cell? ⟨g6, 1, none⟩ = some (.slice none 0 0) := (blk_cell HG.out.h6 1).trans rfl; have hyf0 := blk_frozen HG.out.h6 0; have hyf1 := blk_frozen HG.out.h6 1))
  refine bodyPost_ret (results_ct rfl _ _ g6 33 #[.slice B0 l1_0.length d0, .slice B1 l1_1.length d1] (0, 0) _ rfl q87a_ Try.underlying33 rfl (by kernel_rfl)) rfl ?_
  exact ⟨_, _, by first | rfl | (simp; done), ⟨qae6_, .inl ⟨rfl, rfl, rfl, rfl⟩⟩⟩
 ·
  rw [if_neg c3] at H
  have c3b0 := beq_eq_false_iff_ne.mpr c3
  have c3b1 := bne_iff_ne.mpr c3
  have c3b2 : (l1_0.length == l0.length) = false := q02f_
  clear c3
  have HC11 := Aside0.mk H
  clear H
  go_enter Try.func17, Try.ntmps17
  go_upto_if 23 with (first | ((with_reducible refine gate_dst (N := 3) rfl ?_); refine box_event ?hg (N := 3) ?hd (cs := #[.slice B0 l1_0.length d0, .slice B1 l1_1.length d1]) (t := 33) ?hr ?_; (case hd => rfl); (case hg => rfl); (case hr => exact qba7_); intro g5 hg w4 hbox hb; have BK5 := Aside0.mk hbox; have HB := Aside0.mk (below_step (Below.refl _ _) hb); have GE5 := Aside0.mk (Nat.le_of_eq hg.symm); clear hb hbox hg) | ((with_reducible refine gate_dst (N := 4) rfl ?_); refine box_event ?hg (N := 4) ?hd (cs := #[.slice none 0 0, .slice none 0 0]) (t := 33) ?hr ?_; (case hd => rfl); (case hg => rfl); (case hr => exact qba7_); intro g6 hg w5 hbox hb; have HG := Aside0.mk (show Rg0 w w5 g5 g6 (.slice B0 l1_0.length d0 : Value) (.slice B1 l1_1.length d1 : Value) from ⟨below_step HB.out hb, blk_below BK5.out hb, hbox, GE5.out, by rw [hg]; exact HB.out.size, by rw [hg]; exact Nat.ne_of_lt (blk_lt BK5.out)⟩); clear hb hbox hg BK5 HB; have hnb := HG.out.ne; have hnc := HG.out.ne.symm; have hcz0 : w5.cell? ⟨g5, 0, none⟩ = some (.slice B0 l1_0.length d0) := (blk_cell HG.out.h5 0).trans rfl; have hcz1 : w5.cell? ⟨g5, 1, none⟩ = some (.slice B1 l1_1.length d1) := (blk_cell HG.out.h5 1).trans rfl; have hfz0 := blk_frozen HG.out.h5 0; have hfz1 := blk_frozen HG.out.h5 1))
  (try simp only [Act.put, List.setIfInBounds_toArray, List.set_cons_zero, List.set_cons_succ])
  clear hnb hnc hcz0 hcz1 hfz0 hfz1
  go_cut [7] (fun v7 wc => ∃ (kq : Nat) (x7 : Int), v7 = .int .i64 x7 ∧ Aside0 (impl_regionOf.j0 kq l0 (l1_0.length : Int) x7 l1_0 l1_1 = some (r1, r2, r3)) ∧ Aside0 (kq ≤ k) ∧ Aside0 (Rg0 w wc g5 g6 (.slice B0 l1_0.length d0 : Value) (.slice B1 l1_1.length d1 : Value)))
  case first =>
   have H := HC11.out
   clear HC11
   by_cases c18 : (l1_0.length : Int) > 0
   ·
    rw [if_pos c18] at H
    have c18b0 := decide_eq_true c18
    have c18b1 : decide (0 < l1_0.length) = true := decide_eq_true (by omega)
    clear c18
    (first | rw [c18b1] | rw [c18b0])
    obtain ⟨ji, hji⟩ : ∃ j_ : Int, (wrap64 ((l1_0.length : Int) - 1)) = j_ := ⟨_, rfl⟩
    replace H : (if 0 ≤ ji then (if ji < (l1_1.length : Int) then (impl_regionOf.j0 k l0 (l1_0.length : Int) (rd l1_1 ji) l1_0 l1_1) else (none)) else (none)) = some (r1, r2, r3) := by first | (rw [hji] at H; exact H) | (simp only [hji] at H ⊢; exact H)
    have hjiw : (IntKind.i64.wrap ((l1_0.length : Int) - 1)) = ji := (i64_w _).trans hji
    by_cases c20 : 0 ≤ ji
    ·
     rw [if_pos c20] at H
     by_cases c21 : ji < (l1_1.length : Int)
     ·
      rw [if_pos c21] at H
      have c20b0 := decide_eq_true c20
      have c21b0 := decide_eq_true c21
      have H' := Aside0.mk H
      clear H
      have hnb := HG.out.ne
      have hnc := HG.out.ne.symm
      have hcz0 : w5.cell? ⟨g5, 0, none⟩ = some (.slice B0 l1_0.length d0) := (blk_cell HG.out.h5 0).trans rfl
      have hcz1 : w5.cell? ⟨g5, 1, none⟩ = some (.slice B1 l1_1.length d1) := (blk_cell HG.out.h5 1).trans rfl
      have hfz0 := blk_frozen HG.out.h5 0
      have hfz1 := blk_frozen HG.out.h5 1
      obtain ⟨ad1, e1, hx1⟩ := Kd.at_int (Kd.C_below HR2.out HG.out.below) ji c20 c21
      cases e1
      replace c20 := eq_true c20
      replace c21 := eq_true c21
      go_wp2
      go_meet
      case rel => exact ⟨_, (rd l1_1 ji), (by first | rfl | (simp; done) | (simp only [← hji] <;> (first | rfl | simp)) | (simp [*]; done)), H', ⟨Nat.le_refl _⟩, ⟨qc52_⟩⟩
     · rw [if_neg c21] at H; exact absurd H (by simp)
    · rw [if_neg c20] at H; exact absurd H (by simp)
   ·
    rw [if_neg c18] at H
    have c18b0 := decide_eq_false c18
    have c18b1 : decide (0 < l1_0.length) = false := decide_eq_false (by omega)
    clear c18
    (first | rw [c18b1] | rw [c18b0])
    have H' := Aside0.mk H
    clear H
    go_wp2
    go_meet
    case rel => exact ⟨_, 0, qc8f_, H', ⟨Nat.le_refl _⟩, ⟨qc52_⟩⟩
  case rest =>
   clear HC11 HG c3b0 c3b1 c3b2; try clear GE5
   obtain ⟨kq, x7, rfl, HA, HJ1, HG⟩ := hcut
   cases kq with
   | zero => exact absurd HA.out (by simp [impl_regionOf.j0])
   | succ kj =>
   have H := HA.out
   clear HA
   simp only [impl_regionOf.j0] at H
   have H' := Aside0.mk H
   clear H
   go_wp2
   go_loopg [32] kj (fun kq v32 w' => ∃ (x32 : Int), v32 = .int .i64 x32 ∧ Aside0 (impl_regionOf.l0 kq l0 (l1_0.length : Int) x7 l0 (l0.length : Int) x32 l1_0 l1_1 = some (r1, r2, r3)) ∧ Aside0 (kq ≤ kj) ∧ Aside0 (Rg0 w w' g5 g6 (.slice B0 l1_0.length d0 : Value) (.slice B1 l1_1.length d1 : Value)))
   case atStart => exact ⟨0, (by first | rfl | (simp; done)), H', ⟨Nat.le_refl _⟩, ⟨qc52_⟩⟩
   case round =>
    clear H' HG
    obtain ⟨x32, rfl, HA, HK2, HG⟩ := hrel
    cases gk with
    | zero => exact absurd HA.out (by simp [impl_regionOf.l0])
    | succ k2 =>
    have H := HA.out
    clear HA
    simp only [impl_regionOf.l0] at H
    by_cases c24 : x32 < (l0.length : Int)
    ·
     rw [if_pos c24] at H
     have c24b0 := decide_eq_true c24
     by_cases c25 : 0 ≤ x32
     ·
      rw [if_pos c25, if_pos c24] at H
      have c25b0 := decide_eq_true c25
      obtain ⟨t1, A1, H⟩ := ob_ H
      obtain ⟨ad2, e2, hx2⟩ := Kd.at_int (Kd.C_below HR0.out HG.out.below) x32 c25 c24
      cases e2
      replace c24 := eq_true c24
      replace c25 := eq_true c25
      have hnb := HG.out.ne
      have hnc := HG.out.ne.symm
      have hcz0 : wr.cell? ⟨g5, 0, none⟩ = some (.slice B0 l1_0.length d0) := (blk_cell HG.out.h5 0).trans rfl
      have hcz1 : wr.cell? ⟨g5, 1, none⟩ = some (.slice B1 l1_1.length d1) := (blk_cell HG.out.h5 1).trans rfl
      have hfz0 := blk_frozen HG.out.h5 0
      have hfz1 := blk_frozen HG.out.h5 1
      cases t1 with
      | true =>
       rw [if_pos rfl] at H
       have H' := Aside0.mk H
       clear H
       go_wp2_with (first | ((with_reducible refine gate_callee (f := 30) rfl ?_); refine gl_ 40 Try.func30 #[.slice B0 l1_0.length d0, .int .i64 x32] ?_; (with_reducible refine (slices_Contains_int_int.calls k2 _ _ l1_0 x32 true _ ?s1 ?s2 A1.out).mono ?_); (case s1 => exact (q5e2_ HR1.out)); (case s2 => exact HC1.out); rintro e w' ⟨rfl, ⟨nd, rfl⟩⟩; refine ⟨_, rfl, ?_⟩))
       go_roundg k2
       case measure => have := HJ1.out; have := HK2.out; omega
       case rel => exact ⟨(wrap64 (x32 + 1)), qc8f_, H', ⟨q37b_ HJ1.out HK2.out⟩, ⟨qc52_⟩⟩
      | false =>
       rw [if_neg nf_] at H
       have HC31 := Aside0.mk H
       clear H
       go_upto_block 2 with (first | ((with_reducible refine gate_callee (f := 30) rfl ?_); refine gl_ 40 Try.func30 #[.slice B0 l1_0.length d0, .int .i64 x32] ?_; (with_reducible refine (slices_Contains_int_int.calls k2 _ _ l1_0 x32 false _ ?s1 ?s2 A1.out).mono ?_); (case s1 => exact (q5e2_ HR1.out)); (case s2 => exact HC1.out); rintro e w' ⟨rfl, ⟨nd, rfl⟩⟩; refine ⟨_, rfl, ?_⟩))
       (try simp only [Act.put, List.setIfInBounds_toArray, List.set_cons_zero, List.set_cons_succ])
       clear hnb hnc hcz0 hcz1 hfz0 hfz1
       go_cut [10] (fun v10 wc => ∃ (kq : Nat) (x10 : Int), v10 = .int .i64 x10 ∧ Aside0 (impl_regionOf.j3 kq l0 (l1_0.length : Int) x7 x32 (rd l0 x32) x10 l0 (l0.length : Int) x32 l1_0 l1_1 = some (r1, r2, r3)) ∧ Aside0 (kq ≤ k2) ∧ Aside0 (Rg0 w wc g5 g6 (.slice B0 l1_0.length d0 : Value) (.slice B1 l1_1.length d1 : Value)))
       case first =>
        have H' := Aside0.mk HC31.out
        clear HC31
        have HG0 := Aside0.mk qc52_
        go_wp2
        go_loopg [10] k2 (fun kq v10 w' => ∃ (x10 : Int), v10 = .int .i64 x10 ∧ Aside0 (impl_regionOf.l1 kq l0 (l1_0.length : Int) x7 x32 (rd l0 x32) x10 l0 (l0.length : Int) x32 l1_0 l1_1 = some (r1, r2, r3)) ∧ Aside0 (kq ≤ k2) ∧ Aside0 (Rg0 w w' g5 g6 (.slice B0 l1_0.length d0 : Value) (.slice B1 l1_1.length d1 : Value)))
        case atStart => exact ⟨x7, (by first | rfl | (simp; done)), H', ⟨Nat.le_refl _⟩, ⟨qc52_⟩⟩
        case round =>
         clear H' HG HG0
         obtain ⟨x10, rfl, HA, HK3, HG⟩ := hrel
         cases gk with
         | zero => exact absurd HA.out (by simp [impl_regionOf.l1])
         | succ k3 =>
         have H := HA.out
         clear HA
         simp only [impl_regionOf.l1] at H
         by_cases c34 : x10 < (l1_0.length : Int)
         ·
          rw [if_pos c34] at H
          have c34b0 := decide_eq_true c34
          clear c34
          (first | rw [c34b0] | (simp only [i64_w, i32_w]; rw [c34b0]) | skip)
          obtain ⟨t4, A4, H⟩ := ob_ H
          by_cases c36 : t4 < (rd l0 x32)
          ·
           rw [if_pos c36] at H
           have c36b0 := decide_eq_true c36
           clear c36
           have H' := Aside0.mk H
           clear H
           have hnb := HG.out.ne
           have hnc := HG.out.ne.symm
           have hcz0 : wr.cell? ⟨g5, 0, none⟩ = some (.slice B0 l1_0.length d0) := (blk_cell HG.out.h5 0).trans rfl
           have hcz1 : wr.cell? ⟨g5, 1, none⟩ = some (.slice B1 l1_1.length d1) := (blk_cell HG.out.h5 1).trans rfl
           have hfz0 := blk_frozen HG.out.h5 0
           have hfz1 := blk_frozen HG.out.h5 1
           go_wp2_with (first | (go_at_call 22; (with_reducible refine (impl_labelAt.calls _ _ l1_0 x10 x32 t4 _ ?s1 ?s2 A4.out).mono ?_); (case s1 => exact (q5e2_ HR1.out)); (case s2 => exact HC1.out); rintro e w6 ⟨rfl, hb⟩; have hg_ := Aside0.mk (Rg0.next qc52_ hb); clear HG; have HG := hg_; clear hg_ hb))
           go_roundg k3
           case measure => have := HJ1.out; have := HK2.out; have := HK3.out; omega
           case rel => exact ⟨(wrap64 (x10 + 1)), qc8f_, H', ⟨q0e9_ HJ1.out HK2.out HK3.out⟩, ⟨qc52_⟩⟩
          ·
           rw [if_neg c36] at H
           have c36b0 := decide_eq_false c36
           clear c36
           have H' := Aside0.mk H
           clear H
           have hnb := HG.out.ne
           have hnc := HG.out.ne.symm
           have hcz0 : wr.cell? ⟨g5, 0, none⟩ = some (.slice B0 l1_0.length d0) := (blk_cell HG.out.h5 0).trans rfl
           have hcz1 : wr.cell? ⟨g5, 1, none⟩ = some (.slice B1 l1_1.length d1) := (blk_cell HG.out.h5 1).trans rfl
           have hfz0 := blk_frozen HG.out.h5 0
           have hfz1 := blk_frozen HG.out.h5 1
           go_wp2_with (first | (go_at_call 22; (with_reducible refine (impl_labelAt.calls _ _ l1_0 x10 x32 t4 _ ?s1 ?s2 A4.out).mono ?_); (case s1 => exact (q5e2_ HR1.out)); (case s2 => exact HC1.out); rintro e w6 ⟨rfl, hb⟩; have hg_ := Aside0.mk (Rg0.next qc52_ hb); clear HG; have HG := hg_; clear hg_ hb))
           go_meet
           case rel => exact ⟨_, x10, qc8f_, H', ⟨q0d4_ HJ1.out HK2.out HK3.out⟩, ⟨qc52_⟩⟩
         ·
          rw [if_neg c34] at H
          have c34b0 := decide_eq_false c34
          clear c34
          (first | rw [c34b0] | (simp only [i64_w, i32_w]; rw [c34b0]) | skip)
          have H' := Aside0.mk H
          clear H
          go_wp2
          go_meet
          case rel => exact ⟨_, x10, qc8f_, H', ⟨q0d4_ HJ1.out HK2.out HK3.out⟩, ⟨qc52_⟩⟩
       case rest =>
        clear HC31 HG
        obtain ⟨kq, x10, rfl, HA, HJ3, HG⟩ := hcut
        cases kq with
        | zero => exact absurd HA.out (by simp [impl_regionOf.j3])
        | succ kj3 =>
        have H := HA.out
        clear HA
        simp only [impl_regionOf.j3] at H
        obtain ⟨t4, A5, H⟩ := ob_ H
        by_cases c44 : t4 = (rd l0 x32)
        ·
         rw [if_pos c44] at H
         have c44b0 := beq_iff_eq.mpr c44
         have c44b1 := bne_eq_false_iff_eq.mpr c44
         clear c44
         have hnb := HG.out.ne
         have hnc := HG.out.ne.symm
         have hcz0 : wc.cell? ⟨g5, 0, none⟩ = some (.slice B0 l1_0.length d0) := (blk_cell HG.out.h5 0).trans rfl
         have hcz1 : wc.cell? ⟨g5, 1, none⟩ = some (.slice B1 l1_1.length d1) := (blk_cell HG.out.h5 1).trans rfl
         have hfz0 := blk_frozen HG.out.h5 0
         have hfz1 := blk_frozen HG.out.h5 1
         go_wp2_with (first | ((with_reducible refine gate_callee (f := 22) rfl ?_); refine gl_ 60 Try.func22 #[.slice B0 l1_0.length d0, .int .i64 x10, .int .i64 x32] ?_; (with_reducible refine (impl_labelAt.calls _ _ l1_0 x10 x32 t4 _ ?s1 ?s2 A5.out).mono ?_); (case s1 => exact (q5e2_ HR1.out)); (case s2 => exact HC1.out); rintro e w6 ⟨rfl, hb⟩; refine ⟨_, rfl, ?_⟩; have hg_ := Aside0.mk (Rg0.next qc52_ hb); clear HG; have HG := hg_; clear hg_ hb))
         clear hnb hnc hcz0 hcz1 hfz0 hfz1
         obtain ⟨t2, A2, H⟩ := ob_ H
         obtain ⟨y5, hy5⟩ : ∃ y_ : List Int, y_ = ([x32] : List Int) := ⟨_, rfl⟩
         rw [← hy5] at H
         simp only [Option.bind_some] at H
         by_cases c46 : t2.length + y5.length < 17592186044416
         ·
          rw [if_pos c46] at H
          have L5 := Aside0.mk c46
          clear c46
          obtain ⟨t3, A3, H⟩ := ob_ H
          obtain ⟨y6, hy6⟩ : ∃ y_ : List Int, y_ = ([x10] : List Int) := ⟨_, rfl⟩
          rw [← hy6] at H
          (try simp only [Option.bind_some] at H)
          by_cases c48 : t3.length + y6.length < 17592186044416
          ·
           rw [if_pos c48] at H
           have L11 := Aside0.mk c48
           clear c48
           obtain ⟨⟨s1, s2, s3⟩, A4, H2⟩ := ob_ H
           dsimp only at H2
           have Hs := Aside0.mk H2
           clear H H2
           subst hy5
           subst hy6
           refine start_ (n := 15) (S := fun w' => True) (ds := []) #[false, false, false, false, false, false, false, false, false, false, false, false, false, false, false] (by kernel_rfl) rfl rfl trivial (fun hHeld => ?_); refine with_tabW impl_regionOf.tab15 impl_regionOf.bits15 (fun HT_ HW_ => ?_)
           have HG2 := Aside0.mk (Rg0.drew HG.out)
           clear HG
           generalize w6.drew = wd at HG2 hHeld ⊢
           refine pure_ (i := 0) (N := some 63) (v := ?_) (a' := ?_) #[true, false, false, false, false, false, false, false, false, false, false, false, false, false, false] rfl rfl (any_of HT_.out (by kernel_rfl)) (fun _ _ _ h => h) (Or.inl ⟨by rfl, ?_⟩) ?_ ?_
           rotate_left
           · intro w'; go_simp; with_reducible rfl
           rotate_left
           · simp only [Act.put, List.setIfInBounds_toArray, List.set_cons_zero, List.set_cons_succ, i64_w, i32_w]; rfl
           refine pure_ (i := 3) (N := some 66) (v := ?_) (a' := ?_) #[true, false, false, true, false, false, false, false, false, false, false, false, false, false, false] rfl rfl (any_of HT_.out (by kernel_rfl)) (fun _ _ _ h => h) (Or.inl ⟨by rfl, ?_⟩) ?_ ?_
           rotate_left
           · intro w'; go_simp; with_reducible rfl
           rotate_left
           · simp only [Act.put, List.setIfInBounds_toArray, List.set_cons_zero, List.set_cons_succ, i64_w, i32_w]; rfl
           refine pure_ (i := 6) (N := some 69) (v := ?_) (a' := ?_) #[true, false, false, true, false, false, true, false, false, false, false, false, false, false, false] rfl rfl (any_of HT_.out (by kernel_rfl)) (fun _ _ _ h => h) (Or.inl ⟨by rfl, ?_⟩) ?_ ?_
           rotate_left
           · intro w'; go_simp; with_reducible rfl
           rotate_left
           · simp only [Act.put, List.setIfInBounds_toArray, List.set_cons_zero, List.set_cons_succ, i64_w, i32_w]; rfl
           refine pure_ (i := 9) (N := some 72) (v := ?_) (a' := ?_) #[true, false, false, true, false, false, true, false, false, true, false, false, false, false, false] rfl rfl (any_of HT_.out (by kernel_rfl)) (fun _ _ _ h => h) (Or.inl ⟨by rfl, ?_⟩) ?_ ?_
           rotate_left
           · intro w'; go_simp; with_reducible rfl
           rotate_left
           · simp only [Act.put, List.setIfInBounds_toArray, List.set_cons_zero, List.set_cons_succ, i64_w, i32_w]; rfl
           refine inv_at [1, 2, 4, 5, 7, 8, 10, 11, 12, 13, 14] (fun a0_ b a w' => ∃ (u2 u4 u5 u8 u10 u11 : Value) (gn : Nat) (m12 m13 : Value), a = putSel a0_ b [(1, 64, .slice B0 l1_0.length d0), (2, 65, u2), (4, 67, u4), (5, 68, u5), (7, 70, .slice B1 l1_1.length d1), (8, 71, u8), (10, 73, u10), (11, 74, u11), (12, 75, m12), (13, 11, m13)] ∧ (RgI w w' g5 g6 (.slice B0 l1_0.length d0 : Value) (.slice B1 l1_1.length d1 : Value) t2 t3 [x32] [x10] (b 2) (b 4) (b 5) (b 8) (b 10) (b 11) (b 13) (b 14) u2 u4 u5 u8 u10 u11 gn) ∧ (b 12 = true → m12 = .agg #[u5, u11]) ∧ (b 13 = true → m13 = .pointer (some ⟨gn, 0, none⟩))) HT_.out HW_.out (by kernel_rfl) (by kernel_rfl) ?_ ?_ ?_
           · exact ⟨.bool false, .bool false, .bool false, .bool false, .bool false, .bool false, 0, .bool false, .bool false, by simp only [putSel, Bool.false_eq_true, if_false], RgI.start HG2.out, fun h_ => absurd h_ (by decide), fun h_ => absurd h_ (by decide)⟩
           ·
            clear HG2
            refine steps_cons ?_ ?_
            ·
             rintro b a w' ⟨u2, u4, u5, u8, u10, u11, gn, m12, m13, ha, hI, h12, h13⟩ hb_ hon hoff
             refine ⟨_, rfl, fun K hK => ?_⟩
             have e63 : a.tmps[63]? = some (.pointer (some ⟨g5, 0, none⟩)) := q32c_
             replace ha := Aside0.mk ha
             have HI := Aside0.mk hI
             clear hI
             have hc0_ : w'.cell? ⟨g5, 0, none⟩ = some (.slice B0 l1_0.length d0) := (blk_cell HI.out.r0.h5 0).trans rfl
             have hc1_ : w'.cell? ⟨g5, 1, none⟩ = some (.slice B1 l1_1.length d1) := (blk_cell HI.out.r0.h5 1).trans rfl
             refine value_ (w1 := w') (v := .slice B0 l1_0.length d0) (by rfl) rfl ?_ ?_
             · go_simp; (try simp only [i64_w]); try rfl
             refine hK.out _ _ ⟨u2, u4, u5, u8, u10, u11, gn, m12, m13, (by rw [ha.out]; exact putSel_upk 0 hb_ rfl rfl rfl), HI.out, h12, h13⟩
            refine steps_cons ?_ ?_
            ·
             rintro b a w' ⟨u2, u4, u5, u8, u10, u11, gn, m12, m13, ha, hI, h12, h13⟩ hb_ hon hoff
             refine ⟨_, rfl, fun K hK => ?_⟩
             have e64 : a.tmps[64]? = some (.slice B0 l1_0.length d0) := by rw [ha]; exact putSel_on (e := (1, 64, .slice B0 l1_0.length d0)) 0 rfl rfl (hon 1 (by kernel_rfl)) rfl
             replace ha := Aside0.mk ha
             have HI := Aside0.mk hI
             clear hI
             refine goes_ Try.func31 (by kernel_rfl) rfl #[.slice B0 l1_0.length d0] (by rfl) rfl rfl (by first | (simp only [List.map_toArray, List.map_cons, List.map_nil, Act.eval, Array.getD_eq_getD_getElem?, Option.getD_some, e64]; done) | (simp only [List.map_toArray, List.map_cons, List.map_nil, Act.eval, Array.getD_eq_getD_getElem?, Option.getD_some, e64]; rfl)) ?_
             refine (slices_Clone_int_int.calls _ _ l1_0 t2 _ (Kd.C_below HR1.out HI.out.r0.below) HC1.out A2.out).mono ?_
             rintro e w1 ⟨vn, rfl, ho, hb⟩
             refine ⟨_, rfl, ?_⟩
             refine hK.out _ _ ⟨vn, u4, u5, u8, u10, u11, gn, m12, m13, (by rw [ha.out]; exact putSel_upk 1 hb_ rfl rfl rfl), (HI.out.s2 (hoff 11 (by kernel_rfl)) hb ho), fun h_ => absurd ((hoff 12 (by kernel_rfl)).symm.trans h_) (by decide), h13⟩
            refine steps_cons ?_ ?_
            ·
             rintro b a w' ⟨u2, u4, u5, u8, u10, u11, gn, m12, m13, ha, hI, h12, h13⟩ hb_ hon hoff
             refine ⟨_, rfl, fun K hK => ?_⟩
             have e66 : a.tmps[66]? = some (.int .i64 x32) := q32c_
             replace ha := Aside0.mk ha
             have HI := Aside0.mk hI
             clear hI
             refine Kd.R_lit_step (Kd.int .i64) _ 3 ?hg (N := 67) ?hd (xs := ([x32] : List Int)) (inner := [.int .i64 x32]) (ok := fun _ => True) (okp := fun _ => True) ?hr ?hp (fun _ hk => hk) trivial (Below.refl _ _) (Nat.le_refl _) (by simp) ?_; (case hd => rfl); (case hg => rfl); (case hr => exact qba7_); (case hp => exact (Reps.one (show Kd.M (Kd.int .i64) _ _ _ x32 [.int .i64 x32] from rfl) (Reps.none _ _)))
             intro vn w1 ho hb hg_ hnew_
             refine hK.out _ _ ⟨u2, vn, u5, u8, u10, u11, gn, m12, m13, (by rw [ha.out]; exact putSel_upk 2 hb_ rfl rfl rfl), (HI.out.s4 hb ho), h12, h13⟩
            refine steps_cons ?_ ?_
            ·
             rintro b a w' ⟨u2, u4, u5, u8, u10, u11, gn, m12, m13, ha, hI, h12, h13⟩ hb_ hon hoff
             refine ⟨_, rfl, fun K hK => ?_⟩
             have e65 : a.tmps[65]? = some (u2) := by rw [ha]; exact putSel_on (e := (2, 65, u2)) 1 rfl rfl (hon 2 (by kernel_rfl)) rfl
             have e67 : a.tmps[67]? = some (u4) := by rw [ha]; exact putSel_on (e := (4, 67, u4)) 2 rfl rfl (hon 4 (by kernel_rfl)) rfl
             replace ha := Aside0.mk ha
             have HI := Aside0.mk hI
             clear hI
             have HS := Aside0.mk (HI.out.c2 (hon 2 (by kernel_rfl)) hb_)
             have HX := Aside0.mk (HI.out.c4 (hon 4 (by kernel_rfl)) hb_)
             obtain ⟨Ax, cx, ex⟩ := Kd.R_slice HX.out
             refine Kd.R_append_rows_step (Kd.int .i64) (w0 := w) w.heap.size (by rfl) (.tmp 65) (.tmp 67) 31 3 (.int .i64 0) 8 rfl Try.underlying31 info_int rfl (by decide) (by omega) u2 t2 [x32] _ _ _ (fun _ => True) (fun _ => False) (by simp only [Act.eval, Array.getD_eq_getD_getElem?, e65, Option.getD_some]) (by simp only [Act.eval, Array.getD_eq_getD_getElem?, e67, Option.getD_some]; exact ex) HS.out ?aR (fun _ _ h => h) (fun _ h => h.elim) (fun _ _ => trivial) HI.out.r0.below HI.out.r0.below.size ?aL ?_
             (case aR => exact (Kd.R_reads' (ex ▸ HX.out)).2.2)
             (case aL => have := L5.out; simp only [List.length_cons, List.length_nil] at this ⊢; omega)
             intro vn w1 ho hb hg hat
             have hI5 := HI.out
             rw [show b 2 = true from (hon 2 (by kernel_rfl)), show b 5 = false from hb_, show b 8 = false from (hoff 8 (by kernel_rfl)), show b 11 = false from (hoff 11 (by kernel_rfl))] at hI5
             have hI6 := hI5.s5 (hoff 14 (by kernel_rfl)) hb hg ho
             refine hK.out _ _ ⟨u2, u4, vn, u8, u10, u11, gn, m12, m13, (by rw [ha.out]; exact putSel_upk 3 hb_ rfl rfl rfl), (by show RgI w _ g5 g6 _ _ t2 t3 _ _ (b 2) (b 4) true (b 8) (b 10) (b 11) (b 13) (b 14) _ _ _ _ _ _ _; rw [show b 2 = true from (hon 2 (by kernel_rfl)), show b 8 = false from (hoff 8 (by kernel_rfl)), show b 11 = false from (hoff 11 (by kernel_rfl))]; exact hI6), fun h_ => absurd ((hoff 12 (by kernel_rfl)).symm.trans h_) (by decide), h13⟩
            refine steps_cons ?_ ?_
            ·
             rintro b a w' ⟨u2, u4, u5, u8, u10, u11, gn, m12, m13, ha, hI, h12, h13⟩ hb_ hon hoff
             refine ⟨_, rfl, fun K hK => ?_⟩
             have e69 : a.tmps[69]? = some (.pointer (some ⟨g5, 1, none⟩)) := q32c_
             replace ha := Aside0.mk ha
             have HI := Aside0.mk hI
             clear hI
             have hc0_ : w'.cell? ⟨g5, 0, none⟩ = some (.slice B0 l1_0.length d0) := (blk_cell HI.out.r0.h5 0).trans rfl
             have hc1_ : w'.cell? ⟨g5, 1, none⟩ = some (.slice B1 l1_1.length d1) := (blk_cell HI.out.r0.h5 1).trans rfl
             refine value_ (w1 := w') (v := .slice B1 l1_1.length d1) (by rfl) rfl ?_ ?_
             · go_simp; (try simp only [i64_w]); try rfl
             refine hK.out _ _ ⟨u2, u4, u5, u8, u10, u11, gn, m12, m13, (by rw [ha.out]; exact putSel_upk 4 hb_ rfl rfl rfl), HI.out, h12, h13⟩
            refine steps_cons ?_ ?_
            ·
             rintro b a w' ⟨u2, u4, u5, u8, u10, u11, gn, m12, m13, ha, hI, h12, h13⟩ hb_ hon hoff
             refine ⟨_, rfl, fun K hK => ?_⟩
             have e70 : a.tmps[70]? = some (.slice B1 l1_1.length d1) := by rw [ha]; exact putSel_on (e := (7, 70, .slice B1 l1_1.length d1)) 4 rfl rfl (hon 7 (by kernel_rfl)) rfl
             replace ha := Aside0.mk ha
             have HI := Aside0.mk hI
             clear hI
             refine goes_ Try.func31 (by kernel_rfl) rfl #[.slice B1 l1_1.length d1] (by rfl) rfl rfl q506_ ?_
             refine (slices_Clone_int_int.calls _ _ l1_1 t3 _ (Kd.C_below HR2.out HI.out.r0.below) HC2.out A3.out).mono ?_
             rintro e w1 ⟨vn, rfl, ho, hb⟩
             refine ⟨_, rfl, ?_⟩
             refine hK.out _ _ ⟨u2, u4, u5, vn, u10, u11, gn, m12, m13, (by rw [ha.out]; exact putSel_upk 5 hb_ rfl rfl rfl), (HI.out.s8 hb ho), h12, h13⟩
            refine steps_cons ?_ ?_
            ·
             rintro b a w' ⟨u2, u4, u5, u8, u10, u11, gn, m12, m13, ha, hI, h12, h13⟩ hb_ hon hoff
             refine ⟨_, rfl, fun K hK => ?_⟩
             have e72 : a.tmps[72]? = some (.int .i64 x10) := q32c_
             replace ha := Aside0.mk ha
             have HI := Aside0.mk hI
             clear hI
             refine Kd.R_lit_step (Kd.int .i64) _ 3 ?hg (N := 73) ?hd (xs := ([x10] : List Int)) (inner := [.int .i64 x10]) (ok := fun _ => True) (okp := fun _ => True) ?hr ?hp (fun _ hk => hk) trivial (Below.refl _ _) (Nat.le_refl _) (by simp) ?_; (case hd => rfl); (case hg => rfl); (case hr => exact qba7_); (case hp => exact (Reps.one (show Kd.M (Kd.int .i64) _ _ _ x10 [.int .i64 x10] from rfl) (Reps.none _ _)))
             intro vn w1 ho hb hg_ hnew_
             refine hK.out _ _ ⟨u2, u4, u5, u8, vn, u11, gn, m12, m13, (by rw [ha.out]; exact putSel_upk 6 hb_ rfl rfl rfl), (HI.out.s10 hb ho), h12, h13⟩
            refine steps_cons ?_ ?_
            ·
             rintro b a w' ⟨u2, u4, u5, u8, u10, u11, gn, m12, m13, ha, hI, h12, h13⟩ hb_ hon hoff
             refine ⟨_, rfl, fun K hK => ?_⟩
             have e71 : a.tmps[71]? = some (u8) := by rw [ha]; exact putSel_on (e := (8, 71, u8)) 5 rfl rfl (hon 8 (by kernel_rfl)) rfl
             have e73 : a.tmps[73]? = some (u10) := by rw [ha]; exact putSel_on (e := (10, 73, u10)) 6 rfl rfl (hon 10 (by kernel_rfl)) rfl
             replace ha := Aside0.mk ha
             have HI := Aside0.mk hI
             clear hI
             have HS := Aside0.mk (HI.out.c8 (hon 8 (by kernel_rfl)) hb_)
             have HX := Aside0.mk (HI.out.c10 (hon 10 (by kernel_rfl)) hb_)
             obtain ⟨Ax, cx, ex⟩ := Kd.R_slice HX.out
             refine Kd.R_append_rows_step (Kd.int .i64) (w0 := w) w.heap.size (by rfl) (.tmp 71) (.tmp 73) 31 3 (.int .i64 0) 8 rfl Try.underlying31 info_int rfl (by decide) (by omega) u8 t3 [x10] _ _ _ (fun _ => True) (fun _ => False) (by simp only [Act.eval, Array.getD_eq_getD_getElem?, e71, Option.getD_some]) (by simp only [Act.eval, Array.getD_eq_getD_getElem?, e73, Option.getD_some]; exact ex) HS.out ?aR (fun _ _ h => h) (fun _ h => h.elim) (fun _ _ => trivial) HI.out.r0.below HI.out.r0.below.size ?aL ?_
             (case aR => exact (Kd.R_reads' (ex ▸ HX.out)).2.2)
             (case aL => have := L11.out; simp only [List.length_cons, List.length_nil] at this ⊢; omega)
             intro vn w1 ho hb hg hat
             have hI5 := HI.out
             rw [show b 5 = true from (hon 5 (by kernel_rfl)), show b 8 = true from (hon 8 (by kernel_rfl)), show b 11 = false from hb_] at hI5
             have hI6 := hI5.s11 (hoff 14 (by kernel_rfl)) hb hg hat ho
             refine hK.out _ _ ⟨u2, u4, u5, u8, u10, vn, gn, m12, m13, (by rw [ha.out]; exact putSel_upk 7 hb_ rfl rfl rfl), (by show RgI w _ g5 g6 _ _ t2 t3 _ _ (b 2) (b 4) (b 5) (b 8) (b 10) true (b 13) (b 14) _ _ _ _ _ _ _; rw [show b 5 = true from (hon 5 (by kernel_rfl)), show b 8 = true from (hon 8 (by kernel_rfl))]; exact hI6), fun h_ => absurd ((hoff 12 (by kernel_rfl)).symm.trans h_) (by decide), h13⟩
            refine steps_cons ?_ ?_
            ·
             rintro b a w' ⟨u2, u4, u5, u8, u10, u11, gn, m12, m13, ha, hI, h12, h13⟩ hb_ hon hoff
             refine ⟨_, rfl, fun K hK => ?_⟩
             have e68 : a.tmps[68]? = some (u5) := by rw [ha]; exact putSel_on (e := (5, 68, u5)) 3 rfl rfl (hon 5 (by kernel_rfl)) rfl
             have e74 : a.tmps[74]? = some (u11) := by rw [ha]; exact putSel_on (e := (11, 74, u11)) 7 rfl rfl (hon 11 (by kernel_rfl)) rfl
             obtain ⟨A5, c5, e5_⟩ := Kd.R_slice (hI.c5 (hon 5 (by kernel_rfl)))
             obtain ⟨n5, hn5⟩ : ∃ n_, n_ = (t2 ++ [x32]).length := ⟨_, rfl⟩
             rw [← hn5] at e5_
             subst e5_
             obtain ⟨A11, c11, e11_⟩ := Kd.R_slice (hI.c11 (hon 11 (by kernel_rfl)))
             obtain ⟨n11, hn11⟩ : ∃ n_, n_ = (t3 ++ [x10]).length := ⟨_, rfl⟩
             rw [← hn11] at e11_
             subst e11_
             clear hn5 hn11
             replace ha := Aside0.mk ha
             have HI := Aside0.mk hI
             clear hI
             refine value_ (w1 := w') (v := .agg #[.slice A5 n5 c5, .slice A11 n11 c11]) (by rfl) rfl ?_ ?_
             · go_simp; (try simp only [i64_w]); try rfl
             refine hK.out _ _ ⟨u2, u4, _, u8, u10, _, gn, (.agg #[.slice A5 n5 c5, .slice A11 n11 c11]), m13, (by rw [ha.out]; exact putSel_upk 8 hb_ rfl rfl rfl), HI.out, fun _ => rfl, h13⟩
            refine steps_cons ?_ ?_
            ·
             rintro b a w' ⟨u2, u4, u5, u8, u10, u11, gn, m12, m13, ha, hI, h12, h13⟩ hb_ hon hoff
             refine ⟨_, rfl, fun K hK => ?_⟩
             replace ha := Aside0.mk ha
             have HI := Aside0.mk hI
             clear hI
             refine box_step ?hg (N := 11) ?hd (cs := #[.slice none 0 0, .slice none 0 0]) (t := 33) ?hr ?_; (case hd => rfl); (case hg => rfl); (case hr => exact qba7_)
             intro gq hgq w1 hbox hb
             refine hK.out _ _ ⟨u2, u4, u5, u8, u10, u11, gq, m12, (.pointer (some ⟨gq, 0, none⟩)), (by rw [ha.out]; exact putSel_upk 9 hb_ rfl rfl rfl), (HI.out.s13 (hoff 14 (by kernel_rfl)) hb hgq hbox), h12, fun _ => rfl⟩
            refine steps_cons ?_ ?_
            ·
             rintro b a w' ⟨u2, u4, u5, u8, u10, u11, gn, m12, m13, ha, hI, h12, h13⟩ hb_ hon hoff
             refine ⟨_, rfl, fun K hK => ?_⟩
             obtain rfl := h12 (hon 12 (by kernel_rfl))
             obtain rfl := h13 (hon 13 (by kernel_rfl))
             obtain ⟨A5, c5, e5_⟩ := Kd.R_slice (hI.c5 (hon 5 (by kernel_rfl)))
             obtain ⟨n5, hn5⟩ : ∃ n_, n_ = (t2 ++ [x32]).length := ⟨_, rfl⟩
             rw [← hn5] at e5_
             subst e5_
             obtain ⟨A11, c11, e11_⟩ := Kd.R_slice (hI.c11 (hon 11 (by kernel_rfl)))
             obtain ⟨n11, hn11⟩ : ∃ n_, n_ = (t3 ++ [x10]).length := ⟨_, rfl⟩
             rw [← hn11] at e11_
             subst e11_
             clear hn5 hn11
             have e11 : a.tmps[11]? = some (.pointer (some ⟨gn, 0, none⟩)) := by rw [ha]; exact putSel_on (e := (13, 11, .pointer (some ⟨gn, 0, none⟩))) 9 rfl rfl (hon 13 (by kernel_rfl)) rfl
             have e75 : a.tmps[75]? = some (.agg #[.slice A5 n5 c5, .slice A11 n11 c11]) := by rw [ha]; exact putSel_on (e := (12, 75, .agg #[.slice A5 n5 c5, .slice A11 n11 c11])) 8 rfl rfl (hon 12 (by kernel_rfl)) rfl
             replace ha := Aside0.mk ha
             have HI := Aside0.mk hI
             clear hI
             have hcn := HI.out.cn (hon 13 (by kernel_rfl))
             rw [show b 14 = false from hb_] at hcn
             have hs0 : w'.cell? ⟨gn, 0, none⟩ = some (.slice none 0 0) := (blk_cell hcn.2 0).trans rfl
             have hs1 : w'.cell? ⟨gn, 1, none⟩ = some (.slice none 0 0) := (blk_cell hcn.2 1).trans rfl
             have hsf0 := blk_frozen hcn.2 0
             have hsf1 := blk_frozen hcn.2 1
             clear hcn
             refine skip_ (w1 := ?_) (by rfl) rfl ?_ ?_
             rotate_left
             · go_simp; rfl
             have hI5 := HI.out
             rw [show b 5 = true from (hon 5 (by kernel_rfl)), show b 11 = true from (hon 11 (by kernel_rfl)), show b 13 = true from (hon 13 (by kernel_rfl)), show b 14 = false from hb_] at hI5
             have hI6 := hI5.s14
             refine hK.out _ _ ⟨u2, u4, _, u8, u10, _, gn, _, _, (by rw [ha.out]; exact putSel_none (v := undef) rfl), (by show RgI w _ g5 g6 _ _ t2 t3 _ _ (b 2) (b 4) (b 5) (b 8) (b 10) (b 11) (b 13) true _ _ _ _ _ _ _; rw [show b 5 = true from (hon 5 (by kernel_rfl)), show b 11 = true from (hon 11 (by kernel_rfl)), show b 13 = true from (hon 13 (by kernel_rfl))]; exact hI6), fun _ => rfl, fun _ => rfl⟩
            exact steps_nil
           rintro b a wq hall ⟨u2, u4, u5, u8, u10, u11, gn, m12, m13, ha, hI, h12, h13⟩
           have hb1_ := hall 1 (by kernel_rfl)
           have hb2_ := hall 2 (by kernel_rfl)
           have hb4_ := hall 4 (by kernel_rfl)
           have hb5_ := hall 5 (by kernel_rfl)
           have hb7_ := hall 7 (by kernel_rfl)
           have hb8_ := hall 8 (by kernel_rfl)
           have hb10_ := hall 10 (by kernel_rfl)
           have hb11_ := hall 11 (by kernel_rfl)
           have hb12_ := hall 12 (by kernel_rfl)
           have hb13_ := hall 13 (by kernel_rfl)
           have hb14_ := hall 14 (by kernel_rfl)
           subst ha
           obtain rfl := h12 hb12_
           obtain rfl := h13 hb13_
           simp only [putSel, hb1_, hb2_, hb4_, hb5_, hb7_, hb8_, hb10_, hb11_, hb12_, hb13_, hb14_, if_true, Act.put, List.setIfInBounds_toArray, List.set_cons_zero, List.set_cons_succ]
           obtain ⟨A5, c5, e5_⟩ := Kd.R_slice (hI.c5 hb5_)
           obtain ⟨n5, hn5⟩ : ∃ n_, n_ = (t2 ++ [x32]).length := ⟨_, rfl⟩
           rw [← hn5] at e5_
           subst e5_
           obtain ⟨A11, c11, e11_⟩ := Kd.R_slice (hI.c11 hb11_)
           obtain ⟨n11, hn11⟩ : ∃ n_, n_ = (t3 ++ [x10]).length := ⟨_, rfl⟩
           rw [← hn11] at e11_
           subst e11_
           have HL5 := Aside0.mk hn5
           have HL11 := Aside0.mk hn11
           clear hn5 hn11
           have HN5 := Aside0.mk (hI.c5 hb5_)
           have HN11 := Aside0.mk (hI.c11 hb11_)
           have HNA := Aside0.mk (hI.a11 hb5_ hb11_)
           have HNB := Aside0.mk (hI.cn hb13_)
           have HG := Aside0.mk hI.r0
           rw [hb14_] at HNB
           clear hI hall hb1_ hb2_ hb4_ hb5_ hb7_ hb8_ hb10_ hb11_ hb12_ hb13_ hb14_ h12 h13
           have hnb := HNB.out.1.1
           have hnc := HNB.out.1.2.1
           have hnb' := hnb.symm
           have hnc' := hnc.symm
           have hcz0 : wq.cell? ⟨gn, 0, none⟩ = some (.slice A5 n5 c5) := (blk_cell HNB.out.2 0).trans rfl
           have hcz1 : wq.cell? ⟨gn, 1, none⟩ = some (.slice A11 n11 c11) := (blk_cell HNB.out.2 1).trans rfl
           have hfz0 := blk_frozen HNB.out.2 0
           have hfz1 := blk_frozen HNB.out.2 1
           cases s3 with
           | true =>
            have H := Hs.out
            clear Hs
            rw [if_pos rfl] at H
            simp only [Option.some.injEq, Prod.mk.injEq] at H
            obtain ⟨rfl, rfl, rfl⟩ := H
            go_wp2_with (first | (go_at_call 17; obtain rfl := HL5.out; obtain rfl := HL11.out; (with_reducible refine (ih kj3 (q0e9_ HJ1.out HK2.out HJ3.out) _ _ l0 _ _ (t2 ++ [x32]) _ _ (t3 ++ [x10]) s1 s2 true _ ?s1 ?s2 ?s3 ?s4 ?s5 ?s6 A4.out).mono ?_); (case s1 => exact (q5e2_ HR0.out)); (case s2 => exact HC0.out); (case s3 => exact (q578_ HN5.out)); (case s4 => exact (Kd.R_reads' HN5.out).2.1); (case s5 => exact (q578_ HN11.out)); (case s6 => exact (Kd.R_reads' HN11.out).2.1); rintro e w8 ⟨x0, x1, rfl, hR⟩; have hB8 := hR.1; have hO8 := hR.own q813_ (qf1e_ HN5.out) (qf1e_ HN11.out) HNA.out; obtain ⟨A8, c8, e8_⟩ := Kd.R_slice hO8.1; subst e8_; obtain ⟨A9, c9, e9_⟩ := Kd.R_slice hO8.2.1; subst e9_; have HO8 := Aside0.mk hO8; have hg_ := Aside0.mk (Rg0.next qc52_ hB8); clear HG hR hB8 hO8 HN5 HN11 HNA HNB hcz0 hcz1 hfz0 hfz1; have HG := hg_; clear hg_) | ((with_reducible refine gate_dst (N := 12) rfl ?_); refine box_event ?hg (N := 12) ?hd (cs := #[.slice none 0 0, .slice none 0 0]) (t := 33) ?hr ?_; (case hd => rfl); (case hg => rfl); (case hr => exact qba7_); intro go hgo w9 hbox hb; have HN8 := Aside0.mk (show g5 ≠ go ∧ g6 ≠ go ∧ w.heap.size ≤ go from ⟨by have h_ := blk_lt HG.out.h5; rw [hgo]; exact Nat.ne_of_lt h_, by have h_ := blk_lt HG.out.h6; rw [hgo]; exact Nat.ne_of_lt h_, by rw [hgo]; exact HG.out.below.size⟩); have BK8 := Aside0.mk hbox; have ho_ := Aside0.mk (And.intro (Kd.R_below HO8.out.1 hb) (And.intro (Kd.R_below HO8.out.2.1 hb) HO8.out.2.2)); have hg_ := Aside0.mk (Rg0.next qc52_ hb); clear HG HO8 hb hbox hgo; have HG := hg_; have HO8 := ho_; clear hg_ ho_; have hoz0 : w9.cell? ⟨go, 0, none⟩ = some (.slice none 0 0) := (blk_cell BK8.out 0).trans rfl; have hoz1 : w9.cell? ⟨go, 1, none⟩ = some (.slice none 0 0) := (blk_cell BK8.out 1).trans rfl; have hof0 := blk_frozen BK8.out 0; have hof1 := blk_frozen BK8.out 1; have hop0 := HN8.out.1; have hop1 := HN8.out.2.1; have hop2 := hop0.symm; have hop3 := hop1.symm; have hyz0 : w9.cell? ⟨g6, 0, none⟩ = some (.slice none 0 0) := (blk_cell HG.out.h6 0).trans rfl; have hyz1 : w9.cell? ⟨g6, 1, none⟩ = some (.slice none 0 0) := (blk_cell HG.out.h6 1).trans rfl; have hyf0 := blk_frozen HG.out.h6 0; have hyf1 := blk_frozen HG.out.h6 1))
            refine bodyPost_ret (results_ct rfl _ _ g6 33 #[.slice A8 s1.length c8, .slice A9 s2.length c9] (0, 0) _ rfl qc29_ Try.underlying33 rfl (by kernel_rfl)) rfl ?_
            exact ⟨_, _, (by first | rfl | (simp; done)), ⟨q2d1_, .inr ⟨(by (with_reducible repeat (first | apply Kd.R_alloc | apply Kd.R_drewN | apply Kd.R_drew)); exact Kd.R_mono (Kd.R_far (p := ⟨g6, 1, none⟩) (Kd.R_far (p := ⟨g6, 0, none⟩) (Kd.R_far (p := ⟨go, 1, none⟩) (Kd.R_far (p := ⟨go, 0, none⟩) (Kd.R_types (Kd.R_types HO8.out.1 BK8.out (by decide)) HG.out.h6 (by decide)) (fun _ hk => hk.1.2) _) (fun _ hk => hk.1.2) _) (fun _ hk => hk.2) _) (fun _ hk => hk.2) _) (fun _ _ => trivial)), (by (with_reducible repeat (first | apply Kd.R_alloc | apply Kd.R_drewN | apply Kd.R_drew)); exact Kd.R_mono (Kd.R_far (p := ⟨g6, 1, none⟩) (Kd.R_far (p := ⟨g6, 0, none⟩) (Kd.R_far (p := ⟨go, 1, none⟩) (Kd.R_far (p := ⟨go, 0, none⟩) (Kd.R_types (Kd.R_types HO8.out.2.1 BK8.out (by decide)) HG.out.h6 (by decide)) (fun _ hk => hk.1.2) _) (fun _ hk => hk.1.2) _) (fun _ hk => hk.2) _) (fun _ hk => hk.2) _) (fun _ _ => trivial)), HO8.out.2.2⟩⟩⟩
           | false =>
            have H := Hs.out
            clear Hs
            rw [if_neg nf_] at H
            have H' := Aside0.mk H
            clear H
            go_wp2_with (first | (go_at_call 17; obtain rfl := HL5.out; obtain rfl := HL11.out; (with_reducible refine (ih kj3 (q0e9_ HJ1.out HK2.out HJ3.out) _ _ l0 _ _ (t2 ++ [x32]) _ _ (t3 ++ [x10]) s1 s2 false _ ?s1 ?s2 ?s3 ?s4 ?s5 ?s6 A4.out).mono ?_); (case s1 => exact (q5e2_ HR0.out)); (case s2 => exact HC0.out); (case s3 => exact (q578_ HN5.out)); (case s4 => exact (Kd.R_reads' HN5.out).2.1); (case s5 => exact (q578_ HN11.out)); (case s6 => exact (Kd.R_reads' HN11.out).2.1); rintro e w8 ⟨x0, x1, rfl, hR⟩; have hB8 := hR.1; have hO8 := hR.own q813_ (qf1e_ HN5.out) (qf1e_ HN11.out) HNA.out; obtain ⟨A8, c8, e8_⟩ := Kd.R_slice hO8.1; subst e8_; obtain ⟨A9, c9, e9_⟩ := Kd.R_slice hO8.2.1; subst e9_; have HO8 := Aside0.mk hO8; have hg_ := Aside0.mk (Rg0.next qc52_ hB8); clear HG hR hB8 hO8 HN5 HN11 HNA HNB hcz0 hcz1 hfz0 hfz1; have HG := hg_; clear hg_) | ((with_reducible refine gate_dst (N := 12) rfl ?_); refine box_event ?hg (N := 12) ?hd (cs := #[.slice none 0 0, .slice none 0 0]) (t := 33) ?hr ?_; (case hd => rfl); (case hg => rfl); (case hr => exact qba7_); intro go hgo w9 hbox hb; have HN8 := Aside0.mk (show g5 ≠ go ∧ g6 ≠ go ∧ w.heap.size ≤ go from ⟨by have h_ := blk_lt HG.out.h5; rw [hgo]; exact Nat.ne_of_lt h_, by have h_ := blk_lt HG.out.h6; rw [hgo]; exact Nat.ne_of_lt h_, by rw [hgo]; exact HG.out.below.size⟩); have BK8 := Aside0.mk hbox; have ho_ := Aside0.mk (And.intro (Kd.R_below HO8.out.1 hb) (And.intro (Kd.R_below HO8.out.2.1 hb) HO8.out.2.2)); have hg_ := Aside0.mk (Rg0.next qc52_ hb); clear HG HO8 hb hbox hgo; have HG := hg_; have HO8 := ho_; clear hg_ ho_; have hoz0 : w9.cell? ⟨go, 0, none⟩ = some (.slice none 0 0) := (blk_cell BK8.out 0).trans rfl; have hoz1 : w9.cell? ⟨go, 1, none⟩ = some (.slice none 0 0) := (blk_cell BK8.out 1).trans rfl; have hof0 := blk_frozen BK8.out 0; have hof1 := blk_frozen BK8.out 1; have hop0 := HN8.out.1; have hop1 := HN8.out.2.1; have hop2 := hop0.symm; have hop3 := hop1.symm; have hyz0 : w9.cell? ⟨g6, 0, none⟩ = some (.slice none 0 0) := (blk_cell HG.out.h6 0).trans rfl; have hyz1 : w9.cell? ⟨g6, 1, none⟩ = some (.slice none 0 0) := (blk_cell HG.out.h6 1).trans rfl; have hyf0 := blk_frozen HG.out.h6 0; have hyf1 := blk_frozen HG.out.h6 1))
            go_roundg kj3
            case measure => have := HJ1.out; have := HK2.out; have := HJ3.out; omega
            case rel => exact ⟨(wrap64 (x32 + 1)), qc8f_, H', ⟨q0e9_ HJ1.out HK2.out HJ3.out⟩, ⟨q0c7_⟩⟩
          · rw [if_neg c48] at H; exact absurd H (by simp)
         · rw [if_neg c46] at H; exact absurd H (by simp)
        ·
         rw [if_neg c44] at H
         have c44b0 := beq_eq_false_iff_ne.mpr c44
         have c44b1 := bne_iff_ne.mpr c44
         have H' := Aside0.mk H
         clear H
         have hnb := HG.out.ne
         have hnc := HG.out.ne.symm
         have hcz0 : wc.cell? ⟨g5, 0, none⟩ = some (.slice B0 l1_0.length d0) := (blk_cell HG.out.h5 0).trans rfl
         have hcz1 : wc.cell? ⟨g5, 1, none⟩ = some (.slice B1 l1_1.length d1) := (blk_cell HG.out.h5 1).trans rfl
         have hfz0 := blk_frozen HG.out.h5 0
         have hfz1 := blk_frozen HG.out.h5 1
         go_wp2_with (first | ((with_reducible refine gate_callee (f := 22) rfl ?_); refine gl_ 60 Try.func22 #[.slice B0 l1_0.length d0, .int .i64 x10, .int .i64 x32] ?_; (with_reducible refine (impl_labelAt.calls _ _ l1_0 x10 x32 t4 _ ?s1 ?s2 A5.out).mono ?_); (case s1 => exact (q5e2_ HR1.out)); (case s2 => exact HC1.out); rintro e w6 ⟨rfl, hb⟩; refine ⟨_, rfl, ?_⟩; have hg_ := Aside0.mk (Rg0.next qc52_ hb); clear HG; have HG := hg_; clear hg_ hb))
         go_roundg kj3
         case measure => have := HJ1.out; have := HK2.out; have := HJ3.out; omega
         case rel => exact ⟨(wrap64 (x32 + 1)), qc8f_, H', ⟨q0e9_ HJ1.out HK2.out HJ3.out⟩, ⟨qc52_⟩⟩
     · rw [if_neg c25] at H; exact absurd H (by simp)
    ·
     rw [if_neg c24] at H
     have c24b0 := decide_eq_false c24
     clear c24
     simp only [Option.some.injEq, Prod.mk.injEq] at H
     obtain ⟨rfl, rfl, rfl⟩ := H
     have hnb := HG.out.ne
     have hnc := HG.out.ne.symm
     have hyz0 : wr.cell? ⟨g6, 0, none⟩ = some (.slice none 0 0) := (blk_cell HG.out.h6 0).trans rfl
     have hyz1 : wr.cell? ⟨g6, 1, none⟩ = some (.slice none 0 0) := (blk_cell HG.out.h6 1).trans rfl
     have hyf0 := blk_frozen HG.out.h6 0
     have hyf1 := blk_frozen HG.out.h6 1
     go_wp2
     refine bodyPost_ret (results_ct rfl _ _ g6 33 #[.slice none 0 0, .slice none 0 0] (0, 0) _ rfl q684_ Try.underlying33 rfl (by kernel_rfl)) rfl ?_
     exact ⟨_, _, (by first | rfl | (simp; done)), ⟨q697_, .inr ⟨Kd.R_nil _ _ _ _ _, Kd.R_nil _ _ _ _ _, fun k_ h_ => by simp [Value.ownBlock] at h_⟩⟩⟩
theorem impl_regionOf.calls (k : Nat) : ∀ (A0 : Option Addr) (c0 : Nat) (l0 : List Int) (P0 : Nat → Prop) (u0 : Value) (l1_0 : List Int) (P1 : Nat → Prop) (u1 : Value) (l1_1 : List Int) (r1 : List Int) (r2 : List Int) (r3 : Bool) (w0 w : World) (hB : Below w0.heap.size w0 w) (hr0 : ∀ W_, Kept w W_ (fun k_ => P0 k_ ∨ P1 k_) → Kd.C (Kd.int .i64) W_ A0 l0.length l0) (hc0 : l0.length ≤ c0) (ho0 : Kd.R (Kd.int .i64) 3 w w0.heap.size P0 u0 l1_0) (hp0 : ∀ k_, P0 k_ → ¬ P1 k_) (ho1 : Kd.R (Kd.int .i64) 3 w w0.heap.size P1 u1 l1_1) (hp1 : ∀ k_, P1 k_ → ¬ P0 k_) (h : impl_regionOf.f k l0 l1_0 l1_1 = some (r1, r2, r3)),
  Calls Try.prog 17 #[.slice A0 l0.length c0, .agg #[u0, u1]] w fun e w' => ∃ v0_ v1_ : Value, e = .returned (.tuple #[.agg #[v0_, v1_], .bool r3]) ∧ Kd.R (Kd.int .i64) 3 w' w0.heap.size (fun k_ => ((P0 k_ ∨ P1 k_) ∨ w.heap.size ≤ k_) ∧ some k_ ≠ (v1_ : Value).ownBlock) v0_ r1 ∧ Kd.R (Kd.int .i64) 3 w' w0.heap.size (fun k_ => ((P0 k_ ∨ P1 k_) ∨ w.heap.size ≤ k_) ∧ some k_ ≠ (v0_ : Value).ownBlock) v1_ r2 ∧ Below w0.heap.size w0 w' ∧ Kept w w' (fun k_ => P0 k_ ∨ P1 k_) := by
 intro A0 c0 l0 P0 u0 l1_0 P1 u1 l1_1 r1 r2 r3 w0 w hB hr0 hc0 ho0 hp0 ho1 hp1 h
 obtain ⟨B0, d0, rfl⟩ := Kd.R_slice ho0
 obtain ⟨B1, d1, rfl⟩ := Kd.R_slice ho1
 refine (impl_regionOf.calls0 k A0 c0 l0 B0 d0 l1_0 B1 d1 l1_1 r1 r2 r3 w (hr0 w (Kept.refl w _)) hc0 (Kd.R_reads' ho0).2.2 (Kd.R_reads' ho0).2.1 (Kd.R_reads' ho1).2.2 (Kd.R_reads' ho1).2.1 h).mono ?_
 rintro e w' ⟨v0, v1, rfl, hb, hR⟩
 refine ⟨v0, v1, rfl, ?_, ?_, below_then hB hB.size hb, Kept.of_below hb _⟩
 ·
  rcases hR with ⟨rfl, rfl, rfl, rfl⟩ | ⟨h0, h1, ha⟩
  · exact R_okto (Kd.R_below ho0 hb) (fun k_ e_ => ⟨.inl (.inl (ho0.1 k_ e_)), fun e2 => hp0 k_ (ho0.1 k_ e_) (ho1.1 k_ e2.symm)⟩)
  · exact R_okto (Kd.R_lower h0 hB.size) (fun k_ e_ => ⟨.inr (Kd.R_base h0 k_ e_), fun e2 => ha k_ e_ e2.symm⟩)
 ·
  rcases hR with ⟨rfl, rfl, rfl, rfl⟩ | ⟨h0, h1, ha⟩
  · exact R_okto (Kd.R_below ho1 hb) (fun k_ e_ => ⟨.inl (.inr (ho1.1 k_ e_)), fun e2 => hp1 k_ (ho1.1 k_ e_) (ho0.1 k_ e2.symm)⟩)
  · exact R_okto (Kd.R_lower h1 hB.size) (fun k_ e_ => ⟨.inr (Kd.R_base h1 k_ e_), fun e2 => ha k_ e2.symm e_⟩)

/-! ### impl_AllRegions: function 6 -/
def impl_AllRegions.l0 : Nat → List (S33) → List (List Int) → Int → Int → Option ((List (S33)) × Bool)
 | 0, _, _, _, _ => none
 | k + 1, x4, x14, x15, x16 => if x16 < x15 then (if 0 ≤ x16 then (if x16 < (x14.length : Int) then ((impl_regionOf.f k (rd_L2 x14 x16) ([] : List Int) ([] : List Int)).bind fun bt217 => (if x4.length < 2932031007402 then (impl_AllRegions.l0 k (x4 ++ [(⟨bt217.1, bt217.2.1⟩ : S33)]) x14 x15 (wrap64 (x16 + 1))) else (none))) else (none)) else (none)) else (some (x4, true))
def impl_AllRegions.f (k : Nat) (a0 : Int) : Option ((List (S33)) × Bool) := (impl_between.f a0 0 4).bind fun t209 => (if t209 = true then ((impl_allParking.f k a0).bind fun t213 => (impl_AllRegions.l0 k (([] : List (S33))) t213 (t213.length : Int) 0)) else (some (([] : List (S33)), false)))
theorem impl_AllRegions.mono_l : ∀ k, (∀ y0 y1 y2 y3, LeO (impl_AllRegions.l0 k y0 y1 y2 y3) (impl_AllRegions.l0 (k + 1) y0 y1 y2 y3))
 | 0 => fun _ _ _ _ r h => by simp [impl_AllRegions.l0] at h
 | k + 1 => by
  have ih0 := impl_AllRegions.mono_l k
  ·
   intro y0 y1 y2 y3
   unfold impl_AllRegions.l0
   repeat' (with_reducible first | exact ih0 _ _ _ _ | exact impl_allParking.mono _ _ | exact impl_regionOf.mono _ _ _ _ | exact LeO.refl _ | exact LeO.none _ | refine LeO.ite ?_ ?_ | refine LeO.bind ?_ (fun _ => ?_))
theorem impl_AllRegions.mono : ∀ a0 k, LeO (impl_AllRegions.f k a0) (impl_AllRegions.f (k + 1) a0) := by
 intro a0 k
 have ih0 := impl_AllRegions.mono_l k
 unfold impl_AllRegions.f
 repeat' (with_reducible first | exact ih0 _ _ _ _ | exact impl_allParking.mono _ _ | exact impl_regionOf.mono _ _ _ _ | exact LeO.refl _ | exact LeO.none _ | refine LeO.ite ?_ ?_ | refine LeO.bind ?_ (fun _ => ?_))
theorem impl_AllRegions.calls (k : Nat) (a0 : Int) (r1 : List (S33)) (r2 : Bool) (w : World) (h : impl_AllRegions.f k a0 = some (r1, r2)) :
  Calls Try.prog 6 #[.int .i64 a0] w fun e w' => ∃ v0_ : Value, e = .returned (.tuple #[v0_, .bool r2]) ∧ Kd.S k33 33 w' w.heap.size (fun _ => True) v0_ r1 ∧ Below w.heap.size w w' := by
 have hu33 := Try.underlying33
 have HB := Aside0.mk (Below.refl w.heap.size w)
 unfold impl_AllRegions.f at h
 have H := h; clear h
 obtain ⟨t209, A2, H⟩ := ob_ H
 by_cases c3 : t209 = true
 ·
  subst c3
  rw [if_pos rfl] at H
  obtain ⟨y210, hy210⟩ : ∃ y_ : List (S33), y_ = (([] : List (S33))) := ⟨_, rfl⟩
  replace H : ((impl_allParking.f k a0).bind fun t213 => (impl_AllRegions.l0 k y210 t213 (t213.length : Int) 0)) = some (r1, r2) := by first | (rw [hy210]; with_reducible exact H) | (have H2_ := (Option.bind_some _ _).symm.trans H; rw [hy210]; with_reducible exact H2_) | (have H2_ := (Option.bind_some _ _).symm.trans H; with_reducible exact H2_) | with_reducible exact H | (rw [hy210]; exact H) | exact H
  have Ny210 := Aside0.mk hy210
  clear hy210
  obtain ⟨t213, A4, H⟩ := ob_ H
  have H' := Aside0.mk H
  clear H
  go_enter Try.func6, Try.ntmps6
  go_wp2_with (first | ((with_reducible refine gate_callee (f := 15) rfl ?_); refine gl_ 10 Try.func15 #[.int .i64 a0, .int .i64 0, .int .i64 4] ?_; (with_reducible refine (impl_between.calls a0 0 4 true _ A2.out).mono ?_); rintro e w' ⟨rfl, ⟨nd, rfl⟩⟩; refine ⟨_, rfl, ?_⟩) | ((with_reducible refine gate_dst (N := 12) rfl ?_); refine Kd.S_lit k33 _ 33 ?hg (N := 12) ?hd (xs := ([] : List (S33))) (inner := []) (ok := fun _ => True) (okp := fun _ => True) ?hr ?hp (fun _ hk => hk) trivial (Below.refl _ _) (Nat.le_refl _) (by simp) ?_; (case hd => rfl); (case hg => rfl); (case hr => exact qba7_); (case hp => exact (Reps.none _ _)); intro v211 w5 ho6 hb hg_ hnew_; clear hg_ hnew_; (first | rw [← Ny210.out] at ho6 | (simp only [Int.reduceToNat] at ho6; rw [← Ny210.out] at ho6)); have HO212 := Aside0.mk (Kd.S_lower ho6 (below_size q0c4_)); replace HB := Aside0.mk (below_step q0c4_ hb); clear hb ho6) | ((with_reducible refine gate_callee (f := 16) rfl ?_); refine gl_ 14 Try.func16 #[.int .i64 a0] ?_; (with_reducible refine (impl_allParking.calls k a0 t213 _ A4.out).mono ?_); rintro e w7 ⟨v214, rfl, ho0, hb⟩; refine ⟨_, rfl, ?_⟩; replace HO212 := Aside0.mk (Kd.S_below (qd7e_ HO212.out) hb); have HO215 := Aside0.mk (Kd.S_lower ho0 (below_size q0c4_)); replace HB := Aside0.mk (below_step q0c4_ hb); clear hb ho0; obtain ⟨Ao8, co8, eo8⟩ := Kd.S_slice HO215.out; subst eo8))
  go_loopg [4, 16] k (fun kq v4 v16 w' => ∃ (x4_1 : List (S33)) (x16_1 : Int), v16 = .int .i64 x16_1 ∧ Aside0 (impl_AllRegions.l0 kq x4_1 t213 (t213.length : Int) x16_1 = some (r1, r2)) ∧ Aside0 (kq ≤ k) ∧ Aside0 (Kd.S k33 33 w' w.heap.size (fun _ => True) v4 x4_1) ∧ Aside0 (Kd.S (Kd.slice 3 (Kd.int .i64)) 31 w' w.heap.size (fun _ => True) (.slice Ao8 t213.length co8) t213) ∧ Aside0 (Below w.heap.size w w'))
  case atStart => exact ⟨(y210), (0), qc8f_, H', ⟨Nat.le_refl _⟩, ⟨qd7e_ HO212.out⟩, ⟨qd7e_ HO215.out⟩, ⟨q0c4_⟩⟩
  case round =>
   clear H'; try clear c1; try clear p2; try clear c3; try clear c6
   obtain ⟨x4_1, x16_1, rfl, HA, HK1, HO_4, HO_14, HB⟩ := hrel
   cases gk with
   | zero => exact absurd HA.out (by simp [impl_AllRegions.l0])
   | succ k1 =>
    have H := HA.out
    clear HA
    simp only [impl_AllRegions.l0] at H
    by_cases c9 : x16_1 < (t213.length : Int)
    ·
     rw [if_pos c9] at H
     have c9b0 := decide_eq_true c9
     clear c9
     by_cases c10 : 0 ≤ x16_1
     ·
      rw [if_pos c10] at H
      have c10b0 := decide_eq_true c10
      clear c10
      by_cases c11 : x16_1 < (t213.length : Int)
      ·
       rw [if_pos c11] at H
       have c11b0 := decide_eq_true c11
       clear c11
       obtain ⟨⟨t217, t220, t223⟩, A12, H⟩ := ob_ H
       dsimp only at H
       by_cases c13 : x4_1.length < 2932031007402
       ·
        rw [if_pos c13] at H
        have LMc13 := Aside0.mk c13
        clear c13
        obtain ⟨y225, hy225⟩ : ∃ y_ : List (S33), y_ = (x4_1 ++ [(⟨t217, t220⟩ : S33)]) := ⟨_, rfl⟩
        replace H : (impl_AllRegions.l0 k1 y225 t213 (t213.length : Int) (wrap64 (x16_1 + 1))) = some (r1, r2) := by first | (rw [hy225]; with_reducible exact H) | (have H2_ := (Option.bind_some _ _).symm.trans H; rw [hy225]; with_reducible exact H2_) | (have H2_ := (Option.bind_some _ _).symm.trans H; with_reducible exact H2_) | with_reducible exact H | (rw [hy225]; exact H) | exact H
        have Ny225 := Aside0.mk hy225
        clear hy225
        have H' := Aside0.mk H
        clear H
        have p216 : 0 ≤ (x16_1 : Int) := of_decide_eq_true qe84_
        have q216 : x16_1 < (t213.length : Int) := of_decide_eq_true qe84_
        obtain ⟨ad216, A216_0, c216_0, e216, hx216_0, hl216_0, hi216_0⟩ := at_L2 (Kd.S_reads' HO_14.out).2.2 x16_1 p216 q216
        cases e216
        obtain ⟨ce216, hce216, hMe216, hcc216⟩ := Kd.S_get HO_14.out [] x16_1 p216 (by first | exact q216 | exact of_decide_eq_true qe84_ | (have e_ := (Kd.S_reads' HO_14.out).1; omega))
        obtain ⟨ve216_0, rfl, ge216_0⟩ := hMe216
        have hv216_0 := hcc216 0 _ rfl
        rw [Nat.add_zero, show ((Kd.slice 3 (Kd.int .i64))).sz = 1 from rfl, Nat.mul_one] at hv216_0
        replace hv216_0 := Option.some.inj (hv216_0.symm.trans hx216_0)
        rw [hv216_0] at ge216_0
        have HL216_0 := Aside0.mk (show Kd.R (Kd.int .i64) 3 _ _ _ _ (rd_L2 t213 x16_1) from ge216_0)
        clear hv216_0 ge216_0 hcc216 hce216
        have HR216_0 := Aside0.mk hi216_0
        have HC216_0 := Aside0.mk hl216_0
        clear hi216_0 hl216_0
        replace p216 := eq_true p216
        replace q216 := eq_true q216
        go_wp2_with (first | ((with_reducible refine gate_callee (f := 17) rfl ?_); refine gl_ 23 Try.func17 #[.slice A216_0 (rd_L2 t213 x16_1).length c216_0, .agg #[.slice none 0 0, .slice none 0 0]] ?_; (refine (impl_regionOf.calls k1 _ _ (rd_L2 t213 x16_1) (fun k_ => some k_ = (.slice none 0 0 : Value).ownBlock) (.slice none 0 0) ([] : List Int) (fun k_ => some k_ = (.slice none 0 0 : Value).ownBlock) (.slice none 0 0) ([] : List Int) t217 t220 t223 w _ ?s1 ?s2 ?s3 ?s4 ?s5 ?s6 ?s7 A12.out).mono ?_); (case s1 => exact q0c4_); (case s2 => exact Kd.C_kept_own (HL216_0.out) (fun k_ hk_ hs_ => Or.elim hs_ (fun e_ => (fun e_ => q8a8_) e_) (fun e_ => (fun e_ => q8a8_) e_))); (case s3 => exact HC216_0.out); (case s4 => exact Kd.R_nil _ _ _ _ _); (case s5 => intro k_ e_ e2_; simp [Value.ownBlock] at e_ e2_); (case s6 => exact Kd.R_nil _ _ _ _ _); (case s7 => intro k_ e_ e2_; simp [Value.ownBlock] at e_ e2_); rintro e w14 ⟨v218, v221, rfl, ho0, ho1, hb, hkp⟩; refine ⟨_, rfl, ?_⟩; have n0_ := Aside0.mk (Kd.S_mono (ok' := fun k_ => some k_ ≠ (v218 : Value).ownBlock ∧ some k_ ≠ (v221 : Value).ownBlock) (Kd.S_keptB (HO_4.out) hkp (fun k_ hk_ hs_ => Or.elim hs_ (fun e_ => (fun e_ => q8a8_) e_) (fun e_ => (fun e_ => q8a8_) e_))) (fun k_ hk_ => ⟨fun e_ => Or.elim (ho0.1 k_ e_.symm).1 (fun hs_ => hk_.2.1 hs_) (fun hn_ => Nat.not_le.2 hk_.2.2 hn_), fun e_ => Or.elim (ho1.1 k_ e_.symm).1 (fun hs_ => hk_.2.1 hs_) (fun hn_ => Nat.not_le.2 hk_.2.2 hn_)⟩)); have n1_ := Aside0.mk (Kd.S_mono (ok' := fun k_ => some k_ ≠ (v218 : Value).ownBlock ∧ some k_ ≠ (v221 : Value).ownBlock) (Kd.S_keptB (HO_14.out) hkp (fun k_ hk_ hs_ => Or.elim hs_ (fun e_ => (fun e_ => q8a8_) e_) (fun e_ => (fun e_ => q8a8_) e_))) (fun k_ hk_ => ⟨fun e_ => Or.elim (ho0.1 k_ e_.symm).1 (fun hs_ => hk_.2.1 hs_) (fun hn_ => Nat.not_le.2 hk_.2.2 hn_), fun e_ => Or.elim (ho1.1 k_ e_.symm).1 (fun hs_ => hk_.2.1 hs_) (fun hn_ => Nat.not_le.2 hk_.2.2 hn_)⟩)); have n2_ := Aside0.mk (Kd.R_mono (ok' := fun k_ => some k_ ≠ (v221 : Value).ownBlock) ho0 (fun k_ hk_ => hk_.2)); have n3_ := Aside0.mk (Kd.R_mono (ok' := fun k_ => some k_ ≠ (v218 : Value).ownBlock) ho1 (fun k_ hk_ => hk_.2)); have n4_ := Aside0.mk (hb); replace HO_4 := n0_; replace HO_14 := n1_; have HO219 := n2_; have HO222 := n3_; replace HB := n4_; clear n0_ n1_ n2_ n3_ n4_; clear hb; (try clear hkp); clear ho0 ho1) | ((with_reducible refine gate_dst (N := 7) rfl ?_); refine box_event ?hg (N := 7) ?hd (cs := #[.slice none 0 0, .slice none 0 0]) (t := 33) ?hr ?_; (case hd => rfl); (case hg => rfl); (case hr => exact qba7_); intro gb224 hg w15 hbox hb; have n0_ := Aside0.mk (Kd.S_below (Kd.S_elderB (qd7e_ HO_4.out) gb224 (Nat.le_of_eq hg.symm)) hb); have n1_ := Aside0.mk (Kd.S_below (qd7e_ HO_14.out) hb); have n2_ := Aside0.mk (Kd.R_below (q9d5_ HO219.out) hb); have n3_ := Aside0.mk (Kd.R_below (q9d5_ HO222.out) hb); have n4_ := Aside0.mk (below_step q0c4_ hb); have n5_ := Aside0.mk (hbox); have n6_ := Aside0.mk ((by rw [hg]; exact (below_size q0c4_) : w.heap.size ≤ gb224)); have n7_ := Aside0.mk ((by rw [hg]; exact (below_size q0c4_) : w.heap.size ≤ gb224)); replace HO_4 := n0_; replace HO_14 := n1_; replace HO219 := n2_; replace HO222 := n3_; replace HB := n4_; have BK224 := n5_; have GW224 := n6_; have GE224 := n7_; clear n0_ n1_ n2_ n3_ n4_ n5_ n6_ n7_; clear hb hbox hg; obtain ⟨Ao16, co16, eo16⟩ := Kd.R_slice HO219.out; subst eo16; have hcz17_0 : w15.cell? ⟨gb224, 0, none⟩ = some (.slice none 0 0) := (blk_cell BK224.out 0).trans rfl; have hcz17_1 : w15.cell? ⟨gb224, 1, none⟩ = some (.slice none 0 0) := (blk_cell BK224.out 1).trans rfl; have hfz17_0 := blk_frozen BK224.out 0; have hfz17_1 := blk_frozen BK224.out 1; obtain ⟨Ao18, co18, eo18⟩ := Kd.R_slice HO222.out; subst eo18) | ((with_reducible refine gate_store (t := 33) (p := 7) rfl ?_); refine store_event (t := 33) (p := 7) (v := ?vo_w19) (w1 := ((w15.setCell ⟨gb224, 0, none⟩ (.slice Ao16 t217.length co16)).setCell ⟨gb224, 1, none⟩ (.slice Ao18 t220.length co18))) ?hg ?ho ?hn ?hr ?_; (case ho => rfl); (case hg => rfl); (case hn => rfl); (case hr => exact qba7_); intro w19 hw; have n0_ : Aside0 (Kd.S k33 33 w19 w.heap.size (fun k_ => some k_ ≠ (.slice Ao16 t217.length co16 : Value).ownBlock ∧ some k_ ≠ (.slice Ao18 t220.length co18 : Value).ownBlock ∧ k_ ≠ gb224) u4 x4_1) := ⟨(by rw [hw]; exact (by (with_reducible repeat (first | apply Kd.S_alloc | apply Kd.S_drewN | apply Kd.S_drew)); exact Kd.S_mono (Kd.S_far (p := ⟨gb224, 1, none⟩) (Kd.S_far (p := ⟨gb224, 0, none⟩) (Kd.S_mono HO_4.out (fun k_ hk => (⟨hk, hk.2⟩ : _ ∧ k_ ≠ gb224))) (fun _ hk => hk.2) (.slice Ao16 t217.length co16)) (fun _ hk => hk.2) (.slice Ao18 t220.length co18)) (fun _ hk => ⟨hk.1.1.1, ⟨hk.1.1.2, hk.1.2⟩⟩)))⟩; have n1_ : Aside0 (Kd.S (Kd.slice 3 (Kd.int .i64)) 31 w19 w.heap.size (fun k_ => some k_ ≠ (.slice Ao16 t217.length co16 : Value).ownBlock ∧ some k_ ≠ (.slice Ao18 t220.length co18 : Value).ownBlock) (.slice (some ad216) t213.length co8) t213) := ⟨(by rw [hw]; exact (by (with_reducible repeat (first | apply Kd.S_alloc | apply Kd.S_drewN | apply Kd.S_drew)); exact Kd.S_mono (Kd.S_far (p := ⟨gb224, 1, none⟩) (Kd.S_far (p := ⟨gb224, 0, none⟩) (Kd.S_types HO_14.out BK224.out (by decide)) (fun _ hk => hk.2) (.slice Ao16 t217.length co16)) (fun _ hk => hk.2) (.slice Ao18 t220.length co18)) (fun _ hk => ⟨hk.1.1, hk.1.2⟩)))⟩; have n2_ : Aside0 (Kd.R (Kd.int .i64) 3 w19 w.heap.size (fun k_ => some k_ ≠ (.slice Ao18 t220.length co18 : Value).ownBlock) (.slice Ao16 t217.length co16) t217) := ⟨(by rw [hw]; exact (by (with_reducible repeat (first | apply Kd.R_alloc | apply Kd.R_drewN | apply Kd.R_drew)); exact Kd.R_mono (Kd.R_far (p := ⟨gb224, 1, none⟩) (Kd.R_far (p := ⟨gb224, 0, none⟩) (Kd.R_types HO219.out BK224.out (by decide)) (fun _ hk => hk.2) (.slice Ao16 t217.length co16)) (fun _ hk => hk.2) (.slice Ao18 t220.length co18)) (fun _ hk => hk.1)))⟩; have n3_ : Aside0 (Kd.R (Kd.int .i64) 3 w19 w.heap.size (fun k_ => some k_ ≠ (.slice Ao16 t217.length co16 : Value).ownBlock) (.slice Ao18 t220.length co18) t220) := ⟨(by rw [hw]; exact (by (with_reducible repeat (first | apply Kd.R_alloc | apply Kd.R_drewN | apply Kd.R_drew)); exact Kd.R_mono (Kd.R_far (p := ⟨gb224, 1, none⟩) (Kd.R_far (p := ⟨gb224, 0, none⟩) (Kd.R_types HO222.out BK224.out (by decide)) (fun _ hk => hk.2) (.slice Ao16 t217.length co16)) (fun _ hk => hk.2) (.slice Ao18 t220.length co18)) (fun _ hk => hk.1)))⟩; have n4_ : Aside0 (w19.heap[gb224]? = some (.cells #[.slice Ao16 t217.length co16, .slice Ao18 t220.length co18] 33 (0, 0))) := ⟨(by rw [hw]; exact (by (with_reducible repeat (first | refine blk_drewN ?_ _ | refine blk_drew ?_ | refine blk_alloc ?_ _)); refine blk_put (cs := #[.slice Ao16 t217.length co16, .slice none 0 0]) ?_ 1 _ rfl; (with_reducible repeat (first | refine blk_drewN ?_ _ | refine blk_drew ?_ | refine blk_alloc ?_ _)); refine blk_put (cs := #[.slice none 0 0, .slice none 0 0]) ?_ 0 _ rfl; (with_reducible repeat (first | refine blk_drewN ?_ _ | refine blk_drew ?_ | refine blk_alloc ?_ _)); exact BK224.out))⟩; have n5_ : Aside0 (Below w.heap.size w w19) := ⟨(by rw [hw]; exact q293_)⟩; clear hw; clear HO_4; clear HO_14; clear HO219; clear HO222; clear BK224; clear HB; have HO_4 := n0_; have HO_14 := n1_; have HO219 := n2_; have HO222 := n3_; have BK224 := n4_; have HB := n5_; clear n0_ n1_ n2_ n3_ n4_ n5_; have hcz20_0 : w19.cell? ⟨gb224, 0, none⟩ = some (.slice Ao16 t217.length co16) := (blk_cell BK224.out 0).trans rfl; have hcz20_1 : w19.cell? ⟨gb224, 1, none⟩ = some (.slice Ao18 t220.length co18) := (blk_cell BK224.out 1).trans rfl; have hfz20_0 := blk_frozen BK224.out 0; have hfz20_1 := blk_frozen BK224.out 1) | ((with_reducible refine gate_builtin (b := .append) (xs := #[.tmp 26, .tmp 28]) rfl ?_); at_builtin; refine Kd.S_append k33 (w0 := w) w.heap.size rfl (.tmp 26) (.tmp 28) 25 33 (.agg #[(.slice none 0 0), (.slice none 0 0)]) 48 rfl Try.underlying25 info33 rfl (by decide) (by omega) u4 x4_1 (⟨t217, t220⟩ : S33) [.slice Ao16 t217.length co16, .slice Ao18 t220.length co18] (fun k_ => k_ ≠ gb224) (fun k_ => some k_ = (.slice Ao16 t217.length co16 : Value).ownBlock ∨ some k_ = (.slice Ao18 t220.length co18 : Value).ownBlock) rfl rfl ?aP (fun k_ hk_ => hk_.elim (fun h_ => ((Kd.R_mono (ok' := fun k_ => ((fun k_ => k_ ≠ gb224)) k_ ∧ some k_ ≠ (u4 : Value).ownBlock) (Kd.R_types (Kd.R_apart' (HO219.out) (Kd.S_typed HO_4.out) (by decide)) BK224.out (by decide)) (fun k_ hk => ⟨hk.2, hk.1.2⟩))).1 k_ h_.symm) (fun h_ => ((Kd.R_mono (ok' := fun k_ => ((fun k_ => k_ ≠ gb224)) k_ ∧ some k_ ≠ (u4 : Value).ownBlock) (Kd.R_types (Kd.R_apart' (HO222.out) (Kd.S_typed HO_4.out) (by decide)) BK224.out (by decide)) (fun k_ hk => ⟨hk.2, hk.1.2⟩))).1 k_ h_.symm)) ?aF ?aO ?aB ?aS ?aL ?_; (case aP => exact k33_mkM _ _ _ (⟨t217, t220⟩ : S33) (Kd.R_mono (Kd.R_tight rfl (Kd.R_mono (ok' := fun k_ => ((fun k_ => k_ ≠ gb224)) k_ ∧ some k_ ≠ (u4 : Value).ownBlock) (Kd.R_types (Kd.R_apart' (HO219.out) (Kd.S_typed HO_4.out) (by decide)) BK224.out (by decide)) (fun k_ hk => ⟨hk.2, hk.1.2⟩))) (fun _ h_ => Or.inl h_)) (Kd.R_mono (Kd.R_tight rfl (Kd.R_mono (ok' := fun k_ => ((fun k_ => k_ ≠ gb224)) k_ ∧ some k_ ≠ (u4 : Value).ownBlock) (Kd.R_types (Kd.R_apart' (HO222.out) (Kd.S_typed HO_4.out) (by decide)) BK224.out (by decide)) (fun k_ hk => ⟨hk.2, hk.1.2⟩))) (fun _ h_ => Or.inr (h_)))); (case aB => exact q293_); (case aF => exact (fun k_ hk => Kd.freshB (g := gb224) (o := .cells #[.slice Ao16 t217.length co16, .slice Ao18 t220.length co18] 33 (0, 0)) (by (with_reducible repeat (first | refine blk_drewN ?_ _ | refine blk_drew ?_ | refine blk_alloc ?_ _)); exact BK224.out) k_ hk)); (case aO => exact (by (with_reducible repeat (first | apply Kd.S_alloc | apply Kd.S_drewN | apply Kd.S_drew)); exact Kd.S_mono HO_4.out (fun k_ hk => ⟨hk.2.2, fun e_ => e_.elim (fun h_ => hk.1 h_) (fun h_ => hk.2.1 h_)⟩))); (case aS => exact (below_size q293_)); (case aL => have := LMc13.out; omega); intro v226 w21 ho hb hg hat; rw [← Ny225.out] at ho; have n0_ := Aside0.mk (Kd.S_over' (qd7e_ HO_14.out) (Kd.S_typed (qd7e_ HO_4.out)) (by decide) hg); have n1_ := Aside0.mk (blk_grown (g := gb224) (o := .cells #[.slice Ao16 t217.length co16, .slice Ao18 t220.length co18] 33 (0, 0)) (by (with_reducible repeat (first | refine blk_drewN ?_ _ | refine blk_drew ?_ | refine blk_alloc ?_ _)); exact BK224.out) hg (Kd.S_away HO_4.out (fun _ hk => hk.2.2))); have n2_ := Aside0.mk (hb); have n3_ := Aside0.mk (ho); replace HO_14 := n0_; replace BK224 := n1_; replace HB := n2_; have HO227 := n3_; clear n0_ n1_ n2_ n3_; clear ho hb hg hat))
        go_roundg k1
        case measure => have := HK1.out; omega
        case rel => exact ⟨(y225), (wrap64 (x16_1 + 1)), qc8f_, H', ⟨by have := HK1.out; omega⟩, ⟨by (with_reducible repeat (first | apply Kd.S_alloc | apply Kd.S_drewN | apply Kd.S_drew)); exact Kd.S_mono HO227.out (fun _ hk => trivial)⟩, ⟨by (with_reducible repeat (first | apply Kd.S_alloc | apply Kd.S_drewN | apply Kd.S_drew)); exact Kd.S_mono HO_14.out (fun _ hk => trivial)⟩, ⟨q293_⟩⟩
       ·
        rw [if_neg c13] at H
        exact absurd H (by simp)
      ·
       rw [if_neg c11] at H
       exact absurd H (by simp)
     ·
      rw [if_neg c10] at H
      exact absurd H (by simp)
    ·
     rw [if_neg c9] at H
     have c9b0 := decide_eq_false c9
     clear c9
     simp only [Option.some.injEq, Prod.mk.injEq] at H
     obtain ⟨rfl, rfl⟩ := H
     go_wp2
     go_ret2
     exact ⟨_, qce7_, qd7e_ HO_4.out, q0c4_⟩
 ·
  replace c3 := Bool.eq_false_iff.mpr c3
  subst c3
  rw [if_neg nf_] at H
  simp only [Option.some.injEq, Prod.mk.injEq] at H
  obtain ⟨rfl, rfl⟩ := H
  go_enter Try.func6, Try.ntmps6
  go_wp2_with (first | ((with_reducible refine gate_callee (f := 15) rfl ?_); refine gl_ 10 Try.func15 #[.int .i64 a0, .int .i64 0, .int .i64 4] ?_; (with_reducible refine (impl_between.calls a0 0 4 false _ A2.out).mono ?_); rintro e w' ⟨rfl, ⟨nd, rfl⟩⟩; refine ⟨_, rfl, ?_⟩))
  go_ret2
  exact ⟨_, qce7_, qc14_, q0c4_⟩

/-! ### spec_l1In: function 18 -/
def spec_l1In.f (a0 : Int) (a1 : Int) (a2 : Int) : Option (Bool) := if a0 ≥ a1 then (some (decide (a0 ≤ a2))) else (some false)
theorem spec_l1In.calls (a0 : Int) (a1 : Int) (a2 : Int) (r : Bool) (w : World) (h : spec_l1In.f a0 a1 a2 = some r) :
  Calls Try.prog 18 #[.int .i64 a0, .int .i64 a1, .int .i64 a2] w fun e w' => e = .returned (.bool r) ∧ Drawn0 w w' := by
 unfold spec_l1In.f at h
 have H := h; clear h
 by_cases c4 : a0 ≥ a1
 ·
  rw [if_pos c4] at H
  have c4b0 := decide_eq_true c4
  clear c4
  obtain rfl := Option.some.inj H
  go_enter Try.func18, Try.ntmps18
  go_wp2
  go_ret
  exact ⟨qc8f_, qffa_⟩
 ·
  rw [if_neg c4] at H
  have c4b0 := decide_eq_false c4
  clear c4
  obtain rfl := Option.some.inj H
  go_enter Try.func18, Try.ntmps18
  go_wp2
  go_ret
  exact ⟨qc8f_, qffa_⟩

end Go.Proofs.Ythanbhbibjnmjaa.PAll
