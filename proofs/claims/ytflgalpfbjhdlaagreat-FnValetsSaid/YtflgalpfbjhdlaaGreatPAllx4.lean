-- written by a program of this session (wip/gen/xpatch.py over the translation); Lean checks it
import Derived.Test.YtflgalpfbjhdlaaGreatPAllx0
import Derived.Test.YtflgalpfbjhdlaaGreatPAllx1
import Derived.Test.YtflgalpfbjhdlaaGreatPAllx2
import Derived.Test.YtflgalpfbjhdlaaGreatPAllx3
namespace Go.Proofs.YtflgalpfbjhdlaaGreat.PAll
open Go.RowKit Go.Proofs.YtflgalpfbjhdlaaGreat.Hand Go.Proofs.YtflgalpfbjhdlaaGreatW.PrintWords Go.Proofs.YtflgalpfbjhdlaaGreatW.PrintLast Go.Proofs.YtflgalpfbjhdlaaGreatW.PrintMore
attribute [local go_sem] max2_int min2_int max_two min_two max_three min_three max_four min_four   -- for this text's walks alone
set_option maxHeartbeats 8000000
set_option maxRecDepth 100000
set_option linter.unusedVariables false
set_option linter.unusedSimpArgs false

/-! ### spec_vaOrders: function 38 -/
mutual
def spec_vaOrders.l0 : Nat → List Int → Int → List (List Int) → Int → Option ((List (List Int)))
 | 0, _, _, _, _ => none
 | k + 1, x0, x1, x5, x6 => if x6 < x1 then ((spec_l1Has.f k x0 x6).bind fun t406 => (if t406 = true then (spec_vaOrders.l0 k x0 x1 x5 (wrap64 (x6 + 1))) else ((spec_l1Own.f x0).bind fun t407 => (if t407.length < 17592186044416 then ((spec_vaOrders.f k (t407 ++ [x6]) x1).bind fun t413 => (if x5.length + t413.length < 5864062014805 then (spec_vaOrders.l0 k x0 x1 (x5 ++ t413) (wrap64 (x6 + 1))) else (none))) else (none))))) else (some x5)
def spec_vaOrders.f : Nat → List Int → Int → Option ((List (List Int)))
 | 0, _, _ => none
 | k + 1, l0, a1 => if (l0.length : Int) = a1 then ((spec_l1Own.f l0).bind fun t400 => (some (([t400] : List (List Int))))) else (spec_vaOrders.l0 k l0 a1 ([] : List (List Int)) 0)
end
theorem spec_vaOrders.mono_l : ∀ k, (∀ y0 y1, LeO (spec_vaOrders.f k y0 y1) (spec_vaOrders.f (k + 1) y0 y1)) ∧ (∀ y0 y1 y2 y3, LeO (spec_vaOrders.l0 k y0 y1 y2 y3) (spec_vaOrders.l0 (k + 1) y0 y1 y2 y3))
 | 0 => ⟨fun _ _ r h => by simp [spec_vaOrders.f] at h, fun _ _ _ _ r h => by simp [spec_vaOrders.l0] at h⟩
 | k + 1 => by
  obtain ⟨ih0, ih1⟩ := spec_vaOrders.mono_l k
  refine ⟨?_, ?_⟩
  ·
   intro y0 y1
   unfold spec_vaOrders.f
   repeat' (with_reducible first | exact ih0 _ _ | exact ih1 _ _ _ _ | exact spec_l1Has.mono _ _ _ | exact LeO.refl _ | exact LeO.none _ | refine LeO.ite ?_ ?_ | refine LeO.bind ?_ (fun _ => ?_))
  ·
   intro y0 y1 y2 y3
   unfold spec_vaOrders.l0
   repeat' (with_reducible first | exact ih0 _ _ | exact ih1 _ _ _ _ | exact spec_l1Has.mono _ _ _ | exact LeO.refl _ | exact LeO.none _ | refine LeO.ite ?_ ?_ | refine LeO.bind ?_ (fun _ => ?_))
theorem spec_vaOrders.mono : ∀ a0 a1 k, LeO (spec_vaOrders.f k a0 a1) (spec_vaOrders.f (k + 1) a0 a1) := by
 intro a0 a1 k
 obtain ⟨ih0, ih1⟩ := spec_vaOrders.mono_l k
 exact ih0 a0 a1
theorem spec_vaOrders.calls (k : Nat) : ∀ (A0 : Option Addr) (c0 : Nat) (l0 : List Int) (a1 : Int) (r : List (List Int)) (w : World) (hr0 : Kd.C (Kd.int .i64) w A0 l0.length l0) (hc0 : l0.length ≤ c0) (h : spec_vaOrders.f k l0 a1 = some r),
  Calls Tryz.prog 38 #[.slice A0 l0.length c0, .int .i64 a1] w fun e w' => ∃ v0_ : Value, e = .returned (v0_) ∧ Kd.N (Kd.slice 3 (Kd.int .i64)) 24 w' w.heap.size (fun k_ => (w.heap.size ≤ k_)) v0_ r ∧ Below w.heap.size w w' := by
 induction k using Nat.strongRecOn with
 | _ k ih =>
 intro A0 c0 l0 a1 r w hr0 hc0 h
 cases k with
 | zero => exact absurd h (by simp [spec_vaOrders.f])
 | succ k =>
 simp only [spec_vaOrders.f] at h
 have HR0 := Aside0.mk hr0
 have HC0 := Aside0.mk hc0
 clear hr0 hc0
 have HB := Aside0.mk (Below.refl w.heap.size w)
 have H : (if (l0.length : Int) = a1 then ((spec_l1Own.f l0).bind fun t400 => (some (([t400] : List (List Int))))) else (spec_vaOrders.l0 k l0 a1 ([] : List (List Int)) 0)) = some r := h
 clear h
 by_cases c3 : (l0.length : Int) = a1
 ·
  rw [if_pos c3] at H
  have c3b0 := beq_iff_eq.mpr c3
  have c3b1 := bne_eq_false_iff_eq.mpr c3
  clear c3
  obtain ⟨t400, A4, H⟩ := ob_ H
  obtain ⟨y403, hy403⟩ : ∃ y_ : List (List Int), y_ = (([t400] : List (List Int))) := ⟨_, rfl⟩
  replace H : (some y403) = some r := by first | (rw [hy403]; with_reducible exact H) | (have H2_ := (Option.bind_some _ _).symm.trans H; rw [hy403]; with_reducible exact H2_) | (have H2_ := (Option.bind_some _ _).symm.trans H; with_reducible exact H2_) | with_reducible exact H | (rw [hy403]; exact H) | exact H
  have Ny403 := Aside0.mk hy403
  clear hy403
  obtain rfl := Option.some.inj H
  go_enter Tryz.func38, Tryz.ntmps38
  go_wp2_with (first | ((with_reducible refine gate_callee (f := 63) rfl ?_); refine gl_ 12 Tryz.func63 #[.slice A0 l0.length c0] ?_; (with_reducible refine (spec_l1Own.calls _ _ l0 t400 _ ?s1 ?s2 A4.out).mono ?_); (case s1 => exact q201_ HR0.out); (case s2 => exact HC0.out); rintro e w5 ⟨v401, rfl, ho0, hb⟩; refine ⟨_, rfl, ?_⟩; have HO402 := Aside0.mk (Kd.R_lower (Kd.R_newM (M := fun k_ => (w.heap.size ≤ k_)) ho0 (below_size q0c4_) (fun k_ h_ => h_)) (below_size q0c4_)); replace HB := Aside0.mk (below_step q0c4_ hb); clear hb ho0; obtain ⟨Ao6, co6, eo6⟩ := Kd.R_slice HO402.out; subst eo6) | ((with_reducible refine gate_dst (N := 13) rfl ?_); refine Kd.N_lit (Kd.slice 3 (Kd.int .i64)) _ 24 ?hg (N' := 13) ?hd (xs := ([t400] : List (List Int))) (inner := [.slice Ao6 t400.length co6]) (ok := (fun k_ => (w.heap.size ≤ k_))) (okp := (fun k_ => (w.heap.size ≤ k_))) ?hr ?hp (fun _ hk => hk) ((show ∀ k_, w5.heap.size ≤ k_ → (fun k_ => (w.heap.size ≤ k_)) k_ from fun k_ hk => (Nat.le_trans (below_size q0c4_) hk)) _ (Nat.le_refl _)) (Below.refl _ _) (Nat.le_refl _) (by simp) ?_; (case hd => rfl); (case hg => rfl); (case hr => exact qba7_); (case hp => exact (Reps.one (show Kd.FK (Kd.slice 3 (Kd.int .i64)) _ _ t400 [.slice Ao6 t400.length co6] from (Kd.FK_slice_mk (Kd.R_reads' (Kd.R_mono (ok' := (fun k_ => (w.heap.size ≤ k_))) (HO402.out) (fun k_ hk => hk.1))).2.1 (Kd.R_F (Kd.R_mono (ok' := (fun k_ => (w.heap.size ≤ k_))) (HO402.out) (fun k_ hk => hk.1))))) (Reps.none _ _))); intro v404 w7 ho8 hb hg_ hnew_; clear hg_ hnew_; (first | rw [← Ny403.out] at ho8 | (simp only [Int.reduceToNat] at ho8; rw [← Ny403.out] at ho8)); have n0_ := Aside0.mk (Kd.N_lower ho8 (below_size q0c4_)); have n1_ := Aside0.mk (below_step q0c4_ hb); have HO405 := n0_; replace HB := n1_; clear n0_ n1_; clear hb ho8))
  go_ret
  exact ⟨_, qce7_, qfba_ HO405.out, q0c4_⟩
 ·
  rw [if_neg c3] at H
  have c3b0 := beq_eq_false_iff_ne.mpr c3
  have c3b1 := bne_iff_ne.mpr c3
  have H' := Aside0.mk H
  clear H
  go_enter Tryz.func38, Tryz.ntmps38
  go_wp2
  go_loopg [5, 6] k (fun kq v5 v6 w' => ∃ (x5_1 : List (List Int)) (x6_1 : Int), v6 = .int .i64 x6_1 ∧ Aside0 (spec_vaOrders.l0 kq l0 a1 x5_1 x6_1 = some r) ∧ Aside0 (kq ≤ k) ∧ Aside0 (Kd.N (Kd.slice 3 (Kd.int .i64)) 24 w' w.heap.size (fun k_ => (w.heap.size ≤ k_)) v5 x5_1) ∧ Aside0 (Below w.heap.size w w'))
  case atStart => exact ⟨(([] : List (List Int))), (0), qc8f_, H', ⟨Nat.le_refl _⟩, ⟨by first | exact Kd.S_nil _ _ _ _ _ | exact Kd.N_nil _ _ _ _ _ | exact Kd.V_nil _ _ _ _ _ | exact Kd.Q_nil _ _ _ _ _ | exact Kd.R_nil _ _ _ _ _⟩, ⟨q0c4_⟩⟩
  case round =>
   clear H'; try clear p2; try clear c3; try clear c3b0; try clear c3b1; try clear c6
   obtain ⟨x5_1, x6_1, rfl, HA, HK1, HO_5, HB⟩ := hrel
   cases gk with
   | zero => exact absurd HA.out (by simp [spec_vaOrders.l0])
   | succ k1 =>
    have H := HA.out
    clear HA
    simp only [spec_vaOrders.l0] at H
    by_cases c9 : x6_1 < a1
    ·
     rw [if_pos c9] at H
     have c9b0 := decide_eq_true c9
     clear c9
     obtain ⟨t406, A10, H⟩ := ob_ H
     by_cases c11 : t406 = true
     ·
      subst c11
      rw [if_pos rfl] at H
      have H' := Aside0.mk H
      clear H
      go_wp2_with (first | ((with_reducible refine gate_callee (f := 61) rfl ?_); refine gl_ 21 Tryz.func61 #[.slice A0 l0.length c0, .int .i64 x6_1] ?_; (with_reducible refine (spec_l1Has.calls k1 _ _ l0 x6_1 true _ ?s1 ?s2 A10.out).mono ?_); (case s1 => exact q02f_ HR0.out); (case s2 => exact HC0.out); rintro e w' ⟨rfl, ⟨nd, rfl⟩⟩; refine ⟨_, rfl, ?_⟩))
      go_roundg k1
      case measure => have := HK1.out; omega
      case rel => exact ⟨(x5_1), (wrap64 (x6_1 + 1)), qc8f_, H', ⟨q1d0_ HK1.out⟩, ⟨qfba_ HO_5.out⟩, ⟨q0c4_⟩⟩
     ·
      replace c11 := Bool.eq_false_iff.mpr c11
      subst c11
      rw [if_neg nf_] at H
      obtain ⟨t407, A12, H⟩ := ob_ H
      by_cases c13 : t407.length < 17592186044416
      ·
       rw [if_pos c13] at H
       have LMc13 := Aside0.mk c13
       clear c13
       obtain ⟨y410, hy410⟩ : ∃ y_ : List Int, y_ = (t407 ++ [x6_1]) := ⟨_, rfl⟩
       replace H : ((spec_vaOrders.f k1 y410 a1).bind fun t413 => (if x5_1.length + t413.length < 5864062014805 then (spec_vaOrders.l0 k1 l0 a1 (x5_1 ++ t413) (wrap64 (x6_1 + 1))) else (none))) = some r := by first | (rw [hy410]; with_reducible exact H) | (have H2_ := (Option.bind_some _ _).symm.trans H; rw [hy410]; with_reducible exact H2_) | (have H2_ := (Option.bind_some _ _).symm.trans H; with_reducible exact H2_) | with_reducible exact H | (rw [hy410]; exact H) | exact H
       have Ny410 := Aside0.mk hy410
       clear hy410
       obtain ⟨t413, A14, H⟩ := ob_ H
       by_cases c15 : x5_1.length + t413.length < 5864062014805
       ·
        rw [if_pos c15] at H
        have LMc15 := Aside0.mk c15
        clear c15
        obtain ⟨y416, hy416⟩ : ∃ y_ : List (List Int), y_ = (x5_1 ++ t413) := ⟨_, rfl⟩
        replace H : (spec_vaOrders.l0 k1 l0 a1 y416 (wrap64 (x6_1 + 1))) = some r := by first | (rw [hy416]; with_reducible exact H) | (have H2_ := (Option.bind_some _ _).symm.trans H; rw [hy416]; with_reducible exact H2_) | (have H2_ := (Option.bind_some _ _).symm.trans H; with_reducible exact H2_) | with_reducible exact H | (rw [hy416]; exact H) | exact H
        have Ny416 := Aside0.mk hy416
        clear hy416
        have H' := Aside0.mk H
        clear H
        go_wp2_with (first | ((with_reducible refine gate_callee (f := 61) rfl ?_); refine gl_ 21 Tryz.func61 #[.slice A0 l0.length c0, .int .i64 x6_1] ?_; (with_reducible refine (spec_l1Has.calls k1 _ _ l0 x6_1 false _ ?s1 ?s2 A10.out).mono ?_); (case s1 => exact q02f_ HR0.out); (case s2 => exact HC0.out); rintro e w' ⟨rfl, ⟨nd, rfl⟩⟩; refine ⟨_, rfl, ?_⟩) | ((with_reducible refine gate_callee (f := 63) rfl ?_); refine gl_ 25 Tryz.func63 #[.slice A0 l0.length c0] ?_; (with_reducible refine (spec_l1Own.calls _ _ l0 t407 _ ?s1 ?s2 A12.out).mono ?_); (case s1 => exact q749_ HR0.out); (case s2 => exact HC0.out); rintro e w16 ⟨v408, rfl, ho0, hb⟩; refine ⟨_, rfl, ?_⟩; replace HO_5 := Aside0.mk (Kd.N_elder' (qfba_ HO_5.out) (Kd.R_base ho0) hb); have HO409 := Aside0.mk (Kd.R_lower (Kd.R_newM (M := fun k_ => (w.heap.size ≤ k_)) ho0 (below_size q0c4_) (fun k_ h_ => h_)) (below_size q0c4_)); replace HB := Aside0.mk (below_step q0c4_ hb); clear hb ho0) | ((with_reducible refine gate_builtin (b := .append) (xs := #[.tmp 25, .tmp 27]) rfl ?_); at_builtin; refine Kd.R_append (Kd.int .i64) (w0 := w) w.heap.size rfl (.tmp 25) (.tmp 27) 24 3 (.int .i64 0) 8 rfl Tryz.underlying24 info3 rfl (by decide) (by omega) v408 t407 x6_1 [.int .i64 x6_1] (fun k_ => (w.heap.size ≤ k_)) (fun _ => False) rfl rfl ?aP (fun _ hk => hk.elim) ?aF ?aO ?aB ?aS ?aL ?_; (case aP => exact rfl); (case aB => exact q0c4_); (case aF => exact (fun k_ hk => (Nat.le_trans (below_size q0c4_) hk))); (case aO => exact (q311_ HO409.out)); (case aS => exact (below_size q0c4_)); (case aL => have := LMc13.out; omega); intro v411 w17 ho hb hg hat; rw [← Ny410.out] at ho; have n0_ := Aside0.mk (Kd.N_afterv (ok := (fun k_ => (w.heap.size ≤ k_))) (qfba_ HO_5.out) hg hat); have n1_ := Aside0.mk (hb); have n2_ := Aside0.mk (ho); replace HO_5 := n0_; replace HB := n1_; have HO412 := n2_; clear n0_ n1_ n2_; clear ho hb hg hat; obtain ⟨Ao18, co18, eo18⟩ := Kd.R_slice HO412.out; subst eo18) | ((with_reducible refine gate_callee (f := 38) rfl ?_); refine gl_ 30 Tryz.func38 #[.slice Ao18 y410.length co18, .int .i64 a1] ?_; (with_reducible refine (ih k1 (q1d0_ HK1.out) _ _ y410 a1 t413 _ ?s1 ?s2 A14.out).mono ?_); (case s1 => exact q5a8_ HO412.out); (case s2 => exact (Kd.R_reads' HO412.out).2.1); rintro e w19 ⟨v414, rfl, ho0, hb⟩; refine ⟨_, rfl, ?_⟩; have n0_ := Aside0.mk (Kd.N_elder' (qfba_ HO_5.out) (by first | exact Kd.N_base ho0 | exact Kd.S_base ho0) hb); have n1_ := Aside0.mk (Kd.R_below (q9d5_ HO412.out) hb); have n2_ := Aside0.mk (Kd.N_lower (Kd.N_mono (ok' := fun k_ => (w.heap.size ≤ k_) ∧ some k_ ≠ (u5 : Value).ownBlock ∧ some k_ ≠ (.slice Ao18 y410.length co18 : Value).ownBlock) ho0 (fun k_ hk_ => ⟨(Nat.le_trans (below_size q0c4_) hk_), (Kd.fresh' (Kd.N_lt (qfba_ HO_5.out)) k_ hk_), (Kd.fresh' (Kd.R_lt (q9d5_ HO412.out)) k_ hk_)⟩)) (below_size q0c4_)); have n3_ := Aside0.mk (below_step q0c4_ hb); replace HO_5 := n0_; replace HO412 := n1_; have HO415 := n2_; replace HB := n3_; clear n0_ n1_ n2_ n3_; clear hb ho0; obtain ⟨Ao21, co21, eo21⟩ := Kd.N_slice HO415.out; subst eo21) | ((with_reducible refine gate_builtin (b := .append) (xs := #[.tmp 23, .tmp 30]) rfl ?_); at_builtin; refine Kd.N_append_rows (Kd.slice 3 (Kd.int .i64)) (w0 := w) w.heap.size rfl (.tmp 23) (.tmp 30) 38 24 (.slice none 0 0) 24 rfl Tryz.underlying38 info24 rfl (by decide) (by omega) u5 x5_1 t413 _ _ _ (fun k_ => (w.heap.size ≤ k_) ∧ some k_ ≠ (.slice Ao18 y410.length co18 : Value).ownBlock) (fun k_ => ((fun k_ => (w.heap.size ≤ k_) ∧ some k_ ≠ (.slice Ao18 y410.length co18 : Value).ownBlock)) k_ ∧ some k_ ≠ (u5 : Value).ownBlock) rfl rfl ?aO ?aR (fun _ hk => hk) ?aF ?aB ?aS ?aL ?_; (case aR => exact (by skip; exact Kd.N_F (Kd.N_mono (ok' := (fun k_ => ((fun k_ => (w.heap.size ≤ k_) ∧ some k_ ≠ (.slice Ao18 y410.length co18 : Value).ownBlock)) k_ ∧ some k_ ≠ (u5 : Value).ownBlock)) (HO415.out) (fun k_ hk => ⟨⟨hk.1, hk.2.2⟩, hk.2.1⟩)))); (case aB => exact q0c4_); (case aF => exact (fun k_ hk => ⟨(Nat.le_trans (below_size q0c4_) hk), Kd.fresh' (Kd.R_lt (q9d5_ HO412.out)) k_ hk⟩)); (case aO => exact (by (with_reducible repeat (first | apply Kd.N_alloc | apply Kd.N_drewN | apply Kd.N_drew)); exact Kd.N_mono HO_5.out (fun _ hk => ⟨hk.1.1, hk.1.2⟩))); (case aS => exact (below_size q0c4_)); (case aL => have := LMc15.out; omega); intro v417 w20 ho hb hg hat; rw [← Ny416.out] at ho; have n0_ := Aside0.mk (Kd.R_over' (q9d5_ HO412.out) (Kd.N_typed (qfba_ HO_5.out)) (by decide) hg); have n1_ := Aside0.mk (Kd.N_afterv (ok := (fun k_ => (w.heap.size ≤ k_) ∧ some k_ ≠ (.slice Ao18 y410.length co18 : Value).ownBlock)) (by (with_reducible repeat (first | apply Kd.N_alloc | apply Kd.N_drewN | apply Kd.N_drew)); exact Kd.N_mono HO415.out (fun _ hk => ⟨⟨hk.1, hk.2.2⟩, hk.2.1⟩)) hg hat); have n2_ := Aside0.mk (hb); have n3_ := Aside0.mk (ho); replace HO412 := n0_; replace HO415 := n1_; replace HB := n2_; have HO418 := n3_; clear n0_ n1_ n2_ n3_; clear ho hb hg hat))
        go_roundg k1
        case measure => have := HK1.out; omega
        case rel => exact ⟨(y416), (wrap64 (x6_1 + 1)), qc8f_, H', ⟨q1d0_ HK1.out⟩, ⟨by (with_reducible repeat (first | apply Kd.N_alloc | apply Kd.N_drewN | apply Kd.N_drew)); exact Kd.N_mono HO418.out (fun _ hk => hk.1)⟩, ⟨q0c4_⟩⟩
       ·
        rw [if_neg c15] at H
        exact absurd H (by simp)
      ·
       rw [if_neg c13] at H
       exact absurd H (by simp)
    ·
     rw [if_neg c9] at H
     have c9b0 := decide_eq_false c9
     clear c9
     obtain rfl := Option.some.inj H
     go_wp2
     go_ret
     exact ⟨_, qce7_, qfba_ HO_5.out, q0c4_⟩

/-! ### spec_GreatestGreatest: function 9 -/
mutual
def spec_GreatestGreatest.j0 : Nat → List Int → Int → Bool → Option (Int × Bool)
 | 0, _, _, _ => none
 | k + 1, x0, x1, x23 => if x23 = true then (some (0, false)) else ((spec_vaOrders.f k ([] : List Int) (x0.length : Int)).bind fun t421 => (spec_GreatestGreatest.l0 k x0 x1 0 t421 (t421.length : Int) 0))
def spec_GreatestGreatest.l0 : Nat → List Int → Int → Int → List (List Int) → Int → Int → Option (Int × Bool)
 | 0, _, _, _, _, _, _ => none
 | k + 1, x0, x1, x6, x26, x27, x28 => if x28 < x27 then (if 0 ≤ x28 then (if x28 < (x26.length : Int) then ((spec_vaOrder.f k x0 (rd_L3 x26 x28)).bind fun t425 => ((spec_vaGreatest.f k t425 x1).bind fun t428 => ((spec_l1Most.f x6 t428).bind fun t429 => (spec_GreatestGreatest.l0 k x0 x1 t429 x26 x27 (wrap64 (x28 + 1)))))) else (none)) else (none)) else (some (x6, true))
end
def spec_GreatestGreatest.f (k : Nat) (l0 : List Int) (a1 : Int) : Option (Int × Bool) := (spec_paGood.f k l0 a1).bind fun t419 => (if t419 = true then (if (l0.length : Int) > 6 then (spec_GreatestGreatest.j0 k l0 a1 true) else ((spec_paAll.f k l0 a1).bind fun t420 => (spec_GreatestGreatest.j0 k l0 a1 (!t420)))) else (spec_GreatestGreatest.j0 k l0 a1 true))
theorem spec_GreatestGreatest.mono_l : ∀ k, (∀ y0 y1 y2, LeO (spec_GreatestGreatest.j0 k y0 y1 y2) (spec_GreatestGreatest.j0 (k + 1) y0 y1 y2)) ∧ (∀ y0 y1 y2 y3 y4 y5, LeO (spec_GreatestGreatest.l0 k y0 y1 y2 y3 y4 y5) (spec_GreatestGreatest.l0 (k + 1) y0 y1 y2 y3 y4 y5))
 | 0 => ⟨fun _ _ _ r h => by simp [spec_GreatestGreatest.j0] at h, fun _ _ _ _ _ _ r h => by simp [spec_GreatestGreatest.l0] at h⟩
 | k + 1 => by
  obtain ⟨ih0, ih1⟩ := spec_GreatestGreatest.mono_l k
  refine ⟨?_, ?_⟩
  ·
   intro y0 y1 y2
   unfold spec_GreatestGreatest.j0
   repeat' (with_reducible first | exact ih0 _ _ _ | exact ih1 _ _ _ _ _ _ | exact spec_paAll.mono _ _ _ | exact spec_paGood.mono _ _ _ | exact spec_vaGreatest.mono _ _ _ | exact spec_vaOrder.mono _ _ _ | exact spec_vaOrders.mono _ _ _ | exact LeO.refl _ | exact LeO.none _ | refine LeO.ite ?_ ?_ | refine LeO.bind ?_ (fun _ => ?_))
  ·
   intro y0 y1 y2 y3 y4 y5
   unfold spec_GreatestGreatest.l0
   repeat' (with_reducible first | exact ih0 _ _ _ | exact ih1 _ _ _ _ _ _ | exact spec_paAll.mono _ _ _ | exact spec_paGood.mono _ _ _ | exact spec_vaGreatest.mono _ _ _ | exact spec_vaOrder.mono _ _ _ | exact spec_vaOrders.mono _ _ _ | exact LeO.refl _ | exact LeO.none _ | refine LeO.ite ?_ ?_ | refine LeO.bind ?_ (fun _ => ?_))
theorem spec_GreatestGreatest.mono : ∀ a0 a1 k, LeO (spec_GreatestGreatest.f k a0 a1) (spec_GreatestGreatest.f (k + 1) a0 a1) := by
 intro a0 a1 k
 obtain ⟨ih0, ih1⟩ := spec_GreatestGreatest.mono_l k
 unfold spec_GreatestGreatest.f
 repeat' (with_reducible first | exact ih0 _ _ _ | exact ih1 _ _ _ _ _ _ | exact spec_paAll.mono _ _ _ | exact spec_paGood.mono _ _ _ | exact spec_vaGreatest.mono _ _ _ | exact spec_vaOrder.mono _ _ _ | exact spec_vaOrders.mono _ _ _ | exact LeO.refl _ | exact LeO.none _ | refine LeO.ite ?_ ?_ | refine LeO.bind ?_ (fun _ => ?_))
theorem spec_GreatestGreatest.calls (k : Nat) (A0 : Option Addr) (c0 : Nat) (l0 : List Int) (a1 : Int) (r1 : Int) (r2 : Bool) (w : World) (hr0 : Kd.C (Kd.int .i64) w A0 l0.length l0) (hc0 : l0.length ≤ c0) (h : spec_GreatestGreatest.f k l0 a1 = some (r1, r2)) :
  Calls Tryz.prog 9 #[.slice A0 l0.length c0, .int .i64 a1] w fun e w' => e = .returned (.tuple #[.int .i64 r1, .bool r2]) ∧ Below w.heap.size w w' := by
 have HR0 := Aside0.mk hr0
 have HC0 := Aside0.mk hc0
 clear hr0 hc0
 have HB := Aside0.mk (Below.refl w.heap.size w)
 unfold spec_GreatestGreatest.f at h
 have H := h; clear h
 have HC3 := Aside0.mk H
 clear H
 go_enter Tryz.func9, Tryz.ntmps9
 go_upto_region 1 with (fail)
 go_cut [23] (fun v23 wc => ∃ (kq : Nat) (x23_2 : Bool), v23 = .bool x23_2 ∧ Aside0 (spec_GreatestGreatest.j0 kq l0 a1 x23_2 = some (r1, r2)) ∧ Aside0 (kq ≤ k) ∧ Aside0 (Below w.heap.size w wc))
 case first =>
  have H := HC3.out
  clear HC3
  obtain ⟨t419, A4, H⟩ := ob_ H
  by_cases c5 : t419 = true
  ·
   subst c5
   rw [if_pos rfl] at H
   by_cases c6 : (l0.length : Int) > 6
   ·
    rw [if_pos c6] at H
    have c6b0 := decide_eq_true c6
    have c6b1 : decide (6 < l0.length) = true := decide_eq_true (by omega)
    clear c6
    (first | rw [c6b0] | (simp only [i64_w, i32_w]; rw [c6b0]) | skip)
    have H' := Aside0.mk H
    clear H
    go_wp2_with (first | ((with_reducible refine gate_callee (f := 31) rfl ?_); refine gl_ 11 Tryz.func31 #[.slice A0 l0.length c0, .int .i64 a1] ?_; (with_reducible refine (spec_paGood.calls k _ _ l0 a1 true _ ?s1 ?s2 A4.out).mono ?_); (case s1 => exact q02f_ HR0.out); (case s2 => exact HC0.out); rintro e w' ⟨rfl, ⟨nd, rfl⟩⟩; refine ⟨_, rfl, ?_⟩))
    go_meet
    case rel => exact ⟨_, (true), qc8f_, H', ⟨q821_⟩, ⟨q0c4_⟩⟩
   ·
    rw [if_neg c6] at H
    have c6b0 := decide_eq_false c6
    have c6b1 : decide (6 < l0.length) = false := decide_eq_false (by omega)
    clear c6
    (first | rw [c6b0] | (simp only [i64_w, i32_w]; rw [c6b0]) | skip)
    obtain ⟨t420, A7, H⟩ := ob_ H
    have H' := Aside0.mk H
    clear H
    go_wp2_with (first | ((with_reducible refine gate_callee (f := 31) rfl ?_); refine gl_ 11 Tryz.func31 #[.slice A0 l0.length c0, .int .i64 a1] ?_; (with_reducible refine (spec_paGood.calls k _ _ l0 a1 true _ ?s1 ?s2 A4.out).mono ?_); (case s1 => exact q02f_ HR0.out); (case s2 => exact HC0.out); rintro e w' ⟨rfl, ⟨nd, rfl⟩⟩; refine ⟨_, rfl, ?_⟩) | (go_at_call 32; (with_reducible refine (spec_paAll.calls k _ _ l0 a1 t420 _ ?s1 ?s2 A7.out).mono ?_); (case s1 => exact q749_ HR0.out); (case s2 => exact HC0.out); rintro e w8 ⟨rfl, hb⟩; replace HB := Aside0.mk (below_step q0c4_ hb); clear hb))
    go_meet
    case rel => exact ⟨_, (!t420), qc8f_, H', ⟨q821_⟩, ⟨q0c4_⟩⟩
  ·
   replace c5 := Bool.eq_false_iff.mpr c5
   subst c5
   rw [if_neg nf_] at H
   have H' := Aside0.mk H
   clear H
   go_wp2_with (first | ((with_reducible refine gate_callee (f := 31) rfl ?_); refine gl_ 11 Tryz.func31 #[.slice A0 l0.length c0, .int .i64 a1] ?_; (with_reducible refine (spec_paGood.calls k _ _ l0 a1 false _ ?s1 ?s2 A4.out).mono ?_); (case s1 => exact q02f_ HR0.out); (case s2 => exact HC0.out); rintro e w' ⟨rfl, ⟨nd, rfl⟩⟩; refine ⟨_, rfl, ?_⟩))
   go_meet
   case rel => exact ⟨_, (true), qc8f_, H', ⟨q821_⟩, ⟨q0c4_⟩⟩
 case rest =>
  clear HC3; try clear p2; try clear c3; try clear c5; try clear c6; try clear c6b0; try clear c6b1
  obtain ⟨kq, x23_2, rfl, HA, HJ2, HB⟩ := hcut
  cases kq with
  | zero => exact absurd HA.out (by simp [spec_GreatestGreatest.j0])
  | succ kj2 =>
   have H := HA.out
   clear HA
   simp only [spec_GreatestGreatest.j0] at H
   by_cases c9 : x23_2 = true
   ·
    subst c9
    rw [if_pos rfl] at H
    simp only [Option.some.injEq, Prod.mk.injEq] at H
    obtain ⟨rfl, rfl⟩ := H
    go_wp2
    go_ret2
    exact ⟨qce7_, q0c4_⟩
   ·
    replace c9 := Bool.eq_false_iff.mpr c9
    subst c9
    rw [if_neg nf_] at H
    obtain ⟨t421, A10, H⟩ := ob_ H
    have H' := Aside0.mk H
    clear H
    go_wp2_with (first | ((with_reducible refine gate_callee (f := 38) rfl ?_); refine gl_ 26 Tryz.func38 #[.slice none 0 0, .int .i64 (l0.length : Int)] ?_; (refine (spec_vaOrders.calls kj2 _ _ ([] : List Int) (l0.length : Int) t421 _ ?s1 ?s2 A10.out).mono ?_); (case s1 => exact Kd.C_nil _ _); (case s2 => exact Nat.le_refl _); rintro e w11 ⟨v422, rfl, ho0, hb⟩; refine ⟨_, rfl, ?_⟩; have HO423 := Aside0.mk (Kd.N_lower (Kd.N_mono (ok' := fun k_ => True) ho0 (fun k_ hk_ => trivial)) (below_size q0c4_)); replace HB := Aside0.mk (below_step q0c4_ hb); clear hb ho0; obtain ⟨Ao12, co12, eo12⟩ := Kd.N_slice HO423.out; subst eo12))
    go_loopg [6, 28] kj2 (fun kq v6 v28 w' => ∃ (x6_2 : Int) (x28_2 : Int), v6 = .int .i64 x6_2 ∧ v28 = .int .i64 x28_2 ∧ Aside0 (spec_GreatestGreatest.l0 kq l0 a1 x6_2 t421 (t421.length : Int) x28_2 = some (r1, r2)) ∧ Aside0 (kq ≤ kj2) ∧ Aside0 (Kd.N (Kd.slice 3 (Kd.int .i64)) 24 w' w.heap.size (fun _ => True) (.slice Ao12 t421.length co12) t421) ∧ Aside0 (Below w.heap.size w w'))
    case atStart => exact ⟨(0), (0), qc8f_, qc8f_, H', ⟨Nat.le_refl _⟩, ⟨qfba_ HO423.out⟩, ⟨q0c4_⟩⟩
    case round =>
     clear H'; try clear p2; try clear c3; try clear c5; try clear c6; try clear c6b0; try clear c6b1; try clear c9; try clear p2
     obtain ⟨x6_2, x28_2, rfl, rfl, HA, HK2, HO_26, HB⟩ := hrel
     cases gk with
     | zero => exact absurd HA.out (by simp [spec_GreatestGreatest.l0])
     | succ k2 =>
      have H := HA.out
      clear HA
      simp only [spec_GreatestGreatest.l0] at H
      by_cases c13 : x28_2 < (t421.length : Int)
      ·
       rw [if_pos c13] at H
       have c13b0 := decide_eq_true c13
       clear c13
       by_cases c14 : 0 ≤ x28_2
       ·
        rw [if_pos c14] at H
        have c14b0 := decide_eq_true c14
        clear c14
        by_cases c15 : x28_2 < (t421.length : Int)
        ·
         rw [if_pos c15] at H
         have c15b0 := decide_eq_true c15
         clear c15
         obtain ⟨t425, A16, H⟩ := ob_ H
         obtain ⟨t428, A17, H⟩ := ob_ H
         obtain ⟨t429, A18, H⟩ := ob_ H
         have H' := Aside0.mk H
         clear H
         have p424 : 0 ≤ (x28_2 : Int) := of_decide_eq_true qe84_
         have q424 : x28_2 < (t421.length : Int) := of_decide_eq_true qe84_
         obtain ⟨ad424, A424_0, c424_0, e424, hx424_0, hl424_0, hi424_0⟩ := at_L3 (Kd.N_reads' HO_26.out).2.2 x28_2 p424 q424
         cases e424
         obtain ⟨ce424, hce424, hMe424, hcc424⟩ := Kd.N_get HO_26.out [] x28_2 p424 (by first | exact q424 | exact of_decide_eq_true qe84_ | (have e_ := (Kd.N_reads' HO_26.out).1; omega))
         obtain ⟨ua424_0, uc424_0, rfl, ul424_0, ge424_0⟩ := Kd.FK_slice_open hMe424
         have hv424_0 := hcc424 0 _ rfl
         rw [Nat.add_zero, show ((Kd.slice 3 (Kd.int .i64))).sz = 1 from rfl, Nat.mul_one] at hv424_0
         replace hv424_0 := Option.some.inj (hv424_0.symm.trans hx424_0)
         injection hv424_0 with hva_ hvn_ hvc_
         rw [hva_] at ge424_0
         rw [hvc_] at ul424_0
         have HL424_0 := Aside0.mk (show Kd.V (Kd.int .i64) 3 _ w.heap.size _ _ (rd_L3 t421 x28_2) from Kd.V_mk ul424_0 ge424_0)
         clear hva_ hvn_ hvc_ ge424_0 ul424_0 hcc424 hce424
         have HR424_0 := Aside0.mk hi424_0
         have HC424_0 := Aside0.mk hl424_0
         clear hi424_0 hl424_0
         replace p424 := eq_true p424
         replace q424 := eq_true q424
         go_wp2_with (first | ((with_reducible refine gate_callee (f := 34) rfl ?_); refine gl_ 35 Tryz.func34 #[.slice A0 l0.length c0, .slice A424_0 (rd_L3 t421 x28_2).length c424_0] ?_; (with_reducible refine (spec_vaOrder.calls k2 _ _ l0 _ _ (rd_L3 t421 x28_2) t425 _ ?s1 ?s2 ?s3 ?s4 A16.out).mono ?_); (case s1 => exact q02f_ HR0.out); (case s2 => exact HC0.out); (case s3 => exact qe8c_ HR424_0.out); (case s4 => exact HC424_0.out); rintro e w19 ⟨v426, rfl, ho0, hb⟩; refine ⟨_, rfl, ?_⟩; replace HO_26 := Aside0.mk (Kd.N_elder' (qfba_ HO_26.out) (Kd.R_base ho0) hb); replace HL424_0 := Aside0.mk (Kd.V_elder' (q16c_ HL424_0.out) (Kd.R_base ho0) hb); have HO427 := Aside0.mk (Kd.R_lower ho0 (below_size q0c4_)); replace HR424_0 := Aside0.mk (Kd.C_below (q75a_ HR424_0.out) hb); replace HB := Aside0.mk (below_step q0c4_ hb); clear hb ho0; obtain ⟨Ao20, co20, eo20⟩ := Kd.R_slice HO427.out; subst eo20) | ((with_reducible refine gate_callee (f := 33) rfl ?_); refine gl_ 37 Tryz.func33 #[.slice Ao20 t425.length co20, .int .i64 a1] ?_; (with_reducible refine (spec_vaGreatest.calls k2 _ _ t425 a1 t428 _ ?s1 ?s2 A17.out).mono ?_); (case s1 => exact q5a8_ HO427.out); (case s2 => exact (Kd.R_reads' HO427.out).2.1); rintro e w21 ⟨rfl, hb⟩; refine ⟨_, rfl, ?_⟩; replace HO_26 := Aside0.mk (Kd.N_below (qfba_ HO_26.out) hb); replace HL424_0 := Aside0.mk (Kd.V_below (q16c_ HL424_0.out) hb); replace HO427 := Aside0.mk (Kd.R_below (q9d5_ HO427.out) hb); replace HR424_0 := Aside0.mk (Kd.C_below (q75a_ HR424_0.out) hb); replace HB := Aside0.mk (below_step q0c4_ hb); clear hb) | ((with_reducible refine gate_callee (f := 39) rfl ?_); refine gl_ 38 Tryz.func39 #[.int .i64 x6_2, .int .i64 t428] ?_; (with_reducible refine (spec_l1Most.calls x6_2 t428 t429 _ A18.out).mono ?_); rintro e w' ⟨rfl, ⟨nd, rfl⟩⟩; refine ⟨_, rfl, ?_⟩))
         go_roundg k2
         case measure => have := HJ2.out; have := HK2.out; omega
         case rel => exact ⟨(t429), (wrap64 (x28_2 + 1)), qc8f_, qc8f_, H', ⟨q37b_ HJ2.out HK2.out⟩, ⟨by (with_reducible repeat (first | apply Kd.N_alloc | apply Kd.N_drewN | apply Kd.N_drew)); exact Kd.N_mono HO_26.out (fun _ hk => trivial)⟩, ⟨q0c4_⟩⟩
        ·
         rw [if_neg c15] at H
         exact absurd H (by simp)
       ·
        rw [if_neg c14] at H
        exact absurd H (by simp)
      ·
       rw [if_neg c13] at H
       have c13b0 := decide_eq_false c13
       clear c13
       simp only [Option.some.injEq, Prod.mk.injEq] at H
       obtain ⟨rfl, rfl⟩ := H
       go_wp2
       go_ret2
       exact ⟨qce7_, q0c4_⟩

/-! ### impl_MostLucky: function 10 -/
def impl_MostLucky.f (k : Nat) (l0 : List Int) (a1 : Int) : Option (Int × Bool) := (impl_doPark.f k l0 a1).bind fun t => (if t = true then ((impl_sorted.f l0).bind fun s => (some (((Go.Lib.compact s).length : Int), true))) else (some (0, false)))
theorem impl_MostLucky.mono : ∀ a0 a1 k, LeO (impl_MostLucky.f k a0 a1) (impl_MostLucky.f (k + 1) a0 a1) := by
 intro a0 a1 k
 unfold impl_MostLucky.f
 exact LeO.bind (impl_doPark.mono a0 a1 k) (fun _ => LeO.refl _)
open Go.Shelf Go.Maps Go.Sort in
theorem impl_MostLucky.calls (k : Nat) (A0 : Option Addr) (c0 : Nat) (l0 : List Int) (a1 : Int) (r1 : Int) (r2 : Bool) (w : World) (hr0 : Kd.C (Kd.int .i64) w A0 l0.length l0) (hc0 : l0.length ≤ c0) (h : impl_MostLucky.f k l0 a1 = some (r1, r2)) :
  Calls Tryz.prog 10 #[.slice A0 l0.length c0, .int .i64 a1] w fun e w' => e = .returned (.tuple #[.int .i64 r1, .bool r2]) ∧ Below w.heap.size w w' := by
 have HR0 := Aside0.mk hr0
 have HC0 := Aside0.mk hc0
 clear hr0 hc0
 unfold impl_MostLucky.f at h
 obtain ⟨t, h1, h2⟩ := Option.bind_eq_some_iff.mp h
 clear h
 have A1 := Aside0.mk h1
 clear h1
 cases t with
 | false =>
  rw [if_neg (by decide)] at h2
  simp only [Option.some.injEq, Prod.mk.injEq] at h2
  obtain ⟨rfl, rfl⟩ := h2
  go_enter Tryz.func10, Tryz.ntmps10
  go_wp2_with (go_at_call 27; refine (impl_doPark.calls k A0 c0 l0 a1 false _ HR0.out HC0.out A1.out).mono ?_; rintro e w' ⟨rfl, hb⟩)
  go_ret2
  exact ⟨rfl, hb⟩
 | true =>
  rw [if_pos rfl] at h2
  obtain ⟨s, h3, h4⟩ := Option.bind_eq_some_iff.mp h2
  clear h2
  simp only [Option.some.injEq, Prod.mk.injEq] at h4
  obtain ⟨rfl, rfl⟩ := h4
  have A2 := Aside0.mk h3
  clear h3
  go_enter Tryz.func10, Tryz.ntmps10
  go_wp2_with (first | (go_at_call 27; refine (impl_doPark.calls k A0 c0 l0 a1 true _ HR0.out HC0.out A1.out).mono ?_; rintro e w2 ⟨rfl, hb⟩; have HB := Aside0.mk hb; clear hb) | (go_at_call 41; refine (impl_sorted.calls A0 c0 l0 s _ (Kd.C_below HR0.out HB.out) HC0.out A2.out).mono ?_; rintro e w3 ⟨v, rfl, hR, hb2⟩))
  have HB3 := Aside0.mk (HB.out.trans (hb2.mono HB.out.size))
  rcases (Kd.own_of_R hR).2 with ⟨hv, hz⟩ | ⟨g2, cap, cur, hv, hbase, hgb, q1, q2, q3, q4⟩
  ·
   subst hv
   have hs : s = [] := List.eq_nil_of_length_eq_zero hz
   subst hs
   go_wp2_with (go_at_call 40; refine (Tryz.slices_Compact_int_empty none 0 _).mono ?_; rintro e w' ⟨rfl, rfl⟩)
   go_ret2
   exact ⟨rfl, HB3.out⟩
  ·
   subst hv
   have hC := Aside0.mk (Tryz.slices_Compact_int g2 0 cap s w3 (holds_of_block_i hgb (by simpa [encs] using q4)) (by have : maxLen = 9223372036854775807 := rfl; omega) q1)
   go_wp2_with (go_at_call 40; refine hC.out.mono ?_; rintro e w' ⟨rfl, m, rfl⟩)
   go_ret2
   refine ⟨rfl, ?_⟩
   have hg := grownBy_sorted_i (w := w3) (g := g2) (n := m) (os := #[]) (Go.Lib.compact s ++ List.replicate (s.length - (Go.Lib.compact s).length) 0).toArray
   rw [grow_empty] at hg
   exact HB3.out.grown hg HB3.out.size (fun j hj => by cases hj; exact Nat.le_trans HB.out.size hbase)

/-! ### spec_l1Put: function 42 -/
def spec_l1Put.l0 : Nat → List Int → Int → Int → Option (List Int)
 | 0, _, _, _ => none
 | k + 1, x0, x1, x5 => if x5 < (x0.length : Int) then (if 0 ≤ x5 then (if (rd x0 x5) < x1 then (spec_l1Put.l0 k x0 x1 (wrap64 (x5 + 1))) else (if (rd x0 x5) = x1 then (some x0) else ((some (([] : List Int) : List Int)).bind fun y448 => (if x5 ≤ (x0.length : Int) then ((some (x0.take (x5 : Int).toNat : List Int)).bind fun y451 => (if y448.length + y451.length < 17592186044416 then ((some (y448 ++ y451 : List Int)).bind fun y455 => (if y455.length < 17592186044416 then ((some (y455 ++ [x1] : List Int)).bind fun y458 => ((some (x0.drop (x5 : Int).toNat : List Int)).bind fun y461 => (if y458.length + y461.length < 17592186044416 then (some (y458 ++ y461)) else (none)))) else (none))) else (none))) else (none))))) else (none)) else ((some (([] : List Int) : List Int)).bind fun y468 => (if 0 ≤ x5 then (if x5 ≤ (x0.length : Int) then ((some (x0.take (x5 : Int).toNat : List Int)).bind fun y471 => (if y468.length + y471.length < 17592186044416 then ((some (y468 ++ y471 : List Int)).bind fun y475 => (if y475.length < 17592186044416 then ((some (y475 ++ [x1] : List Int)).bind fun y478 => ((some (x0.drop (x5 : Int).toNat : List Int)).bind fun y481 => (if y478.length + y481.length < 17592186044416 then (some (y478 ++ y481)) else (none)))) else (none))) else (none))) else (none)) else (none)))
def spec_l1Put.f (k : Nat) (l0 : List Int) (a1 : Int) : Option (List Int) := spec_l1Put.l0 k l0 a1 0
theorem spec_l1Put.mono_l : ∀ k, (∀ y0 y1 y2, LeO (spec_l1Put.l0 k y0 y1 y2) (spec_l1Put.l0 (k + 1) y0 y1 y2))
 | 0 => fun _ _ _ r h => by simp [spec_l1Put.l0] at h
 | k + 1 => by
  have ih0 := spec_l1Put.mono_l k
  ·
   intro y0 y1 y2
   unfold spec_l1Put.l0
   repeat' (with_reducible first | exact ih0 _ _ _ | exact LeO.refl _ | exact LeO.none _ | refine LeO.ite ?_ ?_ | refine LeO.bind ?_ (fun _ => ?_))
theorem spec_l1Put.mono : ∀ a0 a1 k, LeO (spec_l1Put.f k a0 a1) (spec_l1Put.f (k + 1) a0 a1) := by
 intro a0 a1 k
 have ih0 := spec_l1Put.mono_l k
 unfold spec_l1Put.f
 repeat' (with_reducible first | exact ih0 _ _ _ | exact LeO.refl _ | exact LeO.none _ | refine LeO.ite ?_ ?_ | refine LeO.bind ?_ (fun _ => ?_))
theorem spec_l1Put.calls (k : Nat) (P0_ : Nat → Prop) (u9000_ : Value) (l0 : List Int) (a1 : Int) (r : List Int) (w0 w : World) (hB : Below w0.heap.size w0 w) (ho0 : Kd.R (Kd.int .i64) 3 w w0.heap.size P0_ u9000_ l0) (h : spec_l1Put.f k l0 a1 = some r) :
  Calls Tryz.prog 42 #[u9000_, .int .i64 a1] w fun e w' => ∃ v0_ : Value, e = .returned (v0_) ∧ Kd.R (Kd.int .i64) 3 w' w0.heap.size (fun k_ => (P0_ k_ ∨ w.heap.size ≤ k_)) v0_ r ∧ Below w0.heap.size w0 w' ∧ Kept w w' (fun k_ => P0_ k_) := by
 have HO0 := Aside0.mk (show Kd.R (Kd.int .i64) 3 w w0.heap.size (fun k_ => (P0_ k_ ∨ w.heap.size ≤ k_)) u9000_ l0 from Kd.R_mono ho0 (fun k_ hk => (.inl hk)))
 have HK := Aside0.mk (Kept.refl w (fun k_ => P0_ k_))
 have HW0 := Aside0.mk hB.size
 have HB := Aside0.mk hB
 clear hB
 have H : (spec_l1Put.l0 k l0 a1 0) = some r := h
 clear h
 have H' := Aside0.mk H
 clear H
 go_enter Tryz.func42, Tryz.ntmps42
 go_wp2
 go_loopg [5] k (fun kq v5 w' => ∃ (x5_1 : Int), v5 = .int .i64 x5_1 ∧ Aside0 (spec_l1Put.l0 kq l0 a1 x5_1 = some r) ∧ Aside0 (kq ≤ k) ∧ Aside0 (Kd.R (Kd.int .i64) 3 w' w0.heap.size (fun k_ => (P0_ k_ ∨ w.heap.size ≤ k_)) u9000_ l0) ∧ Aside0 (Kept w w' (fun k_ => P0_ k_)) ∧ Aside0 (Below w0.heap.size w0 w'))
 case atStart => exact ⟨(0), qc8f_, H', ⟨Nat.le_refl _⟩, ⟨q9d5_ HO0.out⟩, ⟨qf72_⟩, ⟨q0c4_⟩⟩
 case round =>
  clear H'; try clear p2
  obtain ⟨x5_1, rfl, HA, HK1, HO_0, HK, HB⟩ := hrel
  cases gk with
  | zero => exact absurd HA.out (by simp [spec_l1Put.l0])
  | succ k1 =>
   have H := HA.out
   clear HA
   simp only [spec_l1Put.l0] at H
   by_cases c3 : x5_1 < (l0.length : Int)
   ·
    rw [if_pos c3] at H
    have c3b0 := decide_eq_true c3
    clear c3
    by_cases c4 : 0 ≤ x5_1
    ·
     rw [if_pos c4] at H
     have c4b0 := decide_eq_true c4
     clear c4
     by_cases c5 : (rd l0 x5_1) < a1
     ·
      rw [if_pos c5] at H
      have c5b0 := decide_eq_true c5
      clear c5
      have H' := Aside0.mk H
      clear H
      obtain ⟨Ao6, co6, eo6⟩ := Kd.R_slice HO_0.out
      subst eo6
      have p446 : 0 ≤ (x5_1 : Int) := of_decide_eq_true qe84_
      have q446 : x5_1 < (l0.length : Int) := of_decide_eq_true qe84_
      obtain ⟨ad446, e446, hx446_0⟩ := Kd.at_int (Kd.R_reads' HO_0.out).2.2 x5_1 p446 q446
      cases e446
      replace p446 := eq_true p446
      replace q446 := eq_true q446
      go_wp2
      go_roundg k1
      case measure => have := HK1.out; omega
      case rel => exact ⟨(wrap64 (x5_1 + 1)), qc8f_, H', ⟨q1d0_ HK1.out⟩, ⟨q9d5_ HO_0.out⟩, ⟨qf72_⟩, ⟨q0c4_⟩⟩
     ·
      rw [if_neg c5] at H
      have c5b0 := decide_eq_false c5
      clear c5
      by_cases c7 : (rd l0 x5_1) = a1
      ·
       rw [if_pos c7] at H
       have c7b0 := beq_iff_eq.mpr c7
       have c7b1 := bne_eq_false_iff_eq.mpr c7
       clear c7
       obtain rfl := Option.some.inj H
       obtain ⟨Ao8, co8, eo8⟩ := Kd.R_slice HO_0.out
       subst eo8
       have p446 : 0 ≤ (x5_1 : Int) := of_decide_eq_true qe84_
       have q446 : x5_1 < (l0.length : Int) := of_decide_eq_true qe84_
       obtain ⟨ad446, e446, hx446_0⟩ := Kd.at_int (Kd.R_reads' HO_0.out).2.2 x5_1 p446 q446
       cases e446
       replace p446 := eq_true p446
       replace q446 := eq_true q446
       have p447 : 0 ≤ (x5_1 : Int) := of_decide_eq_true qe84_
       have q447 : x5_1 < (l0.length : Int) := of_decide_eq_true qe84_
       obtain ⟨ad447, e447, hx447_0⟩ := Kd.at_int (Kd.R_reads' HO_0.out).2.2 x5_1 p447 q447
       obtain rfl : ad446 = ad447 := (by injection e447)
       replace p447 := eq_true p447
       replace q447 := eq_true q447
       go_wp2
       go_ret
       exact ⟨_, qce7_, q9d5_ HO_0.out, q0c4_, qf72_⟩
      ·
       rw [if_neg c7] at H
       have c7b0 := beq_eq_false_iff_ne.mpr c7
       have c7b1 := bne_iff_ne.mpr c7
       obtain ⟨y448, hy448⟩ : ∃ y_ : List Int, y_ = (([] : List Int)) := ⟨_, rfl⟩
       replace H : (if x5_1 ≤ (l0.length : Int) then ((some (l0.take (x5_1 : Int).toNat : List Int)).bind fun y451 => (if y448.length + y451.length < 17592186044416 then ((some (y448 ++ y451 : List Int)).bind fun y455 => (if y455.length < 17592186044416 then ((some (y455 ++ [a1] : List Int)).bind fun y458 => ((some (l0.drop (x5_1 : Int).toNat : List Int)).bind fun y461 => (if y458.length + y461.length < 17592186044416 then (some (y458 ++ y461)) else (none)))) else (none))) else (none))) else (none)) = some r := by first | (rw [hy448]; with_reducible exact H) | (have H2_ := (Option.bind_some _ _).symm.trans H; rw [hy448]; with_reducible exact H2_) | (have H2_ := (Option.bind_some _ _).symm.trans H; with_reducible exact H2_) | with_reducible exact H | (rw [hy448]; exact H) | exact H
       have Ny448 := Aside0.mk hy448
       clear hy448
       have c9b0 := eq_true (of_decide_eq_true qe84_ : 0 ≤ x5_1)
       by_cases c10 : x5_1 ≤ (l0.length : Int)
       ·
        rw [if_pos c10] at H
        have c10b0 := eq_true c10
        have c10b1 := decide_eq_true c10
        clear c10
        obtain ⟨y451, hy451⟩ : ∃ y_ : List Int, y_ = (l0.take (x5_1 : Int).toNat) := ⟨_, rfl⟩
        replace H : (if y448.length + y451.length < 17592186044416 then ((some (y448 ++ y451 : List Int)).bind fun y455 => (if y455.length < 17592186044416 then ((some (y455 ++ [a1] : List Int)).bind fun y458 => ((some (l0.drop (x5_1 : Int).toNat : List Int)).bind fun y461 => (if y458.length + y461.length < 17592186044416 then (some (y458 ++ y461)) else (none)))) else (none))) else (none)) = some r := by first | (rw [hy451]; with_reducible exact H) | (have H2_ := (Option.bind_some _ _).symm.trans H; rw [hy451]; with_reducible exact H2_) | (have H2_ := (Option.bind_some _ _).symm.trans H; with_reducible exact H2_) | with_reducible exact H | (rw [hy451]; exact H) | exact H
        have Ny451 := Aside0.mk hy451
        clear hy451
        by_cases c11 : y448.length + y451.length < 17592186044416
        ·
         rw [if_pos c11] at H
         have LMc11 := Aside0.mk c11
         clear c11
         obtain ⟨y455, hy455⟩ : ∃ y_ : List Int, y_ = (y448 ++ y451) := ⟨_, rfl⟩
         replace H : (if y455.length < 17592186044416 then ((some (y455 ++ [a1] : List Int)).bind fun y458 => ((some (l0.drop (x5_1 : Int).toNat : List Int)).bind fun y461 => (if y458.length + y461.length < 17592186044416 then (some (y458 ++ y461)) else (none)))) else (none)) = some r := by first | (rw [hy455]; with_reducible exact H) | (have H2_ := (Option.bind_some _ _).symm.trans H; rw [hy455]; with_reducible exact H2_) | (have H2_ := (Option.bind_some _ _).symm.trans H; with_reducible exact H2_) | with_reducible exact H | (rw [hy455]; exact H) | exact H
         have Ny455 := Aside0.mk hy455
         clear hy455
         by_cases c12 : y455.length < 17592186044416
         ·
          rw [if_pos c12] at H
          have LMc12 := Aside0.mk c12
          clear c12
          obtain ⟨y458, hy458⟩ : ∃ y_ : List Int, y_ = (y455 ++ [a1]) := ⟨_, rfl⟩
          replace H : ((some (l0.drop (x5_1 : Int).toNat : List Int)).bind fun y461 => (if y458.length + y461.length < 17592186044416 then (some (y458 ++ y461)) else (none))) = some r := by first | (rw [hy458]; with_reducible exact H) | (have H2_ := (Option.bind_some _ _).symm.trans H; rw [hy458]; with_reducible exact H2_) | (have H2_ := (Option.bind_some _ _).symm.trans H; with_reducible exact H2_) | with_reducible exact H | (rw [hy458]; exact H) | exact H
          have Ny458 := Aside0.mk hy458
          clear hy458
          have c13b0 := eq_true (of_decide_eq_true qe84_ : 0 ≤ x5_1)
          have c14b0 := eq_true (of_decide_eq_true qe84_ : x5_1 ≤ (l0.length : Int))
          obtain ⟨y461, hy461⟩ : ∃ y_ : List Int, y_ = (l0.drop (x5_1 : Int).toNat) := ⟨_, rfl⟩
          replace H : (if y458.length + y461.length < 17592186044416 then (some (y458 ++ y461)) else (none)) = some r := by first | (rw [hy461]; with_reducible exact H) | (have H2_ := (Option.bind_some _ _).symm.trans H; rw [hy461]; with_reducible exact H2_) | (have H2_ := (Option.bind_some _ _).symm.trans H; with_reducible exact H2_) | with_reducible exact H | (rw [hy461]; exact H) | exact H
          have Ny461 := Aside0.mk hy461
          clear hy461
          by_cases c15 : y458.length + y461.length < 17592186044416
          ·
           rw [if_pos c15] at H
           have LMc15 := Aside0.mk c15
           clear c15
           obtain ⟨y465, hy465⟩ : ∃ y_ : List Int, y_ = (y458 ++ y461) := ⟨_, rfl⟩
           replace H : (some y465) = some r := by first | (rw [hy465]; with_reducible exact H) | (have H2_ := (Option.bind_some _ _).symm.trans H; rw [hy465]; with_reducible exact H2_) | (have H2_ := (Option.bind_some _ _).symm.trans H; with_reducible exact H2_) | with_reducible exact H | (rw [hy465]; exact H) | exact H
           have Ny465 := Aside0.mk hy465
           clear hy465
           obtain rfl := Option.some.inj H
           obtain ⟨Ao16, co16, eo16⟩ := Kd.R_slice HO_0.out
           subst eo16
           have p446 : 0 ≤ (x5_1 : Int) := of_decide_eq_true qe84_
           have q446 : x5_1 < (l0.length : Int) := of_decide_eq_true qe84_
           obtain ⟨ad446, e446, hx446_0⟩ := Kd.at_int (Kd.R_reads' HO_0.out).2.2 x5_1 p446 q446
           cases e446
           replace p446 := eq_true p446
           replace q446 := eq_true q446
           have p447 : 0 ≤ (x5_1 : Int) := of_decide_eq_true qe84_
           have q447 : x5_1 < (l0.length : Int) := of_decide_eq_true qe84_
           obtain ⟨ad447, e447, hx447_0⟩ := Kd.at_int (Kd.R_reads' HO_0.out).2.2 x5_1 p447 q447
           obtain rfl : ad446 = ad447 := (by injection e447)
           replace p447 := eq_true p447
           replace q447 := eq_true q447
           go_wp2_with (first | ((with_reducible refine gate_dst (N := 34) rfl ?_); refine Kd.R_lit (Kd.int .i64) _ 3 ?hg (N := 34) ?hd (xs := ([] : List Int)) (inner := []) (ok := fun _ => True) (okp := fun _ => True) ?hr ?hp (fun _ hk => hk) trivial (Below.refl _ _) (Nat.le_refl _) (by simp) ?_; (case hd => rfl); (case hg => rfl); (case hr => exact qba7_); (case hp => exact (Reps.none _ _)); intro v449 w17 ho18 hb hg_ hnew_; clear hg_ hnew_; (first | rw [← Ny448.out] at ho18 | (simp only [Int.reduceToNat] at ho18; rw [← Ny448.out] at ho18)); have n0_ := Aside0.mk (Kd.R_elder' (q9d5_ HO_0.out) (Kd.R_base ho18) hb); have n1_ := Aside0.mk (Kd.R_lower (Kd.R_new' (Kd.R_newM (M := fun k_ => (P0_ k_ ∨ w.heap.size ≤ k_)) ho18 q339_ (fun k_ h_ => .inr h_)) (Kd.R_lt (q9d5_ HO_0.out))) (below_size q0c4_)); have n2_ := Aside0.mk (Kept.below (S := (fun k_ => P0_ k_)) qf72_ hb); have n3_ := Aside0.mk (below_step q0c4_ hb); replace HO_0 := n0_; have HO450 := n1_; replace HK := n2_; replace HB := n3_; clear n0_ n1_ n2_ n3_; clear hb ho18; have q19 : (x5_1 : Int) ≤ ((l0.length : Int) : Int) := of_decide_eq_true qe84_; obtain ⟨i019, hi019, _, hsz19, _⟩ := info_parts info3; have hroom19 : l0.length ≤ co16 := (Kd.R_reads' HO_0.out).2.1; have hC19 : Kd.C (Kd.int .i64) _ (some ad446) l0.length l0 := (Kd.R_reads' HO_0.out).2.2; have hcut19 := cut_to (P := Tryz.prog) 24 3 .i64 Tryz.underlying24 hi019 (some ad446) l0.length co16 x5_1 (of_decide_eq_true qe84_) q19 hroom19; have hr19 := Kd.C_take (m := (x5_1 : Int).toNat) hC19 (by omega); have hy19 : y451.length = (x5_1 : Int).toNat := (by rw [Ny451.out, List.length_take]; omega); rw [← Ny451.out] at hr19; rw [← hy19] at hcut19; have HR454 := Aside0.mk hr19; have HC454 := Aside0.mk (show y451.length ≤ co16 from by omega); clear hr19 hC19 hroom19 hi019 hsz19; have KY19 := Aside0.mk hy19; clear hy19; have KL19 := Aside0.mk (show (x5_1 : Int).toNat ≤ l0.length from by omega); replace q19 := eq_true q19) | ((with_reducible refine gate_builtin (b := .append) (xs := #[.tmp 34, .tmp 37]) rfl ?_); at_builtin; refine Kd.R_append_rows (Kd.int .i64) (w0 := w0) w0.heap.size rfl (.tmp 34) (.tmp 37) 24 3 (.int .i64 0) 8 rfl Tryz.underlying24 info3 rfl (by decide) (by omega) v449 y448 y451 _ _ _ (fun k_ => (P0_ k_ ∨ w.heap.size ≤ k_) ∧ some k_ ≠ (.slice (some ad446) l0.length co16 : Value).ownBlock) (fun _ => False) rfl rfl ?aO ?aR (fun _ _ h => h) (fun _ h => h.elim) ?aF ?aB ?aS ?aL ?_; (case aR => exact qe8c_ HR454.out); (case aB => exact q0c4_); (case aF => exact (fun k_ hk => ⟨(.inr (Nat.le_trans q339_ hk)), Kd.fresh' (Kd.R_lt (q9d5_ HO_0.out)) k_ hk⟩)); (case aO => exact (q861_ HO450.out)); (case aS => exact (below_size q0c4_)); (case aL => have := LMc11.out; omega); intro v456 w20 ho hb hg hat; rw [← Ny455.out] at ho; have n0_ := Aside0.mk (Kd.R_after (ok := (fun k_ => (P0_ k_ ∨ w.heap.size ≤ k_))) (q9d5_ HO_0.out) hg hat); have n1_ := Aside0.mk (hb); have n2_ := Aside0.mk (Kept.of_grown (S := (fun k_ => P0_ k_)) hg qf72_ (fun k_ e_ => (HO450.out.1 k_ e_).1.1)); have n3_ := Aside0.mk ((show Kd.C (Kd.int .i64) w20 (some ad446) y451.length y451 from qcfa_ HO_0.out)); have n4_ := Aside0.mk (ho); replace HO_0 := n0_; replace HB := n1_; replace HK := n2_; replace HR454 := n3_; have HO457 := n4_; clear n0_ n1_ n2_ n3_ n4_; clear ho hb hg hat) | ((with_reducible refine gate_builtin (b := .append) (xs := #[.tmp 39, .tmp 41]) rfl ?_); at_builtin; refine Kd.R_append (Kd.int .i64) (w0 := w0) w0.heap.size rfl (.tmp 39) (.tmp 41) 24 3 (.int .i64 0) 8 rfl Tryz.underlying24 info3 rfl (by decide) (by omega) v456 y455 a1 [.int .i64 a1] (fun k_ => (P0_ k_ ∨ w.heap.size ≤ k_) ∧ some k_ ≠ (.slice (some ad446) l0.length co16 : Value).ownBlock) (fun _ => False) rfl rfl ?aP (fun _ hk => hk.elim) ?aF ?aO ?aB ?aS ?aL ?_; (case aP => exact rfl); (case aB => exact q0c4_); (case aF => exact (fun k_ hk => ⟨(.inr (Nat.le_trans q339_ hk)), Kd.fresh' (Kd.R_lt (q9d5_ HO_0.out)) k_ hk⟩)); (case aO => exact (q9d5_ HO457.out)); (case aS => exact (below_size q0c4_)); (case aL => have := LMc12.out; omega); intro v459 w21 ho hb hg hat; rw [← Ny458.out] at ho; have n0_ := Aside0.mk (Kd.R_after (ok := (fun k_ => (P0_ k_ ∨ w.heap.size ≤ k_))) (q9d5_ HO_0.out) hg hat); have n1_ := Aside0.mk (hb); have n2_ := Aside0.mk (Kept.of_grown (S := (fun k_ => P0_ k_)) hg qf72_ (fun k_ e_ => (HO457.out.1 k_ e_).1)); have n3_ := Aside0.mk ((show Kd.C (Kd.int .i64) w21 (some ad446) y451.length y451 from qcfa_ HO_0.out)); have n4_ := Aside0.mk (ho); replace HO_0 := n0_; replace HB := n1_; replace HK := n2_; replace HR454 := n3_; have HO460 := n4_; clear n0_ n1_ n2_ n3_ n4_; clear ho hb hg hat; have q22 : (x5_1 : Int) ≤ ((l0.length : Int) : Int) := of_decide_eq_true qe84_; obtain ⟨i022, hi022, _, hsz22, _⟩ := info_parts info3; have hroom22 : l0.length ≤ co16 := (Kd.R_reads' HO_0.out).2.1; have hC22 : Kd.C (Kd.int .i64) _ (some ad446) l0.length l0 := (Kd.R_reads' HO_0.out).2.2; have q022 : (0 : Int) ≤ (x5_1 : Int) := of_decide_eq_true qe84_; have hcut22 := cut_from (P := Tryz.prog) 24 3 .i64 Tryz.underlying24 hi022 1 hsz22 (some ad446) l0.length co16 x5_1 q022 q22; have hr22 := Kd.C_drop (m := (x5_1 : Int).toNat) (c := co16) hC22 (by omega) hroom22; obtain ⟨A22, hA22⟩ : ∃ A1, A1 = (if co16 = (x5_1 : Int).toNat then (some ad446) else ((some ad446) : Option Addr).map (·.add ((x5_1 : Int).toNat * 1))) := ⟨_, rfl⟩; obtain ⟨c22, hc22⟩ : ∃ c1, c1 = co16 - (x5_1 : Int).toNat := ⟨_, rfl⟩; have hy22 : y461.length = l0.length - (x5_1 : Int).toNat := (by rw [Ny461.out, List.length_drop] <;> omega); rw [show (l0).drop (x5_1 : Int).toNat = y461 from Ny461.out.symm] at hr22; replace hr22 : Kd.C (Kd.int .i64) _ A22 y461.length y461 := (by rw [hA22]; exact hr22); rw [← hy22, ← hA22, ← hc22] at hcut22; have HR464 := Aside0.mk hr22; have HC464 := Aside0.mk (show y461.length ≤ c22 from by rw [hy22, hc22]; exact Nat.sub_le_sub_right hroom22 _); clear hr22 hC22 hroom22 hi022 hsz22 hc22; have KY22 := Aside0.mk hy22; have KA22 := Aside0.mk hA22; clear hy22 hA22; have KL22 := Aside0.mk (show (x5_1 : Int).toNat ≤ l0.length from by omega); replace q22 := eq_true q22) | ((with_reducible refine gate_builtin (b := .append) (xs := #[.tmp 43, .tmp 46]) rfl ?_); at_builtin; refine Kd.R_append_rows (Kd.int .i64) (w0 := w0) w0.heap.size rfl (.tmp 43) (.tmp 46) 24 3 (.int .i64 0) 8 rfl Tryz.underlying24 info3 rfl (by decide) (by omega) v459 y458 y461 _ _ _ (fun k_ => (P0_ k_ ∨ w.heap.size ≤ k_) ∧ some k_ ≠ (.slice (some ad446) l0.length co16 : Value).ownBlock) (fun _ => False) rfl rfl ?aO ?aR (fun _ _ h => h) (fun _ h => h.elim) ?aF ?aB ?aS ?aL ?_; (case aR => exact qe8c_ HR464.out); (case aB => exact q0c4_); (case aF => exact (fun k_ hk => ⟨(.inr (Nat.le_trans q339_ hk)), Kd.fresh' (Kd.R_lt (q9d5_ HO_0.out)) k_ hk⟩)); (case aO => exact (q9d5_ HO460.out)); (case aS => exact (below_size q0c4_)); (case aL => have := LMc15.out; omega); intro v466 w23 ho hb hg hat; rw [← Ny465.out] at ho; have n0_ := Aside0.mk (Kd.R_after (ok := (fun k_ => (P0_ k_ ∨ w.heap.size ≤ k_))) (q9d5_ HO_0.out) hg hat); have n1_ := Aside0.mk (hb); have n2_ := Aside0.mk (Kept.of_grown (S := (fun k_ => P0_ k_)) hg qf72_ (fun k_ e_ => (HO460.out.1 k_ e_).1)); have n3_ := Aside0.mk ((show Kd.C (Kd.int .i64) w23 (some ad446) y451.length y451 from qcfa_ HO_0.out)); have n4_ := Aside0.mk ((show Kd.C (Kd.int .i64) w23 A22 y461.length y461 from by rw [Ny461.out, KA22.out]; exact Kd.C_drop (m := (x5_1 : Int).toNat) (c := co16) ((Kd.R_reads' (Kd.R_after (ok := (fun k_ => (P0_ k_ ∨ w.heap.size ≤ k_))) (q9d5_ HO_0.out) hg hat)).2.2) KL22.out ((Kd.R_reads' (Kd.R_after (ok := (fun k_ => (P0_ k_ ∨ w.heap.size ≤ k_))) (q9d5_ HO_0.out) hg hat)).2.1))); have n5_ := Aside0.mk (ho); replace HO_0 := n0_; replace HB := n1_; replace HK := n2_; replace HR454 := n3_; replace HR464 := n4_; have HO467 := n5_; clear n0_ n1_ n2_ n3_ n4_ n5_; clear ho hb hg hat))
           go_ret
           exact ⟨_, qce7_, q311_ HO467.out, q0c4_, qf72_⟩
          ·
           rw [if_neg c15] at H
           exact absurd H (by simp)
         ·
          rw [if_neg c12] at H
          exact absurd H (by simp)
        ·
         rw [if_neg c11] at H
         exact absurd H (by simp)
       ·
        rw [if_neg c10] at H
        exact absurd H (by simp)
    ·
     rw [if_neg c4] at H
     exact absurd H (by simp)
   ·
    rw [if_neg c3] at H
    have c3b0 := decide_eq_false c3
    clear c3
    obtain ⟨y468, hy468⟩ : ∃ y_ : List Int, y_ = (([] : List Int)) := ⟨_, rfl⟩
    replace H : (if 0 ≤ x5_1 then (if x5_1 ≤ (l0.length : Int) then ((some (l0.take (x5_1 : Int).toNat : List Int)).bind fun y471 => (if y468.length + y471.length < 17592186044416 then ((some (y468 ++ y471 : List Int)).bind fun y475 => (if y475.length < 17592186044416 then ((some (y475 ++ [a1] : List Int)).bind fun y478 => ((some (l0.drop (x5_1 : Int).toNat : List Int)).bind fun y481 => (if y478.length + y481.length < 17592186044416 then (some (y478 ++ y481)) else (none)))) else (none))) else (none))) else (none)) else (none)) = some r := by first | (rw [hy468]; with_reducible exact H) | (have H2_ := (Option.bind_some _ _).symm.trans H; rw [hy468]; with_reducible exact H2_) | (have H2_ := (Option.bind_some _ _).symm.trans H; with_reducible exact H2_) | with_reducible exact H | (rw [hy468]; exact H) | exact H
    have Ny468 := Aside0.mk hy468
    clear hy468
    by_cases c24 : 0 ≤ x5_1
    ·
     rw [if_pos c24] at H
     have c24b0 := eq_true c24
     have c24b1 := decide_eq_true c24
     clear c24
     by_cases c25 : x5_1 ≤ (l0.length : Int)
     ·
      rw [if_pos c25] at H
      have c25b0 := eq_true c25
      have c25b1 := decide_eq_true c25
      clear c25
      obtain ⟨y471, hy471⟩ : ∃ y_ : List Int, y_ = (l0.take (x5_1 : Int).toNat) := ⟨_, rfl⟩
      replace H : (if y468.length + y471.length < 17592186044416 then ((some (y468 ++ y471 : List Int)).bind fun y475 => (if y475.length < 17592186044416 then ((some (y475 ++ [a1] : List Int)).bind fun y478 => ((some (l0.drop (x5_1 : Int).toNat : List Int)).bind fun y481 => (if y478.length + y481.length < 17592186044416 then (some (y478 ++ y481)) else (none)))) else (none))) else (none)) = some r := by first | (rw [hy471]; with_reducible exact H) | (have H2_ := (Option.bind_some _ _).symm.trans H; rw [hy471]; with_reducible exact H2_) | (have H2_ := (Option.bind_some _ _).symm.trans H; with_reducible exact H2_) | with_reducible exact H | (rw [hy471]; exact H) | exact H
      have Ny471 := Aside0.mk hy471
      clear hy471
      by_cases c26 : y468.length + y471.length < 17592186044416
      ·
       rw [if_pos c26] at H
       have LMc26 := Aside0.mk c26
       clear c26
       obtain ⟨y475, hy475⟩ : ∃ y_ : List Int, y_ = (y468 ++ y471) := ⟨_, rfl⟩
       replace H : (if y475.length < 17592186044416 then ((some (y475 ++ [a1] : List Int)).bind fun y478 => ((some (l0.drop (x5_1 : Int).toNat : List Int)).bind fun y481 => (if y478.length + y481.length < 17592186044416 then (some (y478 ++ y481)) else (none)))) else (none)) = some r := by first | (rw [hy475]; with_reducible exact H) | (have H2_ := (Option.bind_some _ _).symm.trans H; rw [hy475]; with_reducible exact H2_) | (have H2_ := (Option.bind_some _ _).symm.trans H; with_reducible exact H2_) | with_reducible exact H | (rw [hy475]; exact H) | exact H
       have Ny475 := Aside0.mk hy475
       clear hy475
       by_cases c27 : y475.length < 17592186044416
       ·
        rw [if_pos c27] at H
        have LMc27 := Aside0.mk c27
        clear c27
        obtain ⟨y478, hy478⟩ : ∃ y_ : List Int, y_ = (y475 ++ [a1]) := ⟨_, rfl⟩
        replace H : ((some (l0.drop (x5_1 : Int).toNat : List Int)).bind fun y481 => (if y478.length + y481.length < 17592186044416 then (some (y478 ++ y481)) else (none))) = some r := by first | (rw [hy478]; with_reducible exact H) | (have H2_ := (Option.bind_some _ _).symm.trans H; rw [hy478]; with_reducible exact H2_) | (have H2_ := (Option.bind_some _ _).symm.trans H; with_reducible exact H2_) | with_reducible exact H | (rw [hy478]; exact H) | exact H
        have Ny478 := Aside0.mk hy478
        clear hy478
        have c28b0 := eq_true (of_decide_eq_true qe84_ : 0 ≤ x5_1)
        have c29b0 := eq_true (of_decide_eq_true qe84_ : x5_1 ≤ (l0.length : Int))
        obtain ⟨y481, hy481⟩ : ∃ y_ : List Int, y_ = (l0.drop (x5_1 : Int).toNat) := ⟨_, rfl⟩
        replace H : (if y478.length + y481.length < 17592186044416 then (some (y478 ++ y481)) else (none)) = some r := by first | (rw [hy481]; with_reducible exact H) | (have H2_ := (Option.bind_some _ _).symm.trans H; rw [hy481]; with_reducible exact H2_) | (have H2_ := (Option.bind_some _ _).symm.trans H; with_reducible exact H2_) | with_reducible exact H | (rw [hy481]; exact H) | exact H
        have Ny481 := Aside0.mk hy481
        clear hy481
        by_cases c30 : y478.length + y481.length < 17592186044416
        ·
         rw [if_pos c30] at H
         have LMc30 := Aside0.mk c30
         clear c30
         obtain ⟨y485, hy485⟩ : ∃ y_ : List Int, y_ = (y478 ++ y481) := ⟨_, rfl⟩
         replace H : (some y485) = some r := by first | (rw [hy485]; with_reducible exact H) | (have H2_ := (Option.bind_some _ _).symm.trans H; rw [hy485]; with_reducible exact H2_) | (have H2_ := (Option.bind_some _ _).symm.trans H; with_reducible exact H2_) | with_reducible exact H | (rw [hy485]; exact H) | exact H
         have Ny485 := Aside0.mk hy485
         clear hy485
         obtain rfl := Option.some.inj H
         obtain ⟨Ao31, co31, eo31⟩ := Kd.R_slice HO_0.out
         subst eo31
         go_wp2_with (first | ((with_reducible refine gate_dst (N := 34) rfl ?_); refine Kd.R_lit (Kd.int .i64) _ 3 ?hg (N := 34) ?hd (xs := ([] : List Int)) (inner := []) (ok := fun _ => True) (okp := fun _ => True) ?hr ?hp (fun _ hk => hk) trivial (Below.refl _ _) (Nat.le_refl _) (by simp) ?_; (case hd => rfl); (case hg => rfl); (case hr => exact qba7_); (case hp => exact (Reps.none _ _)); intro v469 w32 ho33 hb hg_ hnew_; clear hg_ hnew_; (first | rw [← Ny468.out] at ho33 | (simp only [Int.reduceToNat] at ho33; rw [← Ny468.out] at ho33)); have n0_ := Aside0.mk (Kd.R_elder' (q9d5_ HO_0.out) (Kd.R_base ho33) hb); have n1_ := Aside0.mk (Kd.R_lower (Kd.R_new' (Kd.R_newM (M := fun k_ => (P0_ k_ ∨ w.heap.size ≤ k_)) ho33 q339_ (fun k_ h_ => .inr h_)) (Kd.R_lt (q9d5_ HO_0.out))) (below_size q0c4_)); have n2_ := Aside0.mk (Kept.below (S := (fun k_ => P0_ k_)) qf72_ hb); have n3_ := Aside0.mk (below_step q0c4_ hb); replace HO_0 := n0_; have HO470 := n1_; replace HK := n2_; replace HB := n3_; clear n0_ n1_ n2_ n3_; clear hb ho33; have q34 : (x5_1 : Int) ≤ ((l0.length : Int) : Int) := of_decide_eq_true qe84_; obtain ⟨i034, hi034, _, hsz34, _⟩ := info_parts info3; have hroom34 : l0.length ≤ co31 := (Kd.R_reads' HO_0.out).2.1; have hC34 : Kd.C (Kd.int .i64) _ Ao31 l0.length l0 := (Kd.R_reads' HO_0.out).2.2; have hcut34 := cut_to (P := Tryz.prog) 24 3 .i64 Tryz.underlying24 hi034 Ao31 l0.length co31 x5_1 (of_decide_eq_true qe84_) q34 hroom34; have hr34 := Kd.C_take (m := (x5_1 : Int).toNat) hC34 (by omega); have hy34 : y471.length = (x5_1 : Int).toNat := (by rw [Ny471.out, List.length_take]; omega); rw [← Ny471.out] at hr34; rw [← hy34] at hcut34; have HR474 := Aside0.mk hr34; have HC474 := Aside0.mk (show y471.length ≤ co31 from by omega); clear hr34 hC34 hroom34 hi034 hsz34; have KY34 := Aside0.mk hy34; clear hy34; have KL34 := Aside0.mk (show (x5_1 : Int).toNat ≤ l0.length from by omega); replace q34 := eq_true q34) | ((with_reducible refine gate_builtin (b := .append) (xs := #[.tmp 34, .tmp 37]) rfl ?_); at_builtin; refine Kd.R_append_rows (Kd.int .i64) (w0 := w0) w0.heap.size rfl (.tmp 34) (.tmp 37) 24 3 (.int .i64 0) 8 rfl Tryz.underlying24 info3 rfl (by decide) (by omega) v469 y468 y471 _ _ _ (fun k_ => (P0_ k_ ∨ w.heap.size ≤ k_) ∧ some k_ ≠ (.slice Ao31 l0.length co31 : Value).ownBlock) (fun _ => False) rfl rfl ?aO ?aR (fun _ _ h => h) (fun _ h => h.elim) ?aF ?aB ?aS ?aL ?_; (case aR => exact qe8c_ HR474.out); (case aB => exact q0c4_); (case aF => exact (fun k_ hk => ⟨(.inr (Nat.le_trans q339_ hk)), Kd.fresh' (Kd.R_lt (q9d5_ HO_0.out)) k_ hk⟩)); (case aO => exact (q861_ HO470.out)); (case aS => exact (below_size q0c4_)); (case aL => have := LMc26.out; omega); intro v476 w35 ho hb hg hat; rw [← Ny475.out] at ho; have n0_ := Aside0.mk (Kd.R_after (ok := (fun k_ => (P0_ k_ ∨ w.heap.size ≤ k_))) (q9d5_ HO_0.out) hg hat); have n1_ := Aside0.mk (hb); have n2_ := Aside0.mk (Kept.of_grown (S := (fun k_ => P0_ k_)) hg qf72_ (fun k_ e_ => (HO470.out.1 k_ e_).1.1)); have n3_ := Aside0.mk ((show Kd.C (Kd.int .i64) w35 Ao31 y471.length y471 from q1b5_ HO_0.out)); have n4_ := Aside0.mk (ho); replace HO_0 := n0_; replace HB := n1_; replace HK := n2_; replace HR474 := n3_; have HO477 := n4_; clear n0_ n1_ n2_ n3_ n4_; clear ho hb hg hat) | ((with_reducible refine gate_builtin (b := .append) (xs := #[.tmp 39, .tmp 41]) rfl ?_); at_builtin; refine Kd.R_append (Kd.int .i64) (w0 := w0) w0.heap.size rfl (.tmp 39) (.tmp 41) 24 3 (.int .i64 0) 8 rfl Tryz.underlying24 info3 rfl (by decide) (by omega) v476 y475 a1 [.int .i64 a1] (fun k_ => (P0_ k_ ∨ w.heap.size ≤ k_) ∧ some k_ ≠ (.slice Ao31 l0.length co31 : Value).ownBlock) (fun _ => False) rfl rfl ?aP (fun _ hk => hk.elim) ?aF ?aO ?aB ?aS ?aL ?_; (case aP => exact rfl); (case aB => exact q0c4_); (case aF => exact (fun k_ hk => ⟨(.inr (Nat.le_trans q339_ hk)), Kd.fresh' (Kd.R_lt (q9d5_ HO_0.out)) k_ hk⟩)); (case aO => exact (q9d5_ HO477.out)); (case aS => exact (below_size q0c4_)); (case aL => have := LMc27.out; omega); intro v479 w36 ho hb hg hat; rw [← Ny478.out] at ho; have n0_ := Aside0.mk (Kd.R_after (ok := (fun k_ => (P0_ k_ ∨ w.heap.size ≤ k_))) (q9d5_ HO_0.out) hg hat); have n1_ := Aside0.mk (hb); have n2_ := Aside0.mk (Kept.of_grown (S := (fun k_ => P0_ k_)) hg qf72_ (fun k_ e_ => (HO477.out.1 k_ e_).1)); have n3_ := Aside0.mk ((show Kd.C (Kd.int .i64) w36 Ao31 y471.length y471 from q1b5_ HO_0.out)); have n4_ := Aside0.mk (ho); replace HO_0 := n0_; replace HB := n1_; replace HK := n2_; replace HR474 := n3_; have HO480 := n4_; clear n0_ n1_ n2_ n3_ n4_; clear ho hb hg hat; have q37 : (x5_1 : Int) ≤ ((l0.length : Int) : Int) := of_decide_eq_true qe84_; obtain ⟨i037, hi037, _, hsz37, _⟩ := info_parts info3; have hroom37 : l0.length ≤ co31 := (Kd.R_reads' HO_0.out).2.1; have hC37 : Kd.C (Kd.int .i64) _ Ao31 l0.length l0 := (Kd.R_reads' HO_0.out).2.2; have q037 : (0 : Int) ≤ (x5_1 : Int) := of_decide_eq_true qe84_; have hcut37 := cut_from (P := Tryz.prog) 24 3 .i64 Tryz.underlying24 hi037 1 hsz37 Ao31 l0.length co31 x5_1 q037 q37; have hr37 := Kd.C_drop (m := (x5_1 : Int).toNat) (c := co31) hC37 (by omega) hroom37; obtain ⟨A37, hA37⟩ : ∃ A1, A1 = (if co31 = (x5_1 : Int).toNat then Ao31 else (Ao31 : Option Addr).map (·.add ((x5_1 : Int).toNat * 1))) := ⟨_, rfl⟩; obtain ⟨c37, hc37⟩ : ∃ c1, c1 = co31 - (x5_1 : Int).toNat := ⟨_, rfl⟩; have hy37 : y481.length = l0.length - (x5_1 : Int).toNat := (by rw [Ny481.out, List.length_drop] <;> omega); rw [show (l0).drop (x5_1 : Int).toNat = y481 from Ny481.out.symm] at hr37; replace hr37 : Kd.C (Kd.int .i64) _ A37 y481.length y481 := (by rw [hA37]; exact hr37); rw [← hy37, ← hA37, ← hc37] at hcut37; have HR484 := Aside0.mk hr37; have HC484 := Aside0.mk (show y481.length ≤ c37 from by rw [hy37, hc37]; exact Nat.sub_le_sub_right hroom37 _); clear hr37 hC37 hroom37 hi037 hsz37 hc37; have KY37 := Aside0.mk hy37; have KA37 := Aside0.mk hA37; clear hy37 hA37; have KL37 := Aside0.mk (show (x5_1 : Int).toNat ≤ l0.length from by omega); replace q37 := eq_true q37) | ((with_reducible refine gate_builtin (b := .append) (xs := #[.tmp 43, .tmp 46]) rfl ?_); at_builtin; refine Kd.R_append_rows (Kd.int .i64) (w0 := w0) w0.heap.size rfl (.tmp 43) (.tmp 46) 24 3 (.int .i64 0) 8 rfl Tryz.underlying24 info3 rfl (by decide) (by omega) v479 y478 y481 _ _ _ (fun k_ => (P0_ k_ ∨ w.heap.size ≤ k_) ∧ some k_ ≠ (.slice Ao31 l0.length co31 : Value).ownBlock) (fun _ => False) rfl rfl ?aO ?aR (fun _ _ h => h) (fun _ h => h.elim) ?aF ?aB ?aS ?aL ?_; (case aR => exact qe8c_ HR484.out); (case aB => exact q0c4_); (case aF => exact (fun k_ hk => ⟨(.inr (Nat.le_trans q339_ hk)), Kd.fresh' (Kd.R_lt (q9d5_ HO_0.out)) k_ hk⟩)); (case aO => exact (q9d5_ HO480.out)); (case aS => exact (below_size q0c4_)); (case aL => have := LMc30.out; omega); intro v486 w38 ho hb hg hat; rw [← Ny485.out] at ho; have n0_ := Aside0.mk (Kd.R_after (ok := (fun k_ => (P0_ k_ ∨ w.heap.size ≤ k_))) (q9d5_ HO_0.out) hg hat); have n1_ := Aside0.mk (hb); have n2_ := Aside0.mk (Kept.of_grown (S := (fun k_ => P0_ k_)) hg qf72_ (fun k_ e_ => (HO480.out.1 k_ e_).1)); have n3_ := Aside0.mk ((show Kd.C (Kd.int .i64) w38 Ao31 y471.length y471 from q1b5_ HO_0.out)); have n4_ := Aside0.mk ((show Kd.C (Kd.int .i64) w38 A37 y481.length y481 from by rw [Ny481.out, KA37.out]; exact Kd.C_drop (m := (x5_1 : Int).toNat) (c := co31) ((Kd.R_reads' (Kd.R_after (ok := (fun k_ => (P0_ k_ ∨ w.heap.size ≤ k_))) (q9d5_ HO_0.out) hg hat)).2.2) KL37.out ((Kd.R_reads' (Kd.R_after (ok := (fun k_ => (P0_ k_ ∨ w.heap.size ≤ k_))) (q9d5_ HO_0.out) hg hat)).2.1))); have n5_ := Aside0.mk (ho); replace HO_0 := n0_; replace HB := n1_; replace HK := n2_; replace HR474 := n3_; replace HR484 := n4_; have HO487 := n5_; clear n0_ n1_ n2_ n3_ n4_ n5_; clear ho hb hg hat))
         go_ret
         exact ⟨_, qce7_, q311_ HO487.out, q0c4_, qf72_⟩
        ·
         rw [if_neg c30] at H
         exact absurd H (by simp)
       ·
        rw [if_neg c27] at H
        exact absurd H (by simp)
      ·
       rw [if_neg c26] at H
       exact absurd H (by simp)
     ·
      rw [if_neg c25] at H
      exact absurd H (by simp)
    ·
     rw [if_neg c24] at H
     exact absurd H (by simp)

/-! ### spec_MostLucky: function 11 -/
mutual
def spec_MostLucky.j0 : Nat → List Int → Bool → Option (Int × Bool)
 | 0, _, _ => none
 | k + 1, x0, x18 => if x18 = true then (some (0, false)) else (spec_MostLucky.l0 k ([] : List Int) x0 (x0.length : Int) 0)
def spec_MostLucky.l0 : Nat → List Int → List Int → Int → Int → Option (Int × Bool)
 | 0, _, _, _, _ => none
 | k + 1, x6, x19, x20, x21 => if x21 < x20 then (if 0 ≤ x21 then (if x21 < (x19.length : Int) then ((spec_l1Put.f k x6 (rd x19 x21)).bind fun t491 => (spec_MostLucky.l0 k t491 x19 x20 (wrap64 (x21 + 1)))) else (none)) else (none)) else (some ((x6.length : Int), true))
end
def spec_MostLucky.f (k : Nat) (l0 : List Int) (a1 : Int) : Option (Int × Bool) := (spec_paGood.f k l0 a1).bind fun t488 => (if t488 = true then ((spec_paAll.f k l0 a1).bind fun t489 => (spec_MostLucky.j0 k l0 (!t489))) else (spec_MostLucky.j0 k l0 true))
theorem spec_MostLucky.mono_l : ∀ k, (∀ y0 y1, LeO (spec_MostLucky.j0 k y0 y1) (spec_MostLucky.j0 (k + 1) y0 y1)) ∧ (∀ y0 y1 y2 y3, LeO (spec_MostLucky.l0 k y0 y1 y2 y3) (spec_MostLucky.l0 (k + 1) y0 y1 y2 y3))
 | 0 => ⟨fun _ _ r h => by simp [spec_MostLucky.j0] at h, fun _ _ _ _ r h => by simp [spec_MostLucky.l0] at h⟩
 | k + 1 => by
  obtain ⟨ih0, ih1⟩ := spec_MostLucky.mono_l k
  refine ⟨?_, ?_⟩
  ·
   intro y0 y1
   unfold spec_MostLucky.j0
   repeat' (with_reducible first | exact ih0 _ _ | exact ih1 _ _ _ _ | exact spec_l1Put.mono _ _ _ | exact spec_paAll.mono _ _ _ | exact spec_paGood.mono _ _ _ | exact LeO.refl _ | exact LeO.none _ | refine LeO.ite ?_ ?_ | refine LeO.bind ?_ (fun _ => ?_))
  ·
   intro y0 y1 y2 y3
   unfold spec_MostLucky.l0
   repeat' (with_reducible first | exact ih0 _ _ | exact ih1 _ _ _ _ | exact spec_l1Put.mono _ _ _ | exact spec_paAll.mono _ _ _ | exact spec_paGood.mono _ _ _ | exact LeO.refl _ | exact LeO.none _ | refine LeO.ite ?_ ?_ | refine LeO.bind ?_ (fun _ => ?_))
theorem spec_MostLucky.mono : ∀ a0 a1 k, LeO (spec_MostLucky.f k a0 a1) (spec_MostLucky.f (k + 1) a0 a1) := by
 intro a0 a1 k
 obtain ⟨ih0, ih1⟩ := spec_MostLucky.mono_l k
 unfold spec_MostLucky.f
 repeat' (with_reducible first | exact ih0 _ _ | exact ih1 _ _ _ _ | exact spec_l1Put.mono _ _ _ | exact spec_paAll.mono _ _ _ | exact spec_paGood.mono _ _ _ | exact LeO.refl _ | exact LeO.none _ | refine LeO.ite ?_ ?_ | refine LeO.bind ?_ (fun _ => ?_))
theorem spec_MostLucky.calls (k : Nat) (A0 : Option Addr) (c0 : Nat) (l0 : List Int) (a1 : Int) (r1 : Int) (r2 : Bool) (w : World) (hr0 : Kd.C (Kd.int .i64) w A0 l0.length l0) (hc0 : l0.length ≤ c0) (h : spec_MostLucky.f k l0 a1 = some (r1, r2)) :
  Calls Tryz.prog 11 #[.slice A0 l0.length c0, .int .i64 a1] w fun e w' => e = .returned (.tuple #[.int .i64 r1, .bool r2]) ∧ Below w.heap.size w w' := by
 have HR0 := Aside0.mk hr0
 have HC0 := Aside0.mk hc0
 clear hr0 hc0
 have HB := Aside0.mk (Below.refl w.heap.size w)
 unfold spec_MostLucky.f at h
 have H := h; clear h
 have HC3 := Aside0.mk H
 clear H
 go_enter Tryz.func11, Tryz.ntmps11
 go_upto_region 1 with (fail)
 go_cut [18] (fun v18 wc => ∃ (kq : Nat) (x18_2 : Bool), v18 = .bool x18_2 ∧ Aside0 (spec_MostLucky.j0 kq l0 x18_2 = some (r1, r2)) ∧ Aside0 (kq ≤ k) ∧ Aside0 (Below w.heap.size w wc))
 case first =>
  have H := HC3.out
  clear HC3
  obtain ⟨t488, A4, H⟩ := ob_ H
  by_cases c5 : t488 = true
  ·
   subst c5
   rw [if_pos rfl] at H
   obtain ⟨t489, A6, H⟩ := ob_ H
   have H' := Aside0.mk H
   clear H
   go_wp2_with (first | ((with_reducible refine gate_callee (f := 31) rfl ?_); refine gl_ 11 Tryz.func31 #[.slice A0 l0.length c0, .int .i64 a1] ?_; (with_reducible refine (spec_paGood.calls k _ _ l0 a1 true _ ?s1 ?s2 A4.out).mono ?_); (case s1 => exact q02f_ HR0.out); (case s2 => exact HC0.out); rintro e w' ⟨rfl, ⟨nd, rfl⟩⟩; refine ⟨_, rfl, ?_⟩) | (go_at_call 32; (with_reducible refine (spec_paAll.calls k _ _ l0 a1 t489 _ ?s1 ?s2 A6.out).mono ?_); (case s1 => exact q749_ HR0.out); (case s2 => exact HC0.out); rintro e w7 ⟨rfl, hb⟩; replace HB := Aside0.mk (below_step q0c4_ hb); clear hb))
   go_meet
   case rel => exact ⟨_, (!t489), qc8f_, H', ⟨q821_⟩, ⟨q0c4_⟩⟩
  ·
   replace c5 := Bool.eq_false_iff.mpr c5
   subst c5
   rw [if_neg nf_] at H
   have H' := Aside0.mk H
   clear H
   go_wp2_with (first | ((with_reducible refine gate_callee (f := 31) rfl ?_); refine gl_ 11 Tryz.func31 #[.slice A0 l0.length c0, .int .i64 a1] ?_; (with_reducible refine (spec_paGood.calls k _ _ l0 a1 false _ ?s1 ?s2 A4.out).mono ?_); (case s1 => exact q02f_ HR0.out); (case s2 => exact HC0.out); rintro e w' ⟨rfl, ⟨nd, rfl⟩⟩; refine ⟨_, rfl, ?_⟩))
   go_meet
   case rel => exact ⟨_, (true), qc8f_, H', ⟨q821_⟩, ⟨q0c4_⟩⟩
 case rest =>
  clear HC3; try clear c1; try clear p2; try clear c3; try clear c5
  obtain ⟨kq, x18_2, rfl, HA, HJ2, HB⟩ := hcut
  cases kq with
  | zero => exact absurd HA.out (by simp [spec_MostLucky.j0])
  | succ kj2 =>
   have H := HA.out
   clear HA
   simp only [spec_MostLucky.j0] at H
   by_cases c8 : x18_2 = true
   ·
    subst c8
    rw [if_pos rfl] at H
    simp only [Option.some.injEq, Prod.mk.injEq] at H
    obtain ⟨rfl, rfl⟩ := H
    go_wp2
    go_ret2
    exact ⟨qce7_, q0c4_⟩
   ·
    replace c8 := Bool.eq_false_iff.mpr c8
    subst c8
    rw [if_neg nf_] at H
    have H' := Aside0.mk H
    clear H
    go_wp2
    go_loopg [6, 21] kj2 (fun kq v6 v21 w' => ∃ (x6_2 : List Int) (x21_2 : Int), v21 = .int .i64 x21_2 ∧ Aside0 (spec_MostLucky.l0 kq x6_2 l0 (l0.length : Int) x21_2 = some (r1, r2)) ∧ Aside0 (kq ≤ kj2) ∧ Aside0 (Kd.R (Kd.int .i64) 3 w' w.heap.size (fun _ => True) v6 x6_2) ∧ Aside0 (Below w.heap.size w w'))
    case atStart => exact ⟨(([] : List Int)), (0), qc8f_, H', ⟨Nat.le_refl _⟩, ⟨qf62_⟩, ⟨q0c4_⟩⟩
    case round =>
     clear H'; try clear c1; try clear p2; try clear c3; try clear c5; try clear c8; try clear p2
     obtain ⟨x6_2, x21_2, rfl, HA, HK2, HO_6, HB⟩ := hrel
     cases gk with
     | zero => exact absurd HA.out (by simp [spec_MostLucky.l0])
     | succ k2 =>
      have H := HA.out
      clear HA
      simp only [spec_MostLucky.l0] at H
      by_cases c9 : x21_2 < (l0.length : Int)
      ·
       rw [if_pos c9] at H
       have c9b0 := decide_eq_true c9
       clear c9
       by_cases c10 : 0 ≤ x21_2
       ·
        rw [if_pos c10] at H
        have c10b0 := decide_eq_true c10
        clear c10
        by_cases c11 : x21_2 < (l0.length : Int)
        ·
         rw [if_pos c11] at H
         have c11b0 := decide_eq_true c11
         clear c11
         obtain ⟨t491, A12, H⟩ := ob_ H
         have H' := Aside0.mk H
         clear H
         have p490 : 0 ≤ (x21_2 : Int) := of_decide_eq_true qe84_
         have q490 : x21_2 < (l0.length : Int) := of_decide_eq_true qe84_
         obtain ⟨ad490, e490, hx490_0⟩ := Kd.at_int HR0.out x21_2 p490 q490
         cases e490
         replace hx490_0 := (HB.out.cell (World.block_lt_of_cell? w _ hx490_0)).trans hx490_0
         replace p490 := eq_true p490
         replace q490 := eq_true q490
         obtain ⟨Ao13, co13, eo13⟩ := Kd.R_slice HO_6.out
         subst eo13
         go_wp2_with (first | ((with_reducible refine gate_callee (f := 42) rfl ?_); refine gl_ 27 Tryz.func42 #[.slice Ao13 x6_2.length co13, .int .i64 (rd l0 x21_2)] ?_; (with_reducible refine (spec_l1Put.calls k2 (fun k_ => some k_ = (.slice Ao13 x6_2.length co13 : Value).ownBlock) (.slice Ao13 x6_2.length co13) x6_2 (rd l0 x21_2) t491 w _ ?s1 ?s2 A12.out).mono ?_); (case s1 => exact q0c4_); (case s2 => exact Kd.R_tight rfl HO_6.out); rintro e w14 ⟨v492, rfl, ho0, hb, hkp⟩; refine ⟨_, rfl, ?_⟩; have n0_ := Aside0.mk (Kd.R_mono (ok' := fun k_ => True) ho0 (fun k_ hk_ => trivial)); have n1_ := Aside0.mk (hb); have HO493 := n0_; replace HB := n1_; clear n0_ n1_; clear hb; (try clear hkp); clear ho0))
         go_roundg k2
         case measure => have := HJ2.out; have := HK2.out; omega
         case rel => exact ⟨(t491), (wrap64 (x21_2 + 1)), qc8f_, H', ⟨q37b_ HJ2.out HK2.out⟩, ⟨q9d5_ HO493.out⟩, ⟨q0c4_⟩⟩
        ·
         rw [if_neg c11] at H
         exact absurd H (by simp)
       ·
        rw [if_neg c10] at H
        exact absurd H (by simp)
      ·
       rw [if_neg c9] at H
       have c9b0 := decide_eq_false c9
       clear c9
       simp only [Option.some.injEq, Prod.mk.injEq] at H
       obtain ⟨rfl, rfl⟩ := H
       obtain ⟨Ao15, co15, eo15⟩ := Kd.R_slice HO_6.out
       subst eo15
       go_wp2
       go_ret2
       exact ⟨qce7_, q0c4_⟩

/-! ### impl_FairOrder: function 12 -/
def impl_FairOrder.f (k : Nat) (l0 : List Int) (a1 : Int) : Option (List Int × Bool) := (impl_doPark.f k l0 a1).bind fun t494 => (if t494 = true then ((impl_fair.f l0).bind fun t495 => (some (t495, true))) else (some (([] : List Int), false)))
theorem impl_FairOrder.mono : ∀ a0 a1 k, LeO (impl_FairOrder.f k a0 a1) (impl_FairOrder.f (k + 1) a0 a1) := by
 intro a0 a1 k
 unfold impl_FairOrder.f
 repeat' (with_reducible first | exact impl_doPark.mono _ _ _ | exact LeO.refl _ | exact LeO.none _ | refine LeO.ite ?_ ?_ | refine LeO.bind ?_ (fun _ => ?_))
theorem impl_FairOrder.calls (k : Nat) (A0 : Option Addr) (c0 : Nat) (l0 : List Int) (a1 : Int) (r1 : List Int) (r2 : Bool) (w : World) (hr0 : Kd.C (Kd.int .i64) w A0 l0.length l0) (hc0 : l0.length ≤ c0) (h : impl_FairOrder.f k l0 a1 = some (r1, r2)) :
  Calls Tryz.prog 12 #[.slice A0 l0.length c0, .int .i64 a1] w fun e w' => ∃ v0_ : Value, e = .returned (.tuple #[v0_, .bool r2]) ∧ Kd.R (Kd.int .i64) 3 w' w.heap.size (fun _ => True) v0_ r1 ∧ Below w.heap.size w w' := by
 have HR0 := Aside0.mk hr0
 have HC0 := Aside0.mk hc0
 clear hr0 hc0
 have HB := Aside0.mk (Below.refl w.heap.size w)
 unfold impl_FairOrder.f at h
 have H := h; clear h
 obtain ⟨t494, A3, H⟩ := ob_ H
 by_cases c4 : t494 = true
 ·
  subst c4
  rw [if_pos rfl] at H
  obtain ⟨t495, A5, H⟩ := ob_ H
  simp only [Option.some.injEq, Prod.mk.injEq] at H
  obtain ⟨rfl, rfl⟩ := H
  go_enter Tryz.func12, Tryz.ntmps12
  go_wp2_with (first | ((with_reducible refine gate_callee (f := 27) rfl ?_); refine gl_ 8 Tryz.func27 #[.slice A0 l0.length c0, .int .i64 a1] ?_; (with_reducible refine (impl_doPark.calls k _ _ l0 a1 true _ ?s1 ?s2 A3.out).mono ?_); (case s1 => exact q201_ HR0.out); (case s2 => exact HC0.out); rintro e w6 ⟨rfl, hb⟩; refine ⟨_, rfl, ?_⟩; replace HB := Aside0.mk (below_step q0c4_ hb); clear hb) | ((with_reducible refine gate_callee (f := 30) rfl ?_); refine gl_ 11 Tryz.func30 #[.slice A0 l0.length c0] ?_; (with_reducible refine (impl_fair.calls _ _ l0 t495 _ ?s1 ?s2 A5.out).mono ?_); (case s1 => exact q02f_ HR0.out); (case s2 => exact HC0.out); rintro e w7 ⟨v496, rfl, ho0, hb⟩; refine ⟨_, rfl, ?_⟩; have HO497 := Aside0.mk (Kd.R_lower ho0 (below_size q0c4_)); replace HB := Aside0.mk (below_step q0c4_ hb); clear hb ho0))
  go_ret2
  exact ⟨_, qce7_, q9d5_ HO497.out, q0c4_⟩
 ·
  replace c4 := Bool.eq_false_iff.mpr c4
  subst c4
  rw [if_neg nf_] at H
  simp only [Option.some.injEq, Prod.mk.injEq] at H
  obtain ⟨rfl, rfl⟩ := H
  go_enter Tryz.func12, Tryz.ntmps12
  go_wp2_with (first | ((with_reducible refine gate_callee (f := 27) rfl ?_); refine gl_ 8 Tryz.func27 #[.slice A0 l0.length c0, .int .i64 a1] ?_; (with_reducible refine (impl_doPark.calls k _ _ l0 a1 false _ ?s1 ?s2 A3.out).mono ?_); (case s1 => exact q201_ HR0.out); (case s2 => exact HC0.out); rintro e w8 ⟨rfl, hb⟩; refine ⟨_, rfl, ?_⟩; replace HB := Aside0.mk (below_step q0c4_ hb); clear hb))
  go_ret2
  exact ⟨_, qce7_, qf62_, q0c4_⟩

/-! ### spec_FairOrder: function 13 -/
def spec_FairOrder.f (k : Nat) (l0 : List Int) (a1 : Int) : Option (List Int × Bool) := (spec_paGood.f k l0 a1).bind fun t498 => (if t498 = true then ((spec_paAll.f k l0 a1).bind fun t499 => (if t499 = true then ((spec_vaFair.f k l0).bind fun t500 => (some (t500, true))) else (some (([] : List Int), false)))) else (some (([] : List Int), false)))
theorem spec_FairOrder.mono : ∀ a0 a1 k, LeO (spec_FairOrder.f k a0 a1) (spec_FairOrder.f (k + 1) a0 a1) := by
 intro a0 a1 k
 unfold spec_FairOrder.f
 repeat' (with_reducible first | exact spec_paAll.mono _ _ _ | exact spec_paGood.mono _ _ _ | exact spec_vaFair.mono _ _ | exact LeO.refl _ | exact LeO.none _ | refine LeO.ite ?_ ?_ | refine LeO.bind ?_ (fun _ => ?_))
theorem spec_FairOrder.calls (k : Nat) (A0 : Option Addr) (c0 : Nat) (l0 : List Int) (a1 : Int) (r1 : List Int) (r2 : Bool) (w : World) (hr0 : Kd.C (Kd.int .i64) w A0 l0.length l0) (hc0 : l0.length ≤ c0) (h : spec_FairOrder.f k l0 a1 = some (r1, r2)) :
  Calls Tryz.prog 13 #[.slice A0 l0.length c0, .int .i64 a1] w fun e w' => ∃ v0_ : Value, e = .returned (.tuple #[v0_, .bool r2]) ∧ Kd.R (Kd.int .i64) 3 w' w.heap.size (fun _ => True) v0_ r1 ∧ Below w.heap.size w w' := by
 have HR0 := Aside0.mk hr0
 have HC0 := Aside0.mk hc0
 clear hr0 hc0
 have HB := Aside0.mk (Below.refl w.heap.size w)
 unfold spec_FairOrder.f at h
 have H := h; clear h
 obtain ⟨t498, A3, H⟩ := ob_ H
 by_cases c4 : t498 = true
 ·
  subst c4
  rw [if_pos rfl] at H
  obtain ⟨t499, A5, H⟩ := ob_ H
  by_cases c6 : t499 = true
  ·
   subst c6
   rw [if_pos rfl] at H
   obtain ⟨t500, A7, H⟩ := ob_ H
   simp only [Option.some.injEq, Prod.mk.injEq] at H
   obtain ⟨rfl, rfl⟩ := H
   go_enter Tryz.func13, Tryz.ntmps13
   go_wp2_with (first | ((with_reducible refine gate_callee (f := 31) rfl ?_); refine gl_ 8 Tryz.func31 #[.slice A0 l0.length c0, .int .i64 a1] ?_; (with_reducible refine (spec_paGood.calls k _ _ l0 a1 true _ ?s1 ?s2 A3.out).mono ?_); (case s1 => exact q201_ HR0.out); (case s2 => exact HC0.out); rintro e w' ⟨rfl, ⟨nd, rfl⟩⟩; refine ⟨_, rfl, ?_⟩) | (go_at_call 32; (with_reducible refine (spec_paAll.calls k _ _ l0 a1 true _ ?s1 ?s2 A5.out).mono ?_); (case s1 => exact q201_ HR0.out); (case s2 => exact HC0.out); rintro e w8 ⟨rfl, hb⟩; replace HB := Aside0.mk (below_step q0c4_ hb); clear hb) | ((with_reducible refine gate_callee (f := 35) rfl ?_); refine gl_ 17 Tryz.func35 #[.slice A0 l0.length c0] ?_; (with_reducible refine (spec_vaFair.calls k _ _ l0 t500 _ ?s1 ?s2 A7.out).mono ?_); (case s1 => exact q02f_ HR0.out); (case s2 => exact HC0.out); rintro e w9 ⟨v501, rfl, ho0, hb⟩; refine ⟨_, rfl, ?_⟩; have HO502 := Aside0.mk (Kd.R_lower ho0 (below_size q0c4_)); replace HB := Aside0.mk (below_step q0c4_ hb); clear hb ho0))
   go_ret2
   exact ⟨_, qce7_, q9d5_ HO502.out, q0c4_⟩
  ·
   replace c6 := Bool.eq_false_iff.mpr c6
   subst c6
   rw [if_neg nf_] at H
   simp only [Option.some.injEq, Prod.mk.injEq] at H
   obtain ⟨rfl, rfl⟩ := H
   go_enter Tryz.func13, Tryz.ntmps13
   go_wp2_with (first | ((with_reducible refine gate_callee (f := 31) rfl ?_); refine gl_ 8 Tryz.func31 #[.slice A0 l0.length c0, .int .i64 a1] ?_; (with_reducible refine (spec_paGood.calls k _ _ l0 a1 true _ ?s1 ?s2 A3.out).mono ?_); (case s1 => exact q201_ HR0.out); (case s2 => exact HC0.out); rintro e w' ⟨rfl, ⟨nd, rfl⟩⟩; refine ⟨_, rfl, ?_⟩) | (go_at_call 32; (with_reducible refine (spec_paAll.calls k _ _ l0 a1 false _ ?s1 ?s2 A5.out).mono ?_); (case s1 => exact q201_ HR0.out); (case s2 => exact HC0.out); rintro e w10 ⟨rfl, hb⟩; replace HB := Aside0.mk (below_step q0c4_ hb); clear hb))
   go_ret2
   exact ⟨_, qce7_, qf62_, q0c4_⟩
 ·
  replace c4 := Bool.eq_false_iff.mpr c4
  subst c4
  rw [if_neg nf_] at H
  simp only [Option.some.injEq, Prod.mk.injEq] at H
  obtain ⟨rfl, rfl⟩ := H
  go_enter Tryz.func13, Tryz.ntmps13
  go_wp2_with (first | ((with_reducible refine gate_callee (f := 31) rfl ?_); refine gl_ 8 Tryz.func31 #[.slice A0 l0.length c0, .int .i64 a1] ?_; (with_reducible refine (spec_paGood.calls k _ _ l0 a1 false _ ?s1 ?s2 A3.out).mono ?_); (case s1 => exact q201_ HR0.out); (case s2 => exact HC0.out); rintro e w' ⟨rfl, ⟨nd, rfl⟩⟩; refine ⟨_, rfl, ?_⟩))
  go_ret2
  exact ⟨_, qce7_, qf62_, q0c4_⟩

/-! ### impl_WaitsOf: function 14 -/
mutual
def impl_WaitsOf.l0 : Nat → List Int → List Int → List Int → Int → Int → Option (List Int × Bool)
 | 0, _, _, _, _, _ => none
 | k + 1, x0, x8, x22, x23, x24 => if x24 < x23 then (if 0 ≤ x24 then (if x24 < (x22.length : Int) then (if x24 < (x0.length : Int) then (impl_WaitsOf.l1 k x0 x8 (rd x22 x24) (rd x0 x24) x22 x23 x24) else (none)) else (none)) else (none)) else (some (x8, true))
def impl_WaitsOf.l1 : Nat → List Int → List Int → Int → Int → List Int → Int → Int → Option (List Int × Bool)
 | 0, _, _, _, _, _, _, _ => none
 | k + 1, x0, x8, x10, x11, x22, x23, x24 => if x11 < x10 then (if 0 ≤ x11 then (if x11 < (x8.length : Int) then (impl_WaitsOf.l1 k x0 (x8.set (x11 : Int).toNat (wrap64 ((rd x8 x11) + 1))) x10 (wrap64 (x11 + 1)) x22 x23 x24) else (none)) else (none)) else (impl_WaitsOf.l0 k x0 x8 x22 x23 (wrap64 (x24 + 1)))
end
def impl_WaitsOf.f (k : Nat) (l0 : List Int) (a1 : Int) : Option (List Int × Bool) := (impl_DriveCars.f k l0 a1).bind fun bt503 => (if bt503.2 = true then (if 0 ≤ a1 then (if (a1 : Int).toNat ≤ 35184372088832 then (impl_WaitsOf.l0 k l0 (List.replicate (a1 : Int).toNat 0) bt503.1 (bt503.1.length : Int) 0) else (none)) else (none)) else (some (([] : List Int), false)))
theorem impl_WaitsOf.mono_l : ∀ k, (∀ y0 y1 y2 y3 y4, LeO (impl_WaitsOf.l0 k y0 y1 y2 y3 y4) (impl_WaitsOf.l0 (k + 1) y0 y1 y2 y3 y4)) ∧ (∀ y0 y1 y2 y3 y4 y5 y6, LeO (impl_WaitsOf.l1 k y0 y1 y2 y3 y4 y5 y6) (impl_WaitsOf.l1 (k + 1) y0 y1 y2 y3 y4 y5 y6))
 | 0 => ⟨fun _ _ _ _ _ r h => by simp [impl_WaitsOf.l0] at h, fun _ _ _ _ _ _ _ r h => by simp [impl_WaitsOf.l1] at h⟩
 | k + 1 => by
  obtain ⟨ih0, ih1⟩ := impl_WaitsOf.mono_l k
  refine ⟨?_, ?_⟩
  ·
   intro y0 y1 y2 y3 y4
   unfold impl_WaitsOf.l0
   repeat' (with_reducible first | exact ih0 _ _ _ _ _ | exact ih1 _ _ _ _ _ _ _ | exact impl_DriveCars.mono _ _ _ | exact LeO.refl _ | exact LeO.none _ | refine LeO.ite ?_ ?_ | refine LeO.bind ?_ (fun _ => ?_))
  ·
   intro y0 y1 y2 y3 y4 y5 y6
   unfold impl_WaitsOf.l1
   repeat' (with_reducible first | exact ih0 _ _ _ _ _ | exact ih1 _ _ _ _ _ _ _ | exact impl_DriveCars.mono _ _ _ | exact LeO.refl _ | exact LeO.none _ | refine LeO.ite ?_ ?_ | refine LeO.bind ?_ (fun _ => ?_))
theorem impl_WaitsOf.mono : ∀ a0 a1 k, LeO (impl_WaitsOf.f k a0 a1) (impl_WaitsOf.f (k + 1) a0 a1) := by
 intro a0 a1 k
 obtain ⟨ih0, ih1⟩ := impl_WaitsOf.mono_l k
 unfold impl_WaitsOf.f
 repeat' (with_reducible first | exact ih0 _ _ _ _ _ | exact ih1 _ _ _ _ _ _ _ | exact impl_DriveCars.mono _ _ _ | exact LeO.refl _ | exact LeO.none _ | refine LeO.ite ?_ ?_ | refine LeO.bind ?_ (fun _ => ?_))
theorem impl_WaitsOf.calls (k : Nat) (A0 : Option Addr) (c0 : Nat) (l0 : List Int) (a1 : Int) (r1 : List Int) (r2 : Bool) (w : World) (hr0 : Kd.C (Kd.int .i64) w A0 l0.length l0) (hc0 : l0.length ≤ c0) (h : impl_WaitsOf.f k l0 a1 = some (r1, r2)) :
  Calls Tryz.prog 14 #[.slice A0 l0.length c0, .int .i64 a1] w fun e w' => ∃ v0_ : Value, e = .returned (.tuple #[v0_, .bool r2]) ∧ Kd.R (Kd.int .i64) 3 w' w.heap.size (fun _ => True) v0_ r1 ∧ Below w.heap.size w w' := by
 have HR0 := Aside0.mk hr0
 have HC0 := Aside0.mk hc0
 clear hr0 hc0
 have HB := Aside0.mk (Below.refl w.heap.size w)
 unfold impl_WaitsOf.f at h
 have H := h; clear h
 obtain ⟨⟨t503, t504⟩, A3, H⟩ := ob_ H
 dsimp only at H
 by_cases c4 : t504 = true
 ·
  subst c4
  rw [if_pos rfl] at H
  by_cases c5 : 0 ≤ a1
  ·
   rw [if_pos c5] at H
   have c5b0 := eq_true c5
   have c5b1 := decide_eq_true c5
   clear c5
   by_cases c6 : (a1 : Int).toNat ≤ 35184372088832
   ·
    rw [if_pos c6] at H
    have c6b0 := eq_true c6
    have c6b1 := decide_eq_true c6
    clear c6
    obtain ⟨y507, hy507⟩ : ∃ y_ : List Int, y_ = (List.replicate (a1 : Int).toNat 0) := ⟨_, rfl⟩
    replace H : (impl_WaitsOf.l0 k l0 y507 t503 (t503.length : Int) 0) = some (r1, r2) := by first | (rw [hy507]; with_reducible exact H) | (have H2_ := (Option.bind_some _ _).symm.trans H; rw [hy507]; with_reducible exact H2_) | (have H2_ := (Option.bind_some _ _).symm.trans H; with_reducible exact H2_) | with_reducible exact H | (rw [hy507]; exact H) | exact H
    have Ny507 := Aside0.mk hy507
    clear hy507
    have H' := Aside0.mk H
    clear H
    go_enter Tryz.func14, Tryz.ntmps14
    go_wp2_with (first | ((with_reducible refine gate_callee (f := 43) rfl ?_); refine gl_ 15 Tryz.func43 #[.slice A0 l0.length c0, .int .i64 a1] ?_; (with_reducible refine (impl_DriveCars.calls k _ _ l0 a1 t503 true _ ?s1 ?s2 A3.out).mono ?_); (case s1 => exact q201_ HR0.out); (case s2 => exact HC0.out); rintro e w7 ⟨v505, rfl, ho0, hb⟩; refine ⟨_, rfl, ?_⟩; have HO506 := Aside0.mk (Kd.R_lower ho0 (below_size q0c4_)); replace HB := Aside0.mk (below_step q0c4_ hb); clear hb ho0) | ((with_reducible refine gate_dst (N := 21) rfl ?_); refine Kd.R_make (Kd.int .i64) _ 3 rfl (N := 21) rfl 24 _ _ rfl a1 rfl rfl Tryz.underlying24 (.int .i64 0) 8 info3 rfl (by decide) (by omega) 0 (ok := fun _ => True) (okp := fun _ => True) rfl (fun _ hk => hk) trivial (of_decide_eq_true qe84_) (Nat.le_trans (Nat.mul_le_mul_right _ (of_decide_eq_true qe84_ : a1.toNat ≤ 35184372088832)) (by omega)) (Below.refl _ _) (Nat.le_refl _) ?_; intro v508 w8 ho9 hb hg_ hnew_; clear hg_ hnew_; (first | rw [← Ny507.out] at ho9 | (simp only [Int.reduceToNat] at ho9; rw [← Ny507.out] at ho9)); have n0_ := Aside0.mk (Kd.R_elder' (q9d5_ HO506.out) (Kd.R_base ho9) hb); have n1_ := Aside0.mk (Kd.R_lower (Kd.R_new' ho9 (Kd.R_lt (q9d5_ HO506.out))) (below_size q0c4_)); have n2_ := Aside0.mk (below_step q0c4_ hb); replace HO506 := n0_; have HO509 := n1_; replace HB := n2_; clear n0_ n1_ n2_; clear hb ho9; obtain ⟨Ao10, co10, eo10⟩ := Kd.R_slice HO506.out; subst eo10))
    go_loopg [24] k (fun kq v24 w' => ∃ (x8_1 : List Int) (x24_1 : Int), v24 = .int .i64 x24_1 ∧ Aside0 (impl_WaitsOf.l0 kq l0 x8_1 t503 (t503.length : Int) x24_1 = some (r1, r2)) ∧ Aside0 (kq ≤ k) ∧ Aside0 (Kd.R (Kd.int .i64) 3 w' w.heap.size (fun k_ => some k_ ≠ ((.slice Ao10 t503.length co10) : Value).ownBlock) v508 x8_1) ∧ Aside0 (Kd.R (Kd.int .i64) 3 w' w.heap.size (fun k_ => some k_ ≠ (v508 : Value).ownBlock) (.slice Ao10 t503.length co10) t503) ∧ Aside0 (Below w.heap.size w w'))
    case atStart => exact ⟨(y507), (0), qc8f_, H', ⟨Nat.le_refl _⟩, ⟨qe0f_ HO509.out⟩, ⟨qe0f_ HO506.out⟩, ⟨q0c4_⟩⟩
    case round =>
     clear H'; try clear c1; try clear p2; try clear c4; try clear c5; try clear c5b0; try clear c5b1; try clear c6; try clear c6b0; try clear c6b1
     obtain ⟨x8_1, x24_1, rfl, HA, HK1, HO_8, HO_22, HB⟩ := hrel
     cases gk with
     | zero => exact absurd HA.out (by simp [impl_WaitsOf.l0])
     | succ k1 =>
      have H := HA.out
      clear HA
      simp only [impl_WaitsOf.l0] at H
      by_cases c11 : x24_1 < (t503.length : Int)
      ·
       rw [if_pos c11] at H
       have c11b0 := decide_eq_true c11
       clear c11
       by_cases c12 : 0 ≤ x24_1
       ·
        rw [if_pos c12] at H
        have c12b0 := decide_eq_true c12
        clear c12
        by_cases c13 : x24_1 < (t503.length : Int)
        ·
         rw [if_pos c13] at H
         have c13b0 := decide_eq_true c13
         clear c13
         by_cases c14 : x24_1 < (l0.length : Int)
         ·
          rw [if_pos c14] at H
          have c14b0 := decide_eq_true c14
          clear c14
          have H' := Aside0.mk H
          clear H
          have p510 : 0 ≤ (x24_1 : Int) := of_decide_eq_true qe84_
          have q510 : x24_1 < (t503.length : Int) := of_decide_eq_true qe84_
          obtain ⟨ad510, e510, hx510_0⟩ := Kd.at_int (Kd.R_reads' HO_22.out).2.2 x24_1 p510 q510
          cases e510
          replace p510 := eq_true p510
          replace q510 := eq_true q510
          have p511 : 0 ≤ (x24_1 : Int) := of_decide_eq_true qe84_
          have q511 : x24_1 < (l0.length : Int) := of_decide_eq_true qe84_
          obtain ⟨ad511, e511, hx511_0⟩ := Kd.at_int HR0.out x24_1 p511 q511
          cases e511
          replace hx511_0 := (HB.out.cell (World.block_lt_of_cell? w _ hx511_0)).trans hx511_0
          replace p511 := eq_true p511
          replace q511 := eq_true q511
          go_wp2
          go_loopg [11] k1 (fun kq v11 w' => ∃ (x8_2 : List Int) (x11_2 : Int), v11 = .int .i64 x11_2 ∧ Aside0 (impl_WaitsOf.l1 kq l0 x8_2 (rd t503 x24_1) x11_2 t503 (t503.length : Int) x24_1 = some (r1, r2)) ∧ Aside0 (kq ≤ k1) ∧ Aside0 (Kd.R (Kd.int .i64) 3 w' w.heap.size (fun k_ => some k_ ≠ ((.slice (some ad510) t503.length co10) : Value).ownBlock) v508 x8_2) ∧ Aside0 (Kd.R (Kd.int .i64) 3 w' w.heap.size (fun k_ => some k_ ≠ (v508 : Value).ownBlock) (.slice (some ad510) t503.length co10) t503) ∧ Aside0 (Below w.heap.size w w'))
          case atStart => exact ⟨(x8_1), (rd l0 x24_1), qc8f_, H', ⟨Nat.le_refl _⟩, ⟨q9d5_ HO_8.out⟩, ⟨q9d5_ HO_22.out⟩, ⟨q0c4_⟩⟩
          case round =>
           clear H'; try clear c1; try clear p2; try clear c4; try clear c5; try clear c5b0; try clear c5b1; try clear p5; try clear q5; try clear hx5; try clear c6; try clear c6b0; try clear c6b1; try clear c11; try clear c11b0; try clear c12; try clear c12b0; try clear c13; try clear c13b0; try clear c14; try clear c14b0; try clear hx510_0; try clear hx511_0; try clear p2; try clear p510; try clear p511; try clear q510; try clear q511
           obtain ⟨x8_2, x11_2, rfl, HA, HK2, HO_8, HO_22, HB⟩ := hrel
           cases gk with
           | zero => exact absurd HA.out (by simp [impl_WaitsOf.l1])
           | succ k2 =>
            have H := HA.out
            clear HA
            simp only [impl_WaitsOf.l1] at H
            by_cases c15 : x11_2 < (rd t503 x24_1)
            ·
             rw [if_pos c15] at H
             have c15b0 := decide_eq_true c15
             clear c15
             by_cases c16 : 0 ≤ x11_2
             ·
              rw [if_pos c16] at H
              have c16b0 := decide_eq_true c16
              clear c16
              by_cases c17 : x11_2 < (x8_2.length : Int)
              ·
               rw [if_pos c17] at H
               have c17b0 := decide_eq_true c17
               clear c17
               obtain ⟨y513, hy513⟩ : ∃ y_ : List Int, y_ = (x8_2.set (x11_2 : Int).toNat (wrap64 ((rd x8_2 x11_2) + 1))) := ⟨_, rfl⟩
               replace H : (impl_WaitsOf.l1 k2 l0 y513 (rd t503 x24_1) (wrap64 (x11_2 + 1)) t503 (t503.length : Int) x24_1) = some (r1, r2) := by first | (rw [hy513]; with_reducible exact H) | (have H2_ := (Option.bind_some _ _).symm.trans H; rw [hy513]; with_reducible exact H2_) | (have H2_ := (Option.bind_some _ _).symm.trans H; with_reducible exact H2_) | with_reducible exact H | (rw [hy513]; exact H) | exact H
               have Ny513 := Aside0.mk hy513
               clear hy513
               have H' := Aside0.mk H
               clear H
               obtain ⟨Ao19, co19, eo19⟩ := Kd.R_slice HO_8.out
               subst eo19
               have p512 : 0 ≤ (x11_2 : Int) := of_decide_eq_true qe84_
               have q512 : x11_2 < (x8_2.length : Int) := of_decide_eq_true qe84_
               obtain ⟨ad512, e512, hx512_0⟩ := Kd.at_int (Kd.R_reads' HO_8.out).2.2 x11_2 p512 q512
               cases e512
               replace p512 := eq_true p512
               replace q512 := eq_true q512
               have p18 : 0 ≤ (x11_2 : Int) := of_decide_eq_true qe84_
               have q18 : (x11_2 : Int) < ((x8_2.length : Int) : Int) := of_decide_eq_true qe84_
               obtain ⟨go18, co18, eo18, gb18, gl18, cl18, HG18⟩ := Kd.R_form HO_8.out (by omega)
               (first | cases eo18 | (injection eo18 with ea_ en_ ec_; (first | subst ea_ | (injection ea_ with ea_; subst ea_)); subst ec_; clear en_))
               have GB18 := Aside0.mk gb18
               have GG18 := Aside0.mk HG18
               clear gb18 gl18 HG18
               (first | simp only [add_plain] at hx512_0 | skip)
               obtain ⟨hx18_0, hf18_0⟩ := Kd.R_celln 0 HO_8.out (x11_2 : Int) p18 q18
               replace p18 := eq_true p18
               replace q18 := eq_true q18
               have HP20 := Kd.R_putg HO_8.out (x11_2 : Int) (wrap64 ((rd x8_2 x11_2) + 1))
               go_wp2_with (first | ((with_reducible refine gate_store (t := 3) (p := 43) rfl ?_); refine store_event (t := 3) (p := 43) (v := ?vo_w21) (w1 := (wr.setCell ⟨go18, (x11_2 : Int).toNat, none⟩ (.int .i64 (wrap64 ((rd x8_2 x11_2) + 1))))) ?hg ?ho ?hn ?hr ?_; (case ho => rfl); (case hg => rfl); (case hn => rfl); (case hr => exact qba7_); intro w21 hw; have hg : wr.grownBy w21 (some go18) := (by rw [hw]; exact HP20.2); have hp_ : Kd.R (Kd.int .i64) 3 w21 w.heap.size (fun k_ => some k_ ≠ (.slice (some ad510) t503.length co10 : Value).ownBlock) (.slice (some ⟨go18, 0, none⟩) x8_2.length co19) y513 := (by rw [hw, Ny513.out]; exact HP20.1); clear HP20; replace HO_8 := Aside0.mk (hp_); replace HO_22 := Aside0.mk (Kd.R_after (v := (.slice (some ⟨go18, 0, none⟩) x8_2.length co19)) (v1 := (.slice (some ⟨go18, 0, none⟩) x8_2.length co19)) (ok := (fun _ => True)) (q0ef_ HO_22.out) hg (.inl rfl)); replace HB := Aside0.mk ((by rw [hw]; exact below_set (HB.out) GB18.out : Below w.heap.size w w21)); clear hg hw hp_))
               go_roundg k2
               case measure => have := HK1.out; have := HK2.out; omega
               case rel => exact ⟨(y513), (wrap64 (x11_2 + 1)), qc8f_, H', ⟨q37b_ HK1.out HK2.out⟩, ⟨q9d5_ HO_8.out⟩, ⟨qe0f_ HO_22.out⟩, ⟨q0c4_⟩⟩
              ·
               rw [if_neg c17] at H
               exact absurd H (by simp)
             ·
              rw [if_neg c16] at H
              exact absurd H (by simp)
            ·
             rw [if_neg c15] at H
             have c15b0 := decide_eq_false c15
             clear c15
             have H' := Aside0.mk H
             clear H
             go_wp2
             go_roundg k2
             case measure => have := HK1.out; have := HK2.out; omega
             case rel => exact ⟨(x8_2), (wrap64 (x24_1 + 1)), qc8f_, H', ⟨q37b_ HK1.out HK2.out⟩, ⟨q9d5_ HO_8.out⟩, ⟨q9d5_ HO_22.out⟩, ⟨q0c4_⟩⟩
         ·
          rw [if_neg c14] at H
          exact absurd H (by simp)
        ·
         rw [if_neg c13] at H
         exact absurd H (by simp)
       ·
        rw [if_neg c12] at H
        exact absurd H (by simp)
      ·
       rw [if_neg c11] at H
       have c11b0 := decide_eq_false c11
       clear c11
       simp only [Option.some.injEq, Prod.mk.injEq] at H
       obtain ⟨rfl, rfl⟩ := H
       go_wp2
       go_ret2
       exact ⟨_, qce7_, q7d9_ HO_8.out, q0c4_⟩
   ·
    rw [if_neg c6] at H
    exact absurd H (by simp)
  ·
   rw [if_neg c5] at H
   exact absurd H (by simp)
 ·
  replace c4 := Bool.eq_false_iff.mpr c4
  subst c4
  rw [if_neg nf_] at H
  simp only [Option.some.injEq, Prod.mk.injEq] at H
  obtain ⟨rfl, rfl⟩ := H
  go_enter Tryz.func14, Tryz.ntmps14
  go_wp2_with (first | ((with_reducible refine gate_callee (f := 43) rfl ?_); refine gl_ 15 Tryz.func43 #[.slice A0 l0.length c0, .int .i64 a1] ?_; (with_reducible refine (impl_DriveCars.calls k _ _ l0 a1 t503 false _ ?s1 ?s2 A3.out).mono ?_); (case s1 => exact q201_ HR0.out); (case s2 => exact HC0.out); rintro e w22 ⟨v505, rfl, ho0, hb⟩; refine ⟨_, rfl, ?_⟩; have HO506 := Aside0.mk (Kd.R_lower ho0 (below_size q0c4_)); replace HB := Aside0.mk (below_step q0c4_ hb); clear hb ho0))
  go_ret2
  exact ⟨_, qce7_, qf62_, q0c4_⟩

end Go.Proofs.YtflgalpfbjhdlaaGreat.PAll
