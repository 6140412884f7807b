-- written by a program of this session (wip/gen/xpatch.py over the translation); Lean checks it
import Derived.Test.YtleemfmhilhklaaGreatPAllx0
import Derived.Test.YtleemfmhilhklaaGreatPAllx1
import Derived.Test.YtleemfmhilhklaaGreatPAllx3
import Derived.Test.YtleemfmhilhklaaGreatPAllx4
import Derived.Test.YtleemfmhilhklaaGreatPAllx5
namespace Go.Proofs.YtleemfmhilhklaaGreat.PAll
open Go.RowKit Go.Proofs.YtleemfmhilhklaaGreat.Hand Go.Proofs.YtleemfmhilhklaaGreatW.PrintWords Go.Proofs.YtleemfmhilhklaaGreatW.PrintLast Go.Proofs.YtleemfmhilhklaaGreatW.PrintMore
attribute [local go_sem] max2_int min2_int max_two min_two max_three min_three max_four min_four   -- for this text's walks alone
set_option maxHeartbeats 8000000
set_option maxRecDepth 100000
set_option linter.unusedVariables false
set_option linter.unusedSimpArgs false

/-! ### spec_cnAll: function 44 -/
mutual
def spec_cnAll.l0 : Nat → List Int → Int → List (List Int) → Int → Option ((List (List Int)))
 | 0, _, _, _, _ => none
 | k + 1, x0, x1, x5, x6 => if x6 < x1 then ((spec_l1Own.f x0).bind fun t567 => (if t567.length < 17592186044416 then ((spec_cnAll.f k (t567 ++ [x6]) x1).bind fun t573 => (if x5.length + t573.length < 5864062014805 then (spec_cnAll.l0 k x0 x1 (x5 ++ t573) (wrap64 (x6 + 1))) else (none))) else (none))) else (some x5)
def spec_cnAll.f : Nat → List Int → Int → Option ((List (List Int)))
 | 0, _, _ => none
 | k + 1, l0, a1 => if (l0.length : Int) = a1 then ((spec_paParking.f k l0).bind fun t560 => (if t560 = true then ((spec_l1Own.f l0).bind fun t561 => (some (([t561] : List (List Int))))) else (some ([] : List (List Int))))) else (spec_cnAll.l0 k l0 a1 ([] : List (List Int)) 0)
end
theorem spec_cnAll.mono_l : ∀ k, (∀ y0 y1, LeO (spec_cnAll.f k y0 y1) (spec_cnAll.f (k + 1) y0 y1)) ∧ (∀ y0 y1 y2 y3, LeO (spec_cnAll.l0 k y0 y1 y2 y3) (spec_cnAll.l0 (k + 1) y0 y1 y2 y3))
 | 0 => ⟨fun _ _ r h => by simp [spec_cnAll.f] at h, fun _ _ _ _ r h => by simp [spec_cnAll.l0] at h⟩
 | k + 1 => by
  obtain ⟨ih0, ih1⟩ := spec_cnAll.mono_l k
  refine ⟨?_, ?_⟩
  ·
   intro y0 y1
   unfold spec_cnAll.f
   repeat' (with_reducible first | exact ih0 _ _ | exact ih1 _ _ _ _ | exact spec_paParking.mono _ _ | exact LeO.refl _ | exact LeO.none _ | refine LeO.ite ?_ ?_ | refine LeO.bind ?_ (fun _ => ?_))
  ·
   intro y0 y1 y2 y3
   unfold spec_cnAll.l0
   repeat' (with_reducible first | exact ih0 _ _ | exact ih1 _ _ _ _ | exact spec_paParking.mono _ _ | exact LeO.refl _ | exact LeO.none _ | refine LeO.ite ?_ ?_ | refine LeO.bind ?_ (fun _ => ?_))
theorem spec_cnAll.mono : ∀ a0 a1 k, LeO (spec_cnAll.f k a0 a1) (spec_cnAll.f (k + 1) a0 a1) := by
 intro a0 a1 k
 obtain ⟨ih0, ih1⟩ := spec_cnAll.mono_l k
 exact ih0 a0 a1
theorem spec_cnAll.calls (k : Nat) : ∀ (A0 : Option Addr) (c0 : Nat) (l0 : List Int) (a1 : Int) (r : List (List Int)) (w : World) (hr0 : Kd.C (Kd.int .i64) w A0 l0.length l0) (hc0 : l0.length ≤ c0) (h : spec_cnAll.f k l0 a1 = some r),
  Calls Tryz.prog 44 #[.slice A0 l0.length c0, .int .i64 a1] w fun e w' => ∃ v0_ : Value, e = .returned (v0_) ∧ Kd.N (Kd.slice 3 (Kd.int .i64)) 24 w' w.heap.size (fun k_ => (w.heap.size ≤ k_)) v0_ r ∧ Below w.heap.size w w' := by
 induction k using Nat.strongRecOn with
 | _ k ih =>
 intro A0 c0 l0 a1 r w hr0 hc0 h
 cases k with
 | zero => exact absurd h (by simp [spec_cnAll.f])
 | succ k =>
 simp only [spec_cnAll.f] at h
 have HR0 := Aside0.mk hr0
 have HC0 := Aside0.mk hc0
 clear hr0 hc0
 have HB := Aside0.mk (Below.refl w.heap.size w)
 have H : (if (l0.length : Int) = a1 then ((spec_paParking.f k l0).bind fun t560 => (if t560 = true then ((spec_l1Own.f l0).bind fun t561 => (some (([t561] : List (List Int))))) else (some ([] : List (List Int))))) else (spec_cnAll.l0 k l0 a1 ([] : List (List Int)) 0)) = some r := h
 clear h
 by_cases c3 : (l0.length : Int) = a1
 ·
  rw [if_pos c3] at H
  have c3b0 := beq_iff_eq.mpr c3
  have c3b1 := bne_eq_false_iff_eq.mpr c3
  clear c3
  obtain ⟨t560, A4, H⟩ := ob_ H
  by_cases c5 : t560 = true
  ·
   subst c5
   rw [if_pos rfl] at H
   obtain ⟨t561, A6, H⟩ := ob_ H
   obtain ⟨y564, hy564⟩ : ∃ y_ : List (List Int), y_ = (([t561] : List (List Int))) := ⟨_, rfl⟩
   replace H : (some y564) = some r := by first | (rw [hy564]; with_reducible exact H) | (have H2_ := (Option.bind_some _ _).symm.trans H; rw [hy564]; with_reducible exact H2_) | (have H2_ := (Option.bind_some _ _).symm.trans H; with_reducible exact H2_) | with_reducible exact H | (rw [hy564]; exact H) | exact H
   have Ny564 := Aside0.mk hy564
   clear hy564
   obtain rfl := Option.some.inj H
   go_enter Tryz.func44, Tryz.ntmps44
   go_wp2_with (first | ((with_reducible refine gate_callee (f := 24) rfl ?_); refine gl_ 12 Tryz.func24 #[.slice A0 l0.length c0] ?_; (with_reducible refine (spec_paParking.calls k _ _ l0 true _ ?s1 ?s2 A4.out).mono ?_); (case s1 => exact q201_ HR0.out); (case s2 => exact HC0.out); rintro e w7 ⟨rfl, hb⟩; refine ⟨_, rfl, ?_⟩; replace HB := Aside0.mk (below_step q0c4_ hb); clear hb) | ((with_reducible refine gate_callee (f := 54) rfl ?_); refine gl_ 14 Tryz.func54 #[.slice A0 l0.length c0] ?_; (with_reducible refine (spec_l1Own.calls _ _ l0 t561 _ ?s1 ?s2 A6.out).mono ?_); (case s1 => exact qe02_ HR0.out); (case s2 => exact HC0.out); rintro e w8 ⟨v562, rfl, ho0, hb⟩; refine ⟨_, rfl, ?_⟩; have HO563 := Aside0.mk (Kd.R_lower (Kd.R_newM (M := fun k_ => (w.heap.size ≤ k_)) ho0 (below_size q0c4_) (fun k_ h_ => h_)) (below_size q0c4_)); replace HB := Aside0.mk (below_step q0c4_ hb); clear hb ho0; obtain ⟨Ao9, co9, eo9⟩ := Kd.R_slice HO563.out; subst eo9) | ((with_reducible refine gate_dst (N := 15) rfl ?_); refine Kd.N_lit (Kd.slice 3 (Kd.int .i64)) _ 24 ?hg (N' := 15) ?hd (xs := ([t561] : List (List Int))) (inner := [.slice Ao9 t561.length co9]) (ok := (fun k_ => (w.heap.size ≤ k_))) (okp := (fun k_ => (w.heap.size ≤ k_))) ?hr ?hp (fun _ hk => hk) ((show ∀ k_, w8.heap.size ≤ k_ → (fun k_ => (w.heap.size ≤ k_)) k_ from fun k_ hk => (Nat.le_trans (below_size q0c4_) hk)) _ (Nat.le_refl _)) (Below.refl _ _) (Nat.le_refl _) (by simp) ?_; (case hd => rfl); (case hg => rfl); (case hr => exact qba7_); (case hp => exact (Reps.one (show Kd.FK (Kd.slice 3 (Kd.int .i64)) _ _ t561 [.slice Ao9 t561.length co9] from (Kd.FK_slice_mk (Kd.R_reads' (Kd.R_mono (ok' := (fun k_ => (w.heap.size ≤ k_))) (HO563.out) (fun k_ hk => hk.1))).2.1 (Kd.R_F (Kd.R_mono (ok' := (fun k_ => (w.heap.size ≤ k_))) (HO563.out) (fun k_ hk => hk.1))))) (Reps.none _ _))); intro v565 w10 ho11 hb hg_ hnew_; clear hg_ hnew_; (first | rw [← Ny564.out] at ho11 | (simp only [Int.reduceToNat] at ho11; rw [← Ny564.out] at ho11)); have n0_ := Aside0.mk (Kd.N_lower ho11 (below_size q0c4_)); have n1_ := Aside0.mk (below_step q0c4_ hb); have HO566 := n0_; replace HB := n1_; clear n0_ n1_; clear hb ho11))
   go_ret
   exact ⟨_, qce7_, qfba_ HO566.out, q0c4_⟩
  ·
   replace c5 := Bool.eq_false_iff.mpr c5
   subst c5
   rw [if_neg nf_] at H
   obtain rfl := Option.some.inj H
   go_enter Tryz.func44, Tryz.ntmps44
   go_wp2_with (first | ((with_reducible refine gate_callee (f := 24) rfl ?_); refine gl_ 12 Tryz.func24 #[.slice A0 l0.length c0] ?_; (with_reducible refine (spec_paParking.calls k _ _ l0 false _ ?s1 ?s2 A4.out).mono ?_); (case s1 => exact q201_ HR0.out); (case s2 => exact HC0.out); rintro e w12 ⟨rfl, hb⟩; refine ⟨_, rfl, ?_⟩; replace HB := Aside0.mk (below_step q0c4_ hb); clear hb))
   go_ret
   exact ⟨_, qce7_, qc14_, q0c4_⟩
 ·
  rw [if_neg c3] at H
  have c3b0 := beq_eq_false_iff_ne.mpr c3
  have c3b1 := bne_iff_ne.mpr c3
  have H' := Aside0.mk H
  clear H
  go_enter Tryz.func44, Tryz.ntmps44
  go_wp2
  go_loopg [5, 6] k (fun kq v5 v6 w' => ∃ (x5_1 : List (List Int)) (x6_1 : Int), v6 = .int .i64 x6_1 ∧ Aside0 (spec_cnAll.l0 kq l0 a1 x5_1 x6_1 = some r) ∧ Aside0 (kq ≤ k) ∧ Aside0 (Kd.N (Kd.slice 3 (Kd.int .i64)) 24 w' w.heap.size (fun k_ => (w.heap.size ≤ k_)) v5 x5_1) ∧ Aside0 (Below w.heap.size w w'))
  case atStart => exact ⟨(([] : List (List Int))), (0), qc8f_, H', ⟨Nat.le_refl _⟩, ⟨qc14_⟩, ⟨q0c4_⟩⟩
  case round =>
   clear H'; try clear c2; try clear p2; try clear c3; try clear c3b0; try clear c3b1; try clear c4; try clear c5
   obtain ⟨x5_1, x6_1, rfl, HA, HK1, HO_5, HB⟩ := hrel
   cases gk with
   | zero => exact absurd HA.out (by simp [spec_cnAll.l0])
   | succ k1 =>
    have H := HA.out
    clear HA
    simp only [spec_cnAll.l0] at H
    by_cases c13 : x6_1 < a1
    ·
     rw [if_pos c13] at H
     have c13b0 := decide_eq_true c13
     clear c13
     obtain ⟨t567, A14, H⟩ := ob_ H
     by_cases c15 : t567.length < 17592186044416
     ·
      rw [if_pos c15] at H
      have LMc15 := Aside0.mk c15
      clear c15
      obtain ⟨y570, hy570⟩ : ∃ y_ : List Int, y_ = (t567 ++ [x6_1]) := ⟨_, rfl⟩
      replace H : ((spec_cnAll.f k1 y570 a1).bind fun t573 => (if x5_1.length + t573.length < 5864062014805 then (spec_cnAll.l0 k1 l0 a1 (x5_1 ++ t573) (wrap64 (x6_1 + 1))) else (none))) = some r := by first | (rw [hy570]; with_reducible exact H) | (have H2_ := (Option.bind_some _ _).symm.trans H; rw [hy570]; with_reducible exact H2_) | (have H2_ := (Option.bind_some _ _).symm.trans H; with_reducible exact H2_) | with_reducible exact H | (rw [hy570]; exact H) | exact H
      have Ny570 := Aside0.mk hy570
      clear hy570
      obtain ⟨t573, A16, H⟩ := ob_ H
      by_cases c17 : x5_1.length + t573.length < 5864062014805
      ·
       rw [if_pos c17] at H
       have LMc17 := Aside0.mk c17
       clear c17
       obtain ⟨y576, hy576⟩ : ∃ y_ : List (List Int), y_ = (x5_1 ++ t573) := ⟨_, rfl⟩
       replace H : (spec_cnAll.l0 k1 l0 a1 y576 (wrap64 (x6_1 + 1))) = some r := by first | (rw [hy576]; with_reducible exact H) | (have H2_ := (Option.bind_some _ _).symm.trans H; rw [hy576]; with_reducible exact H2_) | (have H2_ := (Option.bind_some _ _).symm.trans H; with_reducible exact H2_) | with_reducible exact H | (rw [hy576]; exact H) | exact H
       have Ny576 := Aside0.mk hy576
       clear hy576
       have H' := Aside0.mk H
       clear H
       go_wp2_with (first | ((with_reducible refine gate_callee (f := 54) rfl ?_); refine gl_ 23 Tryz.func54 #[.slice A0 l0.length c0] ?_; (with_reducible refine (spec_l1Own.calls _ _ l0 t567 _ ?s1 ?s2 A14.out).mono ?_); (case s1 => exact qe02_ HR0.out); (case s2 => exact HC0.out); rintro e w18 ⟨v568, rfl, ho0, hb⟩; refine ⟨_, rfl, ?_⟩; replace HO_5 := Aside0.mk (Kd.N_elder' (qfba_ HO_5.out) (Kd.R_base ho0) hb); have HO569 := Aside0.mk (Kd.R_lower (Kd.R_newM (M := fun k_ => (w.heap.size ≤ k_)) ho0 (below_size q0c4_) (fun k_ h_ => h_)) (below_size q0c4_)); replace HB := Aside0.mk (below_step q0c4_ hb); clear hb ho0) | ((with_reducible refine gate_builtin (b := .append) (xs := #[.tmp 23, .tmp 25]) rfl ?_); at_builtin; refine Kd.R_append (Kd.int .i64) (w0 := w) w.heap.size rfl (.tmp 23) (.tmp 25) 24 3 (.int .i64 0) 8 rfl Tryz.underlying24 info3 rfl (by decide) (by omega) v568 t567 x6_1 [.int .i64 x6_1] (fun k_ => (w.heap.size ≤ k_)) (fun _ => False) rfl rfl ?aP (fun _ hk => hk.elim) ?aF ?aO ?aB ?aS ?aL ?_; (case aP => exact rfl); (case aB => exact q0c4_); (case aF => exact (fun k_ hk => (Nat.le_trans (below_size q0c4_) hk))); (case aO => exact (by (with_reducible repeat (first | apply Kd.R_alloc | apply Kd.R_drewN | apply Kd.R_drew)); exact Kd.R_mono HO569.out (fun _ hk => hk.1))); (case aS => exact (below_size q0c4_)); (case aL => have := LMc15.out; omega); intro v571 w19 ho hb hg hat; rw [← Ny570.out] at ho; have n0_ := Aside0.mk (Kd.N_afterv (ok := (fun k_ => (w.heap.size ≤ k_))) (qfba_ HO_5.out) hg hat); have n1_ := Aside0.mk (hb); have n2_ := Aside0.mk (ho); replace HO_5 := n0_; replace HB := n1_; have HO572 := n2_; clear n0_ n1_ n2_; clear ho hb hg hat; obtain ⟨Ao20, co20, eo20⟩ := Kd.R_slice HO572.out; subst eo20) | ((with_reducible refine gate_callee (f := 44) rfl ?_); refine gl_ 28 Tryz.func44 #[.slice Ao20 y570.length co20, .int .i64 a1] ?_; (with_reducible refine (ih k1 (q1d0_ HK1.out) _ _ y570 a1 t573 _ ?s1 ?s2 A16.out).mono ?_); (case s1 => exact q5a8_ HO572.out); (case s2 => exact (Kd.R_reads' HO572.out).2.1); rintro e w21 ⟨v574, rfl, ho0, hb⟩; refine ⟨_, rfl, ?_⟩; have n0_ := Aside0.mk (Kd.N_elder' (qfba_ HO_5.out) (by first | exact Kd.N_base ho0 | exact Kd.S_base ho0) hb); have n1_ := Aside0.mk (Kd.R_below (q9d5_ HO572.out) hb); have n2_ := Aside0.mk (Kd.N_lower (Kd.N_mono (ok' := fun k_ => (w.heap.size ≤ k_) ∧ some k_ ≠ (u5 : Value).ownBlock ∧ some k_ ≠ (.slice Ao20 y570.length co20 : Value).ownBlock) ho0 (fun k_ hk_ => ⟨(Nat.le_trans (below_size q0c4_) hk_), (Kd.fresh' (Kd.N_lt (qfba_ HO_5.out)) k_ hk_), (Kd.fresh' (Kd.R_lt (q9d5_ HO572.out)) k_ hk_)⟩)) (below_size q0c4_)); have n3_ := Aside0.mk (below_step q0c4_ hb); replace HO_5 := n0_; replace HO572 := n1_; have HO575 := n2_; replace HB := n3_; clear n0_ n1_ n2_ n3_; clear hb ho0; obtain ⟨Ao23, co23, eo23⟩ := Kd.N_slice HO575.out; subst eo23) | ((with_reducible refine gate_builtin (b := .append) (xs := #[.tmp 21, .tmp 28]) rfl ?_); at_builtin; refine Kd.N_append_rows (Kd.slice 3 (Kd.int .i64)) (w0 := w) w.heap.size rfl (.tmp 21) (.tmp 28) 26 24 (.slice none 0 0) 24 rfl Tryz.underlying26 info24 rfl (by decide) (by omega) u5 x5_1 t573 _ _ _ (fun k_ => (w.heap.size ≤ k_) ∧ some k_ ≠ (.slice Ao20 y570.length co20 : Value).ownBlock) (fun k_ => ((fun k_ => (w.heap.size ≤ k_) ∧ some k_ ≠ (.slice Ao20 y570.length co20 : Value).ownBlock)) k_ ∧ some k_ ≠ (u5 : Value).ownBlock) rfl rfl ?aO ?aR (fun _ hk => hk) ?aF ?aB ?aS ?aL ?_; (case aR => exact (by skip; exact Kd.N_F (Kd.N_mono (ok' := (fun k_ => ((fun k_ => (w.heap.size ≤ k_) ∧ some k_ ≠ (.slice Ao20 y570.length co20 : Value).ownBlock)) k_ ∧ some k_ ≠ (u5 : Value).ownBlock)) (HO575.out) (fun k_ hk => ⟨⟨hk.1, hk.2.2⟩, hk.2.1⟩)))); (case aB => exact q0c4_); (case aF => exact (fun k_ hk => ⟨(Nat.le_trans (below_size q0c4_) hk), Kd.fresh' (Kd.R_lt (q9d5_ HO572.out)) k_ hk⟩)); (case aO => exact (by (with_reducible repeat (first | apply Kd.N_alloc | apply Kd.N_drewN | apply Kd.N_drew)); exact Kd.N_mono HO_5.out (fun _ hk => ⟨hk.1.1, hk.1.2⟩))); (case aS => exact (below_size q0c4_)); (case aL => have := LMc17.out; omega); intro v577 w22 ho hb hg hat; rw [← Ny576.out] at ho; have n0_ := Aside0.mk (Kd.R_over' (q9d5_ HO572.out) (Kd.N_typed (qfba_ HO_5.out)) (by decide) hg); have n1_ := Aside0.mk (Kd.N_afterv (ok := (fun k_ => (w.heap.size ≤ k_) ∧ some k_ ≠ (.slice Ao20 y570.length co20 : Value).ownBlock)) (by (with_reducible repeat (first | apply Kd.N_alloc | apply Kd.N_drewN | apply Kd.N_drew)); exact Kd.N_mono HO575.out (fun _ hk => ⟨⟨hk.1, hk.2.2⟩, hk.2.1⟩)) hg hat); have n2_ := Aside0.mk (hb); have n3_ := Aside0.mk (ho); replace HO572 := n0_; replace HO575 := n1_; replace HB := n2_; have HO578 := n3_; clear n0_ n1_ n2_ n3_; clear ho hb hg hat))
       go_roundg k1
       case measure => have := HK1.out; omega
       case rel => exact ⟨(y576), (wrap64 (x6_1 + 1)), qc8f_, H', ⟨q1d0_ HK1.out⟩, ⟨by (with_reducible repeat (first | apply Kd.N_alloc | apply Kd.N_drewN | apply Kd.N_drew)); exact Kd.N_mono HO578.out (fun _ hk => hk.1)⟩, ⟨q0c4_⟩⟩
      ·
       rw [if_neg c17] at H
       exact absurd H (by simp)
     ·
      rw [if_neg c15] at H
      exact absurd H (by simp)
    ·
     rw [if_neg c13] at H
     have c13b0 := decide_eq_false c13
     clear c13
     obtain rfl := Option.some.inj H
     go_wp2
     go_ret
     exact ⟨_, qce7_, qfba_ HO_5.out, q0c4_⟩

/-! ### spec_CountUnit: function 18 -/
mutual
def spec_CountUnit.j0 : Nat → Int → Int → Bool → Option (Int × Bool)
 | 0, _, _, _ => none
 | k + 1, x0, x1, x16 => if x16 = true then (some (0, false)) else ((spec_cnAll.f k ([] : List Int) x0).bind fun t581 => (spec_CountUnit.l0 k x1 0 t581 (t581.length : Int) 0))
def spec_CountUnit.l0 : Nat → Int → Int → List (List Int) → Int → Int → Option (Int × Bool)
 | 0, _, _, _, _, _ => none
 | k + 1, x1, x6, x18, x19, x20 => if x20 < x19 then (if 0 ≤ x20 then (if x20 < (x18.length : Int) then ((spec_vaUnit.f k (rd_L3 x18 x20) x1).bind fun t585 => (if t585 = true then (spec_CountUnit.l0 k x1 (wrap64 (x6 + 1)) x18 x19 (wrap64 (x20 + 1))) else (spec_CountUnit.l0 k x1 x6 x18 x19 (wrap64 (x20 + 1))))) else (none)) else (none)) else (some (x6, true))
end
def spec_CountUnit.f (k : Nat) (a0 : Int) (a1 : Int) : Option (Int × Bool) := (spec_l1In.f a0 0 5).bind fun t579 => (if t579 = true then ((spec_cnCars.f a1).bind fun t580 => (spec_CountUnit.j0 k a0 a1 (!t580))) else (spec_CountUnit.j0 k a0 a1 true))
theorem spec_CountUnit.mono_l : ∀ k, (∀ y0 y1 y2, LeO (spec_CountUnit.j0 k y0 y1 y2) (spec_CountUnit.j0 (k + 1) y0 y1 y2)) ∧ (∀ y0 y1 y2 y3 y4, LeO (spec_CountUnit.l0 k y0 y1 y2 y3 y4) (spec_CountUnit.l0 (k + 1) y0 y1 y2 y3 y4))
 | 0 => ⟨fun _ _ _ r h => by simp [spec_CountUnit.j0] at h, fun _ _ _ _ _ r h => by simp [spec_CountUnit.l0] at h⟩
 | k + 1 => by
  obtain ⟨ih0, ih1⟩ := spec_CountUnit.mono_l k
  refine ⟨?_, ?_⟩
  ·
   intro y0 y1 y2
   unfold spec_CountUnit.j0
   repeat' (with_reducible first | exact ih0 _ _ _ | exact ih1 _ _ _ _ _ | exact spec_cnAll.mono _ _ _ | exact spec_vaUnit.mono _ _ _ | exact LeO.refl _ | exact LeO.none _ | refine LeO.ite ?_ ?_ | refine LeO.bind ?_ (fun _ => ?_))
  ·
   intro y0 y1 y2 y3 y4
   unfold spec_CountUnit.l0
   repeat' (with_reducible first | exact ih0 _ _ _ | exact ih1 _ _ _ _ _ | exact spec_cnAll.mono _ _ _ | exact spec_vaUnit.mono _ _ _ | exact LeO.refl _ | exact LeO.none _ | refine LeO.ite ?_ ?_ | refine LeO.bind ?_ (fun _ => ?_))
theorem spec_CountUnit.mono : ∀ a0 a1 k, LeO (spec_CountUnit.f k a0 a1) (spec_CountUnit.f (k + 1) a0 a1) := by
 intro a0 a1 k
 obtain ⟨ih0, ih1⟩ := spec_CountUnit.mono_l k
 unfold spec_CountUnit.f
 repeat' (with_reducible first | exact ih0 _ _ _ | exact ih1 _ _ _ _ _ | exact spec_cnAll.mono _ _ _ | exact spec_vaUnit.mono _ _ _ | exact LeO.refl _ | exact LeO.none _ | refine LeO.ite ?_ ?_ | refine LeO.bind ?_ (fun _ => ?_))
theorem spec_CountUnit.calls (k : Nat) (a0 : Int) (a1 : Int) (r1 : Int) (r2 : Bool) (w : World) (h : spec_CountUnit.f k a0 a1 = some (r1, r2)) :
  Calls Tryz.prog 18 #[.int .i64 a0, .int .i64 a1] w fun e w' => e = .returned (.tuple #[.int .i64 r1, .bool r2]) ∧ Below w.heap.size w w' := by
 have HB := Aside0.mk (Below.refl w.heap.size w)
 unfold spec_CountUnit.f at h
 have H := h; clear h
 have HC3 := Aside0.mk H
 clear H
 go_enter Tryz.func18, Tryz.ntmps18
 go_upto_region 1 with (fail)
 go_cut [16] (fun v16 wc => ∃ (kq : Nat) (x16_2 : Bool), v16 = .bool x16_2 ∧ Aside0 (spec_CountUnit.j0 kq a0 a1 x16_2 = some (r1, r2)) ∧ Aside0 (kq ≤ k) ∧ Aside0 (Below w.heap.size w wc))
 case first =>
  have H := HC3.out
  clear HC3
  obtain ⟨t579, A4, H⟩ := ob_ H
  by_cases c5 : t579 = true
  ·
   subst c5
   rw [if_pos rfl] at H
   obtain ⟨t580, A6, H⟩ := ob_ H
   have H' := Aside0.mk H
   clear H
   go_wp2_with (first | ((with_reducible refine gate_callee (f := 35) rfl ?_); refine gl_ 10 Tryz.func35 #[.int .i64 a0, .int .i64 0, .int .i64 5] ?_; (with_reducible refine (spec_l1In.calls a0 0 5 true _ A4.out).mono ?_); rintro e w' ⟨rfl, ⟨nd, rfl⟩⟩; refine ⟨_, rfl, ?_⟩) | (go_at_call 41; (with_reducible refine (spec_cnCars.calls a1 t580 _ A6.out).mono ?_); rintro e w' ⟨rfl, ⟨nd, rfl⟩⟩))
   go_meet
   case rel => exact ⟨_, (!t580), qc8f_, H', ⟨q821_⟩, ⟨q0c4_⟩⟩
  ·
   replace c5 := Bool.eq_false_iff.mpr c5
   subst c5
   rw [if_neg nf_] at H
   have H' := Aside0.mk H
   clear H
   go_wp2_with (first | ((with_reducible refine gate_callee (f := 35) rfl ?_); refine gl_ 10 Tryz.func35 #[.int .i64 a0, .int .i64 0, .int .i64 5] ?_; (with_reducible refine (spec_l1In.calls a0 0 5 false _ A4.out).mono ?_); rintro e w' ⟨rfl, ⟨nd, rfl⟩⟩; refine ⟨_, rfl, ?_⟩))
   go_meet
   case rel => exact ⟨_, (true), qc8f_, H', ⟨q821_⟩, ⟨q0c4_⟩⟩
 case rest =>
  clear HC3; try clear c1; try clear p2; try clear c3; try clear c5
  obtain ⟨kq, x16_2, rfl, HA, HJ2, HB⟩ := hcut
  cases kq with
  | zero => exact absurd HA.out (by simp [spec_CountUnit.j0])
  | succ kj2 =>
   have H := HA.out
   clear HA
   simp only [spec_CountUnit.j0] at H
   by_cases c7 : x16_2 = true
   ·
    subst c7
    rw [if_pos rfl] at H
    simp only [Option.some.injEq, Prod.mk.injEq] at H
    obtain ⟨rfl, rfl⟩ := H
    go_wp2
    go_ret2
    exact ⟨qce7_, q0c4_⟩
   ·
    replace c7 := Bool.eq_false_iff.mpr c7
    subst c7
    rw [if_neg nf_] at H
    obtain ⟨t581, A8, H⟩ := ob_ H
    have H' := Aside0.mk H
    clear H
    go_wp2_with (first | ((with_reducible refine gate_callee (f := 44) rfl ?_); refine gl_ 18 Tryz.func44 #[.slice none 0 0, .int .i64 a0] ?_; (refine (spec_cnAll.calls kj2 _ _ ([] : List Int) a0 t581 _ ?s1 ?s2 A8.out).mono ?_); (case s1 => exact Kd.C_nil _ _); (case s2 => exact Nat.le_refl _); rintro e w9 ⟨v582, rfl, ho0, hb⟩; refine ⟨_, rfl, ?_⟩; have HO583 := Aside0.mk (Kd.N_lower (Kd.N_mono (ok' := fun k_ => True) ho0 (fun k_ hk_ => trivial)) (below_size q0c4_)); replace HB := Aside0.mk (below_step q0c4_ hb); clear hb ho0; obtain ⟨Ao10, co10, eo10⟩ := Kd.N_slice HO583.out; subst eo10))
    go_loopg [6, 20] kj2 (fun kq v6 v20 w' => ∃ (x6_2 : Int) (x20_2 : Int), v6 = .int .i64 x6_2 ∧ v20 = .int .i64 x20_2 ∧ Aside0 (spec_CountUnit.l0 kq a1 x6_2 t581 (t581.length : Int) x20_2 = some (r1, r2)) ∧ Aside0 (kq ≤ kj2) ∧ Aside0 (Kd.N (Kd.slice 3 (Kd.int .i64)) 24 w' w.heap.size (fun _ => True) (.slice Ao10 t581.length co10) t581) ∧ Aside0 (Below w.heap.size w w'))
    case atStart => exact ⟨(0), (0), qc8f_, qc8f_, H', ⟨Nat.le_refl _⟩, ⟨qfba_ HO583.out⟩, ⟨q0c4_⟩⟩
    case round =>
     clear H'; try clear c1; try clear p2; try clear c3; try clear c4; try clear c5; try clear c7; try clear p2
     obtain ⟨x6_2, x20_2, rfl, rfl, HA, HK2, HO_18, HB⟩ := hrel
     cases gk with
     | zero => exact absurd HA.out (by simp [spec_CountUnit.l0])
     | succ k2 =>
      have H := HA.out
      clear HA
      simp only [spec_CountUnit.l0] at H
      by_cases c11 : x20_2 < (t581.length : Int)
      ·
       rw [if_pos c11] at H
       have c11b0 := decide_eq_true c11
       clear c11
       by_cases c12 : 0 ≤ x20_2
       ·
        rw [if_pos c12] at H
        have c12b0 := decide_eq_true c12
        clear c12
        by_cases c13 : x20_2 < (t581.length : Int)
        ·
         rw [if_pos c13] at H
         have c13b0 := decide_eq_true c13
         clear c13
         obtain ⟨t585, A14, H⟩ := ob_ H
         by_cases c15 : t585 = true
         ·
          subst c15
          rw [if_pos rfl] at H
          have H' := Aside0.mk H
          clear H
          have p584 : 0 ≤ (x20_2 : Int) := of_decide_eq_true qe84_
          have q584 : x20_2 < (t581.length : Int) := of_decide_eq_true qe84_
          obtain ⟨ad584, A584_0, c584_0, e584, hx584_0, hl584_0, hi584_0⟩ := at_L3 (Kd.N_reads' HO_18.out).2.2 x20_2 p584 q584
          cases e584
          obtain ⟨ce584, hce584, hMe584, hcc584⟩ := Kd.N_get HO_18.out [] x20_2 p584 (by first | exact q584 | exact of_decide_eq_true qe84_ | (have e_ := (Kd.N_reads' HO_18.out).1; omega))
          obtain ⟨ua584_0, uc584_0, rfl, ul584_0, ge584_0⟩ := Kd.FK_slice_open hMe584
          have hv584_0 := hcc584 0 _ rfl
          rw [Nat.add_zero, show ((Kd.slice 3 (Kd.int .i64))).sz = 1 from rfl, Nat.mul_one] at hv584_0
          replace hv584_0 := Option.some.inj (hv584_0.symm.trans hx584_0)
          injection hv584_0 with hva_ hvn_ hvc_
          rw [hva_] at ge584_0
          rw [hvc_] at ul584_0
          have HL584_0 := Aside0.mk (show Kd.V (Kd.int .i64) 3 _ w.heap.size _ _ (rd_L3 t581 x20_2) from Kd.V_mk ul584_0 ge584_0)
          clear hva_ hvn_ hvc_ ge584_0 ul584_0 hcc584 hce584
          have HR584_0 := Aside0.mk hi584_0
          have HC584_0 := Aside0.mk hl584_0
          clear hi584_0 hl584_0
          replace p584 := eq_true p584
          replace q584 := eq_true q584
          go_wp2_with (first | ((with_reducible refine gate_callee (f := 25) rfl ?_); refine gl_ 26 Tryz.func25 #[.slice A584_0 (rd_L3 t581 x20_2).length c584_0, .int .i64 a1] ?_; (with_reducible refine (spec_vaUnit.calls k2 _ _ (rd_L3 t581 x20_2) a1 true _ ?s1 ?s2 A14.out).mono ?_); (case s1 => exact qe8c_ HR584_0.out); (case s2 => exact HC584_0.out); rintro e w16 ⟨rfl, hb⟩; refine ⟨_, rfl, ?_⟩; replace HO_18 := Aside0.mk (Kd.N_below (qfba_ HO_18.out) hb); replace HL584_0 := Aside0.mk (Kd.V_below (by (with_reducible repeat (first | apply Kd.V_alloc | apply Kd.V_drewN | apply Kd.V_drew)); exact HL584_0.out) hb); replace HR584_0 := Aside0.mk (Kd.C_below (q75a_ HR584_0.out) hb); replace HB := Aside0.mk (below_step q0c4_ hb); clear hb))
          go_roundg k2
          case measure => have := HJ2.out; have := HK2.out; omega
          case rel => exact ⟨(wrap64 (x6_2 + 1)), (wrap64 (x20_2 + 1)), qc8f_, qc8f_, H', ⟨q37b_ HJ2.out HK2.out⟩, ⟨qfba_ HO_18.out⟩, ⟨q0c4_⟩⟩
         ·
          replace c15 := Bool.eq_false_iff.mpr c15
          subst c15
          rw [if_neg nf_] at H
          have H' := Aside0.mk H
          clear H
          have p584 : 0 ≤ (x20_2 : Int) := of_decide_eq_true qe84_
          have q584 : x20_2 < (t581.length : Int) := of_decide_eq_true qe84_
          obtain ⟨ad584, A584_0, c584_0, e584, hx584_0, hl584_0, hi584_0⟩ := at_L3 (Kd.N_reads' HO_18.out).2.2 x20_2 p584 q584
          cases e584
          obtain ⟨ce584, hce584, hMe584, hcc584⟩ := Kd.N_get HO_18.out [] x20_2 p584 (by first | exact q584 | exact of_decide_eq_true qe84_ | (have e_ := (Kd.N_reads' HO_18.out).1; omega))
          obtain ⟨ua584_0, uc584_0, rfl, ul584_0, ge584_0⟩ := Kd.FK_slice_open hMe584
          have hv584_0 := hcc584 0 _ rfl
          rw [Nat.add_zero, show ((Kd.slice 3 (Kd.int .i64))).sz = 1 from rfl, Nat.mul_one] at hv584_0
          replace hv584_0 := Option.some.inj (hv584_0.symm.trans hx584_0)
          injection hv584_0 with hva_ hvn_ hvc_
          rw [hva_] at ge584_0
          rw [hvc_] at ul584_0
          have HL584_0 := Aside0.mk (show Kd.V (Kd.int .i64) 3 _ w.heap.size _ _ (rd_L3 t581 x20_2) from Kd.V_mk ul584_0 ge584_0)
          clear hva_ hvn_ hvc_ ge584_0 ul584_0 hcc584 hce584
          have HR584_0 := Aside0.mk hi584_0
          have HC584_0 := Aside0.mk hl584_0
          clear hi584_0 hl584_0
          replace p584 := eq_true p584
          replace q584 := eq_true q584
          go_wp2_with (first | ((with_reducible refine gate_callee (f := 25) rfl ?_); refine gl_ 26 Tryz.func25 #[.slice A584_0 (rd_L3 t581 x20_2).length c584_0, .int .i64 a1] ?_; (with_reducible refine (spec_vaUnit.calls k2 _ _ (rd_L3 t581 x20_2) a1 false _ ?s1 ?s2 A14.out).mono ?_); (case s1 => exact qe8c_ HR584_0.out); (case s2 => exact HC584_0.out); rintro e w17 ⟨rfl, hb⟩; refine ⟨_, rfl, ?_⟩; replace HO_18 := Aside0.mk (Kd.N_below (qfba_ HO_18.out) hb); replace HL584_0 := Aside0.mk (Kd.V_below (by (with_reducible repeat (first | apply Kd.V_alloc | apply Kd.V_drewN | apply Kd.V_drew)); exact HL584_0.out) hb); replace HR584_0 := Aside0.mk (Kd.C_below (q75a_ HR584_0.out) hb); replace HB := Aside0.mk (below_step q0c4_ hb); clear hb))
          go_roundg k2
          case measure => have := HJ2.out; have := HK2.out; omega
          case rel => exact ⟨(x6_2), (wrap64 (x20_2 + 1)), qc8f_, qc8f_, H', ⟨q37b_ HJ2.out HK2.out⟩, ⟨qfba_ HO_18.out⟩, ⟨q0c4_⟩⟩
        ·
         rw [if_neg c13] at H
         exact absurd H (by simp)
       ·
        rw [if_neg c12] at H
        exact absurd H (by simp)
      ·
       rw [if_neg c11] at H
       have c11b0 := decide_eq_false c11
       clear c11
       simp only [Option.some.injEq, Prod.mk.injEq] at H
       obtain ⟨rfl, rfl⟩ := H
       go_wp2
       go_ret2
       exact ⟨qce7_, q0c4_⟩

/-! ### impl_CountParking: function 19 -/
def impl_CountParking.f (k : Nat) (a0 : Int) : Option (Int × Bool) := (impl_isCars.f a0).bind fun t586 => (if t586 = true then ((impl_countParking.f k a0).bind fun t587 => (some (t587, true))) else (some (0, false)))
theorem impl_CountParking.mono : ∀ a0 k, LeO (impl_CountParking.f k a0) (impl_CountParking.f (k + 1) a0) := by
 intro a0 k
 unfold impl_CountParking.f
 repeat' (with_reducible first | exact impl_countParking.mono _ _ | exact LeO.refl _ | exact LeO.none _ | refine LeO.ite ?_ ?_ | refine LeO.bind ?_ (fun _ => ?_))
theorem impl_CountParking.calls (k : Nat) (a0 : Int) (r1 : Int) (r2 : Bool) (w : World) (h : impl_CountParking.f k a0 = some (r1, r2)) :
  Calls Tryz.prog 19 #[.int .i64 a0] w fun e w' => e = .returned (.tuple #[.int .i64 r1, .bool r2]) ∧ Below w.heap.size w w' := by
 have HB := Aside0.mk (Below.refl w.heap.size w)
 unfold impl_CountParking.f at h
 have H := h; clear h
 obtain ⟨t586, A2, H⟩ := ob_ H
 by_cases c3 : t586 = true
 ·
  subst c3
  rw [if_pos rfl] at H
  obtain ⟨t587, A4, H⟩ := ob_ H
  simp only [Option.some.injEq, Prod.mk.injEq] at H
  obtain ⟨rfl, rfl⟩ := H
  go_enter Tryz.func19, Tryz.ntmps19
  go_wp2_with (first | ((with_reducible refine gate_callee (f := 27) rfl ?_); refine gl_ 5 Tryz.func27 #[.int .i64 a0] ?_; (with_reducible refine (impl_isCars.calls a0 true _ A2.out).mono ?_); rintro e w' ⟨rfl, ⟨nd, rfl⟩⟩; refine ⟨_, rfl, ?_⟩) | ((with_reducible refine gate_callee (f := 45) rfl ?_); refine gl_ 8 Tryz.func45 #[.int .i64 a0] ?_; (with_reducible refine (impl_countParking.calls k a0 t587 _ A4.out).mono ?_); rintro e w5 ⟨rfl, hb⟩; refine ⟨_, rfl, ?_⟩; replace HB := Aside0.mk (below_step q0c4_ hb); clear hb))
  go_ret2
  exact ⟨qce7_, q0c4_⟩
 ·
  replace c3 := Bool.eq_false_iff.mpr c3
  subst c3
  rw [if_neg nf_] at H
  simp only [Option.some.injEq, Prod.mk.injEq] at H
  obtain ⟨rfl, rfl⟩ := H
  go_enter Tryz.func19, Tryz.ntmps19
  go_wp2_with (first | ((with_reducible refine gate_callee (f := 27) rfl ?_); refine gl_ 5 Tryz.func27 #[.int .i64 a0] ?_; (with_reducible refine (impl_isCars.calls a0 false _ A2.out).mono ?_); rintro e w' ⟨rfl, ⟨nd, rfl⟩⟩; refine ⟨_, rfl, ?_⟩))
  go_ret2
  exact ⟨qce7_, q0c4_⟩

/-! ### slices_EqualFunc_rows: function 30 -/
def slices_EqualFunc_rows.f (k : Nat) (l0 : List (List Int)) (l1 : List (List Int)) : Option Bool := if l0.length = l1.length then (if l0.length ≤ 1099511627776 then eqRows (slices_Equal_int_int.f k) l0 l1 else none) else some false
theorem slices_EqualFunc_rows.mono : ∀ a0 a1 k, LeO (slices_EqualFunc_rows.f k a0 a1) (slices_EqualFunc_rows.f (k + 1) a0 a1) := by
 intro a0 a1 k
 unfold slices_EqualFunc_rows.f
 exact LeO.ite (LeO.ite (eqRows_mono _ _ (fun x y => slices_Equal_int_int.mono _ _ _) a0 a1) (LeO.none _)) (LeO.refl _)
theorem slices_EqualFunc_rows.calls (k : Nat) (A0 : Option Addr) (c0 : Nat) (l0 : List (List Int)) (A1 : Option Addr) (c1 : Nat) (l1 : List (List Int)) (r : Bool) (w : World) (hr0 : Kd.C (Kd.slice 3 (Kd.int .i64)) w A0 l0.length l0) (hc0 : l0.length ≤ c0) (hr1 : Kd.C (Kd.slice 3 (Kd.int .i64)) w A1 l1.length l1) (hc1 : l1.length ≤ c1) (h : slices_EqualFunc_rows.f k l0 l1 = some r) :
  Calls Tryz.prog 30 #[.slice A0 l0.length c0, .slice A1 l1.length c1, .func (.func 31) #[] #[]] w fun e w' => e = .returned (.bool r) ∧ Drawn0 w w' := by
 unfold slices_EqualFunc_rows.f at h
 split at h
 case isFalse hl =>
  obtain rfl := Option.some.inj h
  exact equalFunc_ne _ _ A0 c0 l0 A1 c1 l1 w hl
 case isTrue hl =>
  split at h
  case isFalse => cases h
  case isTrue hs =>
   exact equalFunc_any (slices_Equal_int_int.f k) 31 #[] (enters_of Tryz.func31 (by kernel_rfl) rfl) A0 c0 l0 A1 c1 l1 r w hr0 hr1 hl hs
    (fun B0 b0 x0 B1 b1 x1 t V g0 g1 g2 g3 ht => slices_Equal_int_int.calls k B0 b0 x0 B1 b1 x1 t V g0 g1 g2 g3 ht) h

/-! ### impl_FromUnitBlocks: function 10 -/
mutual
def impl_FromUnitBlocks.l0 : Nat → List (List Int) → List Int → Int → List (List Int) → Int → Int → Option (List Int × Bool)
 | 0, _, _, _, _, _, _ => none
 | k + 1, x0, x5, x6, x21, x22, x23 => if x23 < x22 then (if 0 ≤ x23 then (if x23 < (x21.length : Int) then (impl_FromUnitBlocks.l1 k x0 x5 x6 (rd_L3 x21 x23) x21 x22 x23 (rd_L3 x21 x23) ((rd_L3 x21 x23).length : Int) 0) else (none)) else (none)) else ((impl_UnitBlocks.f k x5).bind fun bt598 => (if bt598.2 = true then ((slices_EqualFunc_rows.f k bt598.1 x0).bind fun t602 => (if t602 = true then (some (x5, true)) else (some (([] : List Int), false)))) else (some (([] : List Int), false))))
def impl_FromUnitBlocks.l1 : Nat → List (List Int) → List Int → Int → List Int → List (List Int) → Int → Int → List Int → Int → Int → Option (List Int × Bool)
 | 0, _, _, _, _, _, _, _, _, _, _ => none
 | k + 1, x0, x5, x6, x8, x21, x22, x23, x27, x28, x29 => if x29 < x28 then (if 0 ≤ x29 then (if x29 < (x27.length : Int) then (if 0 ≤ (rd x27 x29) then (if (rd x27 x29) < (x5.length : Int) then (impl_FromUnitBlocks.l1 k x0 (x5.set ((rd x27 x29) : Int).toNat (wrap64 (x6 + (mx (wrap64 (x29 - 1)) 0)))) x6 x8 x21 x22 x23 x27 x28 (wrap64 (x29 + 1))) else (none)) else (none)) else (none)) else (none)) else (impl_FromUnitBlocks.l0 k x0 x5 (wrap64 (x6 + (x8.length : Int))) x21 x22 (wrap64 (x23 + 1)))
end
def impl_FromUnitBlocks.f (k : Nat) (l0 : List (List Int)) : Option (List Int × Bool) := (slices_Concat_int_int.f l0).bind fun t588 => ((impl_isOrder.f k t588).bind fun t591 => (if t591 = true then (if 0 ≤ (t588.length : Int) then (if ((t588.length : Int) : Int).toNat ≤ 35184372088832 then (impl_FromUnitBlocks.l0 k l0 (List.replicate ((t588.length : Int) : Int).toNat 0) 0 l0 (l0.length : Int) 0) else (none)) else (none)) else (some (([] : List Int), false))))
theorem impl_FromUnitBlocks.mono_l : ∀ k, (∀ y0 y1 y2 y3 y4 y5, LeO (impl_FromUnitBlocks.l0 k y0 y1 y2 y3 y4 y5) (impl_FromUnitBlocks.l0 (k + 1) y0 y1 y2 y3 y4 y5)) ∧ (∀ y0 y1 y2 y3 y4 y5 y6 y7 y8 y9, LeO (impl_FromUnitBlocks.l1 k y0 y1 y2 y3 y4 y5 y6 y7 y8 y9) (impl_FromUnitBlocks.l1 (k + 1) y0 y1 y2 y3 y4 y5 y6 y7 y8 y9))
 | 0 => ⟨fun _ _ _ _ _ _ r h => by simp [impl_FromUnitBlocks.l0] at h, fun _ _ _ _ _ _ _ _ _ _ r h => by simp [impl_FromUnitBlocks.l1] at h⟩
 | k + 1 => by
  obtain ⟨ih0, ih1⟩ := impl_FromUnitBlocks.mono_l k
  refine ⟨?_, ?_⟩
  ·
   intro y0 y1 y2 y3 y4 y5
   unfold impl_FromUnitBlocks.l0
   repeat' (with_reducible first | exact ih0 _ _ _ _ _ _ | exact ih1 _ _ _ _ _ _ _ _ _ _ | exact impl_UnitBlocks.mono _ _ | exact impl_isOrder.mono _ _ | exact slices_EqualFunc_rows.mono _ _ _ | exact LeO.refl _ | exact LeO.none _ | refine LeO.ite ?_ ?_ | refine LeO.bind ?_ (fun _ => ?_))
  ·
   intro y0 y1 y2 y3 y4 y5 y6 y7 y8 y9
   unfold impl_FromUnitBlocks.l1
   repeat' (with_reducible first | exact ih0 _ _ _ _ _ _ | exact ih1 _ _ _ _ _ _ _ _ _ _ | exact impl_UnitBlocks.mono _ _ | exact impl_isOrder.mono _ _ | exact slices_EqualFunc_rows.mono _ _ _ | exact LeO.refl _ | exact LeO.none _ | refine LeO.ite ?_ ?_ | refine LeO.bind ?_ (fun _ => ?_))
theorem impl_FromUnitBlocks.mono : ∀ a0 k, LeO (impl_FromUnitBlocks.f k a0) (impl_FromUnitBlocks.f (k + 1) a0) := by
 intro a0 k
 obtain ⟨ih0, ih1⟩ := impl_FromUnitBlocks.mono_l k
 unfold impl_FromUnitBlocks.f
 repeat' (with_reducible first | exact ih0 _ _ _ _ _ _ | exact ih1 _ _ _ _ _ _ _ _ _ _ | exact impl_UnitBlocks.mono _ _ | exact impl_isOrder.mono _ _ | exact slices_EqualFunc_rows.mono _ _ _ | exact LeO.refl _ | exact LeO.none _ | refine LeO.ite ?_ ?_ | refine LeO.bind ?_ (fun _ => ?_))
theorem impl_FromUnitBlocks.calls (k : Nat) (A0 : Option Addr) (c0 : Nat) (l0 : List (List Int)) (r1 : List Int) (r2 : Bool) (w : World) (hr0 : Kd.C (Kd.slice 3 (Kd.int .i64)) w A0 l0.length l0) (hc0 : l0.length ≤ c0) (h : impl_FromUnitBlocks.f k l0 = some (r1, r2)) :
  Calls Tryz.prog 10 #[.slice A0 l0.length c0] w fun e w' => ∃ v0_ : Value, e = .returned (.tuple #[v0_, .bool r2]) ∧ Kd.R (Kd.int .i64) 3 w' w.heap.size (fun _ => True) v0_ r1 ∧ Below w.heap.size w w' := by
 have HR0 := Aside0.mk hr0
 have HC0 := Aside0.mk hc0
 clear hr0 hc0
 have HB := Aside0.mk (Below.refl w.heap.size w)
 unfold impl_FromUnitBlocks.f at h
 have H := h; clear h
 obtain ⟨t588, A2, H⟩ := ob_ H
 obtain ⟨t591, A3, H⟩ := ob_ H
 by_cases c4 : t591 = true
 ·
  subst c4
  rw [if_pos rfl] at H
  by_cases c5 : 0 ≤ (t588.length : Int)
  ·
   rw [if_pos c5] at H
   have c5b0 := eq_true c5
   have c5b1 := decide_eq_true c5
   clear c5
   by_cases c6 : ((t588.length : Int) : Int).toNat ≤ 35184372088832
   ·
    rw [if_pos c6] at H
    have c6b0 := eq_true c6
    have c6b1 := decide_eq_true c6
    clear c6
    obtain ⟨y592, hy592⟩ : ∃ y_ : List Int, y_ = (List.replicate ((t588.length : Int) : Int).toNat 0) := ⟨_, rfl⟩
    replace H : (impl_FromUnitBlocks.l0 k l0 y592 0 l0 (l0.length : Int) 0) = some (r1, r2) := by first | (rw [hy592]; with_reducible exact H) | (have H2_ := (Option.bind_some _ _).symm.trans H; rw [hy592]; with_reducible exact H2_) | (have H2_ := (Option.bind_some _ _).symm.trans H; with_reducible exact H2_) | with_reducible exact H | (rw [hy592]; exact H) | exact H
    have Ny592 := Aside0.mk hy592
    clear hy592
    have H' := Aside0.mk H
    clear H
    go_enter Tryz.func10, Tryz.ntmps10
    go_wp2_with (first | ((with_reducible refine gate_callee (f := 28) rfl ?_); refine gl_ 14 Tryz.func28 #[.slice A0 l0.length c0] ?_; (with_reducible refine (slices_Concat_int_int.calls _ _ l0 t588 _ ?s1 ?s2 A2.out).mono ?_); (case s1 => exact q201_ HR0.out); (case s2 => exact HC0.out); rintro e w7 ⟨v589, rfl, ho0, hb⟩; refine ⟨_, rfl, ?_⟩; have HO590 := Aside0.mk (Kd.R_lower ho0 (below_size q0c4_)); replace HB := Aside0.mk (below_step q0c4_ hb); clear hb ho0; obtain ⟨Ao8, co8, eo8⟩ := Kd.R_slice HO590.out; subst eo8) | ((with_reducible refine gate_callee (f := 29) rfl ?_); refine gl_ 16 Tryz.func29 #[.slice Ao8 t588.length co8] ?_; (with_reducible refine (impl_isOrder.calls k _ _ t588 true _ ?s1 ?s2 A3.out).mono ?_); (case s1 => exact q5a8_ HO590.out); (case s2 => exact (Kd.R_reads' HO590.out).2.1); rintro e w9 ⟨rfl, hb⟩; refine ⟨_, rfl, ?_⟩; replace HO590 := Aside0.mk (Kd.R_below (q9d5_ HO590.out) hb); replace HB := Aside0.mk (below_step q0c4_ hb); clear hb) | ((with_reducible refine gate_dst (N := 20) rfl ?_); refine Kd.R_make (Kd.int .i64) _ 3 rfl (N := 20) rfl 24 _ _ rfl (t588.length : Int) rfl rfl Tryz.underlying24 (.int .i64 0) 8 info3 rfl (by decide) (by omega) 0 (ok := fun _ => True) (okp := fun _ => True) rfl (fun _ hk => hk) trivial (of_decide_eq_true qe84_) (Nat.le_trans (Nat.mul_le_mul_right _ (of_decide_eq_true qe84_ : (t588.length : Int).toNat ≤ 35184372088832)) (by omega)) (Below.refl _ _) (Nat.le_refl _) ?_; intro v593 w10 ho11 hb hg_ hnew_; clear hg_ hnew_; (first | rw [← Ny592.out] at ho11 | (simp only [Int.reduceToNat] at ho11; rw [← Ny592.out] at ho11)); have n0_ := Aside0.mk (Kd.R_elder' (q9d5_ HO590.out) (Kd.R_base ho11) hb); have n1_ := Aside0.mk (Kd.R_lower (Kd.R_new' ho11 (Kd.R_lt (q9d5_ HO590.out))) (below_size q0c4_)); have n2_ := Aside0.mk (below_step q0c4_ hb); replace HO590 := n0_; have HO594 := n1_; replace HB := n2_; clear n0_ n1_ n2_; clear hb ho11))
    go_loopg [6, 23] k (fun kq v6 v23 w' => ∃ (x5_1 : List Int) (x6_1 : Int) (x23_1 : Int), v6 = .int .i64 x6_1 ∧ v23 = .int .i64 x23_1 ∧ Aside0 (impl_FromUnitBlocks.l0 kq l0 x5_1 x6_1 l0 (l0.length : Int) x23_1 = some (r1, r2)) ∧ Aside0 (kq ≤ k) ∧ Aside0 (Kd.R (Kd.int .i64) 3 w' w.heap.size (fun _ => True) v593 x5_1) ∧ Aside0 (Below w.heap.size w w'))
    case atStart => exact ⟨(y592), (0), (0), qc8f_, qc8f_, H', ⟨Nat.le_refl _⟩, ⟨q7d9_ HO594.out⟩, ⟨q0c4_⟩⟩
    case round =>
     clear H'; try clear c1; try clear c2; try clear p2; try clear c4; try clear c5; try clear c5b0; try clear c5b1; try clear c6; try clear c6b0; try clear c6b1; try clear c10
     obtain ⟨x5_1, x6_1, x23_1, rfl, rfl, HA, HK1, HO_5, HB⟩ := hrel
     cases gk with
     | zero => exact absurd HA.out (by simp [impl_FromUnitBlocks.l0])
     | succ k1 =>
      have H := HA.out
      clear HA
      simp only [impl_FromUnitBlocks.l0] at H
      by_cases c12 : x23_1 < (l0.length : Int)
      ·
       rw [if_pos c12] at H
       have c12b0 := decide_eq_true c12
       clear c12
       by_cases c13 : 0 ≤ x23_1
       ·
        rw [if_pos c13] at H
        have c13b0 := decide_eq_true c13
        clear c13
        by_cases c14 : x23_1 < (l0.length : Int)
        ·
         rw [if_pos c14] at H
         have c14b0 := decide_eq_true c14
         clear c14
         have H' := Aside0.mk H
         clear H
         have p595 : 0 ≤ (x23_1 : Int) := of_decide_eq_true qe84_
         have q595 : x23_1 < (l0.length : Int) := of_decide_eq_true qe84_
         obtain ⟨ad595, A595_0, c595_0, e595, hx595_0, hl595_0, hi595_0⟩ := at_L3 HR0.out x23_1 p595 q595
         cases e595
         (try (replace hx595_0 := (HB.out.cell (World.block_lt_of_cell? w _ hx595_0)).trans hx595_0))
         have HR595_0 := Aside0.mk hi595_0
         have HC595_0 := Aside0.mk hl595_0
         clear hi595_0 hl595_0
         replace p595 := eq_true p595
         replace q595 := eq_true q595
         go_wp2
         go_loopg [29] k1 (fun kq v29 w' => ∃ (x5_2 : List Int) (x29_2 : Int), v29 = .int .i64 x29_2 ∧ Aside0 (impl_FromUnitBlocks.l1 kq l0 x5_2 x6_1 (rd_L3 l0 x23_1) l0 (l0.length : Int) x23_1 (rd_L3 l0 x23_1) ((rd_L3 l0 x23_1).length : Int) x29_2 = some (r1, r2)) ∧ Aside0 (kq ≤ k1) ∧ Aside0 (Kd.R (Kd.int .i64) 3 w' w.heap.size (fun _ => True) v593 x5_2) ∧ Aside0 (Below w.heap.size w w'))
         case atStart => exact ⟨(x5_1), (0), qc8f_, H', ⟨Nat.le_refl _⟩, ⟨q9d5_ HO_5.out⟩, ⟨q0c4_⟩⟩
         case round =>
          clear H'; try clear c1; try clear c2; try clear p2; try clear c4; try clear c5; try clear c5b0; try clear c5b1; try clear p5; try clear q5; try clear hx5; try clear c6; try clear c6b0; try clear c6b1; try clear c10; try clear c12; try clear c12b0; try clear c13; try clear c13b0; try clear c14; try clear c14b0; try clear hx595_0; try clear p2; try clear p595; try clear q595
          obtain ⟨x5_2, x29_2, rfl, HA, HK2, HO_5, HB⟩ := hrel
          cases gk with
          | zero => exact absurd HA.out (by simp [impl_FromUnitBlocks.l1])
          | succ k2 =>
           have H := HA.out
           clear HA
           simp only [impl_FromUnitBlocks.l1] at H
           by_cases c15 : x29_2 < ((rd_L3 l0 x23_1).length : Int)
           ·
            rw [if_pos c15] at H
            have c15b0 := decide_eq_true c15
            clear c15
            by_cases c16 : 0 ≤ x29_2
            ·
             rw [if_pos c16] at H
             have c16b0 := decide_eq_true c16
             clear c16
             by_cases c17 : x29_2 < ((rd_L3 l0 x23_1).length : Int)
             ·
              rw [if_pos c17] at H
              have c17b0 := decide_eq_true c17
              clear c17
              obtain ⟨ji18, hji18⟩ : ∃ j_ : Int, (mx (wrap64 (x29_2 - 1)) 0) = j_ := ⟨_, rfl⟩
              replace H : (if 0 ≤ (rd (rd_L3 l0 x23_1) x29_2) then (if (rd (rd_L3 l0 x23_1) x29_2) < (x5_2.length : Int) then (impl_FromUnitBlocks.l1 k2 l0 (x5_2.set ((rd (rd_L3 l0 x23_1) x29_2) : Int).toNat (wrap64 (x6_1 + (ji18)))) x6_1 (rd_L3 l0 x23_1) l0 (l0.length : Int) x23_1 (rd_L3 l0 x23_1) ((rd_L3 l0 x23_1).length : Int) (wrap64 (x29_2 + 1))) else (none)) else (none)) = some (r1, r2) := by first | (rw [hji18] at H; exact H) | (simp only [hji18] at H ⊢; exact H)
              have hji18_ : (if (wrap64 (x29_2 - 1)) < 0 then 0 else (wrap64 (x29_2 - 1))) = ji18 := hji18
              by_cases c19 : 0 ≤ (rd (rd_L3 l0 x23_1) x29_2)
              ·
               rw [if_pos c19] at H
               have c19b0 := decide_eq_true c19
               clear c19
               by_cases c20 : (rd (rd_L3 l0 x23_1) x29_2) < (x5_2.length : Int)
               ·
                rw [if_pos c20] at H
                have c20b0 := decide_eq_true c20
                clear c20
                obtain ⟨y597, hy597⟩ : ∃ y_ : List Int, y_ = (x5_2.set ((rd (rd_L3 l0 x23_1) x29_2) : Int).toNat (wrap64 (x6_1 + (ji18)))) := ⟨_, rfl⟩
                replace H : (impl_FromUnitBlocks.l1 k2 l0 y597 x6_1 (rd_L3 l0 x23_1) l0 (l0.length : Int) x23_1 (rd_L3 l0 x23_1) ((rd_L3 l0 x23_1).length : Int) (wrap64 (x29_2 + 1))) = some (r1, r2) := by first | (rw [hy597]; with_reducible exact H) | (have H2_ := (Option.bind_some _ _).symm.trans H; rw [hy597]; with_reducible exact H2_) | (have H2_ := (Option.bind_some _ _).symm.trans H; with_reducible exact H2_) | with_reducible exact H | (rw [hy597]; exact H) | exact H
                have Ny597 := Aside0.mk hy597
                clear hy597
                have H' := Aside0.mk H
                clear H
                have p596 : 0 ≤ (x29_2 : Int) := of_decide_eq_true qe84_
                have q596 : x29_2 < ((rd_L3 l0 x23_1).length : Int) := of_decide_eq_true qe84_
                obtain ⟨ad596, e596, hx596_0⟩ := Kd.at_int HR595_0.out x29_2 p596 q596
                cases e596
                (try (replace hx596_0 := (HB.out.cell (World.block_lt_of_cell? w _ hx596_0)).trans hx596_0))
                replace p596 := eq_true p596
                replace q596 := eq_true q596
                have p21 : 0 ≤ ((rd (rd_L3 l0 x23_1) x29_2) : Int) := of_decide_eq_true qe84_
                have q21 : ((rd (rd_L3 l0 x23_1) x29_2) : Int) < ((x5_2.length : Int) : Int) := of_decide_eq_true qe84_
                obtain ⟨go21, co21, eo21, gb21, gl21, cl21, HG21⟩ := Kd.R_form HO_5.out (by omega)
                (first | cases eo21 | (injection eo21 with ea_ en_ ec_; (first | subst ea_ | (injection ea_ with ea_; subst ea_)); subst ec_; clear en_))
                have GB21 := Aside0.mk gb21
                have GG21 := Aside0.mk HG21
                clear gb21 gl21 HG21
                obtain ⟨hx21_0, hf21_0⟩ := Kd.R_celln 0 HO_5.out ((rd (rd_L3 l0 x23_1) x29_2) : Int) p21 q21
                replace p21 := eq_true p21
                replace q21 := eq_true q21
                have HP22 := Kd.R_putg HO_5.out ((rd (rd_L3 l0 x23_1) x29_2) : Int) (wrap64 (x6_1 + (ji18)))
                go_wp2_with (first | ((with_reducible refine gate_store (t := 3) (p := 41) rfl ?_); refine store_event (t := 3) (p := 41) (v := ?vo_w23) (w1 := (wr.setCell ⟨go21, ((rd (rd_L3 l0 x23_1) x29_2) : Int).toNat, none⟩ (.int .i64 (wrap64 (x6_1 + (ji18)))))) ?hg ?ho ?hn ?hr ?_; (case ho => rfl); (case hg => rfl); (case hn => rfl); (case hr => exact qba7_); intro w23 hw; have hg : wr.grownBy w23 (some go21) := (by rw [hw]; exact HP22.2); have hp_ : Kd.R (Kd.int .i64) 3 w23 w.heap.size (fun _ => True) (.slice (some ⟨go21, 0, none⟩) x5_2.length co21) y597 := (by rw [hw, Ny597.out]; exact HP22.1); clear HP22; replace HO_5 := Aside0.mk (hp_); replace HB := Aside0.mk ((by rw [hw]; exact below_set (HB.out) GB21.out : Below w.heap.size w w23)); clear hg hw hp_))
                go_roundg k2
                case measure => have := HK1.out; have := HK2.out; omega
                case rel => exact ⟨(y597), (wrap64 (x29_2 + 1)), qc8f_, H', ⟨q37b_ HK1.out HK2.out⟩, ⟨q9d5_ HO_5.out⟩, ⟨q0c4_⟩⟩
               ·
                rw [if_neg c20] at H
                exact absurd H (by simp)
              ·
               rw [if_neg c19] at H
               exact absurd H (by simp)
             ·
              rw [if_neg c17] at H
              exact absurd H (by simp)
            ·
             rw [if_neg c16] at H
             exact absurd H (by simp)
           ·
            rw [if_neg c15] at H
            have c15b0 := decide_eq_false c15
            clear c15
            have H' := Aside0.mk H
            clear H
            go_wp2
            go_roundg k2
            case measure => have := HK1.out; have := HK2.out; omega
            case rel => exact ⟨(x5_2), (wrap64 (x6_1 + ((rd_L3 l0 x23_1).length : Int))), (wrap64 (x23_1 + 1)), qc8f_, qc8f_, H', ⟨q37b_ HK1.out HK2.out⟩, ⟨q9d5_ HO_5.out⟩, ⟨q0c4_⟩⟩
        ·
         rw [if_neg c14] at H
         exact absurd H (by simp)
       ·
        rw [if_neg c13] at H
        exact absurd H (by simp)
      ·
       rw [if_neg c12] at H
       have c12b0 := decide_eq_false c12
       clear c12
       obtain ⟨⟨t598, t599⟩, A24, H⟩ := ob_ H
       dsimp only at H
       by_cases c25 : t599 = true
       ·
        subst c25
        rw [if_pos rfl] at H
        obtain ⟨t602, A26, H⟩ := ob_ H
        by_cases c27 : t602 = true
        ·
         subst c27
         rw [if_pos rfl] at H
         simp only [Option.some.injEq, Prod.mk.injEq] at H
         obtain ⟨rfl, rfl⟩ := H
         obtain ⟨Ao28, co28, eo28⟩ := Kd.R_slice HO_5.out
         subst eo28
         go_wp2_with (first | ((with_reducible refine gate_callee (f := 6) rfl ?_); refine gl_ 50 Tryz.func6 #[.slice Ao28 x5_1.length co28] ?_; (with_reducible refine (impl_UnitBlocks.calls k1 _ _ x5_1 t598 true _ ?s1 ?s2 A24.out).mono ?_); (case s1 => exact q5a8_ HO_5.out); (case s2 => exact (Kd.R_reads' HO_5.out).2.1); rintro e w29 ⟨v600, rfl, ho0, hb⟩; refine ⟨_, rfl, ?_⟩; have n0_ := Aside0.mk (Kd.R_below (q9d5_ HO_5.out) hb); have n1_ := Aside0.mk (Kd.S_lower (Kd.S_new' ho0 (Kd.R_lt (q9d5_ HO_5.out))) (below_size q0c4_)); have n2_ := Aside0.mk (below_step q0c4_ hb); replace HO_5 := n0_; have HO601 := n1_; replace HB := n2_; clear n0_ n1_ n2_; clear hb ho0; obtain ⟨Ao30, co30, eo30⟩ := Kd.S_slice HO601.out; subst eo30) | (go_at_call 30; (with_reducible refine (slices_EqualFunc_rows.calls k1 _ _ t598 _ _ l0  true _ ?s1 ?s2 ?s3 ?s4 A26.out).mono ?_); (case s1 => exact q269_ HO601.out); (case s2 => exact (Kd.S_reads' HO601.out).2.1); (case s3 => exact qe02_ HR0.out); (case s4 => exact HC0.out); rintro e w' ⟨rfl, ⟨nd, rfl⟩⟩))
         go_ret2
         exact ⟨_, qce7_, q9d5_ HO_5.out, q0c4_⟩
        ·
         replace c27 := Bool.eq_false_iff.mpr c27
         subst c27
         rw [if_neg nf_] at H
         simp only [Option.some.injEq, Prod.mk.injEq] at H
         obtain ⟨rfl, rfl⟩ := H
         obtain ⟨Ao31, co31, eo31⟩ := Kd.R_slice HO_5.out
         subst eo31
         go_wp2_with (first | ((with_reducible refine gate_callee (f := 6) rfl ?_); refine gl_ 50 Tryz.func6 #[.slice Ao31 x5_1.length co31] ?_; (with_reducible refine (impl_UnitBlocks.calls k1 _ _ x5_1 t598 true _ ?s1 ?s2 A24.out).mono ?_); (case s1 => exact q5a8_ HO_5.out); (case s2 => exact (Kd.R_reads' HO_5.out).2.1); rintro e w32 ⟨v600, rfl, ho0, hb⟩; refine ⟨_, rfl, ?_⟩; have n0_ := Aside0.mk (Kd.R_below (q9d5_ HO_5.out) hb); have n1_ := Aside0.mk (Kd.S_lower (Kd.S_new' ho0 (Kd.R_lt (q9d5_ HO_5.out))) (below_size q0c4_)); have n2_ := Aside0.mk (below_step q0c4_ hb); replace HO_5 := n0_; have HO601 := n1_; replace HB := n2_; clear n0_ n1_ n2_; clear hb ho0; obtain ⟨Ao33, co33, eo33⟩ := Kd.S_slice HO601.out; subst eo33) | (go_at_call 30; (with_reducible refine (slices_EqualFunc_rows.calls k1 _ _ t598 _ _ l0  false _ ?s1 ?s2 ?s3 ?s4 A26.out).mono ?_); (case s1 => exact q269_ HO601.out); (case s2 => exact (Kd.S_reads' HO601.out).2.1); (case s3 => exact qe02_ HR0.out); (case s4 => exact HC0.out); rintro e w' ⟨rfl, ⟨nd, rfl⟩⟩))
         go_ret2
         exact ⟨_, qce7_, qf62_, q0c4_⟩
       ·
        replace c25 := Bool.eq_false_iff.mpr c25
        subst c25
        rw [if_neg nf_] at H
        simp only [Option.some.injEq, Prod.mk.injEq] at H
        obtain ⟨rfl, rfl⟩ := H
        obtain ⟨Ao34, co34, eo34⟩ := Kd.R_slice HO_5.out
        subst eo34
        go_wp2_with (first | ((with_reducible refine gate_callee (f := 6) rfl ?_); refine gl_ 50 Tryz.func6 #[.slice Ao34 x5_1.length co34] ?_; (with_reducible refine (impl_UnitBlocks.calls k1 _ _ x5_1 t598 false _ ?s1 ?s2 A24.out).mono ?_); (case s1 => exact q5a8_ HO_5.out); (case s2 => exact (Kd.R_reads' HO_5.out).2.1); rintro e w35 ⟨v600, rfl, ho0, hb⟩; refine ⟨_, rfl, ?_⟩; have n0_ := Aside0.mk (Kd.R_below (q9d5_ HO_5.out) hb); have n1_ := Aside0.mk (Kd.S_lower (Kd.S_new' ho0 (Kd.R_lt (q9d5_ HO_5.out))) (below_size q0c4_)); have n2_ := Aside0.mk (below_step q0c4_ hb); replace HO_5 := n0_; have HO601 := n1_; replace HB := n2_; clear n0_ n1_ n2_; clear hb ho0))
        go_ret2
        exact ⟨_, qce7_, qf62_, q0c4_⟩
   ·
    rw [if_neg c6] at H
    exact absurd H (by simp)
  ·
   rw [if_neg c5] at H
   exact absurd H (by simp)
 ·
  replace c4 := Bool.eq_false_iff.mpr c4
  subst c4
  rw [if_neg nf_] at H
  simp only [Option.some.injEq, Prod.mk.injEq] at H
  obtain ⟨rfl, rfl⟩ := H
  go_enter Tryz.func10, Tryz.ntmps10
  go_wp2_with (first | ((with_reducible refine gate_callee (f := 28) rfl ?_); refine gl_ 14 Tryz.func28 #[.slice A0 l0.length c0] ?_; (with_reducible refine (slices_Concat_int_int.calls _ _ l0 t588 _ ?s1 ?s2 A2.out).mono ?_); (case s1 => exact q201_ HR0.out); (case s2 => exact HC0.out); rintro e w36 ⟨v589, rfl, ho0, hb⟩; refine ⟨_, rfl, ?_⟩; have HO590 := Aside0.mk (Kd.R_lower ho0 (below_size q0c4_)); replace HB := Aside0.mk (below_step q0c4_ hb); clear hb ho0; obtain ⟨Ao37, co37, eo37⟩ := Kd.R_slice HO590.out; subst eo37) | ((with_reducible refine gate_callee (f := 29) rfl ?_); refine gl_ 16 Tryz.func29 #[.slice Ao37 t588.length co37] ?_; (with_reducible refine (impl_isOrder.calls k _ _ t588 false _ ?s1 ?s2 A3.out).mono ?_); (case s1 => exact q5a8_ HO590.out); (case s2 => exact (Kd.R_reads' HO590.out).2.1); rintro e w38 ⟨rfl, hb⟩; refine ⟨_, rfl, ?_⟩; replace HO590 := Aside0.mk (Kd.R_below (q9d5_ HO590.out) hb); replace HB := Aside0.mk (below_step q0c4_ hb); clear hb))
  go_ret2
  exact ⟨_, qce7_, qf62_, q0c4_⟩

end Go.Proofs.YtleemfmhilhklaaGreat.PAll
