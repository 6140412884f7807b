-- written by a program of this session (wip/gen/xpatch.py over the translation); Lean checks it
import Derived.Test.YtdhfildgjmkgaaaPAllx0
import Derived.Test.YtdhfildgjmkgaaaPAllx3
namespace Go.Proofs.Ytdhfildgjmkgaaa.PAll
open Go.RowKit Go.Proofs.Ytdhfildgjmkgaaa.Hand Go.Proofs.YtdhfildgjmkgaaaW.PrintWords Go.Proofs.YtdhfildgjmkgaaaW.PrintLast Go.Proofs.YtdhfildgjmkgaaaW.PrintMore
attribute [local go_sem] max2_int min2_int max_two min_two max_three min_three max_four min_four   -- for this text's walks alone
set_option maxHeartbeats 8000000
set_option maxRecDepth 100000
set_option linter.unusedVariables false
set_option linter.unusedSimpArgs false

/-! ### impl_blocks: function 32 -/
def impl_blocks.l0 : Nat → List Int → List (List Int) → List Int → Int → Int → Option ((List (List Int)))
 | 0, _, _, _, _, _ => none
 | k + 1, x0, x3, x8, x9, x10 => if x10 < x9 then (if 0 ≤ x10 then (if x10 < (x8.length : Int) then (if 0 ≤ (rd x8 x10) then (if (rd x8 x10) < (x0.length : Int) then (if (rd x0 (rd x8 x10)) = x10 then (if x3.length < 5864062014805 then ((some (x3 ++ [[]] : List (List Int))).bind fun y297 => (if 0 ≤ (wrap64 ((y297.length : Int) - 1)) then (if (wrap64 ((y297.length : Int) - 1)) < (y297.length : Int) then (if (rd_L1 y297 (wrap64 ((y297.length : Int) - 1))).length < 17592186044416 then (impl_blocks.l0 k x0 (y297.set ((wrap64 ((y297.length : Int) - 1)) : Int).toNat ((rd_L1 y297 (wrap64 ((y297.length : Int) - 1))) ++ [rd x8 x10])) x8 x9 (wrap64 (x10 + 1))) else (none)) else (none)) else (none))) else (none)) else (if 0 ≤ (wrap64 ((x3.length : Int) - 1)) then (if (wrap64 ((x3.length : Int) - 1)) < (x3.length : Int) then (if (rd_L1 x3 (wrap64 ((x3.length : Int) - 1))).length < 17592186044416 then (impl_blocks.l0 k x0 (x3.set ((wrap64 ((x3.length : Int) - 1)) : Int).toNat ((rd_L1 x3 (wrap64 ((x3.length : Int) - 1))) ++ [rd x8 x10])) x8 x9 (wrap64 (x10 + 1))) else (none)) else (none)) else (none))) else (none)) else (none)) else (none)) else (none)) else (some x3)
def impl_blocks.f (k : Nat) (l0 : List Int) : Option ((List (List Int))) := (impl_fair.f l0).bind fun t292 => (impl_blocks.l0 k l0 (([] : List (List Int))) t292 (t292.length : Int) 0)
theorem impl_blocks.mono_l : ∀ k, (∀ y0 y1 y2 y3 y4, LeO (impl_blocks.l0 k y0 y1 y2 y3 y4) (impl_blocks.l0 (k + 1) y0 y1 y2 y3 y4))
 | 0 => fun _ _ _ _ _ r h => by simp [impl_blocks.l0] at h
 | k + 1 => by
  have ih0 := impl_blocks.mono_l k
  ·
   intro y0 y1 y2 y3 y4
   unfold impl_blocks.l0
   repeat' (with_reducible first | exact ih0 _ _ _ _ _ | exact LeO.refl _ | exact LeO.none _ | refine LeO.ite ?_ ?_ | refine LeO.bind ?_ (fun _ => ?_))
theorem impl_blocks.mono : ∀ a0 k, LeO (impl_blocks.f k a0) (impl_blocks.f (k + 1) a0) := by
 intro a0 k
 have ih0 := impl_blocks.mono_l k
 unfold impl_blocks.f
 repeat' (with_reducible first | exact ih0 _ _ _ _ _ | exact LeO.refl _ | exact LeO.none _ | refine LeO.ite ?_ ?_ | refine LeO.bind ?_ (fun _ => ?_))
theorem impl_blocks.calls (k : Nat) (A0 : Option Addr) (c0 : Nat) (l0 : List Int) (r : List (List Int)) (w : World) (hr0 : Kd.C (Kd.int .i64) w A0 l0.length l0) (hc0 : l0.length ≤ c0) (h : impl_blocks.f k l0 = some r) :
  Calls Try.prog 32 #[.slice A0 l0.length c0] w fun e w' => ∃ v0_ : Value, e = .returned (v0_) ∧ Kd.S (Kd.slice 3 (Kd.int .i64)) 24 w' w.heap.size (fun _ => True) v0_ r ∧ Below w.heap.size w w' := by
 have HR0 := Aside0.mk hr0
 have HC0 := Aside0.mk hc0
 clear hr0 hc0
 have HB := Aside0.mk (Below.refl w.heap.size w)
 unfold impl_blocks.f at h
 have H := h; clear h
 obtain ⟨y289, hy289⟩ : ∃ y_ : List (List Int), y_ = (([] : List (List Int))) := ⟨_, rfl⟩
 replace H : ((impl_fair.f l0).bind fun t292 => (impl_blocks.l0 k l0 y289 t292 (t292.length : Int) 0)) = some r := by first | (rw [hy289]; with_reducible exact H) | (have H2_ := (Option.bind_some _ _).symm.trans H; rw [hy289]; with_reducible exact H2_) | (have H2_ := (Option.bind_some _ _).symm.trans H; with_reducible exact H2_) | with_reducible exact H | (rw [hy289]; exact H) | exact H
 have Ny289 := Aside0.mk hy289
 clear hy289
 obtain ⟨t292, A2, H⟩ := ob_ H
 have H' := Aside0.mk H
 clear H
 go_enter Try.func32, Try.ntmps32
 go_wp2_with (first | ((with_reducible refine gate_dst (N := 6) rfl ?_); refine Kd.S_lit (Kd.slice 3 (Kd.int .i64)) _ 24 ?hg (N := 6) ?hd (xs := ([] : List (List Int))) (inner := []) (ok := fun _ => True) (okp := fun _ => True) ?hr ?hp (fun _ hk => hk) trivial (Below.refl _ _) (Nat.le_refl _) (by simp) ?_; (case hd => rfl); (case hg => rfl); (case hr => exact qfba_); (case hp => exact (Reps.none _ _)); intro v290 w3 ho4 hb hg_ hnew_; clear hg_ hnew_; (first | rw [← Ny289.out] at ho4 | (simp only [Int.reduceToNat] at ho4; rw [← Ny289.out] at ho4)); have HO291 := Aside0.mk (Kd.S_lower ho4 (below_size q0c4_)); replace HB := Aside0.mk (below_step q0c4_ hb); clear hb ho4) | ((with_reducible refine gate_callee (f := 42) rfl ?_); refine gl_ 8 Try.func42 #[.slice A0 l0.length c0] ?_; (with_reducible refine (impl_fair.calls _ _ l0 t292 _ ?s1 ?s2 A2.out).mono ?_); (case s1 => exact qe02_ HR0.out); (case s2 => exact HC0.out); rintro e w5 ⟨v293, rfl, ho0, hb⟩; refine ⟨_, rfl, ?_⟩; replace HO291 := Aside0.mk (Kd.S_elder' (qd7e_ HO291.out) (Kd.R_base ho0) hb); have HO294 := Aside0.mk (Kd.R_lower ho0 (below_size q0c4_)); replace HB := Aside0.mk (below_step q0c4_ hb); clear hb ho0; obtain ⟨Ao6, co6, eo6⟩ := Kd.R_slice HO294.out; subst eo6))
 go_loopg [3, 10] k (fun kq v3 v10 w' => ∃ (x3_1 : List (List Int)) (x10_1 : Int), v10 = .int .i64 x10_1 ∧ Aside0 (impl_blocks.l0 kq l0 x3_1 t292 (t292.length : Int) x10_1 = some r) ∧ Aside0 (kq ≤ k) ∧ Aside0 (Kd.S (Kd.slice 3 (Kd.int .i64)) 24 w' w.heap.size (fun k_ => some k_ ≠ ((.slice Ao6 t292.length co6) : Value).ownBlock) v3 x3_1) ∧ Aside0 (Kd.R (Kd.int .i64) 3 w' w.heap.size (fun _ => True) (.slice Ao6 t292.length co6) t292) ∧ Aside0 (Below w.heap.size w w'))
 case atStart => exact ⟨(y289), (0), qc8f_, H', ⟨Nat.le_refl _⟩, ⟨by (with_reducible repeat (first | apply Kd.S_alloc | apply Kd.S_drewN | apply Kd.S_drew)); exact Kd.S_mono HO291.out (fun _ hk => hk.2)⟩, ⟨q9d5_ HO294.out⟩, ⟨q0c4_⟩⟩
 case round =>
  clear H'; try clear p2; try clear c3; try clear c4
  obtain ⟨x3_1, x10_1, rfl, HA, HK1, HO_3, HO_8, HB⟩ := hrel
  cases gk with
  | zero => exact absurd HA.out (by simp [impl_blocks.l0])
  | succ k1 =>
   have H := HA.out
   clear HA
   simp only [impl_blocks.l0] at H
   by_cases c7 : x10_1 < (t292.length : Int)
   ·
    rw [if_pos c7] at H
    have c7b0 := decide_eq_true c7
    clear c7
    by_cases c8 : 0 ≤ x10_1
    ·
     rw [if_pos c8] at H
     have c8b0 := decide_eq_true c8
     clear c8
     by_cases c9 : x10_1 < (t292.length : Int)
     ·
      rw [if_pos c9] at H
      have c9b0 := decide_eq_true c9
      clear c9
      by_cases c10 : 0 ≤ (rd t292 x10_1)
      ·
       rw [if_pos c10] at H
       have c10b0 := decide_eq_true c10
       clear c10
       by_cases c11 : (rd t292 x10_1) < (l0.length : Int)
       ·
        rw [if_pos c11] at H
        have c11b0 := decide_eq_true c11
        clear c11
        by_cases c12 : (rd l0 (rd t292 x10_1)) = x10_1
        ·
         rw [if_pos c12] at H
         have c12b0 := beq_iff_eq.mpr c12
         have c12b1 := bne_eq_false_iff_eq.mpr c12
         clear c12
         by_cases c13 : x3_1.length < 5864062014805
         ·
          rw [if_pos c13] at H
          have LMc13 := Aside0.mk c13
          clear c13
          obtain ⟨y297, hy297⟩ : ∃ y_ : List (List Int), y_ = (x3_1 ++ [[]]) := ⟨_, rfl⟩
          replace H : (if 0 ≤ (wrap64 ((y297.length : Int) - 1)) then (if (wrap64 ((y297.length : Int) - 1)) < (y297.length : Int) then (if (rd_L1 y297 (wrap64 ((y297.length : Int) - 1))).length < 17592186044416 then (impl_blocks.l0 k1 l0 (y297.set ((wrap64 ((y297.length : Int) - 1)) : Int).toNat ((rd_L1 y297 (wrap64 ((y297.length : Int) - 1))) ++ [rd t292 x10_1])) t292 (t292.length : Int) (wrap64 (x10_1 + 1))) else (none)) else (none)) else (none)) = some r := by first | (rw [hy297]; with_reducible exact H) | (have H2_ := (Option.bind_some _ _).symm.trans H; rw [hy297]; with_reducible exact H2_) | (have H2_ := (Option.bind_some _ _).symm.trans H; with_reducible exact H2_) | with_reducible exact H | (rw [hy297]; exact H) | exact H
          have Ny297 := Aside0.mk hy297
          clear hy297
          obtain ⟨ji14, hji14⟩ : ∃ j_ : Int, (wrap64 ((y297.length : Int) - 1)) = j_ := ⟨_, rfl⟩
          replace H : (if 0 ≤ (ji14) then (if (ji14) < (y297.length : Int) then (if (rd_L1 y297 (ji14)).length < 17592186044416 then (impl_blocks.l0 k1 l0 (y297.set ((ji14) : Int).toNat ((rd_L1 y297 (ji14)) ++ [rd t292 x10_1])) t292 (t292.length : Int) (wrap64 (x10_1 + 1))) else (none)) else (none)) else (none)) = some r := by first | (rw [hji14] at H; exact H) | (simp only [hji14] at H ⊢; exact H)
          have hji14w : (IntKind.i64.wrap ((y297.length : Int) - 1)) = ji14 := (i64_w _).trans hji14
          by_cases c15 : 0 ≤ (ji14)
          ·
           rw [if_pos c15] at H
           have c15b0 := decide_eq_true c15
           clear c15
           by_cases c16 : (ji14) < (y297.length : Int)
           ·
            rw [if_pos c16] at H
            have c16b0 := decide_eq_true c16
            clear c16
            by_cases c17 : (rd_L1 y297 (ji14)).length < 17592186044416
            ·
             rw [if_pos c17] at H
             have LMc17 := Aside0.mk c17
             clear c17
             obtain ⟨y301, hy301⟩ : ∃ y_ : List Int, y_ = ((rd_L1 y297 (ji14)) ++ [rd t292 x10_1]) := ⟨_, rfl⟩
             replace H : (impl_blocks.l0 k1 l0 (y297.set ((ji14) : Int).toNat y301) t292 (t292.length : Int) (wrap64 (x10_1 + 1))) = some r := by first | (rw [hy301]; with_reducible exact H) | (have H2_ := (Option.bind_some _ _).symm.trans H; rw [hy301]; with_reducible exact H2_) | (have H2_ := (Option.bind_some _ _).symm.trans H; with_reducible exact H2_) | with_reducible exact H | (rw [hy301]; exact H) | exact H
             have Ny301 := Aside0.mk hy301
             clear hy301
             obtain ⟨y304, hy304⟩ : ∃ y_ : List (List Int), y_ = (y297.set ((ji14) : Int).toNat y301) := ⟨_, rfl⟩
             replace H : (impl_blocks.l0 k1 l0 y304 t292 (t292.length : Int) (wrap64 (x10_1 + 1))) = some r := by first | (rw [hy304]; with_reducible exact H) | (have H2_ := (Option.bind_some _ _).symm.trans H; rw [hy304]; with_reducible exact H2_) | (have H2_ := (Option.bind_some _ _).symm.trans H; with_reducible exact H2_) | with_reducible exact H | (rw [hy304]; exact H) | exact H
             have Ny304 := Aside0.mk hy304
             clear hy304
             have H' := Aside0.mk H
             clear H
             have p295 : 0 ≤ (x10_1 : Int) := of_decide_eq_true qe84_
             have q295 : x10_1 < (t292.length : Int) := of_decide_eq_true qe84_
             obtain ⟨ad295, e295, hx295_0⟩ := Kd.at_int (Kd.R_reads' HO_8.out).2.2 x10_1 p295 q295
             cases e295
             replace p295 := eq_true p295
             replace q295 := eq_true q295
             have p296 : 0 ≤ ((rd t292 x10_1) : Int) := of_decide_eq_true qe84_
             have q296 : (rd t292 x10_1) < (l0.length : Int) := of_decide_eq_true qe84_
             obtain ⟨ad296, e296, hx296_0⟩ := Kd.at_int HR0.out (rd t292 x10_1) p296 q296
             cases e296
             (try (replace hx296_0 := (HB.out.cell (World.block_lt_of_cell? w _ hx296_0)).trans hx296_0))
             replace p296 := eq_true p296
             replace q296 := eq_true q296
             go_wp2_with (first | ((with_reducible refine gate_builtin (b := .append) (xs := #[.tmp 21, .tmp 22]) rfl ?_); at_builtin; refine Kd.S_append (Kd.slice 3 (Kd.int .i64)) (w0 := w) w.heap.size rfl (.tmp 21) (.tmp 22) 22 24 (.slice none 0 0) 24 rfl Try.underlying22 info24 rfl (by decide) (by omega) u3 x3_1 [] [.slice none 0 0] (fun k_ => some k_ ≠ (.slice (some ad295) t292.length co6 : Value).ownBlock) (fun _ => False) rfl rfl ?aP (fun _ hk => hk.elim) ?aF ?aO ?aB ?aS ?aL ?_; (case aP => exact ⟨_, rfl, Kd.R_nil _ _ _ _ _⟩); (case aB => exact q0c4_); (case aF => exact (fun k_ hk => Kd.fresh' (Kd.R_lt (q9d5_ HO_8.out)) k_ hk)); (case aO => exact (q607_ HO_3.out)); (case aS => exact (below_size q0c4_)); (case aL => have := LMc13.out; omega); intro v298 w19 ho hb hg hat; rw [← Ny297.out] at ho; have n0_ := Aside0.mk (Kd.R_over' (q9d5_ HO_8.out) (Kd.S_typed (qd7e_ HO_3.out)) (by decide) hg); have n1_ := Aside0.mk (hb); have n2_ := Aside0.mk (ho); replace HO_8 := n0_; replace HB := n1_; have HO299 := n2_; clear n0_ n1_ n2_; clear ho hb hg hat; obtain ⟨Ao20, co20, eo20⟩ := Kd.S_slice HO299.out; subst eo20; have p300 : 0 ≤ ((ji14) : Int) := of_decide_eq_true qe84_; have q300 : (ji14) < (y297.length : Int) := of_decide_eq_true qe84_; obtain ⟨ad300, A300_0, c300_0, e300, hx300_0, hl300_0, hi300_0⟩ := at_L1 (Kd.S_reads' HO299.out).2.2 (ji14) p300 q300; cases e300; obtain ⟨ce300, hce300, hMe300, hcc300⟩ := Kd.S_get HO299.out [] (ji14) p300 (by first | exact q300 | exact of_decide_eq_true qe84_ | (have e_ := (Kd.S_reads' HO299.out).1; omega)); obtain ⟨ve300_0, rfl, ge300_0⟩ := hMe300; have hv300_0 := hcc300 0 _ rfl; rw [Nat.add_zero, show ((Kd.slice 3 (Kd.int .i64))).sz = 1 from rfl, Nat.mul_one] at hv300_0; replace hv300_0 := Option.some.inj (hv300_0.symm.trans hx300_0); rw [hv300_0] at ge300_0; have HL300_0 := Aside0.mk (show Kd.R (Kd.int .i64) 3 _ _ _ _ (rd_L1 y297 (ji14)) from ge300_0); clear hv300_0 ge300_0; have HX300_0 := Aside0.mk hx300_0; clear hcc300 hce300; have HR300_0 := Aside0.mk hi300_0; have HC300_0 := Aside0.mk hl300_0; clear hi300_0 hl300_0; replace p300 := eq_true p300; replace q300 := eq_true q300; obtain ⟨go21, co21, eo21, gb21, gl21, cl21, HG21⟩ := Kd.S_form HO299.out (by have h_ : ((ji14) : Int) < ((y297.length : Int) : Int) := of_decide_eq_true qe84_; have h2_ : 0 ≤ ((ji14) : Int) := (of_decide_eq_true qe84_); omega); (first | cases eo21 | (injection eo21 with ea_ en_ ec_; (first | subst ea_ | (injection ea_ with ea_; subst ea_)); subst ec_; clear en_)); have GB21 := Aside0.mk gb21; have GG21 := Aside0.mk HG21; clear gb21 gl21 HG21; (first | simp only [add_plain] at hx300_0 | skip); obtain ⟨oki21, ce21, hcl21, hM21, hcc21, _, _, hH21⟩ := Kd.S_elem HO299.out [] ((ji14) : Int) (of_decide_eq_true qe84_) (by have h_ : ((ji14) : Int) < ((y297.length : Int) : Int) := of_decide_eq_true qe84_; first | exact h_ | (have e_ := (Kd.S_reads' HO299.out).1; omega) | simpa using h_); obtain ⟨ve21_0, rfl, ge21_0⟩ := hM21; have hv21 := hcc21 0 _ rfl; have hX21 := HX300_0.out; (try simp only [add_plain] at hX21); (try simp only [Nat.add_zero] at hv21); (try rw [show ((Kd.slice 3 (Kd.int .i64))).sz = 1 from rfl, Nat.mul_one] at hv21); replace hv21 := Option.some.inj (hv21.symm.trans hX21); subst hv21; clear hX21 hcc21 hcl21; have UU21 := Aside0.mk (show Kd.R (Kd.int .i64) 3 _ w.heap.size oki21 (.slice A300_0 (rd_L1 y297 (ji14)).length c300_0) (rd_L1 y297 (ji14)) from ge21_0); have HH21 := Aside0.mk hH21; have HN21 := Aside0.mk (Kd.S_reads' HO299.out).1; clear hH21 ge21_0) | ((with_reducible refine gate_builtin (b := .append) (xs := #[.tmp 33, .tmp 35]) rfl ?_); at_builtin; refine Kd.R_append (Kd.int .i64) (w0 := w) w.heap.size rfl (.tmp 33) (.tmp 35) 24 3 (.int .i64 0) 8 rfl Try.underlying24 info3 rfl (by decide) (by omega) (.slice A300_0 (rd_L1 y297 (ji14)).length c300_0) (rd_L1 y297 (ji14)) (rd t292 x10_1) [.int .i64 (rd t292 x10_1)] (fun k_ => oki21 k_ ∨ ((fun k_ => some k_ ≠ (.slice (some ad295) t292.length co6 : Value).ownBlock)) k_ ∧ w19.heap.size ≤ k_) (fun _ => False) rfl rfl ?aP (fun _ hk => hk.elim) ?aF ?aO ?aB ?aS ?aL ?_; (case aP => exact rfl); (case aB => exact q0c4_); (case aF => exact (fun k_ hk => .inr ⟨Kd.fresh' (Kd.R_lt (q9d5_ HO_8.out)) k_ hk, hk⟩)); (case aO => exact (by (with_reducible repeat (first | apply Kd.R_alloc | apply Kd.R_drewN | apply Kd.R_drew)); exact Kd.R_mono UU21.out (fun _ hk => .inl hk))); (case aS => exact (below_size q0c4_)); (case aL => have := LMc17.out; omega); intro v302 w22 ho hb hg hat; rw [← Ny301.out] at ho; have n0_ := Aside0.mk (Kd.R_grown2 (q9d5_ HO_8.out) rfl hg (fun k_ e_ => (HL300_0.out.1 k_ e_).1)); have n1_ := Aside0.mk (hb); have n2_ := Aside0.mk (Kd.H_grown (Kd.H_widen (q912_ HH21.out)) hg (fun k_ e_ => .inl (UU21.out.1 k_ e_))); have n3_ := Aside0.mk (ho); replace HO_8 := n0_; replace HB := n1_; replace HH21 := n2_; have HO303 := n3_; clear n0_ n1_ n2_ n3_; clear ho hb hg hat; have p18 : 0 ≤ ((ji14) : Int) := of_decide_eq_true qe84_; have q18 : ((ji14) : Int) < ((y297.length : Int) : Int) := of_decide_eq_true qe84_; replace p18 := eq_true p18; replace q18 := eq_true q18; obtain ⟨Ao25, co25, eo25⟩ := Kd.R_slice HO303.out; subst eo25; obtain ⟨_, _, hraw23, _, _, hcc23, _⟩ := Kd.H_raw HH21.out (of_decide_eq_true qe84_) (by have h_ : ((ji14) : Int) < ((y297.length : Int) : Int) := of_decide_eq_true qe84_; first | exact h_ | (have e_ := (HN21.out); omega) | simpa using h_); obtain ⟨_, hfr23⟩ := Kd.H_at HH21.out (of_decide_eq_true qe84_) (by have h_ : ((ji14) : Int) < ((y297.length : Int) : Int) := of_decide_eq_true qe84_; first | exact h_ | (have e_ := (HN21.out); omega) | simpa using h_); have hx23_0 := hcc23 0 _ rfl; have hf23_0 := hfr23 0; (try simp only [Nat.add_zero] at hx23_0 hf23_0); (try rw [show ((Kd.slice 3 (Kd.int .i64))).sz = 1 from rfl, Nat.mul_one] at hx23_0); (try rw [show ((Kd.slice 3 (Kd.int .i64))).sz = 1 from rfl, Nat.mul_one] at hf23_0); have HP23 := Kd.S_seg0 HH21.out (of_decide_eq_true qe84_) (by have h_ : ((ji14) : Int) < ((y297.length : Int) : Int) := of_decide_eq_true qe84_; first | exact h_ | (have e_ := (HN21.out); omega) | simpa using h_) (seg := [.slice Ao25 y301.length co25]) (j := 0) (show 1 ≤ 1 from by decide) (x' := y301) (Kd.M_row HO303.out) (fun _ hk => hk); (try simp only [show ((Kd.slice 3 (Kd.int .i64))).sz = 1 from rfl, Nat.mul_one, Nat.add_zero] at HP23); clear hcc23 hfr23) | ((with_reducible refine gate_store (t := 24) (p := 37) rfl ?_); refine store_event (t := 24) (p := 37) (v := ?vo_w24) (w1 := (w22.setCell ⟨go21, ((ji14) : Int).toNat, none⟩ (.slice Ao25 y301.length co25))) ?hg ?ho ?hn ?hr ?_; (case ho => rfl); (case hg => rfl); (case hn => rfl); (case hr => exact qfba_); intro w24 hw; have hg : w22.grownBy w24 (some go21) := (by rw [hw]; exact HP23.2); have hp_ : Kd.S (Kd.slice 3 (Kd.int .i64)) 24 w24 w.heap.size (fun k_ => some k_ ≠ (.slice (some ad295) t292.length co6 : Value).ownBlock) (.slice (some ⟨go21, 0, none⟩) y297.length co20) y304 := (by rw [hw, Ny304.out]; exact HP23.1); clear HP23; have n0_ := Aside0.mk (Kd.R_over' (v := (.slice (some ⟨go21, 0, none⟩) y297.length co20)) (q9d5_ HO_8.out) (Kd.R_typed hraw23) (by decide) hg); have n1_ := Aside0.mk ((by rw [hw]; exact below_set HB.out GB21.out : Below w.heap.size w w24)); have n2_ := Aside0.mk (hp_); replace HO_8 := n0_; replace HB := n1_; have HO299 := n2_; clear n0_ n1_ n2_; clear hg hw hp_ hraw23))
             go_roundg k1
             case measure => have := HK1.out; omega
             case rel => exact ⟨(y304), (wrap64 (x10_1 + 1)), qc8f_, H', ⟨by have := HK1.out; omega⟩, ⟨qd7e_ HO299.out⟩, ⟨q9d5_ HO_8.out⟩, ⟨q0c4_⟩⟩
            ·
             rw [if_neg c17] at H
             exact absurd H (by simp)
           ·
            rw [if_neg c16] at H
            exact absurd H (by simp)
          ·
           rw [if_neg c15] at H
           exact absurd H (by simp)
         ·
          rw [if_neg c13] at H
          exact absurd H (by simp)
        ·
         rw [if_neg c12] at H
         have c12b0 := beq_eq_false_iff_ne.mpr c12
         have c12b1 := bne_iff_ne.mpr c12
         obtain ⟨ji26, hji26⟩ : ∃ j_ : Int, (wrap64 ((x3_1.length : Int) - 1)) = j_ := ⟨_, rfl⟩
         replace H : (if 0 ≤ (ji26) then (if (ji26) < (x3_1.length : Int) then (if (rd_L1 x3_1 (ji26)).length < 17592186044416 then (impl_blocks.l0 k1 l0 (x3_1.set ((ji26) : Int).toNat ((rd_L1 x3_1 (ji26)) ++ [rd t292 x10_1])) t292 (t292.length : Int) (wrap64 (x10_1 + 1))) else (none)) else (none)) else (none)) = some r := by first | (rw [hji26] at H; exact H) | (simp only [hji26] at H ⊢; exact H)
         have hji26w : (IntKind.i64.wrap ((x3_1.length : Int) - 1)) = ji26 := (i64_w _).trans hji26
         by_cases c27 : 0 ≤ (ji26)
         ·
          rw [if_pos c27] at H
          have c27b0 := decide_eq_true c27
          clear c27
          by_cases c28 : (ji26) < (x3_1.length : Int)
          ·
           rw [if_pos c28] at H
           have c28b0 := decide_eq_true c28
           clear c28
           by_cases c29 : (rd_L1 x3_1 (ji26)).length < 17592186044416
           ·
            rw [if_pos c29] at H
            have LMc29 := Aside0.mk c29
            clear c29
            obtain ⟨y306, hy306⟩ : ∃ y_ : List Int, y_ = ((rd_L1 x3_1 (ji26)) ++ [rd t292 x10_1]) := ⟨_, rfl⟩
            replace H : (impl_blocks.l0 k1 l0 (x3_1.set ((ji26) : Int).toNat y306) t292 (t292.length : Int) (wrap64 (x10_1 + 1))) = some r := by first | (rw [hy306]; with_reducible exact H) | (have H2_ := (Option.bind_some _ _).symm.trans H; rw [hy306]; with_reducible exact H2_) | (have H2_ := (Option.bind_some _ _).symm.trans H; with_reducible exact H2_) | with_reducible exact H | (rw [hy306]; exact H) | exact H
            have Ny306 := Aside0.mk hy306
            clear hy306
            obtain ⟨y309, hy309⟩ : ∃ y_ : List (List Int), y_ = (x3_1.set ((ji26) : Int).toNat y306) := ⟨_, rfl⟩
            replace H : (impl_blocks.l0 k1 l0 y309 t292 (t292.length : Int) (wrap64 (x10_1 + 1))) = some r := by first | (rw [hy309]; with_reducible exact H) | (have H2_ := (Option.bind_some _ _).symm.trans H; rw [hy309]; with_reducible exact H2_) | (have H2_ := (Option.bind_some _ _).symm.trans H; with_reducible exact H2_) | with_reducible exact H | (rw [hy309]; exact H) | exact H
            have Ny309 := Aside0.mk hy309
            clear hy309
            have H' := Aside0.mk H
            clear H
            have p295 : 0 ≤ (x10_1 : Int) := of_decide_eq_true qe84_
            have q295 : x10_1 < (t292.length : Int) := of_decide_eq_true qe84_
            obtain ⟨ad295, e295, hx295_0⟩ := Kd.at_int (Kd.R_reads' HO_8.out).2.2 x10_1 p295 q295
            cases e295
            replace p295 := eq_true p295
            replace q295 := eq_true q295
            have p296 : 0 ≤ ((rd t292 x10_1) : Int) := of_decide_eq_true qe84_
            have q296 : (rd t292 x10_1) < (l0.length : Int) := of_decide_eq_true qe84_
            obtain ⟨ad296, e296, hx296_0⟩ := Kd.at_int HR0.out (rd t292 x10_1) p296 q296
            cases e296
            (try (replace hx296_0 := (HB.out.cell (World.block_lt_of_cell? w _ hx296_0)).trans hx296_0))
            replace p296 := eq_true p296
            replace q296 := eq_true q296
            obtain ⟨Ao31, co31, eo31⟩ := Kd.S_slice HO_3.out
            subst eo31
            have p305 : 0 ≤ ((ji26) : Int) := of_decide_eq_true qe84_
            have q305 : (ji26) < (x3_1.length : Int) := of_decide_eq_true qe84_
            obtain ⟨ad305, A305_0, c305_0, e305, hx305_0, hl305_0, hi305_0⟩ := at_L1 (Kd.S_reads' HO_3.out).2.2 (ji26) p305 q305
            cases e305
            obtain ⟨ce305, hce305, hMe305, hcc305⟩ := Kd.S_get HO_3.out [] (ji26) p305 (by first | exact q305 | exact of_decide_eq_true qe84_ | (have e_ := (Kd.S_reads' HO_3.out).1; omega))
            obtain ⟨ve305_0, rfl, ge305_0⟩ := hMe305
            have hv305_0 := hcc305 0 _ rfl
            rw [Nat.add_zero, show ((Kd.slice 3 (Kd.int .i64))).sz = 1 from rfl, Nat.mul_one] at hv305_0
            replace hv305_0 := Option.some.inj (hv305_0.symm.trans hx305_0)
            rw [hv305_0] at ge305_0
            have HL305_0 := Aside0.mk (show Kd.R (Kd.int .i64) 3 _ _ _ _ (rd_L1 x3_1 (ji26)) from ge305_0)
            clear hv305_0 ge305_0
            have HX305_0 := Aside0.mk hx305_0
            clear hcc305 hce305
            have HR305_0 := Aside0.mk hi305_0
            have HC305_0 := Aside0.mk hl305_0
            clear hi305_0 hl305_0
            replace p305 := eq_true p305
            replace q305 := eq_true q305
            obtain ⟨go32, co32, eo32, gb32, gl32, cl32, HG32⟩ := Kd.S_form HO_3.out (by have h_ : ((ji26) : Int) < ((x3_1.length : Int) : Int) := of_decide_eq_true qe84_; have h2_ : 0 ≤ ((ji26) : Int) := (of_decide_eq_true qe84_); omega)
            (first | cases eo32 | (injection eo32 with ea_ en_ ec_; (first | subst ea_ | (injection ea_ with ea_; subst ea_)); subst ec_; clear en_))
            have GB32 := Aside0.mk gb32
            have GG32 := Aside0.mk HG32
            clear gb32 gl32 HG32
            (first | simp only [add_plain] at hx305_0 | skip)
            obtain ⟨oki32, ce32, hcl32, hM32, hcc32, _, _, hH32⟩ := Kd.S_elem HO_3.out [] ((ji26) : Int) (of_decide_eq_true qe84_) (by have h_ : ((ji26) : Int) < ((x3_1.length : Int) : Int) := of_decide_eq_true qe84_; first | exact h_ | (have e_ := (Kd.S_reads' HO_3.out).1; omega) | simpa using h_)
            obtain ⟨ve32_0, rfl, ge32_0⟩ := hM32
            have hv32 := hcc32 0 _ rfl
            have hX32 := HX305_0.out
            (try simp only [add_plain] at hX32)
            (try simp only [Nat.add_zero] at hv32)
            (try rw [show ((Kd.slice 3 (Kd.int .i64))).sz = 1 from rfl, Nat.mul_one] at hv32)
            replace hv32 := Option.some.inj (hv32.symm.trans hX32)
            subst hv32
            clear hX32 hcc32 hcl32
            have UU32 := Aside0.mk (show Kd.R (Kd.int .i64) 3 _ w.heap.size oki32 (.slice A305_0 (rd_L1 x3_1 (ji26)).length c305_0) (rd_L1 x3_1 (ji26)) from ge32_0)
            have HH32 := Aside0.mk hH32
            have HN32 := Aside0.mk (Kd.S_reads' HO_3.out).1
            clear hH32 ge32_0
            go_wp2_with (first | ((with_reducible refine gate_builtin (b := .append) (xs := #[.tmp 33, .tmp 35]) rfl ?_); at_builtin; refine Kd.R_append (Kd.int .i64) (w0 := w) w.heap.size rfl (.tmp 33) (.tmp 35) 24 3 (.int .i64 0) 8 rfl Try.underlying24 info3 rfl (by decide) (by omega) (.slice A305_0 (rd_L1 x3_1 (ji26)).length c305_0) (rd_L1 x3_1 (ji26)) (rd t292 x10_1) [.int .i64 (rd t292 x10_1)] (fun k_ => oki32 k_ ∨ ((fun k_ => some k_ ≠ (.slice (some ad295) t292.length co6 : Value).ownBlock)) k_ ∧ wr.heap.size ≤ k_) (fun _ => False) rfl rfl ?aP (fun _ hk => hk.elim) ?aF ?aO ?aB ?aS ?aL ?_; (case aP => exact rfl); (case aB => exact q0c4_); (case aF => exact (fun k_ hk => .inr ⟨Kd.fresh' (Kd.R_lt (q9d5_ HO_8.out)) k_ hk, hk⟩)); (case aO => exact (by (with_reducible repeat (first | apply Kd.R_alloc | apply Kd.R_drewN | apply Kd.R_drew)); exact Kd.R_mono UU32.out (fun _ hk => .inl hk))); (case aS => exact (below_size q0c4_)); (case aL => have := LMc29.out; omega); intro v307 w33 ho hb hg hat; rw [← Ny306.out] at ho; have n0_ := Aside0.mk (Kd.R_grown2 (q9d5_ HO_8.out) rfl hg (fun k_ e_ => (HL305_0.out.1 k_ e_).1)); have n1_ := Aside0.mk (hb); have n2_ := Aside0.mk (Kd.H_grown (Kd.H_widen (q912_ HH32.out)) hg (fun k_ e_ => .inl (UU32.out.1 k_ e_))); have n3_ := Aside0.mk (ho); replace HO_8 := n0_; replace HB := n1_; replace HH32 := n2_; have HO308 := n3_; clear n0_ n1_ n2_ n3_; clear ho hb hg hat; have p30 : 0 ≤ ((ji26) : Int) := of_decide_eq_true qe84_; have q30 : ((ji26) : Int) < ((x3_1.length : Int) : Int) := of_decide_eq_true qe84_; replace p30 := eq_true p30; replace q30 := eq_true q30; obtain ⟨Ao36, co36, eo36⟩ := Kd.R_slice HO308.out; subst eo36; obtain ⟨_, _, hraw34, _, _, hcc34, _⟩ := Kd.H_raw HH32.out (of_decide_eq_true qe84_) (by have h_ : ((ji26) : Int) < ((x3_1.length : Int) : Int) := of_decide_eq_true qe84_; first | exact h_ | (have e_ := (HN32.out); omega) | simpa using h_); obtain ⟨_, hfr34⟩ := Kd.H_at HH32.out (of_decide_eq_true qe84_) (by have h_ : ((ji26) : Int) < ((x3_1.length : Int) : Int) := of_decide_eq_true qe84_; first | exact h_ | (have e_ := (HN32.out); omega) | simpa using h_); have hx34_0 := hcc34 0 _ rfl; have hf34_0 := hfr34 0; (try simp only [Nat.add_zero] at hx34_0 hf34_0); (try rw [show ((Kd.slice 3 (Kd.int .i64))).sz = 1 from rfl, Nat.mul_one] at hx34_0); (try rw [show ((Kd.slice 3 (Kd.int .i64))).sz = 1 from rfl, Nat.mul_one] at hf34_0); have HP34 := Kd.S_seg0 HH32.out (of_decide_eq_true qe84_) (by have h_ : ((ji26) : Int) < ((x3_1.length : Int) : Int) := of_decide_eq_true qe84_; first | exact h_ | (have e_ := (HN32.out); omega) | simpa using h_) (seg := [.slice Ao36 y306.length co36]) (j := 0) (show 1 ≤ 1 from by decide) (x' := y306) (Kd.M_row HO308.out) (fun _ hk => hk); (try simp only [show ((Kd.slice 3 (Kd.int .i64))).sz = 1 from rfl, Nat.mul_one, Nat.add_zero] at HP34); clear hcc34 hfr34) | ((with_reducible refine gate_store (t := 24) (p := 37) rfl ?_); refine store_event (t := 24) (p := 37) (v := ?vo_w35) (w1 := (w33.setCell ⟨go32, ((ji26) : Int).toNat, none⟩ (.slice Ao36 y306.length co36))) ?hg ?ho ?hn ?hr ?_; (case ho => rfl); (case hg => rfl); (case hn => rfl); (case hr => exact qfba_); intro w35 hw; have hg : w33.grownBy w35 (some go32) := (by rw [hw]; exact HP34.2); have hp_ : Kd.S (Kd.slice 3 (Kd.int .i64)) 24 w35 w.heap.size (fun k_ => some k_ ≠ (.slice (some ad295) t292.length co6 : Value).ownBlock) (.slice (some ⟨go32, 0, none⟩) x3_1.length co31) y309 := (by rw [hw, Ny309.out]; exact HP34.1); clear HP34; have n0_ := Aside0.mk (Kd.R_over' (v := (.slice (some ⟨go32, 0, none⟩) x3_1.length co31)) (q9d5_ HO_8.out) (Kd.R_typed hraw34) (by decide) hg); have n1_ := Aside0.mk ((by rw [hw]; exact below_set HB.out GB32.out : Below w.heap.size w w35)); have n2_ := Aside0.mk (hp_); replace HO_8 := n0_; replace HB := n1_; have HO_3 := n2_; clear n0_ n1_ n2_; clear hg hw hp_ hraw34))
            go_roundg k1
            case measure => have := HK1.out; omega
            case rel => exact ⟨(y309), (wrap64 (x10_1 + 1)), qc8f_, H', ⟨by have := HK1.out; omega⟩, ⟨qd7e_ HO_3.out⟩, ⟨q9d5_ HO_8.out⟩, ⟨q0c4_⟩⟩
           ·
            rw [if_neg c29] at H
            exact absurd H (by simp)
          ·
           rw [if_neg c28] at H
           exact absurd H (by simp)
         ·
          rw [if_neg c27] at H
          exact absurd H (by simp)
       ·
        rw [if_neg c11] at H
        exact absurd H (by simp)
      ·
       rw [if_neg c10] at H
       exact absurd H (by simp)
     ·
      rw [if_neg c9] at H
      exact absurd H (by simp)
    ·
     rw [if_neg c8] at H
     exact absurd H (by simp)
   ·
    rw [if_neg c7] at H
    have c7b0 := decide_eq_false c7
    clear c7
    obtain rfl := Option.some.inj H
    go_wp2
    go_ret
    exact ⟨_, qce7_, by (with_reducible repeat (first | apply Kd.S_alloc | apply Kd.S_drewN | apply Kd.S_drew)); exact Kd.S_mono HO_3.out (fun _ hk => trivial), q0c4_⟩

/-! ### impl_UnitBlocks: function 22 -/
def impl_UnitBlocks.f (k : Nat) (l0 : List Int) : Option ((List (List Int)) × Bool) := (impl_isParking.f k l0).bind fun t310 => (if t310 = true then ((impl_isUnit.f k l0 1).bind fun t311 => (if t311 = true then ((impl_blocks.f k l0).bind fun t312 => (some (t312, true))) else (some (([] : List (List Int)), false)))) else (some (([] : List (List Int)), false)))
theorem impl_UnitBlocks.mono : ∀ a0 k, LeO (impl_UnitBlocks.f k a0) (impl_UnitBlocks.f (k + 1) a0) := by
 intro a0 k
 unfold impl_UnitBlocks.f
 repeat' (with_reducible first | exact impl_blocks.mono _ _ | exact impl_isParking.mono _ _ | exact impl_isUnit.mono _ _ _ | exact LeO.refl _ | exact LeO.none _ | refine LeO.ite ?_ ?_ | refine LeO.bind ?_ (fun _ => ?_))
theorem impl_UnitBlocks.calls (k : Nat) (A0 : Option Addr) (c0 : Nat) (l0 : List Int) (r1 : List (List Int)) (r2 : Bool) (w : World) (hr0 : Kd.C (Kd.int .i64) w A0 l0.length l0) (hc0 : l0.length ≤ c0) (h : impl_UnitBlocks.f k l0 = some (r1, r2)) :
  Calls Try.prog 22 #[.slice A0 l0.length c0] w fun e w' => ∃ v0_ : Value, e = .returned (.tuple #[v0_, .bool r2]) ∧ Kd.S (Kd.slice 3 (Kd.int .i64)) 24 w' w.heap.size (fun _ => True) v0_ r1 ∧ Below w.heap.size w w' := by
 have HR0 := Aside0.mk hr0
 have HC0 := Aside0.mk hc0
 clear hr0 hc0
 have HB := Aside0.mk (Below.refl w.heap.size w)
 unfold impl_UnitBlocks.f at h
 have H := h; clear h
 obtain ⟨t310, A2, H⟩ := ob_ H
 by_cases c3 : t310 = true
 ·
  subst c3
  rw [if_pos rfl] at H
  obtain ⟨t311, A4, H⟩ := ob_ H
  by_cases c5 : t311 = true
  ·
   subst c5
   rw [if_pos rfl] at H
   obtain ⟨t312, A6, H⟩ := ob_ H
   simp only [Option.some.injEq, Prod.mk.injEq] at H
   obtain ⟨rfl, rfl⟩ := H
   go_enter Try.func22, Try.ntmps22
   go_wp2_with (first | ((with_reducible refine gate_callee (f := 30) rfl ?_); refine gl_ 5 Try.func30 #[.slice A0 l0.length c0] ?_; (with_reducible refine (impl_isParking.calls k _ _ l0 true _ ?s1 ?s2 A2.out).mono ?_); (case s1 => exact q201_ HR0.out); (case s2 => exact HC0.out); rintro e w7 ⟨rfl, hb⟩; refine ⟨_, rfl, ?_⟩; replace HB := Aside0.mk (below_step q0c4_ hb); clear hb) | (go_at_call 31; (with_reducible refine (impl_isUnit.calls k _ _ l0 1 true _ ?s1 ?s2 A4.out).mono ?_); (case s1 => exact qe02_ HR0.out); (case s2 => exact HC0.out); rintro e w8 ⟨rfl, hb⟩; replace HB := Aside0.mk (below_step q0c4_ hb); clear hb) | ((with_reducible refine gate_callee (f := 32) rfl ?_); refine gl_ 13 Try.func32 #[.slice A0 l0.length c0] ?_; (with_reducible refine (impl_blocks.calls k _ _ l0 t312 _ ?s1 ?s2 A6.out).mono ?_); (case s1 => exact qe02_ HR0.out); (case s2 => exact HC0.out); rintro e w9 ⟨v313, rfl, ho0, hb⟩; refine ⟨_, rfl, ?_⟩; have HO314 := Aside0.mk (Kd.S_lower ho0 (below_size q0c4_)); replace HB := Aside0.mk (below_step q0c4_ hb); clear hb ho0))
   go_ret2
   exact ⟨_, qce7_, qd7e_ HO314.out, q0c4_⟩
  ·
   replace c5 := Bool.eq_false_iff.mpr c5
   subst c5
   rw [if_neg nf_] at H
   simp only [Option.some.injEq, Prod.mk.injEq] at H
   obtain ⟨rfl, rfl⟩ := H
   go_enter Try.func22, Try.ntmps22
   go_wp2_with (first | ((with_reducible refine gate_callee (f := 30) rfl ?_); refine gl_ 5 Try.func30 #[.slice A0 l0.length c0] ?_; (with_reducible refine (impl_isParking.calls k _ _ l0 true _ ?s1 ?s2 A2.out).mono ?_); (case s1 => exact q201_ HR0.out); (case s2 => exact HC0.out); rintro e w10 ⟨rfl, hb⟩; refine ⟨_, rfl, ?_⟩; replace HB := Aside0.mk (below_step q0c4_ hb); clear hb) | (go_at_call 31; (with_reducible refine (impl_isUnit.calls k _ _ l0 1 false _ ?s1 ?s2 A4.out).mono ?_); (case s1 => exact qe02_ HR0.out); (case s2 => exact HC0.out); rintro e w11 ⟨rfl, hb⟩; replace HB := Aside0.mk (below_step q0c4_ hb); clear hb))
   go_ret2
   exact ⟨_, qce7_, qc14_, q0c4_⟩
 ·
  replace c3 := Bool.eq_false_iff.mpr c3
  subst c3
  rw [if_neg nf_] at H
  simp only [Option.some.injEq, Prod.mk.injEq] at H
  obtain ⟨rfl, rfl⟩ := H
  go_enter Try.func22, Try.ntmps22
  go_wp2_with (first | ((with_reducible refine gate_callee (f := 30) rfl ?_); refine gl_ 5 Try.func30 #[.slice A0 l0.length c0] ?_; (with_reducible refine (impl_isParking.calls k _ _ l0 false _ ?s1 ?s2 A2.out).mono ?_); (case s1 => exact q201_ HR0.out); (case s2 => exact HC0.out); rintro e w12 ⟨rfl, hb⟩; refine ⟨_, rfl, ?_⟩; replace HB := Aside0.mk (below_step q0c4_ hb); clear hb))
  go_ret2
  exact ⟨_, qce7_, qc14_, q0c4_⟩

/-! ### slices_Equal_int_int: function 24 -/
def slices_Equal_int_int.l0 : Nat → List Int → List Int → Int → Int → Option (Bool)
 | 0, _, _, _, _ => none
 | k + 1, x0, x1, x12, x13 => if x13 < x12 then (if 0 ≤ x13 then (if x13 < (x0.length : Int) then (if x13 < (x1.length : Int) then (if (rd x0 x13) = (rd x1 x13) then (slices_Equal_int_int.l0 k x0 x1 x12 (wrap64 (x13 + 1))) else (some false)) else (none)) else (none)) else (none)) else (some true)
def slices_Equal_int_int.f (k : Nat) (l0 : List Int) (l1 : List Int) : Option (Bool) := if (l0.length : Int) = (l1.length : Int) then (slices_Equal_int_int.l0 k l0 l1 (l0.length : Int) 0) else (some false)
theorem slices_Equal_int_int.mono_l : ∀ k, (∀ y0 y1 y2 y3, LeO (slices_Equal_int_int.l0 k y0 y1 y2 y3) (slices_Equal_int_int.l0 (k + 1) y0 y1 y2 y3))
 | 0 => fun _ _ _ _ r h => by simp [slices_Equal_int_int.l0] at h
 | k + 1 => by
  have ih0 := slices_Equal_int_int.mono_l k
  ·
   intro y0 y1 y2 y3
   unfold slices_Equal_int_int.l0
   repeat' (with_reducible first | exact ih0 _ _ _ _ | exact LeO.refl _ | exact LeO.none _ | refine LeO.ite ?_ ?_ | refine LeO.bind ?_ (fun _ => ?_))
theorem slices_Equal_int_int.mono : ∀ a0 a1 k, LeO (slices_Equal_int_int.f k a0 a1) (slices_Equal_int_int.f (k + 1) a0 a1) := by
 intro a0 a1 k
 have ih0 := slices_Equal_int_int.mono_l k
 unfold slices_Equal_int_int.f
 repeat' (with_reducible first | exact ih0 _ _ _ _ | exact LeO.refl _ | exact LeO.none _ | refine LeO.ite ?_ ?_ | refine LeO.bind ?_ (fun _ => ?_))
theorem slices_Equal_int_int.calls (k : Nat) (A0 : Option Addr) (c0 : Nat) (l0 : List Int) (A1 : Option Addr) (c1 : Nat) (l1 : List Int) (r : Bool) (w : World) (hr0 : Kd.C (Kd.int .i64) w A0 l0.length l0) (hc0 : l0.length ≤ c0) (hr1 : Kd.C (Kd.int .i64) w A1 l1.length l1) (hc1 : l1.length ≤ c1) (h : slices_Equal_int_int.f k l0 l1 = some r) :
  Calls Try.prog 24 #[.slice A0 l0.length c0, .slice A1 l1.length c1] w fun e w' => e = .returned (.bool r) ∧ Drawn0 w w' := by
 have HR0 := Aside0.mk hr0
 have HC0 := Aside0.mk hc0
 clear hr0 hc0
 have HR1 := Aside0.mk hr1
 have HC1 := Aside0.mk hc1
 clear hr1 hc1
 unfold slices_Equal_int_int.f at h
 have H := h; clear h
 by_cases c3 : (l0.length : Int) = (l1.length : Int)
 ·
  rw [if_pos c3] at H
  have c3b0 := beq_iff_eq.mpr c3
  have c3b1 := bne_eq_false_iff_eq.mpr c3
  have c3b2 : (l0.length == l1.length) = true := q002_
  clear c3
  have H' := Aside0.mk H
  clear H
  go_enter Try.func24, Try.ntmps24
  go_wp2
  repeat (go_quiet (fail); try go_wp2)
  go_loopg [13] k (fun kq v13 w' => ∃ (x13_1 : Int), v13 = .int .i64 x13_1 ∧ Aside0 (slices_Equal_int_int.l0 kq l0 l1 (l0.length : Int) x13_1 = some r) ∧ Aside0 (kq ≤ k) ∧ Drawn0 w w')
  case atStart => exact ⟨(0), qc8f_, H', ⟨Nat.le_refl _⟩, qffa_⟩
  case round =>
   clear H'; try clear c1; try clear c2; try clear p2; try clear c3; try clear c3b0; try clear c3b1; try clear c3b2
   obtain ⟨x13_1, rfl, HA, HK1, ⟨m1, rfl⟩⟩ := hrel
   cases gk with
   | zero => exact absurd HA.out (by simp [slices_Equal_int_int.l0])
   | succ k1 =>
    have H := HA.out
    clear HA
    simp only [slices_Equal_int_int.l0] at H
    by_cases c4 : x13_1 < (l0.length : Int)
    ·
     rw [if_pos c4] at H
     have c4b0 := decide_eq_true c4
     clear c4
     by_cases c5 : 0 ≤ x13_1
     ·
      rw [if_pos c5] at H
      have c5b0 := decide_eq_true c5
      clear c5
      by_cases c6 : x13_1 < (l0.length : Int)
      ·
       rw [if_pos c6] at H
       have c6b0 := decide_eq_true c6
       clear c6
       by_cases c7 : x13_1 < (l1.length : Int)
       ·
        rw [if_pos c7] at H
        have c7b0 := decide_eq_true c7
        clear c7
        by_cases c8 : (rd l0 x13_1) = (rd l1 x13_1)
        ·
         rw [if_pos c8] at H
         have c8b0 := beq_iff_eq.mpr c8
         have c8b1 := bne_eq_false_iff_eq.mpr c8
         clear c8
         have H' := Aside0.mk H
         clear H
         have p315 : 0 ≤ (x13_1 : Int) := of_decide_eq_true qe84_
         have q315 : x13_1 < (l0.length : Int) := of_decide_eq_true qe84_
         obtain ⟨ad315, e315, hx315_0⟩ := Kd.at_int HR0.out x13_1 p315 q315
         cases e315
         replace p315 := eq_true p315
         replace q315 := eq_true q315
         have p316 : 0 ≤ (x13_1 : Int) := of_decide_eq_true qe84_
         have q316 : x13_1 < (l1.length : Int) := of_decide_eq_true qe84_
         obtain ⟨ad316, e316, hx316_0⟩ := Kd.at_int HR1.out x13_1 p316 q316
         cases e316
         replace p316 := eq_true p316
         replace q316 := eq_true q316
         go_wp2
         repeat (go_quiet (fail); try go_wp2)
         go_roundg k1
         case measure => have := HK1.out; omega
         case rel => exact ⟨(wrap64 (x13_1 + 1)), qc8f_, H', ⟨by have := HK1.out; omega⟩, qffa_⟩
        ·
         rw [if_neg c8] at H
         have c8b0 := beq_eq_false_iff_ne.mpr c8
         have c8b1 := bne_iff_ne.mpr c8
         obtain rfl := Option.some.inj H
         have p315 : 0 ≤ (x13_1 : Int) := of_decide_eq_true qe84_
         have q315 : x13_1 < (l0.length : Int) := of_decide_eq_true qe84_
         obtain ⟨ad315, e315, hx315_0⟩ := Kd.at_int HR0.out x13_1 p315 q315
         cases e315
         replace p315 := eq_true p315
         replace q315 := eq_true q315
         have p316 : 0 ≤ (x13_1 : Int) := of_decide_eq_true qe84_
         have q316 : x13_1 < (l1.length : Int) := of_decide_eq_true qe84_
         obtain ⟨ad316, e316, hx316_0⟩ := Kd.at_int HR1.out x13_1 p316 q316
         cases e316
         replace p316 := eq_true p316
         replace q316 := eq_true q316
         go_wp2
         repeat (go_quiet (fail); try go_wp2)
         go_ret
         exact ⟨qc8f_, qffa_⟩
       ·
        rw [if_neg c7] at H
        exact absurd H (by simp)
      ·
       rw [if_neg c6] at H
       exact absurd H (by simp)
     ·
      rw [if_neg c5] at H
      exact absurd H (by simp)
    ·
     rw [if_neg c4] at H
     have c4b0 := decide_eq_false c4
     clear c4
     obtain rfl := Option.some.inj H
     go_wp2
     repeat (go_quiet (fail); try go_wp2)
     go_ret
     exact ⟨qc8f_, qffa_⟩
 ·
  rw [if_neg c3] at H
  have c3b0 := beq_eq_false_iff_ne.mpr c3
  have c3b1 := bne_iff_ne.mpr c3
  have c3b2 : (l0.length == l1.length) = false := q002_
  obtain rfl := Option.some.inj H
  go_enter Try.func24, Try.ntmps24
  go_wp2
  repeat (go_quiet (fail); try go_wp2)
  go_ret
  exact ⟨qc8f_, qffa_⟩

/-! ### laws_eqIntS: function 8 -/
def laws_eqIntS.l0 : Nat → List Int → List Int → Int → Option (Bool)
 | 0, _, _, _ => none
 | k + 1, x0, x1, x5 => if x5 < (x0.length : Int) then (if 0 ≤ x5 then (if x5 < (x1.length : Int) then (if (rd x0 x5) = (rd x1 x5) then (laws_eqIntS.l0 k x0 x1 (wrap64 (x5 + 1))) else (some false)) else (none)) else (none)) else (some true)
def laws_eqIntS.f (k : Nat) (l0 : List Int) (l1 : List Int) : Option (Bool) := if (l0.length : Int) = (l1.length : Int) then (laws_eqIntS.l0 k l0 l1 0) else (some false)
theorem laws_eqIntS.mono_l : ∀ k, (∀ y0 y1 y2, LeO (laws_eqIntS.l0 k y0 y1 y2) (laws_eqIntS.l0 (k + 1) y0 y1 y2))
 | 0 => fun _ _ _ r h => by simp [laws_eqIntS.l0] at h
 | k + 1 => by
  have ih0 := laws_eqIntS.mono_l k
  ·
   intro y0 y1 y2
   unfold laws_eqIntS.l0
   repeat' (with_reducible first | exact ih0 _ _ _ | exact LeO.refl _ | exact LeO.none _ | refine LeO.ite ?_ ?_ | refine LeO.bind ?_ (fun _ => ?_))
theorem laws_eqIntS.mono : ∀ a0 a1 k, LeO (laws_eqIntS.f k a0 a1) (laws_eqIntS.f (k + 1) a0 a1) := by
 intro a0 a1 k
 have ih0 := laws_eqIntS.mono_l k
 unfold laws_eqIntS.f
 repeat' (with_reducible first | exact ih0 _ _ _ | exact LeO.refl _ | exact LeO.none _ | refine LeO.ite ?_ ?_ | refine LeO.bind ?_ (fun _ => ?_))
theorem laws_eqIntS.calls (k : Nat) (A0 : Option Addr) (c0 : Nat) (l0 : List Int) (A1 : Option Addr) (c1 : Nat) (l1 : List Int) (r : Bool) (w : World) (hr0 : Kd.C (Kd.int .i64) w A0 l0.length l0) (hc0 : l0.length ≤ c0) (hr1 : Kd.C (Kd.int .i64) w A1 l1.length l1) (hc1 : l1.length ≤ c1) (h : laws_eqIntS.f k l0 l1 = some r) :
  Calls Try.prog 8 #[.slice A0 l0.length c0, .slice A1 l1.length c1] w fun e w' => e = .returned (.bool r) ∧ Drawn0 w w' := by
 have HR0 := Aside0.mk hr0
 have HC0 := Aside0.mk hc0
 clear hr0 hc0
 have HR1 := Aside0.mk hr1
 have HC1 := Aside0.mk hc1
 clear hr1 hc1
 unfold laws_eqIntS.f at h
 have H := h; clear h
 by_cases c3 : (l0.length : Int) = (l1.length : Int)
 ·
  rw [if_pos c3] at H
  have c3b0 := beq_iff_eq.mpr c3
  have c3b1 := bne_eq_false_iff_eq.mpr c3
  have c3b2 : (l0.length == l1.length) = true := q002_
  clear c3
  have H' := Aside0.mk H
  clear H
  go_enter Try.func8, Try.ntmps8
  go_wp2
  repeat (go_quiet (fail); try go_wp2)
  go_loopg [5] k (fun kq v5 w' => ∃ (x5_1 : Int), v5 = .int .i64 x5_1 ∧ Aside0 (laws_eqIntS.l0 kq l0 l1 x5_1 = some r) ∧ Aside0 (kq ≤ k) ∧ Drawn0 w w')
  case atStart => exact ⟨(0), qc8f_, H', ⟨Nat.le_refl _⟩, qffa_⟩
  case round =>
   clear H'; try clear c1; try clear p2; try clear c3; try clear c3b0; try clear c3b1; try clear c3b2
   obtain ⟨x5_1, rfl, HA, HK1, ⟨m1, rfl⟩⟩ := hrel
   cases gk with
   | zero => exact absurd HA.out (by simp [laws_eqIntS.l0])
   | succ k1 =>
    have H := HA.out
    clear HA
    simp only [laws_eqIntS.l0] at H
    by_cases c4 : x5_1 < (l0.length : Int)
    ·
     rw [if_pos c4] at H
     have c4b0 := decide_eq_true c4
     clear c4
     by_cases c5 : 0 ≤ x5_1
     ·
      rw [if_pos c5] at H
      have c5b0 := decide_eq_true c5
      clear c5
      by_cases c6 : x5_1 < (l1.length : Int)
      ·
       rw [if_pos c6] at H
       have c6b0 := decide_eq_true c6
       clear c6
       by_cases c7 : (rd l0 x5_1) = (rd l1 x5_1)
       ·
        rw [if_pos c7] at H
        have c7b0 := beq_iff_eq.mpr c7
        have c7b1 := bne_eq_false_iff_eq.mpr c7
        clear c7
        have H' := Aside0.mk H
        clear H
        have p317 : 0 ≤ (x5_1 : Int) := of_decide_eq_true qe84_
        have q317 : x5_1 < (l0.length : Int) := of_decide_eq_true qe84_
        obtain ⟨ad317, e317, hx317_0⟩ := Kd.at_int HR0.out x5_1 p317 q317
        cases e317
        replace p317 := eq_true p317
        replace q317 := eq_true q317
        have p318 : 0 ≤ (x5_1 : Int) := of_decide_eq_true qe84_
        have q318 : x5_1 < (l1.length : Int) := of_decide_eq_true qe84_
        obtain ⟨ad318, e318, hx318_0⟩ := Kd.at_int HR1.out x5_1 p318 q318
        cases e318
        replace p318 := eq_true p318
        replace q318 := eq_true q318
        go_wp2
        repeat (go_quiet (fail); try go_wp2)
        go_roundg k1
        case measure => have := HK1.out; omega
        case rel => exact ⟨(wrap64 (x5_1 + 1)), qc8f_, H', ⟨by have := HK1.out; omega⟩, qffa_⟩
       ·
        rw [if_neg c7] at H
        have c7b0 := beq_eq_false_iff_ne.mpr c7
        have c7b1 := bne_iff_ne.mpr c7
        obtain rfl := Option.some.inj H
        have p317 : 0 ≤ (x5_1 : Int) := of_decide_eq_true qe84_
        have q317 : x5_1 < (l0.length : Int) := of_decide_eq_true qe84_
        obtain ⟨ad317, e317, hx317_0⟩ := Kd.at_int HR0.out x5_1 p317 q317
        cases e317
        replace p317 := eq_true p317
        replace q317 := eq_true q317
        have p318 : 0 ≤ (x5_1 : Int) := of_decide_eq_true qe84_
        have q318 : x5_1 < (l1.length : Int) := of_decide_eq_true qe84_
        obtain ⟨ad318, e318, hx318_0⟩ := Kd.at_int HR1.out x5_1 p318 q318
        cases e318
        replace p318 := eq_true p318
        replace q318 := eq_true q318
        go_wp2
        repeat (go_quiet (fail); try go_wp2)
        go_ret
        exact ⟨qc8f_, qffa_⟩
      ·
       rw [if_neg c6] at H
       exact absurd H (by simp)
     ·
      rw [if_neg c5] at H
      exact absurd H (by simp)
    ·
     rw [if_neg c4] at H
     have c4b0 := decide_eq_false c4
     clear c4
     obtain rfl := Option.some.inj H
     go_wp2
     repeat (go_quiet (fail); try go_wp2)
     go_ret
     exact ⟨qc8f_, qffa_⟩
 ·
  rw [if_neg c3] at H
  have c3b0 := beq_eq_false_iff_ne.mpr c3
  have c3b1 := bne_iff_ne.mpr c3
  have c3b2 : (l0.length == l1.length) = false := q002_
  obtain rfl := Option.some.inj H
  go_enter Try.func8, Try.ntmps8
  go_wp2
  repeat (go_quiet (fail); try go_wp2)
  go_ret
  exact ⟨qc8f_, qffa_⟩

/-! ### laws_eqIntSS: function 9 -/
def laws_eqIntSS.l0 : Nat → List (List Int) → List (List Int) → Int → Option (Bool)
 | 0, _, _, _ => none
 | k + 1, x0, x1, x5 => if x5 < (x0.length : Int) then (if 0 ≤ x5 then (if x5 < (x1.length : Int) then ((laws_eqIntS.f k (rd_L1 x0 x5) (rd_L1 x1 x5)).bind fun t321 => (if t321 = true then (laws_eqIntSS.l0 k x0 x1 (wrap64 (x5 + 1))) else (some false))) else (none)) else (none)) else (some true)
def laws_eqIntSS.f (k : Nat) (l0 : List (List Int)) (l1 : List (List Int)) : Option (Bool) := if (l0.length : Int) = (l1.length : Int) then (laws_eqIntSS.l0 k l0 l1 0) else (some false)
theorem laws_eqIntSS.mono_l : ∀ k, (∀ y0 y1 y2, LeO (laws_eqIntSS.l0 k y0 y1 y2) (laws_eqIntSS.l0 (k + 1) y0 y1 y2))
 | 0 => fun _ _ _ r h => by simp [laws_eqIntSS.l0] at h
 | k + 1 => by
  have ih0 := laws_eqIntSS.mono_l k
  ·
   intro y0 y1 y2
   unfold laws_eqIntSS.l0
   repeat' (with_reducible first | exact ih0 _ _ _ | exact laws_eqIntS.mono _ _ _ | exact LeO.refl _ | exact LeO.none _ | refine LeO.ite ?_ ?_ | refine LeO.bind ?_ (fun _ => ?_))
theorem laws_eqIntSS.mono : ∀ a0 a1 k, LeO (laws_eqIntSS.f k a0 a1) (laws_eqIntSS.f (k + 1) a0 a1) := by
 intro a0 a1 k
 have ih0 := laws_eqIntSS.mono_l k
 unfold laws_eqIntSS.f
 repeat' (with_reducible first | exact ih0 _ _ _ | exact laws_eqIntS.mono _ _ _ | exact LeO.refl _ | exact LeO.none _ | refine LeO.ite ?_ ?_ | refine LeO.bind ?_ (fun _ => ?_))
theorem laws_eqIntSS.calls (k : Nat) (A0 : Option Addr) (c0 : Nat) (l0 : List (List Int)) (A1 : Option Addr) (c1 : Nat) (l1 : List (List Int)) (r : Bool) (w : World) (hr0 : Kd.C (Kd.slice 3 (Kd.int .i64)) w A0 l0.length l0) (hc0 : l0.length ≤ c0) (hr1 : Kd.C (Kd.slice 3 (Kd.int .i64)) w A1 l1.length l1) (hc1 : l1.length ≤ c1) (h : laws_eqIntSS.f k l0 l1 = some r) :
  Calls Try.prog 9 #[.slice A0 l0.length c0, .slice A1 l1.length c1] w fun e w' => e = .returned (.bool r) ∧ Drawn0 w w' := by
 have HR0 := Aside0.mk hr0
 have HC0 := Aside0.mk hc0
 clear hr0 hc0
 have HR1 := Aside0.mk hr1
 have HC1 := Aside0.mk hc1
 clear hr1 hc1
 unfold laws_eqIntSS.f at h
 have H := h; clear h
 by_cases c3 : (l0.length : Int) = (l1.length : Int)
 ·
  rw [if_pos c3] at H
  have c3b0 := beq_iff_eq.mpr c3
  have c3b1 := bne_eq_false_iff_eq.mpr c3
  have c3b2 : (l0.length == l1.length) = true := q002_
  clear c3
  have H' := Aside0.mk H
  clear H
  go_enter Try.func9, Try.ntmps9
  go_wp2
  repeat (go_quiet (fail); try go_wp2)
  go_loopg [5] k (fun kq v5 w' => ∃ (x5_1 : Int), v5 = .int .i64 x5_1 ∧ Aside0 (laws_eqIntSS.l0 kq l0 l1 x5_1 = some r) ∧ Aside0 (kq ≤ k) ∧ Drawn0 w w')
  case atStart => exact ⟨(0), qc8f_, H', ⟨Nat.le_refl _⟩, qffa_⟩
  case round =>
   clear H'; try clear c1; try clear p2; try clear c3; try clear c3b0; try clear c3b1; try clear c3b2
   obtain ⟨x5_1, rfl, HA, HK1, ⟨m1, rfl⟩⟩ := hrel
   cases gk with
   | zero => exact absurd HA.out (by simp [laws_eqIntSS.l0])
   | succ k1 =>
    have H := HA.out
    clear HA
    simp only [laws_eqIntSS.l0] at H
    by_cases c4 : x5_1 < (l0.length : Int)
    ·
     rw [if_pos c4] at H
     have c4b0 := decide_eq_true c4
     clear c4
     by_cases c5 : 0 ≤ x5_1
     ·
      rw [if_pos c5] at H
      have c5b0 := decide_eq_true c5
      clear c5
      by_cases c6 : x5_1 < (l1.length : Int)
      ·
       rw [if_pos c6] at H
       have c6b0 := decide_eq_true c6
       clear c6
       obtain ⟨t321, A7, H⟩ := ob_ H
       by_cases c8 : t321 = true
       ·
        subst c8
        rw [if_pos rfl] at H
        have H' := Aside0.mk H
        clear H
        have p319 : 0 ≤ (x5_1 : Int) := of_decide_eq_true qe84_
        have q319 : x5_1 < (l0.length : Int) := of_decide_eq_true qe84_
        obtain ⟨ad319, A319_0, c319_0, e319, hx319_0, hl319_0, hi319_0⟩ := at_L1 HR0.out x5_1 p319 q319
        cases e319
        have HR319_0 := Aside0.mk hi319_0
        have HC319_0 := Aside0.mk hl319_0
        clear hi319_0 hl319_0
        replace p319 := eq_true p319
        replace q319 := eq_true q319
        have p320 : 0 ≤ (x5_1 : Int) := of_decide_eq_true qe84_
        have q320 : x5_1 < (l1.length : Int) := of_decide_eq_true qe84_
        obtain ⟨ad320, A320_0, c320_0, e320, hx320_0, hl320_0, hi320_0⟩ := at_L1 HR1.out x5_1 p320 q320
        cases e320
        have HR320_0 := Aside0.mk hi320_0
        have HC320_0 := Aside0.mk hl320_0
        clear hi320_0 hl320_0
        replace p320 := eq_true p320
        replace q320 := eq_true q320
        have zz_ := trivial
        repeat (clear zz_; go_wp2_with (first | (go_at_call 8; (with_reducible refine (laws_eqIntS.calls k1 _ _ (rd_L1 l0 x5_1) _ _ (rd_L1 l1 x5_1) true _ ?s1 ?s2 ?s3 ?s4 A7.out).mono ?_); (case s1 => exact q201_ HR319_0.out); (case s2 => exact HC319_0.out); (case s3 => exact q201_ HR320_0.out); (case s4 => exact HC320_0.out); rintro e w' ⟨rfl, ⟨nd, rfl⟩⟩; (try exact q447_))); try (go_quiet ((go_at_call 8; (with_reducible refine (laws_eqIntS.calls k1 _ _ (rd_L1 l0 x5_1) _ _ (rd_L1 l1 x5_1) true _ ?s1 ?s2 ?s3 ?s4 A7.out).mono ?_); (case s1 => exact q201_ HR319_0.out); (case s2 => exact HC319_0.out); (case s3 => exact q201_ HR320_0.out); (case s4 => exact HC320_0.out); rintro e w' ⟨rfl, ⟨nd, rfl⟩⟩; (try exact q447_))); have zz_ := trivial))
        go_roundg k1
        case measure => have := HK1.out; omega
        case rel => exact ⟨(wrap64 (x5_1 + 1)), qc8f_, H', ⟨by have := HK1.out; omega⟩, qffa_⟩
       ·
        replace c8 := Bool.eq_false_iff.mpr c8
        subst c8
        rw [if_neg nf_] at H
        obtain rfl := Option.some.inj H
        have p319 : 0 ≤ (x5_1 : Int) := of_decide_eq_true qe84_
        have q319 : x5_1 < (l0.length : Int) := of_decide_eq_true qe84_
        obtain ⟨ad319, A319_0, c319_0, e319, hx319_0, hl319_0, hi319_0⟩ := at_L1 HR0.out x5_1 p319 q319
        cases e319
        have HR319_0 := Aside0.mk hi319_0
        have HC319_0 := Aside0.mk hl319_0
        clear hi319_0 hl319_0
        replace p319 := eq_true p319
        replace q319 := eq_true q319
        have p320 : 0 ≤ (x5_1 : Int) := of_decide_eq_true qe84_
        have q320 : x5_1 < (l1.length : Int) := of_decide_eq_true qe84_
        obtain ⟨ad320, A320_0, c320_0, e320, hx320_0, hl320_0, hi320_0⟩ := at_L1 HR1.out x5_1 p320 q320
        cases e320
        have HR320_0 := Aside0.mk hi320_0
        have HC320_0 := Aside0.mk hl320_0
        clear hi320_0 hl320_0
        replace p320 := eq_true p320
        replace q320 := eq_true q320
        have zz_ := trivial
        repeat (clear zz_; go_wp2_with (first | (go_at_call 8; (with_reducible refine (laws_eqIntS.calls k1 _ _ (rd_L1 l0 x5_1) _ _ (rd_L1 l1 x5_1) false _ ?s1 ?s2 ?s3 ?s4 A7.out).mono ?_); (case s1 => exact q201_ HR319_0.out); (case s2 => exact HC319_0.out); (case s3 => exact q201_ HR320_0.out); (case s4 => exact HC320_0.out); rintro e w' ⟨rfl, ⟨nd, rfl⟩⟩; (try exact q447_))); try (go_quiet ((go_at_call 8; (with_reducible refine (laws_eqIntS.calls k1 _ _ (rd_L1 l0 x5_1) _ _ (rd_L1 l1 x5_1) false _ ?s1 ?s2 ?s3 ?s4 A7.out).mono ?_); (case s1 => exact q201_ HR319_0.out); (case s2 => exact HC319_0.out); (case s3 => exact q201_ HR320_0.out); (case s4 => exact HC320_0.out); rintro e w' ⟨rfl, ⟨nd, rfl⟩⟩; (try exact q447_))); have zz_ := trivial))
        go_ret
        exact ⟨qc8f_, qffa_⟩
      ·
       rw [if_neg c6] at H
       exact absurd H (by simp)
     ·
      rw [if_neg c5] at H
      exact absurd H (by simp)
    ·
     rw [if_neg c4] at H
     have c4b0 := decide_eq_false c4
     clear c4
     obtain rfl := Option.some.inj H
     go_wp2
     repeat (go_quiet (fail); try go_wp2)
     go_ret
     exact ⟨qc8f_, qffa_⟩
 ·
  rw [if_neg c3] at H
  have c3b0 := beq_eq_false_iff_ne.mpr c3
  have c3b1 := bne_iff_ne.mpr c3
  have c3b2 : (l0.length == l1.length) = false := q002_
  obtain rfl := Option.some.inj H
  go_enter Try.func9, Try.ntmps9
  go_wp2
  repeat (go_quiet (fail); try go_wp2)
  go_ret
  exact ⟨qc8f_, qffa_⟩

/-! ### laws_markIntS: function 11 -/
def laws_markIntS.l0 : Nat → List Int → Int → Int → Option (Int × List Int)
 | 0, _, _, _ => none
 | k + 1, x0, x1, x5 => if x5 < (x0.length : Int) then (if 0 ≤ x5 then (laws_markIntS.l0 k (x0.set (x5 : Int).toNat x1) (wrap64 (x1 + 1)) (wrap64 (x5 + 1))) else (none)) else (some (x1, x0))
def laws_markIntS.f (k : Nat) (l0 : List Int) (a1 : Int) : Option (Int × List Int) := laws_markIntS.l0 k l0 a1 0
theorem laws_markIntS.mono_l : ∀ k, (∀ y0 y1 y2, LeO (laws_markIntS.l0 k y0 y1 y2) (laws_markIntS.l0 (k + 1) y0 y1 y2))
 | 0 => fun _ _ _ r h => by simp [laws_markIntS.l0] at h
 | k + 1 => by
  have ih0 := laws_markIntS.mono_l k
  ·
   intro y0 y1 y2
   unfold laws_markIntS.l0
   repeat' (with_reducible first | exact ih0 _ _ _ | exact LeO.refl _ | exact LeO.none _ | refine LeO.ite ?_ ?_ | refine LeO.bind ?_ (fun _ => ?_))
theorem laws_markIntS.mono : ∀ a0 a1 k, LeO (laws_markIntS.f k a0 a1) (laws_markIntS.f (k + 1) a0 a1) := by
 intro a0 a1 k
 have ih0 := laws_markIntS.mono_l k
 unfold laws_markIntS.f
 repeat' (with_reducible first | exact ih0 _ _ _ | exact LeO.refl _ | exact LeO.none _ | refine LeO.ite ?_ ?_ | refine LeO.bind ?_ (fun _ => ?_))
theorem laws_markIntS.calls (k : Nat) (P0_ : Nat → Prop) (u9000_ : Value) (l0 : List Int) (a1 : Int) (r1 : Int) (r2 : List Int) (w0 w : World) (hB : Below w0.heap.size w0 w) (ho0 : Kd.R (Kd.int .i64) 3 w w0.heap.size P0_ u9000_ l0) (h : laws_markIntS.f k l0 a1 = some (r1, r2)) :
  Calls Try.prog 11 #[u9000_, .int .i64 a1] w fun e w' => e = .returned (.int .i64 r1) ∧ Kd.R (Kd.int .i64) 3 w' w0.heap.size (fun k_ => (P0_ k_ ∨ w.heap.size ≤ k_)) u9000_ r2 ∧ Below w0.heap.size w0 w' ∧ Kept w w' (fun k_ => P0_ k_) := by
 have HO0 := Aside0.mk (show Kd.R (Kd.int .i64) 3 w w0.heap.size (fun k_ => (P0_ k_ ∨ w.heap.size ≤ k_)) u9000_ l0 from Kd.R_mono ho0 (fun k_ hk => (.inl hk)))
 have HK := Aside0.mk (Kept.refl w (fun k_ => P0_ k_))
 have HW0 := Aside0.mk hB.size
 have HB := Aside0.mk hB
 clear hB
 unfold laws_markIntS.f at h
 have H := h; clear h
 have H' := Aside0.mk H
 clear H
 go_enter Try.func11, Try.ntmps11
 go_wp2
 go_loopg [1, 5] k (fun kq v1 v5 w' => ∃ (x0_1 : List Int) (x1_1 : Int) (x5_1 : Int), v1 = .int .i64 x1_1 ∧ v5 = .int .i64 x5_1 ∧ Aside0 (laws_markIntS.l0 kq x0_1 x1_1 x5_1 = some (r1, r2)) ∧ Aside0 (kq ≤ k) ∧ Aside0 (Kd.R (Kd.int .i64) 3 w' w0.heap.size (fun k_ => (P0_ k_ ∨ w.heap.size ≤ k_)) u9000_ x0_1) ∧ Aside0 (Kept w w' (fun k_ => P0_ k_)) ∧ Aside0 (Below w0.heap.size w0 w'))
 case atStart => exact ⟨(l0), (a1), (0), qc8f_, qc8f_, H', ⟨Nat.le_refl _⟩, ⟨q9d5_ HO0.out⟩, ⟨qf72_⟩, ⟨q0c4_⟩⟩
 case round =>
  clear H'; try clear c1; try clear p2
  obtain ⟨x0_1, x1_1, x5_1, rfl, rfl, HA, HK1, HO_0, HK, HB⟩ := hrel
  cases gk with
  | zero => exact absurd HA.out (by simp [laws_markIntS.l0])
  | succ k1 =>
   have H := HA.out
   clear HA
   simp only [laws_markIntS.l0] at H
   by_cases c3 : x5_1 < (x0_1.length : Int)
   ·
    rw [if_pos c3] at H
    have c3b0 := decide_eq_true c3
    clear c3
    by_cases c4 : 0 ≤ x5_1
    ·
     rw [if_pos c4] at H
     have c4b0 := decide_eq_true c4
     clear c4
     obtain ⟨y322, hy322⟩ : ∃ y_ : List Int, y_ = (x0_1.set (x5_1 : Int).toNat x1_1) := ⟨_, rfl⟩
     replace H : (laws_markIntS.l0 k1 y322 (wrap64 (x1_1 + 1)) (wrap64 (x5_1 + 1))) = some (r1, r2) := by first | (rw [hy322]; with_reducible exact H) | (have H2_ := (Option.bind_some _ _).symm.trans H; rw [hy322]; with_reducible exact H2_) | (have H2_ := (Option.bind_some _ _).symm.trans H; with_reducible exact H2_) | with_reducible exact H | (rw [hy322]; exact H) | exact H
     have Ny322 := Aside0.mk hy322
     clear hy322
     have H' := Aside0.mk H
     clear H
     obtain ⟨Ao6, co6, eo6⟩ := Kd.R_slice HO_0.out
     subst eo6
     have p5 : 0 ≤ (x5_1 : Int) := of_decide_eq_true qe84_
     have q5 : (x5_1 : Int) < ((x0_1.length : Int) : Int) := of_decide_eq_true qe84_
     obtain ⟨go5, co5, eo5, gb5, gl5, cl5, HG5⟩ := Kd.R_form HO_0.out (by omega)
     (first | cases eo5 | (injection eo5 with ea_ en_ ec_; (first | subst ea_ | (injection ea_ with ea_; subst ea_)); subst ec_; clear en_))
     have GB5 := Aside0.mk gb5
     have GG5 := Aside0.mk HG5
     clear gb5 gl5 HG5
     have HMgo5 := Aside0.mk (show (P0_ go5 ∨ w.heap.size ≤ go5) from (HO_0.out.1 _ rfl))
     obtain ⟨hx5_0, hf5_0⟩ := Kd.R_celln 0 HO_0.out (x5_1 : Int) p5 q5
     replace p5 := eq_true p5
     replace q5 := eq_true q5
     have HP7 := Kd.R_putg HO_0.out (x5_1 : Int) x1_1
     go_wp2_with (first | ((with_reducible refine gate_store (t := 3) (p := 15) rfl ?_); refine store_event (t := 3) (p := 15) (v := ?vo_w8) (w1 := (wr.setCell ⟨go5, (x5_1 : Int).toNat, none⟩ (.int .i64 x1_1))) ?hg ?ho ?hn ?hr ?_; (case ho => rfl); (case hg => rfl); (case hn => rfl); (case hr => exact qfba_); intro w8 hw; have hg : wr.grownBy w8 (some go5) := (by rw [hw]; exact HP7.2); have hp_ : Kd.R (Kd.int .i64) 3 w8 w0.heap.size (fun k_ => (P0_ k_ ∨ w.heap.size ≤ k_)) (.slice (some ⟨go5, 0, none⟩) x0_1.length co6) y322 := (by rw [hw, Ny322.out]; exact HP7.1); clear HP7; have n0_ := Aside0.mk (hp_); have n1_ := Aside0.mk ((by rw [hw]; exact below_set (HB.out) GB5.out : Below w0.heap.size w0 w8)); have n2_ := Aside0.mk (Kept.of_grown (S := (fun k_ => P0_ k_)) hg qf72_ (fun k_ e_ => (HO_0.out.1 k_ e_))); replace HO_0 := n0_; replace HB := n1_; replace HK := n2_; clear n0_ n1_ n2_; clear hg hw hp_))
     go_roundg k1
     case measure => have := HK1.out; omega
     case rel => exact ⟨(y322), (wrap64 (x1_1 + 1)), (wrap64 (x5_1 + 1)), qc8f_, qc8f_, H', ⟨by have := HK1.out; omega⟩, ⟨q9d5_ HO_0.out⟩, ⟨qf72_⟩, ⟨q0c4_⟩⟩
    ·
     rw [if_neg c4] at H
     exact absurd H (by simp)
   ·
    rw [if_neg c3] at H
    have c3b0 := decide_eq_false c3
    clear c3
    simp only [Option.some.injEq, Prod.mk.injEq] at H
    obtain ⟨rfl, rfl⟩ := H
    obtain ⟨Ao9, co9, eo9⟩ := Kd.R_slice HO_0.out
    subst eo9
    go_wp2
    go_ret
    exact ⟨qce7_, q9d5_ HO_0.out, q0c4_, qf72_⟩

/-! ### laws_heldIntS: function 12 -/
def laws_heldIntS.l0 : Nat → List Int → Int → Int → Option (Int)
 | 0, _, _, _ => none
 | k + 1, x0, x1, x5 => if x5 < (x0.length : Int) then (if 0 ≤ x5 then (if (rd x0 x5) = x1 then (laws_heldIntS.l0 k x0 (wrap64 (x1 + 1)) (wrap64 (x5 + 1))) else (some (-1))) else (none)) else (some x1)
def laws_heldIntS.f (k : Nat) (l0 : List Int) (a1 : Int) : Option (Int) := laws_heldIntS.l0 k l0 a1 0
theorem laws_heldIntS.mono_l : ∀ k, (∀ y0 y1 y2, LeO (laws_heldIntS.l0 k y0 y1 y2) (laws_heldIntS.l0 (k + 1) y0 y1 y2))
 | 0 => fun _ _ _ r h => by simp [laws_heldIntS.l0] at h
 | k + 1 => by
  have ih0 := laws_heldIntS.mono_l k
  ·
   intro y0 y1 y2
   unfold laws_heldIntS.l0
   repeat' (with_reducible first | exact ih0 _ _ _ | exact LeO.refl _ | exact LeO.none _ | refine LeO.ite ?_ ?_ | refine LeO.bind ?_ (fun _ => ?_))
theorem laws_heldIntS.mono : ∀ a0 a1 k, LeO (laws_heldIntS.f k a0 a1) (laws_heldIntS.f (k + 1) a0 a1) := by
 intro a0 a1 k
 have ih0 := laws_heldIntS.mono_l k
 unfold laws_heldIntS.f
 repeat' (with_reducible first | exact ih0 _ _ _ | exact LeO.refl _ | exact LeO.none _ | refine LeO.ite ?_ ?_ | refine LeO.bind ?_ (fun _ => ?_))
theorem laws_heldIntS.calls (k : Nat) (A0 : Option Addr) (c0 : Nat) (l0 : List Int) (a1 : Int) (r : Int) (w : World) (hr0 : Kd.C (Kd.int .i64) w A0 l0.length l0) (hc0 : l0.length ≤ c0) (h : laws_heldIntS.f k l0 a1 = some r) :
  Calls Try.prog 12 #[.slice A0 l0.length c0, .int .i64 a1] w fun e w' => e = .returned (.int .i64 r) ∧ Drawn0 w w' := by
 have HR0 := Aside0.mk hr0
 have HC0 := Aside0.mk hc0
 clear hr0 hc0
 have H : (laws_heldIntS.l0 k l0 a1 0) = some r := h
 clear h
 have H' := Aside0.mk H
 clear H
 go_enter Try.func12, Try.ntmps12
 go_wp2
 go_loopg [1, 5] k (fun kq v1 v5 w' => ∃ (x1_1 : Int) (x5_1 : Int), v1 = .int .i64 x1_1 ∧ v5 = .int .i64 x5_1 ∧ Aside0 (laws_heldIntS.l0 kq l0 x1_1 x5_1 = some r) ∧ Aside0 (kq ≤ k) ∧ Drawn0 w w')
 case atStart => exact ⟨(a1), (0), qc8f_, qc8f_, H', ⟨Nat.le_refl _⟩, qffa_⟩
 case round =>
  clear H'; try clear c1; try clear p2
  obtain ⟨x1_1, x5_1, rfl, rfl, HA, HK1, ⟨m1, rfl⟩⟩ := hrel
  cases gk with
  | zero => exact absurd HA.out (by simp [laws_heldIntS.l0])
  | succ k1 =>
   have H := HA.out
   clear HA
   simp only [laws_heldIntS.l0] at H
   by_cases c3 : x5_1 < (l0.length : Int)
   ·
    rw [if_pos c3] at H
    have c3b0 := decide_eq_true c3
    clear c3
    by_cases c4 : 0 ≤ x5_1
    ·
     rw [if_pos c4] at H
     have c4b0 := decide_eq_true c4
     clear c4
     by_cases c5 : (rd l0 x5_1) = x1_1
     ·
      rw [if_pos c5] at H
      have c5b0 := beq_iff_eq.mpr c5
      have c5b1 := bne_eq_false_iff_eq.mpr c5
      clear c5
      have H' := Aside0.mk H
      clear H
      have p324 : 0 ≤ (x5_1 : Int) := of_decide_eq_true qe84_
      have q324 : x5_1 < (l0.length : Int) := of_decide_eq_true qe84_
      obtain ⟨ad324, e324, hx324_0⟩ := Kd.at_int HR0.out x5_1 p324 q324
      cases e324
      replace p324 := eq_true p324
      replace q324 := eq_true q324
      go_wp2
      go_roundg k1
      case measure => have := HK1.out; omega
      case rel => exact ⟨(wrap64 (x1_1 + 1)), (wrap64 (x5_1 + 1)), qc8f_, qc8f_, H', ⟨by have := HK1.out; omega⟩, qffa_⟩
     ·
      rw [if_neg c5] at H
      have c5b0 := beq_eq_false_iff_ne.mpr c5
      have c5b1 := bne_iff_ne.mpr c5
      obtain rfl := Option.some.inj H
      have p324 : 0 ≤ (x5_1 : Int) := of_decide_eq_true qe84_
      have q324 : x5_1 < (l0.length : Int) := of_decide_eq_true qe84_
      obtain ⟨ad324, e324, hx324_0⟩ := Kd.at_int HR0.out x5_1 p324 q324
      cases e324
      replace p324 := eq_true p324
      replace q324 := eq_true q324
      go_wp2
      go_ret
      exact ⟨qc8f_, qffa_⟩
    ·
     rw [if_neg c4] at H
     exact absurd H (by simp)
   ·
    rw [if_neg c3] at H
    have c3b0 := decide_eq_false c3
    clear c3
    obtain rfl := Option.some.inj H
    go_wp2
    go_ret
    exact ⟨qc8f_, qffa_⟩

/-! ### slices_EqualFunc_rows: function 23 -/
def slices_EqualFunc_rows.f (k : Nat) (l0 : List (List Int)) (l1 : List (List Int)) : Option Bool := if l0.length = l1.length then (if l0.length ≤ 1099511627776 then eqRows (slices_Equal_int_int.f k) l0 l1 else none) else some false
theorem slices_EqualFunc_rows.mono : ∀ a0 a1 k, LeO (slices_EqualFunc_rows.f k a0 a1) (slices_EqualFunc_rows.f (k + 1) a0 a1) := by
 intro a0 a1 k
 unfold slices_EqualFunc_rows.f
 exact LeO.ite (LeO.ite (eqRows_mono _ _ (fun x y => slices_Equal_int_int.mono _ _ _) a0 a1) (LeO.none _)) (LeO.refl _)
theorem slices_EqualFunc_rows.calls (k : Nat) (A0 : Option Addr) (c0 : Nat) (l0 : List (List Int)) (A1 : Option Addr) (c1 : Nat) (l1 : List (List Int)) (r : Bool) (w : World) (hr0 : Kd.C (Kd.slice 3 (Kd.int .i64)) w A0 l0.length l0) (hc0 : l0.length ≤ c0) (hr1 : Kd.C (Kd.slice 3 (Kd.int .i64)) w A1 l1.length l1) (hc1 : l1.length ≤ c1) (h : slices_EqualFunc_rows.f k l0 l1 = some r) :
  Calls Try.prog 23 #[.slice A0 l0.length c0, .slice A1 l1.length c1, .func (.func 24) #[] #[]] w fun e w' => e = .returned (.bool r) ∧ Drawn0 w w' := by
 unfold slices_EqualFunc_rows.f at h
 split at h
 case isFalse hl =>
  obtain rfl := Option.some.inj h
  exact equalFunc_ne _ _ A0 c0 l0 A1 c1 l1 w hl
 case isTrue hl =>
  split at h
  case isFalse => cases h
  case isTrue hs =>
   exact equalFunc_any (slices_Equal_int_int.f k) 24 #[] (enters_of Try.func24 (by kernel_rfl) rfl) A0 c0 l0 A1 c1 l1 r w hr0 hr1 hl hs
    (fun B0 b0 x0 B1 b1 x1 t V g0 g1 g2 g3 ht => slices_Equal_int_int.calls k B0 b0 x0 B1 b1 x1 t V g0 g1 g2 g3 ht) h

/-! ### impl_FromUnitBlocks: function 7 -/
mutual
def impl_FromUnitBlocks.l0 : Nat → List (List Int) → List Int → Int → List (List Int) → Int → Int → Option (List Int × Bool)
 | 0, _, _, _, _, _, _ => none
 | k + 1, x0, x5, x6, x21, x22, x23 => if x23 < x22 then (if 0 ≤ x23 then (if x23 < (x21.length : Int) then (impl_FromUnitBlocks.l1 k x0 x5 x6 (rd_L1 x21 x23) x21 x22 x23 (rd_L1 x21 x23) ((rd_L1 x21 x23).length : Int) 0) else (none)) else (none)) else ((impl_UnitBlocks.f k x5).bind fun bt335 => (if bt335.2 = true then ((slices_EqualFunc_rows.f k bt335.1 x0).bind fun t339 => (if t339 = true then (some (x5, true)) else (some (([] : List Int), false)))) else (some (([] : List Int), false))))
def impl_FromUnitBlocks.l1 : Nat → List (List Int) → List Int → Int → List Int → List (List Int) → Int → Int → List Int → Int → Int → Option (List Int × Bool)
 | 0, _, _, _, _, _, _, _, _, _, _ => none
 | k + 1, x0, x5, x6, x8, x21, x22, x23, x27, x28, x29 => if x29 < x28 then (if 0 ≤ x29 then (if x29 < (x27.length : Int) then (if 0 ≤ (rd x27 x29) then (if (rd x27 x29) < (x5.length : Int) then (impl_FromUnitBlocks.l1 k x0 (x5.set ((rd x27 x29) : Int).toNat (wrap64 (x6 + (mx (wrap64 (x29 - 1)) 0)))) x6 x8 x21 x22 x23 x27 x28 (wrap64 (x29 + 1))) else (none)) else (none)) else (none)) else (none)) else (impl_FromUnitBlocks.l0 k x0 x5 (wrap64 (x6 + (x8.length : Int))) x21 x22 (wrap64 (x23 + 1)))
end
def impl_FromUnitBlocks.f (k : Nat) (l0 : List (List Int)) : Option (List Int × Bool) := (slices_Concat_int_int.f l0).bind fun t325 => ((impl_isOrder.f k t325).bind fun t328 => (if t328 = true then (if 0 ≤ (t325.length : Int) then (if ((t325.length : Int) : Int).toNat ≤ 35184372088832 then (impl_FromUnitBlocks.l0 k l0 (List.replicate ((t325.length : Int) : Int).toNat 0) 0 l0 (l0.length : Int) 0) else (none)) else (none)) else (some (([] : List Int), false))))
theorem impl_FromUnitBlocks.mono_l : ∀ k, (∀ y0 y1 y2 y3 y4 y5, LeO (impl_FromUnitBlocks.l0 k y0 y1 y2 y3 y4 y5) (impl_FromUnitBlocks.l0 (k + 1) y0 y1 y2 y3 y4 y5)) ∧ (∀ y0 y1 y2 y3 y4 y5 y6 y7 y8 y9, LeO (impl_FromUnitBlocks.l1 k y0 y1 y2 y3 y4 y5 y6 y7 y8 y9) (impl_FromUnitBlocks.l1 (k + 1) y0 y1 y2 y3 y4 y5 y6 y7 y8 y9))
 | 0 => ⟨fun _ _ _ _ _ _ r h => by simp [impl_FromUnitBlocks.l0] at h, fun _ _ _ _ _ _ _ _ _ _ r h => by simp [impl_FromUnitBlocks.l1] at h⟩
 | k + 1 => by
  obtain ⟨ih0, ih1⟩ := impl_FromUnitBlocks.mono_l k
  refine ⟨?_, ?_⟩
  ·
   intro y0 y1 y2 y3 y4 y5
   unfold impl_FromUnitBlocks.l0
   repeat' (with_reducible first | exact ih0 _ _ _ _ _ _ | exact ih1 _ _ _ _ _ _ _ _ _ _ | exact impl_UnitBlocks.mono _ _ | exact impl_isOrder.mono _ _ | exact slices_EqualFunc_rows.mono _ _ _ | exact LeO.refl _ | exact LeO.none _ | refine LeO.ite ?_ ?_ | refine LeO.bind ?_ (fun _ => ?_))
  ·
   intro y0 y1 y2 y3 y4 y5 y6 y7 y8 y9
   unfold impl_FromUnitBlocks.l1
   repeat' (with_reducible first | exact ih0 _ _ _ _ _ _ | exact ih1 _ _ _ _ _ _ _ _ _ _ | exact impl_UnitBlocks.mono _ _ | exact impl_isOrder.mono _ _ | exact slices_EqualFunc_rows.mono _ _ _ | exact LeO.refl _ | exact LeO.none _ | refine LeO.ite ?_ ?_ | refine LeO.bind ?_ (fun _ => ?_))
theorem impl_FromUnitBlocks.mono : ∀ a0 k, LeO (impl_FromUnitBlocks.f k a0) (impl_FromUnitBlocks.f (k + 1) a0) := by
 intro a0 k
 obtain ⟨ih0, ih1⟩ := impl_FromUnitBlocks.mono_l k
 unfold impl_FromUnitBlocks.f
 repeat' (with_reducible first | exact ih0 _ _ _ _ _ _ | exact ih1 _ _ _ _ _ _ _ _ _ _ | exact impl_UnitBlocks.mono _ _ | exact impl_isOrder.mono _ _ | exact slices_EqualFunc_rows.mono _ _ _ | exact LeO.refl _ | exact LeO.none _ | refine LeO.ite ?_ ?_ | refine LeO.bind ?_ (fun _ => ?_))
theorem impl_FromUnitBlocks.calls (k : Nat) (A0 : Option Addr) (c0 : Nat) (l0 : List (List Int)) (r1 : List Int) (r2 : Bool) (w : World) (hr0 : Kd.C (Kd.slice 3 (Kd.int .i64)) w A0 l0.length l0) (hc0 : l0.length ≤ c0) (h : impl_FromUnitBlocks.f k l0 = some (r1, r2)) :
  Calls Try.prog 7 #[.slice A0 l0.length c0] w fun e w' => ∃ v0_ : Value, e = .returned (.tuple #[v0_, .bool r2]) ∧ Kd.R (Kd.int .i64) 3 w' w.heap.size (fun _ => True) v0_ r1 ∧ Below w.heap.size w w' := by
 have HR0 := Aside0.mk hr0
 have HC0 := Aside0.mk hc0
 clear hr0 hc0
 have HB := Aside0.mk (Below.refl w.heap.size w)
 unfold impl_FromUnitBlocks.f at h
 have H := h; clear h
 obtain ⟨t325, A2, H⟩ := ob_ H
 obtain ⟨t328, A3, H⟩ := ob_ H
 by_cases c4 : t328 = true
 ·
  subst c4
  rw [if_pos rfl] at H
  by_cases c5 : 0 ≤ (t325.length : Int)
  ·
   rw [if_pos c5] at H
   have c5b0 := eq_true c5
   have c5b1 := decide_eq_true c5
   clear c5
   by_cases c6 : ((t325.length : Int) : Int).toNat ≤ 35184372088832
   ·
    rw [if_pos c6] at H
    have c6b0 := eq_true c6
    have c6b1 := decide_eq_true c6
    clear c6
    obtain ⟨y329, hy329⟩ : ∃ y_ : List Int, y_ = (List.replicate ((t325.length : Int) : Int).toNat 0) := ⟨_, rfl⟩
    replace H : (impl_FromUnitBlocks.l0 k l0 y329 0 l0 (l0.length : Int) 0) = some (r1, r2) := by first | (rw [hy329]; with_reducible exact H) | (have H2_ := (Option.bind_some _ _).symm.trans H; rw [hy329]; with_reducible exact H2_) | (have H2_ := (Option.bind_some _ _).symm.trans H; with_reducible exact H2_) | with_reducible exact H | (rw [hy329]; exact H) | exact H
    have Ny329 := Aside0.mk hy329
    clear hy329
    have H' := Aside0.mk H
    clear H
    go_enter Try.func7, Try.ntmps7
    go_wp2_with (first | ((with_reducible refine gate_callee (f := 20) rfl ?_); refine gl_ 14 Try.func20 #[.slice A0 l0.length c0] ?_; (with_reducible refine (slices_Concat_int_int.calls _ _ l0 t325 _ ?s1 ?s2 A2.out).mono ?_); (case s1 => exact q201_ HR0.out); (case s2 => exact HC0.out); rintro e w7 ⟨v326, rfl, ho0, hb⟩; refine ⟨_, rfl, ?_⟩; have HO327 := Aside0.mk (Kd.R_lower ho0 (below_size q0c4_)); replace HB := Aside0.mk (below_step q0c4_ hb); clear hb ho0; obtain ⟨Ao8, co8, eo8⟩ := Kd.R_slice HO327.out; subst eo8) | ((with_reducible refine gate_callee (f := 21) rfl ?_); refine gl_ 16 Try.func21 #[.slice Ao8 t325.length co8] ?_; (with_reducible refine (impl_isOrder.calls k _ _ t325 true _ ?s1 ?s2 A3.out).mono ?_); (case s1 => exact q5a8_ HO327.out); (case s2 => exact (Kd.R_reads' HO327.out).2.1); rintro e w9 ⟨rfl, hb⟩; refine ⟨_, rfl, ?_⟩; replace HO327 := Aside0.mk (Kd.R_below (q9d5_ HO327.out) hb); replace HB := Aside0.mk (below_step q0c4_ hb); clear hb) | ((with_reducible refine gate_dst (N := 20) rfl ?_); refine Kd.R_make (Kd.int .i64) _ 3 rfl (N := 20) rfl 24 _ _ rfl (t325.length : Int) rfl rfl Try.underlying24 (.int .i64 0) 8 info3 rfl (by decide) (by omega) 0 (ok := fun _ => True) (okp := fun _ => True) rfl (fun _ hk => hk) trivial (of_decide_eq_true qe84_) (Nat.le_trans (Nat.mul_le_mul_right _ (of_decide_eq_true qe84_ : (t325.length : Int).toNat ≤ 35184372088832)) (by omega)) (Below.refl _ _) (Nat.le_refl _) ?_; intro v330 w10 ho11 hb hg_ hnew_; clear hg_ hnew_; (first | rw [← Ny329.out] at ho11 | (simp only [Int.reduceToNat] at ho11; rw [← Ny329.out] at ho11)); have n0_ := Aside0.mk (Kd.R_elder' (q9d5_ HO327.out) (Kd.R_base ho11) hb); have n1_ := Aside0.mk (Kd.R_lower (Kd.R_new' ho11 (Kd.R_lt (q9d5_ HO327.out))) (below_size q0c4_)); have n2_ := Aside0.mk (below_step q0c4_ hb); replace HO327 := n0_; have HO331 := n1_; replace HB := n2_; clear n0_ n1_ n2_; clear hb ho11))
    go_loopg [6, 23] k (fun kq v6 v23 w' => ∃ (x5_1 : List Int) (x6_1 : Int) (x23_1 : Int), v6 = .int .i64 x6_1 ∧ v23 = .int .i64 x23_1 ∧ Aside0 (impl_FromUnitBlocks.l0 kq l0 x5_1 x6_1 l0 (l0.length : Int) x23_1 = some (r1, r2)) ∧ Aside0 (kq ≤ k) ∧ Aside0 (Kd.R (Kd.int .i64) 3 w' w.heap.size (fun _ => True) v330 x5_1) ∧ Aside0 (Below w.heap.size w w'))
    case atStart => exact ⟨(y329), (0), (0), qc8f_, qc8f_, H', ⟨Nat.le_refl _⟩, ⟨q7d9_ HO331.out⟩, ⟨q0c4_⟩⟩
    case round =>
     clear H'; try clear c2; try clear p2; try clear c4; try clear c5; try clear c5b0; try clear c5b1; try clear c6; try clear c6b0; try clear c6b1; try clear c7
     obtain ⟨x5_1, x6_1, x23_1, rfl, rfl, HA, HK1, HO_5, HB⟩ := hrel
     cases gk with
     | zero => exact absurd HA.out (by simp [impl_FromUnitBlocks.l0])
     | succ k1 =>
      have H := HA.out
      clear HA
      simp only [impl_FromUnitBlocks.l0] at H
      by_cases c12 : x23_1 < (l0.length : Int)
      ·
       rw [if_pos c12] at H
       have c12b0 := decide_eq_true c12
       clear c12
       by_cases c13 : 0 ≤ x23_1
       ·
        rw [if_pos c13] at H
        have c13b0 := decide_eq_true c13
        clear c13
        by_cases c14 : x23_1 < (l0.length : Int)
        ·
         rw [if_pos c14] at H
         have c14b0 := decide_eq_true c14
         clear c14
         have H' := Aside0.mk H
         clear H
         have p332 : 0 ≤ (x23_1 : Int) := of_decide_eq_true qe84_
         have q332 : x23_1 < (l0.length : Int) := of_decide_eq_true qe84_
         obtain ⟨ad332, A332_0, c332_0, e332, hx332_0, hl332_0, hi332_0⟩ := at_L1 HR0.out x23_1 p332 q332
         cases e332
         (try (replace hx332_0 := (HB.out.cell (World.block_lt_of_cell? w _ hx332_0)).trans hx332_0))
         have HR332_0 := Aside0.mk hi332_0
         have HC332_0 := Aside0.mk hl332_0
         clear hi332_0 hl332_0
         replace p332 := eq_true p332
         replace q332 := eq_true q332
         go_wp2
         go_loopg [29] k1 (fun kq v29 w' => ∃ (x5_2 : List Int) (x29_2 : Int), v29 = .int .i64 x29_2 ∧ Aside0 (impl_FromUnitBlocks.l1 kq l0 x5_2 x6_1 (rd_L1 l0 x23_1) l0 (l0.length : Int) x23_1 (rd_L1 l0 x23_1) ((rd_L1 l0 x23_1).length : Int) x29_2 = some (r1, r2)) ∧ Aside0 (kq ≤ k1) ∧ Aside0 (Kd.R (Kd.int .i64) 3 w' w.heap.size (fun _ => True) v330 x5_2) ∧ Aside0 (Below w.heap.size w w'))
         case atStart => exact ⟨(x5_1), (0), qc8f_, H', ⟨Nat.le_refl _⟩, ⟨q9d5_ HO_5.out⟩, ⟨q0c4_⟩⟩
         case round =>
          clear H'; try clear c1; try clear c2; try clear p2; try clear c3; try clear p3; try clear q3; try clear hx3; try clear c4; try clear c5; try clear c5b0; try clear c5b1; try clear c6; try clear c6b0; try clear c6b1; try clear c7; try clear c12; try clear c12b0; try clear c13; try clear c13b0; try clear c14; try clear c14b0; try clear hx332_0; try clear p2; try clear p332; try clear q332
          obtain ⟨x5_2, x29_2, rfl, HA, HK2, HO_5, HB⟩ := hrel
          cases gk with
          | zero => exact absurd HA.out (by simp [impl_FromUnitBlocks.l1])
          | succ k2 =>
           have H := HA.out
           clear HA
           simp only [impl_FromUnitBlocks.l1] at H
           by_cases c15 : x29_2 < ((rd_L1 l0 x23_1).length : Int)
           ·
            rw [if_pos c15] at H
            have c15b0 := decide_eq_true c15
            clear c15
            by_cases c16 : 0 ≤ x29_2
            ·
             rw [if_pos c16] at H
             have c16b0 := decide_eq_true c16
             clear c16
             by_cases c17 : x29_2 < ((rd_L1 l0 x23_1).length : Int)
             ·
              rw [if_pos c17] at H
              have c17b0 := decide_eq_true c17
              clear c17
              obtain ⟨ji18, hji18⟩ : ∃ j_ : Int, (mx (wrap64 (x29_2 - 1)) 0) = j_ := ⟨_, rfl⟩
              replace H : (if 0 ≤ (rd (rd_L1 l0 x23_1) x29_2) then (if (rd (rd_L1 l0 x23_1) x29_2) < (x5_2.length : Int) then (impl_FromUnitBlocks.l1 k2 l0 (x5_2.set ((rd (rd_L1 l0 x23_1) x29_2) : Int).toNat (wrap64 (x6_1 + (ji18)))) x6_1 (rd_L1 l0 x23_1) l0 (l0.length : Int) x23_1 (rd_L1 l0 x23_1) ((rd_L1 l0 x23_1).length : Int) (wrap64 (x29_2 + 1))) else (none)) else (none)) = some (r1, r2) := by first | (rw [hji18] at H; exact H) | (simp only [hji18] at H ⊢; exact H)
              have hji18_ : (if (wrap64 (x29_2 - 1)) < 0 then 0 else (wrap64 (x29_2 - 1))) = ji18 := hji18
              by_cases c19 : 0 ≤ (rd (rd_L1 l0 x23_1) x29_2)
              ·
               rw [if_pos c19] at H
               have c19b0 := decide_eq_true c19
               clear c19
               by_cases c20 : (rd (rd_L1 l0 x23_1) x29_2) < (x5_2.length : Int)
               ·
                rw [if_pos c20] at H
                have c20b0 := decide_eq_true c20
                clear c20
                obtain ⟨y334, hy334⟩ : ∃ y_ : List Int, y_ = (x5_2.set ((rd (rd_L1 l0 x23_1) x29_2) : Int).toNat (wrap64 (x6_1 + (ji18)))) := ⟨_, rfl⟩
                replace H : (impl_FromUnitBlocks.l1 k2 l0 y334 x6_1 (rd_L1 l0 x23_1) l0 (l0.length : Int) x23_1 (rd_L1 l0 x23_1) ((rd_L1 l0 x23_1).length : Int) (wrap64 (x29_2 + 1))) = some (r1, r2) := by first | (rw [hy334]; with_reducible exact H) | (have H2_ := (Option.bind_some _ _).symm.trans H; rw [hy334]; with_reducible exact H2_) | (have H2_ := (Option.bind_some _ _).symm.trans H; with_reducible exact H2_) | with_reducible exact H | (rw [hy334]; exact H) | exact H
                have Ny334 := Aside0.mk hy334
                clear hy334
                have H' := Aside0.mk H
                clear H
                have p333 : 0 ≤ (x29_2 : Int) := of_decide_eq_true qe84_
                have q333 : x29_2 < ((rd_L1 l0 x23_1).length : Int) := of_decide_eq_true qe84_
                obtain ⟨ad333, e333, hx333_0⟩ := Kd.at_int HR332_0.out x29_2 p333 q333
                cases e333
                (try (replace hx333_0 := (HB.out.cell (World.block_lt_of_cell? w _ hx333_0)).trans hx333_0))
                replace p333 := eq_true p333
                replace q333 := eq_true q333
                have p21 : 0 ≤ ((rd (rd_L1 l0 x23_1) x29_2) : Int) := of_decide_eq_true qe84_
                have q21 : ((rd (rd_L1 l0 x23_1) x29_2) : Int) < ((x5_2.length : Int) : Int) := of_decide_eq_true qe84_
                obtain ⟨go21, co21, eo21, gb21, gl21, cl21, HG21⟩ := Kd.R_form HO_5.out (by omega)
                (first | cases eo21 | (injection eo21 with ea_ en_ ec_; (first | subst ea_ | (injection ea_ with ea_; subst ea_)); subst ec_; clear en_))
                have GB21 := Aside0.mk gb21
                have GG21 := Aside0.mk HG21
                clear gb21 gl21 HG21
                obtain ⟨hx21_0, hf21_0⟩ := Kd.R_celln 0 HO_5.out ((rd (rd_L1 l0 x23_1) x29_2) : Int) p21 q21
                replace p21 := eq_true p21
                replace q21 := eq_true q21
                have HP22 := Kd.R_putg HO_5.out ((rd (rd_L1 l0 x23_1) x29_2) : Int) (wrap64 (x6_1 + (ji18)))
                go_wp2_with (first | ((with_reducible refine gate_store (t := 3) (p := 41) rfl ?_); refine store_event (t := 3) (p := 41) (v := ?vo_w23) (w1 := (wr.setCell ⟨go21, ((rd (rd_L1 l0 x23_1) x29_2) : Int).toNat, none⟩ (.int .i64 (wrap64 (x6_1 + (ji18)))))) ?hg ?ho ?hn ?hr ?_; (case ho => rfl); (case hg => rfl); (case hn => rfl); (case hr => exact qfba_); intro w23 hw; have hg : wr.grownBy w23 (some go21) := (by rw [hw]; exact HP22.2); have hp_ : Kd.R (Kd.int .i64) 3 w23 w.heap.size (fun _ => True) (.slice (some ⟨go21, 0, none⟩) x5_2.length co21) y334 := (by rw [hw, Ny334.out]; exact HP22.1); clear HP22; replace HO_5 := Aside0.mk (hp_); replace HB := Aside0.mk ((by rw [hw]; exact below_set (HB.out) GB21.out : Below w.heap.size w w23)); clear hg hw hp_))
                go_roundg k2
                case measure => have := HK1.out; have := HK2.out; omega
                case rel => exact ⟨(y334), (wrap64 (x29_2 + 1)), qc8f_, H', ⟨q37b_ HK1.out HK2.out⟩, ⟨q9d5_ HO_5.out⟩, ⟨q0c4_⟩⟩
               ·
                rw [if_neg c20] at H
                exact absurd H (by simp)
              ·
               rw [if_neg c19] at H
               exact absurd H (by simp)
             ·
              rw [if_neg c17] at H
              exact absurd H (by simp)
            ·
             rw [if_neg c16] at H
             exact absurd H (by simp)
           ·
            rw [if_neg c15] at H
            have c15b0 := decide_eq_false c15
            clear c15
            have H' := Aside0.mk H
            clear H
            go_wp2
            go_roundg k2
            case measure => have := HK1.out; have := HK2.out; omega
            case rel => exact ⟨(x5_2), (wrap64 (x6_1 + ((rd_L1 l0 x23_1).length : Int))), (wrap64 (x23_1 + 1)), qc8f_, qc8f_, H', ⟨q37b_ HK1.out HK2.out⟩, ⟨q9d5_ HO_5.out⟩, ⟨q0c4_⟩⟩
        ·
         rw [if_neg c14] at H
         exact absurd H (by simp)
       ·
        rw [if_neg c13] at H
        exact absurd H (by simp)
      ·
       rw [if_neg c12] at H
       have c12b0 := decide_eq_false c12
       clear c12
       obtain ⟨⟨t335, t336⟩, A24, H⟩ := ob_ H
       dsimp only at H
       by_cases c25 : t336 = true
       ·
        subst c25
        rw [if_pos rfl] at H
        obtain ⟨t339, A26, H⟩ := ob_ H
        by_cases c27 : t339 = true
        ·
         subst c27
         rw [if_pos rfl] at H
         simp only [Option.some.injEq, Prod.mk.injEq] at H
         obtain ⟨rfl, rfl⟩ := H
         obtain ⟨Ao28, co28, eo28⟩ := Kd.R_slice HO_5.out
         subst eo28
         go_wp2_with (first | ((with_reducible refine gate_callee (f := 22) rfl ?_); refine gl_ 50 Try.func22 #[.slice Ao28 x5_1.length co28] ?_; (with_reducible refine (impl_UnitBlocks.calls k1 _ _ x5_1 t335 true _ ?s1 ?s2 A24.out).mono ?_); (case s1 => exact q5a8_ HO_5.out); (case s2 => exact (Kd.R_reads' HO_5.out).2.1); rintro e w29 ⟨v337, rfl, ho0, hb⟩; refine ⟨_, rfl, ?_⟩; have n0_ := Aside0.mk (Kd.R_below (q9d5_ HO_5.out) hb); have n1_ := Aside0.mk (Kd.S_lower (Kd.S_new' ho0 (Kd.R_lt (q9d5_ HO_5.out))) (below_size q0c4_)); have n2_ := Aside0.mk (below_step q0c4_ hb); replace HO_5 := n0_; have HO338 := n1_; replace HB := n2_; clear n0_ n1_ n2_; clear hb ho0; obtain ⟨Ao30, co30, eo30⟩ := Kd.S_slice HO338.out; subst eo30) | (go_at_call 23; (with_reducible refine (slices_EqualFunc_rows.calls k1 _ _ t335 _ _ l0  true _ ?s1 ?s2 ?s3 ?s4 A26.out).mono ?_); (case s1 => exact q269_ HO338.out); (case s2 => exact (Kd.S_reads' HO338.out).2.1); (case s3 => exact qe02_ HR0.out); (case s4 => exact HC0.out); rintro e w' ⟨rfl, ⟨nd, rfl⟩⟩))
         go_ret2
         exact ⟨_, qce7_, q9d5_ HO_5.out, q0c4_⟩
        ·
         replace c27 := Bool.eq_false_iff.mpr c27
         subst c27
         rw [if_neg nf_] at H
         simp only [Option.some.injEq, Prod.mk.injEq] at H
         obtain ⟨rfl, rfl⟩ := H
         obtain ⟨Ao31, co31, eo31⟩ := Kd.R_slice HO_5.out
         subst eo31
         go_wp2_with (first | ((with_reducible refine gate_callee (f := 22) rfl ?_); refine gl_ 50 Try.func22 #[.slice Ao31 x5_1.length co31] ?_; (with_reducible refine (impl_UnitBlocks.calls k1 _ _ x5_1 t335 true _ ?s1 ?s2 A24.out).mono ?_); (case s1 => exact q5a8_ HO_5.out); (case s2 => exact (Kd.R_reads' HO_5.out).2.1); rintro e w32 ⟨v337, rfl, ho0, hb⟩; refine ⟨_, rfl, ?_⟩; have n0_ := Aside0.mk (Kd.R_below (q9d5_ HO_5.out) hb); have n1_ := Aside0.mk (Kd.S_lower (Kd.S_new' ho0 (Kd.R_lt (q9d5_ HO_5.out))) (below_size q0c4_)); have n2_ := Aside0.mk (below_step q0c4_ hb); replace HO_5 := n0_; have HO338 := n1_; replace HB := n2_; clear n0_ n1_ n2_; clear hb ho0; obtain ⟨Ao33, co33, eo33⟩ := Kd.S_slice HO338.out; subst eo33) | (go_at_call 23; (with_reducible refine (slices_EqualFunc_rows.calls k1 _ _ t335 _ _ l0  false _ ?s1 ?s2 ?s3 ?s4 A26.out).mono ?_); (case s1 => exact q269_ HO338.out); (case s2 => exact (Kd.S_reads' HO338.out).2.1); (case s3 => exact qe02_ HR0.out); (case s4 => exact HC0.out); rintro e w' ⟨rfl, ⟨nd, rfl⟩⟩))
         go_ret2
         exact ⟨_, qce7_, qf62_, q0c4_⟩
       ·
        replace c25 := Bool.eq_false_iff.mpr c25
        subst c25
        rw [if_neg nf_] at H
        simp only [Option.some.injEq, Prod.mk.injEq] at H
        obtain ⟨rfl, rfl⟩ := H
        obtain ⟨Ao34, co34, eo34⟩ := Kd.R_slice HO_5.out
        subst eo34
        go_wp2_with (first | ((with_reducible refine gate_callee (f := 22) rfl ?_); refine gl_ 50 Try.func22 #[.slice Ao34 x5_1.length co34] ?_; (with_reducible refine (impl_UnitBlocks.calls k1 _ _ x5_1 t335 false _ ?s1 ?s2 A24.out).mono ?_); (case s1 => exact q5a8_ HO_5.out); (case s2 => exact (Kd.R_reads' HO_5.out).2.1); rintro e w35 ⟨v337, rfl, ho0, hb⟩; refine ⟨_, rfl, ?_⟩; have n0_ := Aside0.mk (Kd.R_below (q9d5_ HO_5.out) hb); have n1_ := Aside0.mk (Kd.S_lower (Kd.S_new' ho0 (Kd.R_lt (q9d5_ HO_5.out))) (below_size q0c4_)); have n2_ := Aside0.mk (below_step q0c4_ hb); replace HO_5 := n0_; have HO338 := n1_; replace HB := n2_; clear n0_ n1_ n2_; clear hb ho0))
        go_ret2
        exact ⟨_, qce7_, qf62_, q0c4_⟩
   ·
    rw [if_neg c6] at H
    exact absurd H (by simp)
  ·
   rw [if_neg c5] at H
   exact absurd H (by simp)
 ·
  replace c4 := Bool.eq_false_iff.mpr c4
  subst c4
  rw [if_neg nf_] at H
  simp only [Option.some.injEq, Prod.mk.injEq] at H
  obtain ⟨rfl, rfl⟩ := H
  go_enter Try.func7, Try.ntmps7
  go_wp2_with (first | ((with_reducible refine gate_callee (f := 20) rfl ?_); refine gl_ 14 Try.func20 #[.slice A0 l0.length c0] ?_; (with_reducible refine (slices_Concat_int_int.calls _ _ l0 t325 _ ?s1 ?s2 A2.out).mono ?_); (case s1 => exact q201_ HR0.out); (case s2 => exact HC0.out); rintro e w36 ⟨v326, rfl, ho0, hb⟩; refine ⟨_, rfl, ?_⟩; have HO327 := Aside0.mk (Kd.R_lower ho0 (below_size q0c4_)); replace HB := Aside0.mk (below_step q0c4_ hb); clear hb ho0; obtain ⟨Ao37, co37, eo37⟩ := Kd.R_slice HO327.out; subst eo37) | ((with_reducible refine gate_callee (f := 21) rfl ?_); refine gl_ 16 Try.func21 #[.slice Ao37 t325.length co37] ?_; (with_reducible refine (impl_isOrder.calls k _ _ t325 false _ ?s1 ?s2 A3.out).mono ?_); (case s1 => exact q5a8_ HO327.out); (case s2 => exact (Kd.R_reads' HO327.out).2.1); rintro e w38 ⟨rfl, hb⟩; refine ⟨_, rfl, ?_⟩; replace HO327 := Aside0.mk (Kd.R_below (q9d5_ HO327.out) hb); replace HB := Aside0.mk (below_step q0c4_ hb); clear hb))
  go_ret2
  exact ⟨_, qce7_, qf62_, q0c4_⟩

end Go.Proofs.Ytdhfildgjmkgaaa.PAll
