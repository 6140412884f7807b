-- written by a program of this session (wip/gen/xpatch.py over the translation); Lean checks it
import Derived.Test.YtdhfildgjmkgaaaPAllx0
import Derived.Test.YtdhfildgjmkgaaaPAllx1
namespace Go.Proofs.Ytdhfildgjmkgaaa.PAll
open Go.RowKit Go.Proofs.Ytdhfildgjmkgaaa.Hand Go.Proofs.YtdhfildgjmkgaaaW.PrintWords Go.Proofs.YtdhfildgjmkgaaaW.PrintLast Go.Proofs.YtdhfildgjmkgaaaW.PrintMore
attribute [local go_sem] max2_int min2_int max_two min_two max_three min_three max_four min_four   -- for this text's walks alone
set_option maxHeartbeats 8000000
set_option maxRecDepth 100000
set_option linter.unusedVariables false
set_option linter.unusedSimpArgs false

/-! ### spec_UnitBlocks: function 17 -/
mutual
def spec_UnitBlocks.j0 : Nat → List Int → Bool → Option ((List (List Int)) × Bool)
 | 0, _, _ => none
 | k + 1, x0, x14 => if x14 = true then (some (([] : List (List Int)), false)) else ((spec_vaFair.f k x0).bind fun t183 => (spec_UnitBlocks.l0 k x0 ([] : List (List Int)) t183 (t183.length : Int) 0))
def spec_UnitBlocks.l0 : Nat → List Int → List (List Int) → List Int → Int → Int → Option ((List (List Int)) × Bool)
 | 0, _, _, _, _, _ => none
 | k + 1, x0, x4, x16, x17, x18 => if x18 < x17 then (if 0 ≤ x18 then (if x18 < (x16.length : Int) then (if 0 ≤ (rd x16 x18) then (if (rd x16 x18) < (x0.length : Int) then (if (rd x0 (rd x16 x18)) = x18 then (if x4.length < 5864062014805 then ((some (x4 ++ [[]] : List (List Int))).bind fun y188 => (if 0 ≤ (wrap64 ((y188.length : Int) - 1)) then (if (wrap64 ((y188.length : Int) - 1)) < (y188.length : Int) then (if (rd_L1 y188 (wrap64 ((y188.length : Int) - 1))).length < 17592186044416 then (spec_UnitBlocks.l0 k x0 (y188.set ((wrap64 ((y188.length : Int) - 1)) : Int).toNat ((rd_L1 y188 (wrap64 ((y188.length : Int) - 1))) ++ [rd x16 x18])) x16 x17 (wrap64 (x18 + 1))) else (none)) else (none)) else (none))) else (none)) else (if 0 ≤ (wrap64 ((x4.length : Int) - 1)) then (if (wrap64 ((x4.length : Int) - 1)) < (x4.length : Int) then (if (rd_L1 x4 (wrap64 ((x4.length : Int) - 1))).length < 17592186044416 then (spec_UnitBlocks.l0 k x0 (x4.set ((wrap64 ((x4.length : Int) - 1)) : Int).toNat ((rd_L1 x4 (wrap64 ((x4.length : Int) - 1))) ++ [rd x16 x18])) x16 x17 (wrap64 (x18 + 1))) else (none)) else (none)) else (none))) else (none)) else (none)) else (none)) else (none)) else (some (x4, true))
end
def spec_UnitBlocks.f (k : Nat) (l0 : List Int) : Option ((List (List Int)) × Bool) := (spec_paParking.f k l0).bind fun t181 => (if t181 = true then ((spec_vaUnit.f k l0 1).bind fun t182 => (spec_UnitBlocks.j0 k l0 (!t182))) else (spec_UnitBlocks.j0 k l0 true))
theorem spec_UnitBlocks.mono_l : ∀ k, (∀ y0 y1, LeO (spec_UnitBlocks.j0 k y0 y1) (spec_UnitBlocks.j0 (k + 1) y0 y1)) ∧ (∀ y0 y1 y2 y3 y4, LeO (spec_UnitBlocks.l0 k y0 y1 y2 y3 y4) (spec_UnitBlocks.l0 (k + 1) y0 y1 y2 y3 y4))
 | 0 => ⟨fun _ _ r h => by simp [spec_UnitBlocks.j0] at h, fun _ _ _ _ _ r h => by simp [spec_UnitBlocks.l0] at h⟩
 | k + 1 => by
  obtain ⟨ih0, ih1⟩ := spec_UnitBlocks.mono_l k
  refine ⟨?_, ?_⟩
  ·
   intro y0 y1
   unfold spec_UnitBlocks.j0
   repeat' (with_reducible first | exact ih0 _ _ | exact ih1 _ _ _ _ _ | exact spec_paParking.mono _ _ | exact spec_vaFair.mono _ _ | exact spec_vaUnit.mono _ _ _ | exact LeO.refl _ | exact LeO.none _ | refine LeO.ite ?_ ?_ | refine LeO.bind ?_ (fun _ => ?_))
  ·
   intro y0 y1 y2 y3 y4
   unfold spec_UnitBlocks.l0
   repeat' (with_reducible first | exact ih0 _ _ | exact ih1 _ _ _ _ _ | exact spec_paParking.mono _ _ | exact spec_vaFair.mono _ _ | exact spec_vaUnit.mono _ _ _ | exact LeO.refl _ | exact LeO.none _ | refine LeO.ite ?_ ?_ | refine LeO.bind ?_ (fun _ => ?_))
theorem spec_UnitBlocks.mono : ∀ a0 k, LeO (spec_UnitBlocks.f k a0) (spec_UnitBlocks.f (k + 1) a0) := by
 intro a0 k
 obtain ⟨ih0, ih1⟩ := spec_UnitBlocks.mono_l k
 unfold spec_UnitBlocks.f
 repeat' (with_reducible first | exact ih0 _ _ | exact ih1 _ _ _ _ _ | exact spec_paParking.mono _ _ | exact spec_vaFair.mono _ _ | exact spec_vaUnit.mono _ _ _ | exact LeO.refl _ | exact LeO.none _ | refine LeO.ite ?_ ?_ | refine LeO.bind ?_ (fun _ => ?_))
theorem spec_UnitBlocks.calls (k : Nat) (A0 : Option Addr) (c0 : Nat) (l0 : List Int) (r1 : List (List Int)) (r2 : Bool) (w : World) (hr0 : Kd.C (Kd.int .i64) w A0 l0.length l0) (hc0 : l0.length ≤ c0) (h : spec_UnitBlocks.f k l0 = some (r1, r2)) :
  Calls Try.prog 17 #[.slice A0 l0.length c0] w fun e w' => ∃ v0_ : Value, e = .returned (.tuple #[v0_, .bool r2]) ∧ Kd.S (Kd.slice 3 (Kd.int .i64)) 24 w' w.heap.size (fun _ => True) v0_ r1 ∧ Below w.heap.size w w' := by
 have HR0 := Aside0.mk hr0
 have HC0 := Aside0.mk hc0
 clear hr0 hc0
 have HB := Aside0.mk (Below.refl w.heap.size w)
 unfold spec_UnitBlocks.f at h
 have H := h; clear h
 have HC2 := Aside0.mk H
 clear H
 go_enter Try.func17, Try.ntmps17
 go_upto_region 1 with (fail)
 go_cut [14] (fun v14 wc => ∃ (kq : Nat) (x14_1 : Bool), v14 = .bool x14_1 ∧ Aside0 (spec_UnitBlocks.j0 kq l0 x14_1 = some (r1, r2)) ∧ Aside0 (kq ≤ k) ∧ Aside0 (Below w.heap.size w wc))
 case first =>
  have H := HC2.out
  clear HC2
  obtain ⟨t181, A3, H⟩ := ob_ H
  by_cases c4 : t181 = true
  ·
   subst c4
   rw [if_pos rfl] at H
   obtain ⟨t182, A5, H⟩ := ob_ H
   have H' := Aside0.mk H
   clear H
   go_wp2_with (first | ((with_reducible refine gate_callee (f := 25) rfl ?_); refine gl_ 8 Try.func25 #[.slice A0 l0.length c0] ?_; (with_reducible refine (spec_paParking.calls k _ _ l0 true _ ?s1 ?s2 A3.out).mono ?_); (case s1 => exact qe02_ HR0.out); (case s2 => exact HC0.out); rintro e w6 ⟨rfl, hb⟩; refine ⟨_, rfl, ?_⟩; replace HB := Aside0.mk (below_step q0c4_ hb); clear hb) | (go_at_call 26; (with_reducible refine (spec_vaUnit.calls k _ _ l0 1 t182 _ ?s1 ?s2 A5.out).mono ?_); (case s1 => exact qe02_ HR0.out); (case s2 => exact HC0.out); rintro e w7 ⟨rfl, hb⟩; replace HB := Aside0.mk (below_step q0c4_ hb); clear hb))
   go_meet
   case rel => exact ⟨_, (!t182), qc8f_, H', ⟨by first | omega | exact Nat.le_refl _⟩, ⟨q0c4_⟩⟩
  ·
   replace c4 := Bool.eq_false_iff.mpr c4
   subst c4
   rw [if_neg nf_] at H
   have H' := Aside0.mk H
   clear H
   go_wp2_with (first | ((with_reducible refine gate_callee (f := 25) rfl ?_); refine gl_ 8 Try.func25 #[.slice A0 l0.length c0] ?_; (with_reducible refine (spec_paParking.calls k _ _ l0 false _ ?s1 ?s2 A3.out).mono ?_); (case s1 => exact qe02_ HR0.out); (case s2 => exact HC0.out); rintro e w8 ⟨rfl, hb⟩; refine ⟨_, rfl, ?_⟩; replace HB := Aside0.mk (below_step q0c4_ hb); clear hb))
   go_meet
   case rel => exact ⟨_, (true), qc8f_, H', ⟨by first | omega | exact Nat.le_refl _⟩, ⟨q0c4_⟩⟩
 case rest =>
  clear HC2; try clear c1; try clear c2; try clear p2; try clear c4
  obtain ⟨kq, x14_1, rfl, HA, HJ1, HB⟩ := hcut
  cases kq with
  | zero => exact absurd HA.out (by simp [spec_UnitBlocks.j0])
  | succ kj1 =>
   have H := HA.out
   clear HA
   simp only [spec_UnitBlocks.j0] at H
   by_cases c9 : x14_1 = true
   ·
    subst c9
    rw [if_pos rfl] at H
    simp only [Option.some.injEq, Prod.mk.injEq] at H
    obtain ⟨rfl, rfl⟩ := H
    go_wp2
    go_ret2
    exact ⟨_, qce7_, qc14_, q0c4_⟩
   ·
    replace c9 := Bool.eq_false_iff.mpr c9
    subst c9
    rw [if_neg nf_] at H
    obtain ⟨t183, A10, H⟩ := ob_ H
    have H' := Aside0.mk H
    clear H
    go_wp2_with (first | ((with_reducible refine gate_callee (f := 27) rfl ?_); refine gl_ 16 Try.func27 #[.slice A0 l0.length c0] ?_; (with_reducible refine (spec_vaFair.calls kj1 _ _ l0 t183 _ ?s1 ?s2 A10.out).mono ?_); (case s1 => exact qe02_ HR0.out); (case s2 => exact HC0.out); rintro e w11 ⟨v184, rfl, ho0, hb⟩; refine ⟨_, rfl, ?_⟩; have HO185 := Aside0.mk (Kd.R_lower ho0 (below_size q0c4_)); replace HB := Aside0.mk (below_step q0c4_ hb); clear hb ho0; obtain ⟨Ao12, co12, eo12⟩ := Kd.R_slice HO185.out; subst eo12))
    go_loopg [4, 18] kj1 (fun kq v4 v18 w' => ∃ (x4_2 : List (List Int)) (x18_2 : Int), v18 = .int .i64 x18_2 ∧ Aside0 (spec_UnitBlocks.l0 kq l0 x4_2 t183 (t183.length : Int) x18_2 = some (r1, r2)) ∧ Aside0 (kq ≤ kj1) ∧ Aside0 (Kd.S (Kd.slice 3 (Kd.int .i64)) 24 w' w.heap.size (fun k_ => some k_ ≠ ((.slice Ao12 t183.length co12) : Value).ownBlock) v4 x4_2) ∧ Aside0 (Kd.R (Kd.int .i64) 3 w' w.heap.size (fun _ => True) (.slice Ao12 t183.length co12) t183) ∧ Aside0 (Below w.heap.size w w'))
    case atStart => exact ⟨(([] : List (List Int))), (0), qc8f_, H', ⟨Nat.le_refl _⟩, ⟨qc14_⟩, ⟨q9d5_ HO185.out⟩, ⟨q0c4_⟩⟩
    case round =>
     clear H'; try clear c1; try clear c2; try clear p2; try clear c4; try clear c9; try clear p2
     obtain ⟨x4_2, x18_2, rfl, HA, HK2, HO_4, HO_16, HB⟩ := hrel
     cases gk with
     | zero => exact absurd HA.out (by simp [spec_UnitBlocks.l0])
     | succ k2 =>
      have H := HA.out
      clear HA
      simp only [spec_UnitBlocks.l0] at H
      by_cases c13 : x18_2 < (t183.length : Int)
      ·
       rw [if_pos c13] at H
       have c13b0 := decide_eq_true c13
       clear c13
       by_cases c14 : 0 ≤ x18_2
       ·
        rw [if_pos c14] at H
        have c14b0 := decide_eq_true c14
        clear c14
        by_cases c15 : x18_2 < (t183.length : Int)
        ·
         rw [if_pos c15] at H
         have c15b0 := decide_eq_true c15
         clear c15
         by_cases c16 : 0 ≤ (rd t183 x18_2)
         ·
          rw [if_pos c16] at H
          have c16b0 := decide_eq_true c16
          clear c16
          by_cases c17 : (rd t183 x18_2) < (l0.length : Int)
          ·
           rw [if_pos c17] at H
           have c17b0 := decide_eq_true c17
           clear c17
           by_cases c18 : (rd l0 (rd t183 x18_2)) = x18_2
           ·
            rw [if_pos c18] at H
            have c18b0 := beq_iff_eq.mpr c18
            have c18b1 := bne_eq_false_iff_eq.mpr c18
            clear c18
            by_cases c19 : x4_2.length < 5864062014805
            ·
             rw [if_pos c19] at H
             have LMc19 := Aside0.mk c19
             clear c19
             obtain ⟨y188, hy188⟩ : ∃ y_ : List (List Int), y_ = (x4_2 ++ [[]]) := ⟨_, rfl⟩
             replace H : (if 0 ≤ (wrap64 ((y188.length : Int) - 1)) then (if (wrap64 ((y188.length : Int) - 1)) < (y188.length : Int) then (if (rd_L1 y188 (wrap64 ((y188.length : Int) - 1))).length < 17592186044416 then (spec_UnitBlocks.l0 k2 l0 (y188.set ((wrap64 ((y188.length : Int) - 1)) : Int).toNat ((rd_L1 y188 (wrap64 ((y188.length : Int) - 1))) ++ [rd t183 x18_2])) t183 (t183.length : Int) (wrap64 (x18_2 + 1))) else (none)) else (none)) else (none)) = some (r1, r2) := by first | (rw [hy188]; with_reducible exact H) | (have H2_ := (Option.bind_some _ _).symm.trans H; rw [hy188]; with_reducible exact H2_) | (have H2_ := (Option.bind_some _ _).symm.trans H; with_reducible exact H2_) | with_reducible exact H | (rw [hy188]; exact H) | exact H
             have Ny188 := Aside0.mk hy188
             clear hy188
             obtain ⟨ji20, hji20⟩ : ∃ j_ : Int, (wrap64 ((y188.length : Int) - 1)) = j_ := ⟨_, rfl⟩
             replace H : (if 0 ≤ (ji20) then (if (ji20) < (y188.length : Int) then (if (rd_L1 y188 (ji20)).length < 17592186044416 then (spec_UnitBlocks.l0 k2 l0 (y188.set ((ji20) : Int).toNat ((rd_L1 y188 (ji20)) ++ [rd t183 x18_2])) t183 (t183.length : Int) (wrap64 (x18_2 + 1))) else (none)) else (none)) else (none)) = some (r1, r2) := by first | (rw [hji20] at H; exact H) | (simp only [hji20] at H ⊢; exact H)
             have hji20w : (IntKind.i64.wrap ((y188.length : Int) - 1)) = ji20 := (i64_w _).trans hji20
             by_cases c21 : 0 ≤ (ji20)
             ·
              rw [if_pos c21] at H
              have c21b0 := decide_eq_true c21
              clear c21
              by_cases c22 : (ji20) < (y188.length : Int)
              ·
               rw [if_pos c22] at H
               have c22b0 := decide_eq_true c22
               clear c22
               by_cases c23 : (rd_L1 y188 (ji20)).length < 17592186044416
               ·
                rw [if_pos c23] at H
                have LMc23 := Aside0.mk c23
                clear c23
                obtain ⟨y192, hy192⟩ : ∃ y_ : List Int, y_ = ((rd_L1 y188 (ji20)) ++ [rd t183 x18_2]) := ⟨_, rfl⟩
                replace H : (spec_UnitBlocks.l0 k2 l0 (y188.set ((ji20) : Int).toNat y192) t183 (t183.length : Int) (wrap64 (x18_2 + 1))) = some (r1, r2) := by first | (rw [hy192]; with_reducible exact H) | (have H2_ := (Option.bind_some _ _).symm.trans H; rw [hy192]; with_reducible exact H2_) | (have H2_ := (Option.bind_some _ _).symm.trans H; with_reducible exact H2_) | with_reducible exact H | (rw [hy192]; exact H) | exact H
                have Ny192 := Aside0.mk hy192
                clear hy192
                obtain ⟨y195, hy195⟩ : ∃ y_ : List (List Int), y_ = (y188.set ((ji20) : Int).toNat y192) := ⟨_, rfl⟩
                replace H : (spec_UnitBlocks.l0 k2 l0 y195 t183 (t183.length : Int) (wrap64 (x18_2 + 1))) = some (r1, r2) := by first | (rw [hy195]; with_reducible exact H) | (have H2_ := (Option.bind_some _ _).symm.trans H; rw [hy195]; with_reducible exact H2_) | (have H2_ := (Option.bind_some _ _).symm.trans H; with_reducible exact H2_) | with_reducible exact H | (rw [hy195]; exact H) | exact H
                have Ny195 := Aside0.mk hy195
                clear hy195
                have H' := Aside0.mk H
                clear H
                have p186 : 0 ≤ (x18_2 : Int) := of_decide_eq_true qe84_
                have q186 : x18_2 < (t183.length : Int) := of_decide_eq_true qe84_
                obtain ⟨ad186, e186, hx186_0⟩ := Kd.at_int (Kd.R_reads' HO_16.out).2.2 x18_2 p186 q186
                cases e186
                replace p186 := eq_true p186
                replace q186 := eq_true q186
                have p187 : 0 ≤ ((rd t183 x18_2) : Int) := of_decide_eq_true qe84_
                have q187 : (rd t183 x18_2) < (l0.length : Int) := of_decide_eq_true qe84_
                obtain ⟨ad187, e187, hx187_0⟩ := Kd.at_int HR0.out (rd t183 x18_2) p187 q187
                cases e187
                (try (replace hx187_0 := (HB.out.cell (World.block_lt_of_cell? w _ hx187_0)).trans hx187_0))
                replace p187 := eq_true p187
                replace q187 := eq_true q187
                go_wp2_with (first | ((with_reducible refine gate_builtin (b := .append) (xs := #[.tmp 29, .tmp 30]) rfl ?_); at_builtin; refine Kd.S_append (Kd.slice 3 (Kd.int .i64)) (w0 := w) w.heap.size rfl (.tmp 29) (.tmp 30) 22 24 (.slice none 0 0) 24 rfl Try.underlying22 info24 rfl (by decide) (by omega) u4 x4_2 [] [.slice none 0 0] (fun k_ => some k_ ≠ (.slice (some ad186) t183.length co12 : Value).ownBlock) (fun _ => False) rfl rfl ?aP (fun _ hk => hk.elim) ?aF ?aO ?aB ?aS ?aL ?_; (case aP => exact ⟨_, rfl, Kd.R_nil _ _ _ _ _⟩); (case aB => exact q0c4_); (case aF => exact (fun k_ hk => Kd.fresh' (Kd.R_lt (q9d5_ HO_16.out)) k_ hk)); (case aO => exact (q607_ HO_4.out)); (case aS => exact (below_size q0c4_)); (case aL => have := LMc19.out; omega); intro v189 w25 ho hb hg hat; rw [← Ny188.out] at ho; have n0_ := Aside0.mk (Kd.R_over' (q9d5_ HO_16.out) (Kd.S_typed (qd7e_ HO_4.out)) (by decide) hg); have n1_ := Aside0.mk (hb); have n2_ := Aside0.mk (ho); replace HO_16 := n0_; replace HB := n1_; have HO190 := n2_; clear n0_ n1_ n2_; clear ho hb hg hat; obtain ⟨Ao26, co26, eo26⟩ := Kd.S_slice HO190.out; subst eo26; have p191 : 0 ≤ ((ji20) : Int) := of_decide_eq_true qe84_; have q191 : (ji20) < (y188.length : Int) := of_decide_eq_true qe84_; obtain ⟨ad191, A191_0, c191_0, e191, hx191_0, hl191_0, hi191_0⟩ := at_L1 (Kd.S_reads' HO190.out).2.2 (ji20) p191 q191; cases e191; obtain ⟨ce191, hce191, hMe191, hcc191⟩ := Kd.S_get HO190.out [] (ji20) p191 (by first | exact q191 | exact of_decide_eq_true qe84_ | (have e_ := (Kd.S_reads' HO190.out).1; omega)); obtain ⟨ve191_0, rfl, ge191_0⟩ := hMe191; have hv191_0 := hcc191 0 _ rfl; rw [Nat.add_zero, show ((Kd.slice 3 (Kd.int .i64))).sz = 1 from rfl, Nat.mul_one] at hv191_0; replace hv191_0 := Option.some.inj (hv191_0.symm.trans hx191_0); rw [hv191_0] at ge191_0; have HL191_0 := Aside0.mk (show Kd.R (Kd.int .i64) 3 _ _ _ _ (rd_L1 y188 (ji20)) from ge191_0); clear hv191_0 ge191_0; have HX191_0 := Aside0.mk hx191_0; clear hcc191 hce191; have HR191_0 := Aside0.mk hi191_0; have HC191_0 := Aside0.mk hl191_0; clear hi191_0 hl191_0; replace p191 := eq_true p191; replace q191 := eq_true q191; obtain ⟨go27, co27, eo27, gb27, gl27, cl27, HG27⟩ := Kd.S_form HO190.out (by have h_ : ((ji20) : Int) < ((y188.length : Int) : Int) := of_decide_eq_true qe84_; have h2_ : 0 ≤ ((ji20) : Int) := (of_decide_eq_true qe84_); omega); (first | cases eo27 | (injection eo27 with ea_ en_ ec_; (first | subst ea_ | (injection ea_ with ea_; subst ea_)); subst ec_; clear en_)); have GB27 := Aside0.mk gb27; have GG27 := Aside0.mk HG27; clear gb27 gl27 HG27; (first | simp only [add_plain] at hx191_0 | skip); obtain ⟨oki27, ce27, hcl27, hM27, hcc27, _, _, hH27⟩ := Kd.S_elem HO190.out [] ((ji20) : Int) (of_decide_eq_true qe84_) (by have h_ : ((ji20) : Int) < ((y188.length : Int) : Int) := of_decide_eq_true qe84_; first | exact h_ | (have e_ := (Kd.S_reads' HO190.out).1; omega) | simpa using h_); obtain ⟨ve27_0, rfl, ge27_0⟩ := hM27; have hv27 := hcc27 0 _ rfl; have hX27 := HX191_0.out; (try simp only [add_plain] at hX27); (try simp only [Nat.add_zero] at hv27); (try rw [show ((Kd.slice 3 (Kd.int .i64))).sz = 1 from rfl, Nat.mul_one] at hv27); replace hv27 := Option.some.inj (hv27.symm.trans hX27); subst hv27; clear hX27 hcc27 hcl27; have UU27 := Aside0.mk (show Kd.R (Kd.int .i64) 3 _ w.heap.size oki27 (.slice A191_0 (rd_L1 y188 (ji20)).length c191_0) (rd_L1 y188 (ji20)) from ge27_0); have HH27 := Aside0.mk hH27; have HN27 := Aside0.mk (Kd.S_reads' HO190.out).1; clear hH27 ge27_0) | ((with_reducible refine gate_builtin (b := .append) (xs := #[.tmp 41, .tmp 43]) rfl ?_); at_builtin; refine Kd.R_append (Kd.int .i64) (w0 := w) w.heap.size rfl (.tmp 41) (.tmp 43) 24 3 (.int .i64 0) 8 rfl Try.underlying24 info3 rfl (by decide) (by omega) (.slice A191_0 (rd_L1 y188 (ji20)).length c191_0) (rd_L1 y188 (ji20)) (rd t183 x18_2) [.int .i64 (rd t183 x18_2)] (fun k_ => oki27 k_ ∨ ((fun k_ => some k_ ≠ (.slice (some ad186) t183.length co12 : Value).ownBlock)) k_ ∧ w25.heap.size ≤ k_) (fun _ => False) rfl rfl ?aP (fun _ hk => hk.elim) ?aF ?aO ?aB ?aS ?aL ?_; (case aP => exact rfl); (case aB => exact q0c4_); (case aF => exact (fun k_ hk => .inr ⟨Kd.fresh' (Kd.R_lt (q9d5_ HO_16.out)) k_ hk, hk⟩)); (case aO => exact (by (with_reducible repeat (first | apply Kd.R_alloc | apply Kd.R_drewN | apply Kd.R_drew)); exact Kd.R_mono UU27.out (fun _ hk => .inl hk))); (case aS => exact (below_size q0c4_)); (case aL => have := LMc23.out; omega); intro v193 w28 ho hb hg hat; rw [← Ny192.out] at ho; have n0_ := Aside0.mk (Kd.R_grown2 (q9d5_ HO_16.out) rfl hg (fun k_ e_ => (HL191_0.out.1 k_ e_).1)); have n1_ := Aside0.mk (hb); have n2_ := Aside0.mk (Kd.H_grown (Kd.H_widen (q912_ HH27.out)) hg (fun k_ e_ => .inl (UU27.out.1 k_ e_))); have n3_ := Aside0.mk (ho); replace HO_16 := n0_; replace HB := n1_; replace HH27 := n2_; have HO194 := n3_; clear n0_ n1_ n2_ n3_; clear ho hb hg hat; have p24 : 0 ≤ ((ji20) : Int) := of_decide_eq_true qe84_; have q24 : ((ji20) : Int) < ((y188.length : Int) : Int) := of_decide_eq_true qe84_; replace p24 := eq_true p24; replace q24 := eq_true q24; obtain ⟨Ao31, co31, eo31⟩ := Kd.R_slice HO194.out; subst eo31; obtain ⟨_, _, hraw29, _, _, hcc29, _⟩ := Kd.H_raw HH27.out (of_decide_eq_true qe84_) (by have h_ : ((ji20) : Int) < ((y188.length : Int) : Int) := of_decide_eq_true qe84_; first | exact h_ | (have e_ := (HN27.out); omega) | simpa using h_); obtain ⟨_, hfr29⟩ := Kd.H_at HH27.out (of_decide_eq_true qe84_) (by have h_ : ((ji20) : Int) < ((y188.length : Int) : Int) := of_decide_eq_true qe84_; first | exact h_ | (have e_ := (HN27.out); omega) | simpa using h_); have hx29_0 := hcc29 0 _ rfl; have hf29_0 := hfr29 0; (try simp only [Nat.add_zero] at hx29_0 hf29_0); (try rw [show ((Kd.slice 3 (Kd.int .i64))).sz = 1 from rfl, Nat.mul_one] at hx29_0); (try rw [show ((Kd.slice 3 (Kd.int .i64))).sz = 1 from rfl, Nat.mul_one] at hf29_0); have HP29 := Kd.S_seg0 HH27.out (of_decide_eq_true qe84_) (by have h_ : ((ji20) : Int) < ((y188.length : Int) : Int) := of_decide_eq_true qe84_; first | exact h_ | (have e_ := (HN27.out); omega) | simpa using h_) (seg := [.slice Ao31 y192.length co31]) (j := 0) (show 1 ≤ 1 from by decide) (x' := y192) (Kd.M_row HO194.out) (fun _ hk => hk); (try simp only [show ((Kd.slice 3 (Kd.int .i64))).sz = 1 from rfl, Nat.mul_one, Nat.add_zero] at HP29); clear hcc29 hfr29) | ((with_reducible refine gate_store (t := 24) (p := 45) rfl ?_); refine store_event (t := 24) (p := 45) (v := ?vo_w30) (w1 := (w28.setCell ⟨go27, ((ji20) : Int).toNat, none⟩ (.slice Ao31 y192.length co31))) ?hg ?ho ?hn ?hr ?_; (case ho => rfl); (case hg => rfl); (case hn => rfl); (case hr => exact qfba_); intro w30 hw; have hg : w28.grownBy w30 (some go27) := (by rw [hw]; exact HP29.2); have hp_ : Kd.S (Kd.slice 3 (Kd.int .i64)) 24 w30 w.heap.size (fun k_ => some k_ ≠ (.slice (some ad186) t183.length co12 : Value).ownBlock) (.slice (some ⟨go27, 0, none⟩) y188.length co26) y195 := (by rw [hw, Ny195.out]; exact HP29.1); clear HP29; have n0_ := Aside0.mk (Kd.R_over' (v := (.slice (some ⟨go27, 0, none⟩) y188.length co26)) (q9d5_ HO_16.out) (Kd.R_typed hraw29) (by decide) hg); have n1_ := Aside0.mk ((by rw [hw]; exact below_set HB.out GB27.out : Below w.heap.size w w30)); have n2_ := Aside0.mk (hp_); replace HO_16 := n0_; replace HB := n1_; have HO190 := n2_; clear n0_ n1_ n2_; clear hg hw hp_ hraw29))
                go_roundg k2
                case measure => have := HJ1.out; have := HK2.out; omega
                case rel => exact ⟨(y195), (wrap64 (x18_2 + 1)), qc8f_, H', ⟨q37b_ HJ1.out HK2.out⟩, ⟨qd7e_ HO190.out⟩, ⟨q9d5_ HO_16.out⟩, ⟨q0c4_⟩⟩
               ·
                rw [if_neg c23] at H
                exact absurd H (by simp)
              ·
               rw [if_neg c22] at H
               exact absurd H (by simp)
             ·
              rw [if_neg c21] at H
              exact absurd H (by simp)
            ·
             rw [if_neg c19] at H
             exact absurd H (by simp)
           ·
            rw [if_neg c18] at H
            have c18b0 := beq_eq_false_iff_ne.mpr c18
            have c18b1 := bne_iff_ne.mpr c18
            obtain ⟨ji32, hji32⟩ : ∃ j_ : Int, (wrap64 ((x4_2.length : Int) - 1)) = j_ := ⟨_, rfl⟩
            replace H : (if 0 ≤ (ji32) then (if (ji32) < (x4_2.length : Int) then (if (rd_L1 x4_2 (ji32)).length < 17592186044416 then (spec_UnitBlocks.l0 k2 l0 (x4_2.set ((ji32) : Int).toNat ((rd_L1 x4_2 (ji32)) ++ [rd t183 x18_2])) t183 (t183.length : Int) (wrap64 (x18_2 + 1))) else (none)) else (none)) else (none)) = some (r1, r2) := by first | (rw [hji32] at H; exact H) | (simp only [hji32] at H ⊢; exact H)
            have hji32w : (IntKind.i64.wrap ((x4_2.length : Int) - 1)) = ji32 := (i64_w _).trans hji32
            by_cases c33 : 0 ≤ (ji32)
            ·
             rw [if_pos c33] at H
             have c33b0 := decide_eq_true c33
             clear c33
             by_cases c34 : (ji32) < (x4_2.length : Int)
             ·
              rw [if_pos c34] at H
              have c34b0 := decide_eq_true c34
              clear c34
              by_cases c35 : (rd_L1 x4_2 (ji32)).length < 17592186044416
              ·
               rw [if_pos c35] at H
               have LMc35 := Aside0.mk c35
               clear c35
               obtain ⟨y197, hy197⟩ : ∃ y_ : List Int, y_ = ((rd_L1 x4_2 (ji32)) ++ [rd t183 x18_2]) := ⟨_, rfl⟩
               replace H : (spec_UnitBlocks.l0 k2 l0 (x4_2.set ((ji32) : Int).toNat y197) t183 (t183.length : Int) (wrap64 (x18_2 + 1))) = some (r1, r2) := by first | (rw [hy197]; with_reducible exact H) | (have H2_ := (Option.bind_some _ _).symm.trans H; rw [hy197]; with_reducible exact H2_) | (have H2_ := (Option.bind_some _ _).symm.trans H; with_reducible exact H2_) | with_reducible exact H | (rw [hy197]; exact H) | exact H
               have Ny197 := Aside0.mk hy197
               clear hy197
               obtain ⟨y200, hy200⟩ : ∃ y_ : List (List Int), y_ = (x4_2.set ((ji32) : Int).toNat y197) := ⟨_, rfl⟩
               replace H : (spec_UnitBlocks.l0 k2 l0 y200 t183 (t183.length : Int) (wrap64 (x18_2 + 1))) = some (r1, r2) := by first | (rw [hy200]; with_reducible exact H) | (have H2_ := (Option.bind_some _ _).symm.trans H; rw [hy200]; with_reducible exact H2_) | (have H2_ := (Option.bind_some _ _).symm.trans H; with_reducible exact H2_) | with_reducible exact H | (rw [hy200]; exact H) | exact H
               have Ny200 := Aside0.mk hy200
               clear hy200
               have H' := Aside0.mk H
               clear H
               have p186 : 0 ≤ (x18_2 : Int) := of_decide_eq_true qe84_
               have q186 : x18_2 < (t183.length : Int) := of_decide_eq_true qe84_
               obtain ⟨ad186, e186, hx186_0⟩ := Kd.at_int (Kd.R_reads' HO_16.out).2.2 x18_2 p186 q186
               cases e186
               replace p186 := eq_true p186
               replace q186 := eq_true q186
               have p187 : 0 ≤ ((rd t183 x18_2) : Int) := of_decide_eq_true qe84_
               have q187 : (rd t183 x18_2) < (l0.length : Int) := of_decide_eq_true qe84_
               obtain ⟨ad187, e187, hx187_0⟩ := Kd.at_int HR0.out (rd t183 x18_2) p187 q187
               cases e187
               (try (replace hx187_0 := (HB.out.cell (World.block_lt_of_cell? w _ hx187_0)).trans hx187_0))
               replace p187 := eq_true p187
               replace q187 := eq_true q187
               obtain ⟨Ao37, co37, eo37⟩ := Kd.S_slice HO_4.out
               subst eo37
               have p196 : 0 ≤ ((ji32) : Int) := of_decide_eq_true qe84_
               have q196 : (ji32) < (x4_2.length : Int) := of_decide_eq_true qe84_
               obtain ⟨ad196, A196_0, c196_0, e196, hx196_0, hl196_0, hi196_0⟩ := at_L1 (Kd.S_reads' HO_4.out).2.2 (ji32) p196 q196
               cases e196
               obtain ⟨ce196, hce196, hMe196, hcc196⟩ := Kd.S_get HO_4.out [] (ji32) p196 (by first | exact q196 | exact of_decide_eq_true qe84_ | (have e_ := (Kd.S_reads' HO_4.out).1; omega))
               obtain ⟨ve196_0, rfl, ge196_0⟩ := hMe196
               have hv196_0 := hcc196 0 _ rfl
               rw [Nat.add_zero, show ((Kd.slice 3 (Kd.int .i64))).sz = 1 from rfl, Nat.mul_one] at hv196_0
               replace hv196_0 := Option.some.inj (hv196_0.symm.trans hx196_0)
               rw [hv196_0] at ge196_0
               have HL196_0 := Aside0.mk (show Kd.R (Kd.int .i64) 3 _ _ _ _ (rd_L1 x4_2 (ji32)) from ge196_0)
               clear hv196_0 ge196_0
               have HX196_0 := Aside0.mk hx196_0
               clear hcc196 hce196
               have HR196_0 := Aside0.mk hi196_0
               have HC196_0 := Aside0.mk hl196_0
               clear hi196_0 hl196_0
               replace p196 := eq_true p196
               replace q196 := eq_true q196
               obtain ⟨go38, co38, eo38, gb38, gl38, cl38, HG38⟩ := Kd.S_form HO_4.out (by have h_ : ((ji32) : Int) < ((x4_2.length : Int) : Int) := of_decide_eq_true qe84_; have h2_ : 0 ≤ ((ji32) : Int) := (of_decide_eq_true qe84_); omega)
               (first | cases eo38 | (injection eo38 with ea_ en_ ec_; (first | subst ea_ | (injection ea_ with ea_; subst ea_)); subst ec_; clear en_))
               have GB38 := Aside0.mk gb38
               have GG38 := Aside0.mk HG38
               clear gb38 gl38 HG38
               (first | simp only [add_plain] at hx196_0 | skip)
               obtain ⟨oki38, ce38, hcl38, hM38, hcc38, _, _, hH38⟩ := Kd.S_elem HO_4.out [] ((ji32) : Int) (of_decide_eq_true qe84_) (by have h_ : ((ji32) : Int) < ((x4_2.length : Int) : Int) := of_decide_eq_true qe84_; first | exact h_ | (have e_ := (Kd.S_reads' HO_4.out).1; omega) | simpa using h_)
               obtain ⟨ve38_0, rfl, ge38_0⟩ := hM38
               have hv38 := hcc38 0 _ rfl
               have hX38 := HX196_0.out
               (try simp only [add_plain] at hX38)
               (try simp only [Nat.add_zero] at hv38)
               (try rw [show ((Kd.slice 3 (Kd.int .i64))).sz = 1 from rfl, Nat.mul_one] at hv38)
               replace hv38 := Option.some.inj (hv38.symm.trans hX38)
               subst hv38
               clear hX38 hcc38 hcl38
               have UU38 := Aside0.mk (show Kd.R (Kd.int .i64) 3 _ w.heap.size oki38 (.slice A196_0 (rd_L1 x4_2 (ji32)).length c196_0) (rd_L1 x4_2 (ji32)) from ge38_0)
               have HH38 := Aside0.mk hH38
               have HN38 := Aside0.mk (Kd.S_reads' HO_4.out).1
               clear hH38 ge38_0
               go_wp2_with (first | ((with_reducible refine gate_builtin (b := .append) (xs := #[.tmp 41, .tmp 43]) rfl ?_); at_builtin; refine Kd.R_append (Kd.int .i64) (w0 := w) w.heap.size rfl (.tmp 41) (.tmp 43) 24 3 (.int .i64 0) 8 rfl Try.underlying24 info3 rfl (by decide) (by omega) (.slice A196_0 (rd_L1 x4_2 (ji32)).length c196_0) (rd_L1 x4_2 (ji32)) (rd t183 x18_2) [.int .i64 (rd t183 x18_2)] (fun k_ => oki38 k_ ∨ ((fun k_ => some k_ ≠ (.slice (some ad186) t183.length co12 : Value).ownBlock)) k_ ∧ wr.heap.size ≤ k_) (fun _ => False) rfl rfl ?aP (fun _ hk => hk.elim) ?aF ?aO ?aB ?aS ?aL ?_; (case aP => exact rfl); (case aB => exact q0c4_); (case aF => exact (fun k_ hk => .inr ⟨Kd.fresh' (Kd.R_lt (q9d5_ HO_16.out)) k_ hk, hk⟩)); (case aO => exact (by (with_reducible repeat (first | apply Kd.R_alloc | apply Kd.R_drewN | apply Kd.R_drew)); exact Kd.R_mono UU38.out (fun _ hk => .inl hk))); (case aS => exact (below_size q0c4_)); (case aL => have := LMc35.out; omega); intro v198 w39 ho hb hg hat; rw [← Ny197.out] at ho; have n0_ := Aside0.mk (Kd.R_grown2 (q9d5_ HO_16.out) rfl hg (fun k_ e_ => (HL196_0.out.1 k_ e_).1)); have n1_ := Aside0.mk (hb); have n2_ := Aside0.mk (Kd.H_grown (Kd.H_widen (q912_ HH38.out)) hg (fun k_ e_ => .inl (UU38.out.1 k_ e_))); have n3_ := Aside0.mk (ho); replace HO_16 := n0_; replace HB := n1_; replace HH38 := n2_; have HO199 := n3_; clear n0_ n1_ n2_ n3_; clear ho hb hg hat; have p36 : 0 ≤ ((ji32) : Int) := of_decide_eq_true qe84_; have q36 : ((ji32) : Int) < ((x4_2.length : Int) : Int) := of_decide_eq_true qe84_; replace p36 := eq_true p36; replace q36 := eq_true q36; obtain ⟨Ao42, co42, eo42⟩ := Kd.R_slice HO199.out; subst eo42; obtain ⟨_, _, hraw40, _, _, hcc40, _⟩ := Kd.H_raw HH38.out (of_decide_eq_true qe84_) (by have h_ : ((ji32) : Int) < ((x4_2.length : Int) : Int) := of_decide_eq_true qe84_; first | exact h_ | (have e_ := (HN38.out); omega) | simpa using h_); obtain ⟨_, hfr40⟩ := Kd.H_at HH38.out (of_decide_eq_true qe84_) (by have h_ : ((ji32) : Int) < ((x4_2.length : Int) : Int) := of_decide_eq_true qe84_; first | exact h_ | (have e_ := (HN38.out); omega) | simpa using h_); have hx40_0 := hcc40 0 _ rfl; have hf40_0 := hfr40 0; (try simp only [Nat.add_zero] at hx40_0 hf40_0); (try rw [show ((Kd.slice 3 (Kd.int .i64))).sz = 1 from rfl, Nat.mul_one] at hx40_0); (try rw [show ((Kd.slice 3 (Kd.int .i64))).sz = 1 from rfl, Nat.mul_one] at hf40_0); have HP40 := Kd.S_seg0 HH38.out (of_decide_eq_true qe84_) (by have h_ : ((ji32) : Int) < ((x4_2.length : Int) : Int) := of_decide_eq_true qe84_; first | exact h_ | (have e_ := (HN38.out); omega) | simpa using h_) (seg := [.slice Ao42 y197.length co42]) (j := 0) (show 1 ≤ 1 from by decide) (x' := y197) (Kd.M_row HO199.out) (fun _ hk => hk); (try simp only [show ((Kd.slice 3 (Kd.int .i64))).sz = 1 from rfl, Nat.mul_one, Nat.add_zero] at HP40); clear hcc40 hfr40) | ((with_reducible refine gate_store (t := 24) (p := 45) rfl ?_); refine store_event (t := 24) (p := 45) (v := ?vo_w41) (w1 := (w39.setCell ⟨go38, ((ji32) : Int).toNat, none⟩ (.slice Ao42 y197.length co42))) ?hg ?ho ?hn ?hr ?_; (case ho => rfl); (case hg => rfl); (case hn => rfl); (case hr => exact qfba_); intro w41 hw; have hg : w39.grownBy w41 (some go38) := (by rw [hw]; exact HP40.2); have hp_ : Kd.S (Kd.slice 3 (Kd.int .i64)) 24 w41 w.heap.size (fun k_ => some k_ ≠ (.slice (some ad186) t183.length co12 : Value).ownBlock) (.slice (some ⟨go38, 0, none⟩) x4_2.length co37) y200 := (by rw [hw, Ny200.out]; exact HP40.1); clear HP40; have n0_ := Aside0.mk (Kd.R_over' (v := (.slice (some ⟨go38, 0, none⟩) x4_2.length co37)) (q9d5_ HO_16.out) (Kd.R_typed hraw40) (by decide) hg); have n1_ := Aside0.mk ((by rw [hw]; exact below_set HB.out GB38.out : Below w.heap.size w w41)); have n2_ := Aside0.mk (hp_); replace HO_16 := n0_; replace HB := n1_; have HO_4 := n2_; clear n0_ n1_ n2_; clear hg hw hp_ hraw40))
               go_roundg k2
               case measure => have := HJ1.out; have := HK2.out; omega
               case rel => exact ⟨(y200), (wrap64 (x18_2 + 1)), qc8f_, H', ⟨q37b_ HJ1.out HK2.out⟩, ⟨qd7e_ HO_4.out⟩, ⟨q9d5_ HO_16.out⟩, ⟨q0c4_⟩⟩
              ·
               rw [if_neg c35] at H
               exact absurd H (by simp)
             ·
              rw [if_neg c34] at H
              exact absurd H (by simp)
            ·
             rw [if_neg c33] at H
             exact absurd H (by simp)
          ·
           rw [if_neg c17] at H
           exact absurd H (by simp)
         ·
          rw [if_neg c16] at H
          exact absurd H (by simp)
        ·
         rw [if_neg c15] at H
         exact absurd H (by simp)
       ·
        rw [if_neg c14] at H
        exact absurd H (by simp)
      ·
       rw [if_neg c13] at H
       have c13b0 := decide_eq_false c13
       clear c13
       simp only [Option.some.injEq, Prod.mk.injEq] at H
       obtain ⟨rfl, rfl⟩ := H
       go_wp2
       go_ret2
       exact ⟨_, qce7_, by (with_reducible repeat (first | apply Kd.S_alloc | apply Kd.S_drewN | apply Kd.S_drew)); exact Kd.S_mono HO_4.out (fun _ hk => trivial), q0c4_⟩

/-! ### spec_l1Same: function 18 -/
def spec_l1Same.l0 : Nat → List Int → List Int → Int → Int → Option (Bool)
 | 0, _, _, _, _ => none
 | k + 1, x0, x1, x12, x13 => if x13 < x12 then (if 0 ≤ x13 then (if x13 < (x0.length : Int) then (if x13 < (x1.length : Int) then (if (rd x0 x13) = (rd x1 x13) then (spec_l1Same.l0 k x0 x1 x12 (wrap64 (x13 + 1))) else (some false)) else (none)) else (none)) else (none)) else (some true)
def spec_l1Same.f (k : Nat) (l0 : List Int) (l1 : List Int) : Option (Bool) := if (l0.length : Int) = (l1.length : Int) then (spec_l1Same.l0 k l0 l1 (l0.length : Int) 0) else (some false)
theorem spec_l1Same.mono_l : ∀ k, (∀ y0 y1 y2 y3, LeO (spec_l1Same.l0 k y0 y1 y2 y3) (spec_l1Same.l0 (k + 1) y0 y1 y2 y3))
 | 0 => fun _ _ _ _ r h => by simp [spec_l1Same.l0] at h
 | k + 1 => by
  have ih0 := spec_l1Same.mono_l k
  ·
   intro y0 y1 y2 y3
   unfold spec_l1Same.l0
   repeat' (with_reducible first | exact ih0 _ _ _ _ | exact LeO.refl _ | exact LeO.none _ | refine LeO.ite ?_ ?_ | refine LeO.bind ?_ (fun _ => ?_))
theorem spec_l1Same.mono : ∀ a0 a1 k, LeO (spec_l1Same.f k a0 a1) (spec_l1Same.f (k + 1) a0 a1) := by
 intro a0 a1 k
 have ih0 := spec_l1Same.mono_l k
 unfold spec_l1Same.f
 repeat' (with_reducible first | exact ih0 _ _ _ _ | exact LeO.refl _ | exact LeO.none _ | refine LeO.ite ?_ ?_ | refine LeO.bind ?_ (fun _ => ?_))
theorem spec_l1Same.calls (k : Nat) (A0 : Option Addr) (c0 : Nat) (l0 : List Int) (A1 : Option Addr) (c1 : Nat) (l1 : List Int) (r : Bool) (w : World) (hr0 : Kd.C (Kd.int .i64) w A0 l0.length l0) (hc0 : l0.length ≤ c0) (hr1 : Kd.C (Kd.int .i64) w A1 l1.length l1) (hc1 : l1.length ≤ c1) (h : spec_l1Same.f k l0 l1 = some r) :
  Calls Try.prog 18 #[.slice A0 l0.length c0, .slice A1 l1.length c1] w fun e w' => e = .returned (.bool r) ∧ Drawn0 w w' := by
 have HR0 := Aside0.mk hr0
 have HC0 := Aside0.mk hc0
 clear hr0 hc0
 have HR1 := Aside0.mk hr1
 have HC1 := Aside0.mk hc1
 clear hr1 hc1
 unfold spec_l1Same.f at h
 have H := h; clear h
 by_cases c3 : (l0.length : Int) = (l1.length : Int)
 ·
  rw [if_pos c3] at H
  have c3b0 := beq_iff_eq.mpr c3
  have c3b1 := bne_eq_false_iff_eq.mpr c3
  have c3b2 : (l0.length == l1.length) = true := q002_
  clear c3
  have H' := Aside0.mk H
  clear H
  go_enter Try.func18, Try.ntmps18
  go_wp2
  repeat (go_quiet (fail); try go_wp2)
  go_loopg [13] k (fun kq v13 w' => ∃ (x13_1 : Int), v13 = .int .i64 x13_1 ∧ Aside0 (spec_l1Same.l0 kq l0 l1 (l0.length : Int) x13_1 = some r) ∧ Aside0 (kq ≤ k) ∧ Drawn0 w w')
  case atStart => exact ⟨(0), qc8f_, H', ⟨Nat.le_refl _⟩, qffa_⟩
  case round =>
   clear H'; try clear c1; try clear p2; try clear c3; try clear c3b0; try clear c3b1; try clear c3b2
   obtain ⟨x13_1, rfl, HA, HK1, ⟨m1, rfl⟩⟩ := hrel
   cases gk with
   | zero => exact absurd HA.out (by simp [spec_l1Same.l0])
   | succ k1 =>
    have H := HA.out
    clear HA
    simp only [spec_l1Same.l0] at H
    by_cases c4 : x13_1 < (l0.length : Int)
    ·
     rw [if_pos c4] at H
     have c4b0 := decide_eq_true c4
     clear c4
     by_cases c5 : 0 ≤ x13_1
     ·
      rw [if_pos c5] at H
      have c5b0 := decide_eq_true c5
      clear c5
      by_cases c6 : x13_1 < (l0.length : Int)
      ·
       rw [if_pos c6] at H
       have c6b0 := decide_eq_true c6
       clear c6
       by_cases c7 : x13_1 < (l1.length : Int)
       ·
        rw [if_pos c7] at H
        have c7b0 := decide_eq_true c7
        clear c7
        by_cases c8 : (rd l0 x13_1) = (rd l1 x13_1)
        ·
         rw [if_pos c8] at H
         have c8b0 := beq_iff_eq.mpr c8
         have c8b1 := bne_eq_false_iff_eq.mpr c8
         clear c8
         have H' := Aside0.mk H
         clear H
         have p201 : 0 ≤ (x13_1 : Int) := of_decide_eq_true qe84_
         have q201 : x13_1 < (l0.length : Int) := of_decide_eq_true qe84_
         obtain ⟨ad201, e201, hx201_0⟩ := Kd.at_int HR0.out x13_1 p201 q201
         cases e201
         replace p201 := eq_true p201
         replace q201 := eq_true q201
         have p202 : 0 ≤ (x13_1 : Int) := of_decide_eq_true qe84_
         have q202 : x13_1 < (l1.length : Int) := of_decide_eq_true qe84_
         obtain ⟨ad202, e202, hx202_0⟩ := Kd.at_int HR1.out x13_1 p202 q202
         cases e202
         replace p202 := eq_true p202
         replace q202 := eq_true q202
         go_wp2
         repeat (go_quiet (fail); try go_wp2)
         go_roundg k1
         case measure => have := HK1.out; omega
         case rel => exact ⟨(wrap64 (x13_1 + 1)), qc8f_, H', ⟨by have := HK1.out; omega⟩, qffa_⟩
        ·
         rw [if_neg c8] at H
         have c8b0 := beq_eq_false_iff_ne.mpr c8
         have c8b1 := bne_iff_ne.mpr c8
         obtain rfl := Option.some.inj H
         have p201 : 0 ≤ (x13_1 : Int) := of_decide_eq_true qe84_
         have q201 : x13_1 < (l0.length : Int) := of_decide_eq_true qe84_
         obtain ⟨ad201, e201, hx201_0⟩ := Kd.at_int HR0.out x13_1 p201 q201
         cases e201
         replace p201 := eq_true p201
         replace q201 := eq_true q201
         have p202 : 0 ≤ (x13_1 : Int) := of_decide_eq_true qe84_
         have q202 : x13_1 < (l1.length : Int) := of_decide_eq_true qe84_
         obtain ⟨ad202, e202, hx202_0⟩ := Kd.at_int HR1.out x13_1 p202 q202
         cases e202
         replace p202 := eq_true p202
         replace q202 := eq_true q202
         go_wp2
         repeat (go_quiet (fail); try go_wp2)
         go_ret
         exact ⟨qc8f_, qffa_⟩
       ·
        rw [if_neg c7] at H
        exact absurd H (by simp)
      ·
       rw [if_neg c6] at H
       exact absurd H (by simp)
     ·
      rw [if_neg c5] at H
      exact absurd H (by simp)
    ·
     rw [if_neg c4] at H
     have c4b0 := decide_eq_false c4
     clear c4
     obtain rfl := Option.some.inj H
     go_wp2
     repeat (go_quiet (fail); try go_wp2)
     go_ret
     exact ⟨qc8f_, qffa_⟩
 ·
  rw [if_neg c3] at H
  have c3b0 := beq_eq_false_iff_ne.mpr c3
  have c3b1 := bne_iff_ne.mpr c3
  have c3b2 : (l0.length == l1.length) = false := q002_
  obtain rfl := Option.some.inj H
  go_enter Try.func18, Try.ntmps18
  go_wp2
  repeat (go_quiet (fail); try go_wp2)
  go_ret
  exact ⟨qc8f_, qffa_⟩

/-! ### spec_FromUnitBlocks: function 5 -/
mutual
def spec_FromUnitBlocks.l0 : Nat → List (List Int) → Int → List (List Int) → Int → Int → Option (List Int × Bool)
 | 0, _, _, _, _, _ => none
 | k + 1, x0, x4, x18, x19, x20 => if x20 < x19 then (if 0 ≤ x20 then (if x20 < (x18.length : Int) then (if ((rd_L1 x18 x20).length : Int) = 0 then (some (([] : List Int), false)) else (if (wrap64 (x4 + ((rd_L1 x18 x20).length : Int))) > 8 then (some (([] : List Int), false)) else (spec_FromUnitBlocks.l0 k x0 (wrap64 (x4 + ((rd_L1 x18 x20).length : Int))) x18 x19 (wrap64 (x20 + 1))))) else (none)) else (none)) else (if 0 ≤ x4 then (if (x4 : Int).toNat ≤ 35184372088832 then (spec_FromUnitBlocks.l1 k x0 x4 (List.replicate (x4 : Int).toNat 0) ([] : List Int) 0 x0 (x0.length : Int) 0) else (none)) else (none))
def spec_FromUnitBlocks.l1 : Nat → List (List Int) → Int → List Int → List Int → Int → List (List Int) → Int → Int → Option (List Int × Bool)
 | 0, _, _, _, _, _, _, _, _ => none
 | k + 1, x0, x4, x7, x8, x9, x38, x39, x40 => if x40 < x39 then (if 0 ≤ x40 then (if x40 < (x38.length : Int) then (spec_FromUnitBlocks.l2 k x0 x4 x7 x8 x9 (rd_L1 x38 x40) x38 x39 x40 (rd_L1 x38 x40) ((rd_L1 x38 x40).length : Int) 0) else (none)) else (none)) else ((spec_UnitBlocks.f k x7).bind fun bt216 => (if bt216.2 = true then (spec_FromUnitBlocks.j3 k x0 x7 bt216.1 ((bt216.1.length : Int) != (x0.length : Int))) else (spec_FromUnitBlocks.j3 k x0 x7 bt216.1 true)))
def spec_FromUnitBlocks.l2 : Nat → List (List Int) → Int → List Int → List Int → Int → List Int → List (List Int) → Int → Int → List Int → Int → Int → Option (List Int × Bool)
 | 0, _, _, _, _, _, _, _, _, _, _, _, _ => none
 | k + 1, x0, x4, x7, x8, x9, x11, x38, x39, x40, x44, x45, x46 => if x46 < x45 then (if 0 ≤ x46 then (if x46 < (x44.length : Int) then ((spec_l1In.f (rd x44 x46) 0 (wrap64 (x4 - 1))).bind fun t209 => (if t209 = true then ((spec_l1Has.f k x8 (rd x44 x46)).bind fun t210 => (if t210 = true then (some (([] : List Int), false)) else (if x8.length < 17592186044416 then ((spec_l1Most.f (wrap64 (x46 - 1)) 0).bind fun t214 => (if 0 ≤ (rd x44 x46) then (if (rd x44 x46) < (x7.length : Int) then (spec_FromUnitBlocks.l2 k x0 x4 (x7.set ((rd x44 x46) : Int).toNat (wrap64 (x9 + t214))) (x8 ++ [rd x44 x46]) x9 x11 x38 x39 x40 x44 x45 (wrap64 (x46 + 1))) else (none)) else (none))) else (none)))) else (some (([] : List Int), false)))) else (none)) else (none)) else (spec_FromUnitBlocks.l1 k x0 x4 x7 x8 (wrap64 (x9 + (x11.length : Int))) x38 x39 (wrap64 (x40 + 1)))
def spec_FromUnitBlocks.j3 : Nat → List (List Int) → List Int → List (List Int) → Bool → Option (List Int × Bool)
 | 0, _, _, _, _ => none
 | k + 1, x0, x7, x14, x92 => if x92 = true then (some (([] : List Int), false)) else (spec_FromUnitBlocks.l3 k x7 x14 x0 (x0.length : Int) 0)
def spec_FromUnitBlocks.l3 : Nat → List Int → List (List Int) → List (List Int) → Int → Int → Option (List Int × Bool)
 | 0, _, _, _, _, _ => none
 | k + 1, x7, x14, x93, x94, x95 => if x95 < x94 then (if 0 ≤ x95 then (if x95 < (x93.length : Int) then (if x95 < (x14.length : Int) then ((spec_l1Same.f k (rd_L1 x93 x95) (rd_L1 x14 x95)).bind fun t222 => (if t222 = true then (spec_FromUnitBlocks.l3 k x7 x14 x93 x94 (wrap64 (x95 + 1))) else (some (([] : List Int), false)))) else (none)) else (none)) else (none)) else (some (x7, true))
end
def spec_FromUnitBlocks.f (k : Nat) (l0 : List (List Int)) : Option (List Int × Bool) := spec_FromUnitBlocks.l0 k l0 0 l0 (l0.length : Int) 0
theorem spec_FromUnitBlocks.mono_l : ∀ k, (∀ y0 y1 y2 y3 y4, LeO (spec_FromUnitBlocks.l0 k y0 y1 y2 y3 y4) (spec_FromUnitBlocks.l0 (k + 1) y0 y1 y2 y3 y4)) ∧ (∀ y0 y1 y2 y3 y4 y5 y6 y7, LeO (spec_FromUnitBlocks.l1 k y0 y1 y2 y3 y4 y5 y6 y7) (spec_FromUnitBlocks.l1 (k + 1) y0 y1 y2 y3 y4 y5 y6 y7)) ∧ (∀ y0 y1 y2 y3 y4 y5 y6 y7 y8 y9 y10 y11, LeO (spec_FromUnitBlocks.l2 k y0 y1 y2 y3 y4 y5 y6 y7 y8 y9 y10 y11) (spec_FromUnitBlocks.l2 (k + 1) y0 y1 y2 y3 y4 y5 y6 y7 y8 y9 y10 y11)) ∧ (∀ y0 y1 y2 y3, LeO (spec_FromUnitBlocks.j3 k y0 y1 y2 y3) (spec_FromUnitBlocks.j3 (k + 1) y0 y1 y2 y3)) ∧ (∀ y0 y1 y2 y3 y4, LeO (spec_FromUnitBlocks.l3 k y0 y1 y2 y3 y4) (spec_FromUnitBlocks.l3 (k + 1) y0 y1 y2 y3 y4))
 | 0 => ⟨fun _ _ _ _ _ r h => by simp [spec_FromUnitBlocks.l0] at h, fun _ _ _ _ _ _ _ _ r h => by simp [spec_FromUnitBlocks.l1] at h, fun _ _ _ _ _ _ _ _ _ _ _ _ r h => by simp [spec_FromUnitBlocks.l2] at h, fun _ _ _ _ r h => by simp [spec_FromUnitBlocks.j3] at h, fun _ _ _ _ _ r h => by simp [spec_FromUnitBlocks.l3] at h⟩
 | k + 1 => by
  obtain ⟨ih0, ih1, ih2, ih3, ih4⟩ := spec_FromUnitBlocks.mono_l k
  refine ⟨?_, ?_, ?_, ?_, ?_⟩
  ·
   intro y0 y1 y2 y3 y4
   unfold spec_FromUnitBlocks.l0
   repeat' (with_reducible first | exact ih0 _ _ _ _ _ | exact ih1 _ _ _ _ _ _ _ _ | exact ih2 _ _ _ _ _ _ _ _ _ _ _ _ | exact ih3 _ _ _ _ | exact ih4 _ _ _ _ _ | exact spec_UnitBlocks.mono _ _ | exact spec_l1Has.mono _ _ _ | exact spec_l1Same.mono _ _ _ | exact LeO.refl _ | exact LeO.none _ | refine LeO.ite ?_ ?_ | refine LeO.bind ?_ (fun _ => ?_))
  ·
   intro y0 y1 y2 y3 y4 y5 y6 y7
   unfold spec_FromUnitBlocks.l1
   repeat' (with_reducible first | exact ih0 _ _ _ _ _ | exact ih1 _ _ _ _ _ _ _ _ | exact ih2 _ _ _ _ _ _ _ _ _ _ _ _ | exact ih3 _ _ _ _ | exact ih4 _ _ _ _ _ | exact spec_UnitBlocks.mono _ _ | exact spec_l1Has.mono _ _ _ | exact spec_l1Same.mono _ _ _ | exact LeO.refl _ | exact LeO.none _ | refine LeO.ite ?_ ?_ | refine LeO.bind ?_ (fun _ => ?_))
  ·
   intro y0 y1 y2 y3 y4 y5 y6 y7 y8 y9 y10 y11
   unfold spec_FromUnitBlocks.l2
   repeat' (with_reducible first | exact ih0 _ _ _ _ _ | exact ih1 _ _ _ _ _ _ _ _ | exact ih2 _ _ _ _ _ _ _ _ _ _ _ _ | exact ih3 _ _ _ _ | exact ih4 _ _ _ _ _ | exact spec_UnitBlocks.mono _ _ | exact spec_l1Has.mono _ _ _ | exact spec_l1Same.mono _ _ _ | exact LeO.refl _ | exact LeO.none _ | refine LeO.ite ?_ ?_ | refine LeO.bind ?_ (fun _ => ?_))
  ·
   intro y0 y1 y2 y3
   unfold spec_FromUnitBlocks.j3
   repeat' (with_reducible first | exact ih0 _ _ _ _ _ | exact ih1 _ _ _ _ _ _ _ _ | exact ih2 _ _ _ _ _ _ _ _ _ _ _ _ | exact ih3 _ _ _ _ | exact ih4 _ _ _ _ _ | exact spec_UnitBlocks.mono _ _ | exact spec_l1Has.mono _ _ _ | exact spec_l1Same.mono _ _ _ | exact LeO.refl _ | exact LeO.none _ | refine LeO.ite ?_ ?_ | refine LeO.bind ?_ (fun _ => ?_))
  ·
   intro y0 y1 y2 y3 y4
   unfold spec_FromUnitBlocks.l3
   repeat' (with_reducible first | exact ih0 _ _ _ _ _ | exact ih1 _ _ _ _ _ _ _ _ | exact ih2 _ _ _ _ _ _ _ _ _ _ _ _ | exact ih3 _ _ _ _ | exact ih4 _ _ _ _ _ | exact spec_UnitBlocks.mono _ _ | exact spec_l1Has.mono _ _ _ | exact spec_l1Same.mono _ _ _ | exact LeO.refl _ | exact LeO.none _ | refine LeO.ite ?_ ?_ | refine LeO.bind ?_ (fun _ => ?_))
theorem spec_FromUnitBlocks.mono : ∀ a0 k, LeO (spec_FromUnitBlocks.f k a0) (spec_FromUnitBlocks.f (k + 1) a0) := by
 intro a0 k
 obtain ⟨ih0, ih1, ih2, ih3, ih4⟩ := spec_FromUnitBlocks.mono_l k
 unfold spec_FromUnitBlocks.f
 repeat' (with_reducible first | exact ih0 _ _ _ _ _ | exact ih1 _ _ _ _ _ _ _ _ | exact ih2 _ _ _ _ _ _ _ _ _ _ _ _ | exact ih3 _ _ _ _ | exact ih4 _ _ _ _ _ | exact spec_UnitBlocks.mono _ _ | exact spec_l1Has.mono _ _ _ | exact spec_l1Same.mono _ _ _ | exact LeO.refl _ | exact LeO.none _ | refine LeO.ite ?_ ?_ | refine LeO.bind ?_ (fun _ => ?_))
theorem spec_FromUnitBlocks.calls (k : Nat) (A0 : Option Addr) (c0 : Nat) (l0 : List (List Int)) (r1 : List Int) (r2 : Bool) (w : World) (hr0 : Kd.C (Kd.slice 3 (Kd.int .i64)) w A0 l0.length l0) (hc0 : l0.length ≤ c0) (h : spec_FromUnitBlocks.f k l0 = some (r1, r2)) :
  Calls Try.prog 5 #[.slice A0 l0.length c0] w fun e w' => ∃ v0_ : Value, e = .returned (.tuple #[v0_, .bool r2]) ∧ Kd.R (Kd.int .i64) 3 w' w.heap.size (fun _ => True) v0_ r1 ∧ Below w.heap.size w w' := by
 have HR0 := Aside0.mk hr0
 have HC0 := Aside0.mk hc0
 clear hr0 hc0
 have HB := Aside0.mk (Below.refl w.heap.size w)
 unfold spec_FromUnitBlocks.f at h
 have H := h; clear h
 have H' := Aside0.mk H
 clear H
 go_enter Try.func5, Try.ntmps5
 go_wp2
 go_loopg [4, 20] k (fun kq v4 v20 w' => ∃ (x4_1 : Int) (x20_1 : Int), v4 = .int .i64 x4_1 ∧ v20 = .int .i64 x20_1 ∧ Aside0 (spec_FromUnitBlocks.l0 kq l0 x4_1 l0 (l0.length : Int) x20_1 = some (r1, r2)) ∧ Aside0 (kq ≤ k) ∧ Aside0 (Below w.heap.size w w'))
 case atStart => exact ⟨(0), (0), qc8f_, qc8f_, H', ⟨Nat.le_refl _⟩, ⟨q0c4_⟩⟩
 case round =>
  clear H'
  obtain ⟨x4_1, x20_1, rfl, rfl, HA, HK1, HB⟩ := hrel
  cases gk with
  | zero => exact absurd HA.out (by simp [spec_FromUnitBlocks.l0])
  | succ k1 =>
   have H := HA.out
   clear HA
   simp only [spec_FromUnitBlocks.l0] at H
   by_cases c2 : x20_1 < (l0.length : Int)
   ·
    rw [if_pos c2] at H
    have c2b0 := decide_eq_true c2
    clear c2
    by_cases c3 : 0 ≤ x20_1
    ·
     rw [if_pos c3] at H
     have c3b0 := decide_eq_true c3
     clear c3
     by_cases c4 : x20_1 < (l0.length : Int)
     ·
      rw [if_pos c4] at H
      have c4b0 := decide_eq_true c4
      clear c4
      by_cases c5 : ((rd_L1 l0 x20_1).length : Int) = 0
      ·
       rw [if_pos c5] at H
       have c5b0 := beq_iff_eq.mpr c5
       have c5b1 := bne_eq_false_iff_eq.mpr c5
       clear c5
       simp only [Option.some.injEq, Prod.mk.injEq] at H
       obtain ⟨rfl, rfl⟩ := H
       have p203 : 0 ≤ (x20_1 : Int) := of_decide_eq_true qe84_
       have q203 : x20_1 < (l0.length : Int) := of_decide_eq_true qe84_
       obtain ⟨ad203, A203_0, c203_0, e203, hx203_0, hl203_0, hi203_0⟩ := at_L1 HR0.out x20_1 p203 q203
       cases e203
       (try (replace hx203_0 := (HB.out.cell (World.block_lt_of_cell? w _ hx203_0)).trans hx203_0))
       have HR203_0 := Aside0.mk hi203_0
       have HC203_0 := Aside0.mk hl203_0
       clear hi203_0 hl203_0
       replace p203 := eq_true p203
       replace q203 := eq_true q203
       go_wp2
       go_ret2
       exact ⟨_, qce7_, qf62_, q0c4_⟩
      ·
       rw [if_neg c5] at H
       have c5b0 := beq_eq_false_iff_ne.mpr c5
       have c5b1 := bne_iff_ne.mpr c5
       have c5b2 : ¬ ((rd_L1 l0 x20_1) = []) := fun h_ => c5 (by rw [h_]; rfl)
       by_cases c6 : (wrap64 (x4_1 + ((rd_L1 l0 x20_1).length : Int))) > 8
       ·
        rw [if_pos c6] at H
        have c6b0 := decide_eq_true c6
        clear c6
        simp only [Option.some.injEq, Prod.mk.injEq] at H
        obtain ⟨rfl, rfl⟩ := H
        have p203 : 0 ≤ (x20_1 : Int) := of_decide_eq_true qe84_
        have q203 : x20_1 < (l0.length : Int) := of_decide_eq_true qe84_
        obtain ⟨ad203, A203_0, c203_0, e203, hx203_0, hl203_0, hi203_0⟩ := at_L1 HR0.out x20_1 p203 q203
        cases e203
        (try (replace hx203_0 := (HB.out.cell (World.block_lt_of_cell? w _ hx203_0)).trans hx203_0))
        have HR203_0 := Aside0.mk hi203_0
        have HC203_0 := Aside0.mk hl203_0
        clear hi203_0 hl203_0
        replace p203 := eq_true p203
        replace q203 := eq_true q203
        go_wp2
        go_ret2
        exact ⟨_, qce7_, qf62_, q0c4_⟩
       ·
        rw [if_neg c6] at H
        have c6b0 := decide_eq_false c6
        clear c6
        have H' := Aside0.mk H
        clear H
        have p203 : 0 ≤ (x20_1 : Int) := of_decide_eq_true qe84_
        have q203 : x20_1 < (l0.length : Int) := of_decide_eq_true qe84_
        obtain ⟨ad203, A203_0, c203_0, e203, hx203_0, hl203_0, hi203_0⟩ := at_L1 HR0.out x20_1 p203 q203
        cases e203
        (try (replace hx203_0 := (HB.out.cell (World.block_lt_of_cell? w _ hx203_0)).trans hx203_0))
        have HR203_0 := Aside0.mk hi203_0
        have HC203_0 := Aside0.mk hl203_0
        clear hi203_0 hl203_0
        replace p203 := eq_true p203
        replace q203 := eq_true q203
        go_wp2
        go_roundg k1
        case measure => have := HK1.out; omega
        case rel => exact ⟨(wrap64 (x4_1 + ((rd_L1 l0 x20_1).length : Int))), (wrap64 (x20_1 + 1)), qc8f_, qc8f_, H', ⟨by have := HK1.out; omega⟩, ⟨q0c4_⟩⟩
     ·
      rw [if_neg c4] at H
      exact absurd H (by simp)
    ·
     rw [if_neg c3] at H
     exact absurd H (by simp)
   ·
    rw [if_neg c2] at H
    have c2b0 := decide_eq_false c2
    clear c2
    by_cases c7 : 0 ≤ x4_1
    ·
     rw [if_pos c7] at H
     have c7b0 := eq_true c7
     have c7b1 := decide_eq_true c7
     clear c7
     by_cases c8 : (x4_1 : Int).toNat ≤ 35184372088832
     ·
      rw [if_pos c8] at H
      have c8b0 := eq_true c8
      have c8b1 := decide_eq_true c8
      clear c8
      obtain ⟨y204, hy204⟩ : ∃ y_ : List Int, y_ = (List.replicate (x4_1 : Int).toNat 0) := ⟨_, rfl⟩
      replace H : (spec_FromUnitBlocks.l1 k1 l0 x4_1 y204 ([] : List Int) 0 l0 (l0.length : Int) 0) = some (r1, r2) := by first | (rw [hy204]; with_reducible exact H) | (have H2_ := (Option.bind_some _ _).symm.trans H; rw [hy204]; with_reducible exact H2_) | (have H2_ := (Option.bind_some _ _).symm.trans H; with_reducible exact H2_) | with_reducible exact H | (rw [hy204]; exact H) | exact H
      have Ny204 := Aside0.mk hy204
      clear hy204
      have H' := Aside0.mk H
      clear H
      go_wp2_with (first | ((with_reducible refine gate_dst (N := 37) rfl ?_); (try (refine gate_guard (by rfl) ?_; dsimp only)); refine Kd.R_make (Kd.int .i64) _ 3 rfl (N := 37) rfl 24 _ _ rfl x4_1 rfl rfl Try.underlying24 (.int .i64 0) 8 info3 rfl (by decide) (by omega) 0 (ok := fun _ => True) (okp := fun _ => True) rfl (fun _ hk => hk) trivial (of_decide_eq_true qe84_) (Nat.le_trans (Nat.mul_le_mul_right _ (of_decide_eq_true qe84_ : x4_1.toNat ≤ 35184372088832)) (by omega)) (Below.refl _ _) (Nat.le_refl _) ?_; intro v205 w9 ho10 hb hg_ hnew_; clear hg_ hnew_; (first | rw [← Ny204.out] at ho10 | (simp only [Int.reduceToNat] at ho10; rw [← Ny204.out] at ho10)); have HO206 := Aside0.mk (Kd.R_lower ho10 (below_size q0c4_)); replace HB := Aside0.mk (below_step q0c4_ hb); clear hb ho10))
      go_loopg [8, 9, 40] k1 (fun kq v8 v9 v40 w' => ∃ (x7_2 : List Int) (x8_2 : List Int) (x9_2 : Int) (x40_2 : Int), v9 = .int .i64 x9_2 ∧ v40 = .int .i64 x40_2 ∧ Aside0 (spec_FromUnitBlocks.l1 kq l0 x4_1 x7_2 x8_2 x9_2 l0 (l0.length : Int) x40_2 = some (r1, r2)) ∧ Aside0 (kq ≤ k1) ∧ Aside0 (Kd.R (Kd.int .i64) 3 w' w.heap.size (fun k_ => some k_ ≠ (v8 : Value).ownBlock) v205 x7_2) ∧ Aside0 (Kd.R (Kd.int .i64) 3 w' w.heap.size (fun k_ => some k_ ≠ (v205 : Value).ownBlock) v8 x8_2) ∧ Aside0 (Below w.heap.size w w'))
      case atStart => exact ⟨(y204), (([] : List Int)), (0), (0), qc8f_, qc8f_, H', ⟨Nat.le_refl _⟩, ⟨by (with_reducible repeat (first | apply Kd.R_alloc | apply Kd.R_drewN | apply Kd.R_drew)); exact Kd.R_mono HO206.out (fun _ hk => (by simp [Value.ownBlock]))⟩, ⟨qf62_⟩, ⟨q0c4_⟩⟩
      case round =>
       clear H'; try clear c2; try clear c2b0; try clear p2; try clear q2; try clear hx2; try clear c3; try clear c3b0; try clear c4; try clear c4b0; try clear c5; try clear c5b0; try clear c5b1; try clear c5b2; try clear c6; try clear c6b0; try clear p6; try clear c7; try clear c7b0; try clear c7b1; try clear c8; try clear c8b0; try clear c8b1; try clear hx203_0; try clear p203; try clear q203
       obtain ⟨x7_2, x8_2, x9_2, x40_2, rfl, rfl, HA, HK2, HO_7, HO_8, HB⟩ := hrel
       cases gk with
       | zero => exact absurd HA.out (by simp [spec_FromUnitBlocks.l1])
       | succ k2 =>
        have H := HA.out
        clear HA
        simp only [spec_FromUnitBlocks.l1] at H
        by_cases c11 : x40_2 < (l0.length : Int)
        ·
         rw [if_pos c11] at H
         have c11b0 := decide_eq_true c11
         clear c11
         by_cases c12 : 0 ≤ x40_2
         ·
          rw [if_pos c12] at H
          have c12b0 := decide_eq_true c12
          clear c12
          by_cases c13 : x40_2 < (l0.length : Int)
          ·
           rw [if_pos c13] at H
           have c13b0 := decide_eq_true c13
           clear c13
           have H' := Aside0.mk H
           clear H
           have p207 : 0 ≤ (x40_2 : Int) := of_decide_eq_true qe84_
           have q207 : x40_2 < (l0.length : Int) := of_decide_eq_true qe84_
           obtain ⟨ad207, A207_0, c207_0, e207, hx207_0, hl207_0, hi207_0⟩ := at_L1 HR0.out x40_2 p207 q207
           cases e207
           (try (replace hx207_0 := (HB.out.cell (World.block_lt_of_cell? w _ hx207_0)).trans hx207_0))
           have HR207_0 := Aside0.mk hi207_0
           have HC207_0 := Aside0.mk hl207_0
           clear hi207_0 hl207_0
           replace p207 := eq_true p207
           replace q207 := eq_true q207
           go_wp2
           go_loopg [8, 46] k2 (fun kq v8 v46 w' => ∃ (x7_3 : List Int) (x8_3 : List Int) (x46_3 : Int), v46 = .int .i64 x46_3 ∧ Aside0 (spec_FromUnitBlocks.l2 kq l0 x4_1 x7_3 x8_3 x9_2 (rd_L1 l0 x40_2) l0 (l0.length : Int) x40_2 (rd_L1 l0 x40_2) ((rd_L1 l0 x40_2).length : Int) x46_3 = some (r1, r2)) ∧ Aside0 (kq ≤ k2) ∧ Aside0 (Kd.R (Kd.int .i64) 3 w' w.heap.size (fun k_ => some k_ ≠ (v8 : Value).ownBlock) v205 x7_3) ∧ Aside0 (Kd.R (Kd.int .i64) 3 w' w.heap.size (fun k_ => some k_ ≠ (v205 : Value).ownBlock) v8 x8_3) ∧ Aside0 (Below w.heap.size w w'))
           case atStart => exact ⟨(x7_2), (x8_2), (0), qc8f_, H', ⟨Nat.le_refl _⟩, ⟨q9d5_ HO_7.out⟩, ⟨q9d5_ HO_8.out⟩, ⟨q0c4_⟩⟩
           case round =>
            clear H'; try clear c1; try clear c2; try clear c2b0; try clear p2; try clear q2; try clear hx2; try clear c3; try clear c3b0; try clear c4; try clear c4b0; try clear c5; try clear c5b0; try clear c5b1; try clear c5b2; try clear c6; try clear c6b0; try clear p6; try clear c7; try clear c7b0; try clear c7b1; try clear c8; try clear c8b0; try clear c8b1; try clear c11; try clear c11b0; try clear c12; try clear c12b0; try clear c13; try clear c13b0; try clear hx203_0; try clear hx207_0; try clear p2; try clear p203; try clear p207; try clear p6; try clear q2; try clear q203; try clear q207
            obtain ⟨x7_3, x8_3, x46_3, rfl, HA, HK3, HO_7, HO_8, HB⟩ := hrel
            cases gk with
            | zero => exact absurd HA.out (by simp [spec_FromUnitBlocks.l2])
            | succ k3 =>
             have H := HA.out
             clear HA
             simp only [spec_FromUnitBlocks.l2] at H
             by_cases c14 : x46_3 < ((rd_L1 l0 x40_2).length : Int)
             ·
              rw [if_pos c14] at H
              have c14b0 := decide_eq_true c14
              clear c14
              by_cases c15 : 0 ≤ x46_3
              ·
               rw [if_pos c15] at H
               have c15b0 := decide_eq_true c15
               clear c15
               by_cases c16 : x46_3 < ((rd_L1 l0 x40_2).length : Int)
               ·
                rw [if_pos c16] at H
                have c16b0 := decide_eq_true c16
                clear c16
                obtain ⟨t209, A17, H⟩ := ob_ H
                by_cases c18 : t209 = true
                ·
                 subst c18
                 rw [if_pos rfl] at H
                 obtain ⟨t210, A19, H⟩ := ob_ H
                 by_cases c20 : t210 = true
                 ·
                  subst c20
                  rw [if_pos rfl] at H
                  simp only [Option.some.injEq, Prod.mk.injEq] at H
                  obtain ⟨rfl, rfl⟩ := H
                  have p208 : 0 ≤ (x46_3 : Int) := of_decide_eq_true qe84_
                  have q208 : x46_3 < ((rd_L1 l0 x40_2).length : Int) := of_decide_eq_true qe84_
                  obtain ⟨ad208, e208, hx208_0⟩ := Kd.at_int HR207_0.out x46_3 p208 q208
                  cases e208
                  (try (replace hx208_0 := (HB.out.cell (World.block_lt_of_cell? w _ hx208_0)).trans hx208_0))
                  replace p208 := eq_true p208
                  replace q208 := eq_true q208
                  go_wp2_with (first | ((with_reducible refine gate_callee (f := 14) rfl ?_); refine gl_ 54 Try.func14 #[.int .i64 (rd (rd_L1 l0 x40_2) x46_3), .int .i64 0, .int .i64 (wrap64 (x4_1 - 1))] ?_; (with_reducible refine (spec_l1In.calls (rd (rd_L1 l0 x40_2) x46_3) 0 (wrap64 (x4_1 - 1)) true _ A17.out).mono ?_); rintro e w' ⟨rfl, ⟨nd, rfl⟩⟩; refine ⟨_, rfl, ?_⟩; obtain ⟨Ao21, co21, eo21⟩ := Kd.R_slice HO_8.out; subst eo21) | (go_at_call 15; (with_reducible refine (spec_l1Has.calls k3 _ _ x8_3 (rd (rd_L1 l0 x40_2) x46_3) true _ ?s1 ?s2 A19.out).mono ?_); (case s1 => exact q5a8_ HO_8.out); (case s2 => exact (Kd.R_reads' HO_8.out).2.1); rintro e w' ⟨rfl, ⟨nd, rfl⟩⟩))
                  go_ret2
                  exact ⟨_, qce7_, qf62_, q0c4_⟩
                 ·
                  replace c20 := Bool.eq_false_iff.mpr c20
                  subst c20
                  rw [if_neg nf_] at H
                  by_cases c22 : x8_3.length < 17592186044416
                  ·
                   rw [if_pos c22] at H
                   have LMc22 := Aside0.mk c22
                   clear c22
                   obtain ⟨y211, hy211⟩ : ∃ y_ : List Int, y_ = (x8_3 ++ [rd (rd_L1 l0 x40_2) x46_3]) := ⟨_, rfl⟩
                   replace H : ((spec_l1Most.f (wrap64 (x46_3 - 1)) 0).bind fun t214 => (if 0 ≤ (rd (rd_L1 l0 x40_2) x46_3) then (if (rd (rd_L1 l0 x40_2) x46_3) < (x7_3.length : Int) then (spec_FromUnitBlocks.l2 k3 l0 x4_1 (x7_3.set ((rd (rd_L1 l0 x40_2) x46_3) : Int).toNat (wrap64 (x9_2 + t214))) y211 x9_2 (rd_L1 l0 x40_2) l0 (l0.length : Int) x40_2 (rd_L1 l0 x40_2) ((rd_L1 l0 x40_2).length : Int) (wrap64 (x46_3 + 1))) else (none)) else (none))) = some (r1, r2) := by first | (rw [hy211]; with_reducible exact H) | (have H2_ := (Option.bind_some _ _).symm.trans H; rw [hy211]; with_reducible exact H2_) | (have H2_ := (Option.bind_some _ _).symm.trans H; with_reducible exact H2_) | with_reducible exact H | (rw [hy211]; exact H) | exact H
                   have Ny211 := Aside0.mk hy211
                   clear hy211
                   obtain ⟨t214, A23, H⟩ := ob_ H
                   by_cases c24 : 0 ≤ (rd (rd_L1 l0 x40_2) x46_3)
                   ·
                    rw [if_pos c24] at H
                    have c24b0 := decide_eq_true c24
                    clear c24
                    by_cases c25 : (rd (rd_L1 l0 x40_2) x46_3) < (x7_3.length : Int)
                    ·
                     rw [if_pos c25] at H
                     have c25b0 := decide_eq_true c25
                     clear c25
                     obtain ⟨y215, hy215⟩ : ∃ y_ : List Int, y_ = (x7_3.set ((rd (rd_L1 l0 x40_2) x46_3) : Int).toNat (wrap64 (x9_2 + t214))) := ⟨_, rfl⟩
                     replace H : (spec_FromUnitBlocks.l2 k3 l0 x4_1 y215 y211 x9_2 (rd_L1 l0 x40_2) l0 (l0.length : Int) x40_2 (rd_L1 l0 x40_2) ((rd_L1 l0 x40_2).length : Int) (wrap64 (x46_3 + 1))) = some (r1, r2) := by first | (rw [hy215]; with_reducible exact H) | (have H2_ := (Option.bind_some _ _).symm.trans H; rw [hy215]; with_reducible exact H2_) | (have H2_ := (Option.bind_some _ _).symm.trans H; with_reducible exact H2_) | with_reducible exact H | (rw [hy215]; exact H) | exact H
                     have Ny215 := Aside0.mk hy215
                     clear hy215
                     have H' := Aside0.mk H
                     clear H
                     have p208 : 0 ≤ (x46_3 : Int) := of_decide_eq_true qe84_
                     have q208 : x46_3 < ((rd_L1 l0 x40_2).length : Int) := of_decide_eq_true qe84_
                     obtain ⟨ad208, e208, hx208_0⟩ := Kd.at_int HR207_0.out x46_3 p208 q208
                     cases e208
                     (try (replace hx208_0 := (HB.out.cell (World.block_lt_of_cell? w _ hx208_0)).trans hx208_0))
                     replace p208 := eq_true p208
                     replace q208 := eq_true q208
                     go_wp2_with (first | ((with_reducible refine gate_callee (f := 14) rfl ?_); refine gl_ 54 Try.func14 #[.int .i64 (rd (rd_L1 l0 x40_2) x46_3), .int .i64 0, .int .i64 (wrap64 (x4_1 - 1))] ?_; (with_reducible refine (spec_l1In.calls (rd (rd_L1 l0 x40_2) x46_3) 0 (wrap64 (x4_1 - 1)) true _ A17.out).mono ?_); rintro e w' ⟨rfl, ⟨nd, rfl⟩⟩; refine ⟨_, rfl, ?_⟩; (try (rw [drewN_self wr]; generalize hq_ : World.drewN wr _ = wr; have n0_ : Aside0 (Kd.R (Kd.int .i64) 3 wr w.heap.size (fun k_ => some k_ ≠ (u8 : Value).ownBlock) v205 x7_3) := ⟨by rw [← hq_]; exact (q9d5_ HO_7.out)⟩; have n1_ : Aside0 (Kd.R (Kd.int .i64) 3 wr w.heap.size (fun k_ => some k_ ≠ (v205 : Value).ownBlock) u8 x8_3) := ⟨by rw [← hq_]; exact (q9d5_ HO_8.out)⟩; have n2_ : Aside0 (Below w.heap.size w wr) := ⟨by rw [← hq_]; exact q0c4_⟩; clear HO_7 HO_8 HB hq_; have HO_7 := n0_; have HO_8 := n1_; have HB := n2_; clear n0_ n1_ n2_)); obtain ⟨Ao27, co27, eo27⟩ := Kd.R_slice HO_8.out; subst eo27) | (go_at_call 15; (with_reducible refine (spec_l1Has.calls k3 _ _ x8_3 (rd (rd_L1 l0 x40_2) x46_3) false _ ?s1 ?s2 A19.out).mono ?_); (case s1 => exact q5a8_ HO_8.out); (case s2 => exact (Kd.R_reads' HO_8.out).2.1); rintro e w' ⟨rfl, ⟨nd, rfl⟩⟩; (try (rw [drewN_self wr]; generalize hq_ : World.drewN wr _ = wr; have n0_ : Aside0 (Kd.R (Kd.int .i64) 3 wr w.heap.size (fun k_ => some k_ ≠ (.slice Ao27 x8_3.length co27 : Value).ownBlock) v205 x7_3) := ⟨by rw [← hq_]; exact (q9d5_ HO_7.out)⟩; have n1_ : Aside0 (Kd.R (Kd.int .i64) 3 wr w.heap.size (fun k_ => some k_ ≠ (v205 : Value).ownBlock) (.slice Ao27 x8_3.length co27) x8_3) := ⟨by rw [← hq_]; exact (q9d5_ HO_8.out)⟩; have n2_ : Aside0 (Below w.heap.size w wr) := ⟨by rw [← hq_]; exact q0c4_⟩; clear HO_7 HO_8 HB hq_; have HO_7 := n0_; have HO_8 := n1_; have HB := n2_; clear n0_ n1_ n2_))) | ((with_reducible refine gate_builtin (b := .append) (xs := #[.tmp 61, .tmp 63]) rfl ?_); (try (refine gate_guard (by rfl) ?_; dsimp only)); at_builtin; refine Kd.R_append (Kd.int .i64) (w0 := w) w.heap.size rfl (.tmp 61) (.tmp 63) 24 3 (.int .i64 0) 8 rfl Try.underlying24 info3 rfl (by decide) (by omega) (.slice Ao27 x8_3.length co27) x8_3 (rd (rd_L1 l0 x40_2) x46_3) [.int .i64 (rd (rd_L1 l0 x40_2) x46_3)] (fun k_ => some k_ ≠ (v205 : Value).ownBlock) (fun _ => False) rfl rfl ?aP (fun _ hk => hk.elim) ?aF ?aO ?aB ?aS ?aL ?_; (case aP => exact rfl); (case aB => exact q0c4_); (case aF => exact (fun k_ hk => Kd.fresh' (Kd.R_lt (q9d5_ HO_7.out)) k_ hk)); (case aO => exact (q9d5_ HO_8.out)); (case aS => exact (below_size q0c4_)); (case aL => have := LMc22.out; omega); intro v212 w28 ho hb hg hat; rw [← Ny211.out] at ho; have n0_ := Aside0.mk (Kd.R_after (ok := (fun _ => True)) (q0ef_ HO_7.out) hg hat); have n1_ := Aside0.mk (hb); have n2_ := Aside0.mk (ho); replace HO_7 := n0_; replace HB := n1_; have HO213 := n2_; clear n0_ n1_ n2_; clear ho hb hg hat) | ((with_reducible refine gate_callee (f := 16) rfl ?_); refine gl_ 70 Try.func16 #[.int .i64 (wrap64 (x46_3 - 1)), .int .i64 0] ?_; (with_reducible refine (spec_l1Most.calls (wrap64 (x46_3 - 1)) 0 t214 _ A23.out).mono ?_); rintro e w' ⟨rfl, ⟨nd, rfl⟩⟩; refine ⟨_, rfl, ?_⟩; (try (rw [drewN_self w28]; generalize hq_ : World.drewN w28 _ = w28; have n0_ : Aside0 (Kd.R (Kd.int .i64) 3 w28 w.heap.size (fun k_ => some k_ ≠ (v205 : Value).ownBlock) v212 y211) := ⟨by rw [← hq_]; exact (q9d5_ HO213.out)⟩; have n1_ : Aside0 (Kd.R (Kd.int .i64) 3 w28 w.heap.size (fun k_ => some k_ ≠ (v212 : Value).ownBlock) v205 x7_3) := ⟨by rw [← hq_]; exact (qe0f_ HO_7.out)⟩; have n2_ : Aside0 (Below w.heap.size w w28) := ⟨by rw [← hq_]; exact q0c4_⟩; clear HO213 HO_7 HB hq_; have HO213 := n0_; have HO_7 := n1_; have HB := n2_; clear n0_ n1_ n2_)); have p26 : 0 ≤ ((rd (rd_L1 l0 x40_2) x46_3) : Int) := of_decide_eq_true qe84_; have q26 : ((rd (rd_L1 l0 x40_2) x46_3) : Int) < ((x7_3.length : Int) : Int) := of_decide_eq_true qe84_; obtain ⟨go26, co26, eo26, gb26, gl26, cl26, HG26⟩ := Kd.R_form HO_7.out (by omega); (first | cases eo26 | (injection eo26 with ea_ en_ ec_; (first | subst ea_ | (injection ea_ with ea_; subst ea_)); subst ec_; clear en_)); have GB26 := Aside0.mk gb26; have GG26 := Aside0.mk HG26; clear gb26 gl26 HG26; obtain ⟨hx26_0, hf26_0⟩ := Kd.R_celln 0 HO_7.out ((rd (rd_L1 l0 x40_2) x46_3) : Int) p26 q26; replace p26 := eq_true p26; replace q26 := eq_true q26; (try (have n_ := Aside0.mk (Kd.R_mono (ok' := (fun k_ => some k_ ≠ (v212 : Value).ownBlock)) HO_7.out (fun k_ hk => hk.2)); clear HO_7; have HO_7 := n_; clear n_)); obtain ⟨hy29_, hz29_⟩ := Kd.R_celln 0 HO_7.out ((rd (rd_L1 l0 x40_2) x46_3) : Int) (of_decide_eq_true qe84_) (of_decide_eq_true qe84_); have HP29 := Kd.R_putg HO_7.out ((rd (rd_L1 l0 x40_2) x46_3) : Int) (wrap64 (x9_2 + t214))) | ((with_reducible refine gate_store (t := 3) (p := 72) rfl ?_); refine store_event (t := 3) (p := 72) (v := ?vo_w30) (w1 := (w28.setCell ⟨go26, ((rd (rd_L1 l0 x40_2) x46_3) : Int).toNat, none⟩ (.int .i64 (wrap64 (x9_2 + t214))))) ?hg ?ho ?hn ?hr ?_; (case ho => rfl); (case hg => rfl); (case hn => rfl); (case hr => exact qfba_); intro w30 hw; have hg : w28.grownBy w30 (some go26) := (by rw [hw]; exact HP29.2); have hp_ : Kd.R (Kd.int .i64) 3 w30 w.heap.size (fun k_ => some k_ ≠ (v212 : Value).ownBlock) (.slice (some ⟨go26, 0, none⟩) x7_3.length co26) y215 := (by rw [hw, Ny215.out]; exact HP29.1); clear HP29; replace HO_7 := Aside0.mk (hp_); replace HO213 := Aside0.mk (Kd.R_after (v := (.slice (some ⟨go26, 0, none⟩) x7_3.length co26)) (v1 := (.slice (some ⟨go26, 0, none⟩) x7_3.length co26)) (ok := (fun _ => True)) (q0ef_ HO213.out) hg (.inl rfl)); replace HB := Aside0.mk ((by rw [hw]; exact below_set (HB.out) GB26.out : Below w.heap.size w w30)); clear hg hw hp_))
                     go_roundg k3
                     case measure => have := HK1.out; have := HK2.out; have := HK3.out; omega
                     case rel => exact ⟨(y215), (y211), (wrap64 (x46_3 + 1)), qc8f_, H', ⟨by have := HK1.out; have := HK2.out; have := HK3.out; omega⟩, ⟨q9d5_ HO_7.out⟩, ⟨qe0f_ HO213.out⟩, ⟨q0c4_⟩⟩
                    ·
                     rw [if_neg c25] at H
                     exact absurd H (by simp)
                   ·
                    rw [if_neg c24] at H
                    exact absurd H (by simp)
                  ·
                   rw [if_neg c22] at H
                   exact absurd H (by simp)
                ·
                 replace c18 := Bool.eq_false_iff.mpr c18
                 subst c18
                 rw [if_neg nf_] at H
                 simp only [Option.some.injEq, Prod.mk.injEq] at H
                 obtain ⟨rfl, rfl⟩ := H
                 have p208 : 0 ≤ (x46_3 : Int) := of_decide_eq_true qe84_
                 have q208 : x46_3 < ((rd_L1 l0 x40_2).length : Int) := of_decide_eq_true qe84_
                 obtain ⟨ad208, e208, hx208_0⟩ := Kd.at_int HR207_0.out x46_3 p208 q208
                 cases e208
                 (try (replace hx208_0 := (HB.out.cell (World.block_lt_of_cell? w _ hx208_0)).trans hx208_0))
                 replace p208 := eq_true p208
                 replace q208 := eq_true q208
                 go_wp2_with (first | ((with_reducible refine gate_callee (f := 14) rfl ?_); refine gl_ 54 Try.func14 #[.int .i64 (rd (rd_L1 l0 x40_2) x46_3), .int .i64 0, .int .i64 (wrap64 (x4_1 - 1))] ?_; (with_reducible refine (spec_l1In.calls (rd (rd_L1 l0 x40_2) x46_3) 0 (wrap64 (x4_1 - 1)) false _ A17.out).mono ?_); rintro e w' ⟨rfl, ⟨nd, rfl⟩⟩; refine ⟨_, rfl, ?_⟩))
                 go_ret2
                 exact ⟨_, qce7_, qf62_, q0c4_⟩
               ·
                rw [if_neg c16] at H
                exact absurd H (by simp)
              ·
               rw [if_neg c15] at H
               exact absurd H (by simp)
             ·
              rw [if_neg c14] at H
              have c14b0 := decide_eq_false c14
              clear c14
              have H' := Aside0.mk H
              clear H
              go_wp2
              go_roundg k3
              case measure => have := HK1.out; have := HK2.out; have := HK3.out; omega
              case rel => exact ⟨(x7_3), (x8_3), (wrap64 (x9_2 + ((rd_L1 l0 x40_2).length : Int))), (wrap64 (x40_2 + 1)), qc8f_, qc8f_, H', ⟨by have := HK1.out; have := HK2.out; have := HK3.out; omega⟩, ⟨q9d5_ HO_7.out⟩, ⟨q9d5_ HO_8.out⟩, ⟨q0c4_⟩⟩
          ·
           rw [if_neg c13] at H
           exact absurd H (by simp)
         ·
          rw [if_neg c12] at H
          exact absurd H (by simp)
        ·
         rw [if_neg c11] at H
         have c11b0 := decide_eq_false c11
         clear c11
         obtain ⟨⟨t216, t217⟩, A31, H⟩ := ob_ H
         dsimp only at H
         have HC32 := Aside0.mk H
         clear H
         obtain ⟨Ao33, co33, eo33⟩ := Kd.R_slice HO_7.out
         subst eo33
         go_upto_region 26 with (first | ((with_reducible refine gate_callee (f := 17) rfl ?_); refine gl_ 81 Try.func17 #[.slice Ao33 x7_2.length co33] ?_; (with_reducible refine (spec_UnitBlocks.calls k2 _ _ x7_2 t216 t217 _ ?s1 ?s2 A31.out).mono ?_); (case s1 => exact q5a8_ HO_7.out); (case s2 => exact (Kd.R_reads' HO_7.out).2.1); rintro e w34 ⟨v218, rfl, ho0, hb⟩; refine ⟨_, rfl, ?_⟩; have n0_ := Aside0.mk (Kd.R_below (q9d5_ HO_7.out) hb); have n1_ := Aside0.mk (Kd.R_below (q9d5_ HO_8.out) hb); have n2_ := Aside0.mk (Kd.S_lower (Kd.S_new' (Kd.S_new' ho0 (Kd.R_lt (q9d5_ HO_7.out))) (Kd.R_lt (q9d5_ HO_8.out))) (below_size q0c4_)); have n3_ := Aside0.mk (below_step q0c4_ hb); replace HO_7 := n0_; replace HO_8 := n1_; have HO219 := n2_; replace HB := n3_; clear n0_ n1_ n2_ n3_; clear hb ho0))
         (try simp only [Act.put, List.setIfInBounds_toArray, List.set_cons_zero, List.set_cons_succ])
         go_cut [92] (fun v92 wc => ∃ (kq : Nat) (x92_31 : Bool), v92 = .bool x92_31 ∧ Aside0 (spec_FromUnitBlocks.j3 kq l0 x7_2 t216 x92_31 = some (r1, r2)) ∧ Aside0 (kq ≤ k2) ∧ Aside0 (Kd.R (Kd.int .i64) 3 wc w.heap.size (fun _ => True) (.slice Ao33 x7_2.length co33) x7_2) ∧ Aside0 (Kd.S (Kd.slice 3 (Kd.int .i64)) 24 wc w.heap.size (fun k_ => some k_ ≠ ((.slice Ao33 x7_2.length co33) : Value).ownBlock) v218 t216) ∧ Aside0 (Below w.heap.size w wc))
         case first =>
          have H := HC32.out
          clear HC32
          by_cases c35 : t217 = true
          ·
           subst c35
           rw [if_pos rfl] at H
           have H' := Aside0.mk H
           clear H
           obtain ⟨Ao36, co36, eo36⟩ := Kd.S_slice HO219.out
           subst eo36
           go_wp2
           go_meet
           case rel => exact ⟨_, (((t216.length : Int) != (l0.length : Int))), qc8f_, H', ⟨by have := HK1.out; have := HK2.out; first | omega | exact Nat.le_refl _⟩, ⟨q7d9_ HO_7.out⟩, ⟨by (with_reducible repeat (first | apply Kd.S_alloc | apply Kd.S_drewN | apply Kd.S_drew)); exact Kd.S_mono HO219.out (fun _ hk => hk.1.2)⟩, ⟨q0c4_⟩⟩
          ·
           replace c35 := Bool.eq_false_iff.mpr c35
           subst c35
           rw [if_neg nf_] at H
           have H' := Aside0.mk H
           clear H
           go_wp2
           go_meet
           case rel => exact ⟨_, (true), qc8f_, H', ⟨by have := HK1.out; have := HK2.out; first | omega | exact Nat.le_refl _⟩, ⟨q7d9_ HO_7.out⟩, ⟨by (with_reducible repeat (first | apply Kd.S_alloc | apply Kd.S_drewN | apply Kd.S_drew)); exact Kd.S_mono HO219.out (fun _ hk => hk.1.2)⟩, ⟨q0c4_⟩⟩
         case rest =>
          clear HC32; try clear c1; try clear c2; try clear c2b0; try clear p2; try clear q2; try clear hx2; try clear hf2; try clear c3; try clear c3b0; try clear c4; try clear c4b0; try clear c5; try clear c5b0; try clear c5b1; try clear c5b2; try clear c6; try clear c6b0; try clear p6; try clear c7; try clear c7b0; try clear c7b1; try clear c8; try clear c8b0; try clear c8b1; try clear c11; try clear c11b0; try clear c12; try clear c12b0; try clear c13; try clear c13b0; try clear c14; try clear c14b0; try clear c15; try clear c15b0; try clear c16; try clear c16b0; try clear c17; try clear c18; try clear c20; try clear p20; try clear q20; try clear hx20; try clear c22; try clear c24; try clear c24b0; try clear c25; try clear c25b0; try clear p26; try clear q26; try clear hx26; try clear hf26; try clear c35; try clear hx203_0; try clear hx207_0; try clear hx208_0; try clear hx26_0; try clear p2; try clear p203; try clear p207; try clear p208; try clear p26; try clear p6; try clear q2; try clear q203; try clear q207; try clear q208; try clear q26
          obtain ⟨kq, x92_31, rfl, HA, HJ31, HO_7, HO_14, HB⟩ := hcut
          cases kq with
          | zero => exact absurd HA.out (by simp [spec_FromUnitBlocks.j3])
          | succ kj31 =>
           have H := HA.out
           clear HA
           simp only [spec_FromUnitBlocks.j3] at H
           by_cases c37 : x92_31 = true
           ·
            subst c37
            rw [if_pos rfl] at H
            simp only [Option.some.injEq, Prod.mk.injEq] at H
            obtain ⟨rfl, rfl⟩ := H
            go_wp2
            go_ret2
            exact ⟨_, qce7_, qf62_, q0c4_⟩
           ·
            replace c37 := Bool.eq_false_iff.mpr c37
            subst c37
            rw [if_neg nf_] at H
            have H' := Aside0.mk H
            clear H
            go_wp2
            go_loopg [95] kj31 (fun kq v95 w' => ∃ (x95_4 : Int), v95 = .int .i64 x95_4 ∧ Aside0 (spec_FromUnitBlocks.l3 kq x7_2 t216 l0 (l0.length : Int) x95_4 = some (r1, r2)) ∧ Aside0 (kq ≤ kj31) ∧ Aside0 (Kd.R (Kd.int .i64) 3 w' w.heap.size (fun _ => True) (.slice Ao33 x7_2.length co33) x7_2) ∧ Aside0 (Kd.S (Kd.slice 3 (Kd.int .i64)) 24 w' w.heap.size (fun k_ => some k_ ≠ ((.slice Ao33 x7_2.length co33) : Value).ownBlock) v218 t216) ∧ Aside0 (Below w.heap.size w w'))
            case atStart => exact ⟨(0), qc8f_, H', ⟨Nat.le_refl _⟩, ⟨q9d5_ HO_7.out⟩, ⟨qd7e_ HO_14.out⟩, ⟨q0c4_⟩⟩
            case round =>
             clear H'; try clear c1; try clear c2; try clear c2b0; try clear p2; try clear q2; try clear hx2; try clear hf2; try clear c3; try clear c3b0; try clear c4; try clear c4b0; try clear c5; try clear c5b0; try clear c5b1; try clear c5b2; try clear c6; try clear c6b0; try clear p6; try clear c7; try clear c7b0; try clear c7b1; try clear c8; try clear c8b0; try clear c8b1; try clear c11; try clear c11b0; try clear c12; try clear c12b0; try clear c13; try clear c13b0; try clear c14; try clear c14b0; try clear c15; try clear c15b0; try clear c16; try clear c16b0; try clear c17; try clear c18; try clear c20; try clear p20; try clear q20; try clear hx20; try clear c22; try clear c24; try clear c24b0; try clear c25; try clear c25b0; try clear p26; try clear q26; try clear hx26; try clear hf26; try clear c35; try clear c37; try clear hx203_0; try clear hx207_0; try clear hx208_0; try clear hx26_0; try clear p2; try clear p20; try clear p203; try clear p207; try clear p208; try clear p26; try clear p6; try clear q2; try clear q20; try clear q203; try clear q207; try clear q208; try clear q26
             obtain ⟨x95_4, rfl, HA, HK4, HO_7, HO_14, HB⟩ := hrel
             cases gk with
             | zero => exact absurd HA.out (by simp [spec_FromUnitBlocks.l3])
             | succ k4 =>
              have H := HA.out
              clear HA
              simp only [spec_FromUnitBlocks.l3] at H
              by_cases c38 : x95_4 < (l0.length : Int)
              ·
               rw [if_pos c38] at H
               have c38b0 := decide_eq_true c38
               clear c38
               by_cases c39 : 0 ≤ x95_4
               ·
                rw [if_pos c39] at H
                have c39b0 := decide_eq_true c39
                clear c39
                by_cases c40 : x95_4 < (l0.length : Int)
                ·
                 rw [if_pos c40] at H
                 have c40b0 := decide_eq_true c40
                 clear c40
                 by_cases c41 : x95_4 < (t216.length : Int)
                 ·
                  rw [if_pos c41] at H
                  have c41b0 := decide_eq_true c41
                  clear c41
                  obtain ⟨t222, A42, H⟩ := ob_ H
                  by_cases c43 : t222 = true
                  ·
                   subst c43
                   rw [if_pos rfl] at H
                   have H' := Aside0.mk H
                   clear H
                   have p220 : 0 ≤ (x95_4 : Int) := of_decide_eq_true qe84_
                   have q220 : x95_4 < (l0.length : Int) := of_decide_eq_true qe84_
                   obtain ⟨ad220, A220_0, c220_0, e220, hx220_0, hl220_0, hi220_0⟩ := at_L1 HR0.out x95_4 p220 q220
                   cases e220
                   (try (replace hx220_0 := (HB.out.cell (World.block_lt_of_cell? w _ hx220_0)).trans hx220_0))
                   have HR220_0 := Aside0.mk hi220_0
                   have HC220_0 := Aside0.mk hl220_0
                   clear hi220_0 hl220_0
                   replace p220 := eq_true p220
                   replace q220 := eq_true q220
                   obtain ⟨Ao44, co44, eo44⟩ := Kd.S_slice HO_14.out
                   subst eo44
                   have p221 : 0 ≤ (x95_4 : Int) := of_decide_eq_true qe84_
                   have q221 : x95_4 < (t216.length : Int) := of_decide_eq_true qe84_
                   obtain ⟨ad221, A221_0, c221_0, e221, hx221_0, hl221_0, hi221_0⟩ := at_L1 (Kd.S_reads' HO_14.out).2.2 x95_4 p221 q221
                   cases e221
                   obtain ⟨ce221, hce221, hMe221, hcc221⟩ := Kd.S_get HO_14.out [] x95_4 p221 (by first | exact q221 | exact of_decide_eq_true qe84_ | (have e_ := (Kd.S_reads' HO_14.out).1; omega))
                   obtain ⟨ve221_0, rfl, ge221_0⟩ := hMe221
                   have hv221_0 := hcc221 0 _ rfl
                   rw [Nat.add_zero, show ((Kd.slice 3 (Kd.int .i64))).sz = 1 from rfl, Nat.mul_one] at hv221_0
                   replace hv221_0 := Option.some.inj (hv221_0.symm.trans hx221_0)
                   rw [hv221_0] at ge221_0
                   have HL221_0 := Aside0.mk (show Kd.R (Kd.int .i64) 3 _ _ _ _ (rd_L1 t216 x95_4) from ge221_0)
                   clear hv221_0 ge221_0 hcc221 hce221
                   have HR221_0 := Aside0.mk hi221_0
                   have HC221_0 := Aside0.mk hl221_0
                   clear hi221_0 hl221_0
                   replace p221 := eq_true p221
                   replace q221 := eq_true q221
                   go_wp2_with (first | ((with_reducible refine gate_callee (f := 18) rfl ?_); refine gl_ 105 Try.func18 #[.slice A220_0 (rd_L1 l0 x95_4).length c220_0, .slice A221_0 (rd_L1 t216 x95_4).length c221_0] ?_; (with_reducible refine (spec_l1Same.calls k4 _ _ (rd_L1 l0 x95_4) _ _ (rd_L1 t216 x95_4) true _ ?s1 ?s2 ?s3 ?s4 A42.out).mono ?_); (case s1 => exact qe02_ HR220_0.out); (case s2 => exact HC220_0.out); (case s3 => exact qe8c_ HR221_0.out); (case s4 => exact HC221_0.out); rintro e w' ⟨rfl, ⟨nd, rfl⟩⟩; refine ⟨_, rfl, ?_⟩))
                   go_roundg k4
                   case measure => have := HK1.out; have := HK2.out; have := HJ31.out; have := HK4.out; omega
                   case rel => exact ⟨(wrap64 (x95_4 + 1)), qc8f_, H', ⟨by have := HK1.out; have := HK2.out; have := HJ31.out; have := HK4.out; omega⟩, ⟨q9d5_ HO_7.out⟩, ⟨qd7e_ HO_14.out⟩, ⟨q0c4_⟩⟩
                  ·
                   replace c43 := Bool.eq_false_iff.mpr c43
                   subst c43
                   rw [if_neg nf_] at H
                   simp only [Option.some.injEq, Prod.mk.injEq] at H
                   obtain ⟨rfl, rfl⟩ := H
                   have p220 : 0 ≤ (x95_4 : Int) := of_decide_eq_true qe84_
                   have q220 : x95_4 < (l0.length : Int) := of_decide_eq_true qe84_
                   obtain ⟨ad220, A220_0, c220_0, e220, hx220_0, hl220_0, hi220_0⟩ := at_L1 HR0.out x95_4 p220 q220
                   cases e220
                   (try (replace hx220_0 := (HB.out.cell (World.block_lt_of_cell? w _ hx220_0)).trans hx220_0))
                   have HR220_0 := Aside0.mk hi220_0
                   have HC220_0 := Aside0.mk hl220_0
                   clear hi220_0 hl220_0
                   replace p220 := eq_true p220
                   replace q220 := eq_true q220
                   obtain ⟨Ao45, co45, eo45⟩ := Kd.S_slice HO_14.out
                   subst eo45
                   have p221 : 0 ≤ (x95_4 : Int) := of_decide_eq_true qe84_
                   have q221 : x95_4 < (t216.length : Int) := of_decide_eq_true qe84_
                   obtain ⟨ad221, A221_0, c221_0, e221, hx221_0, hl221_0, hi221_0⟩ := at_L1 (Kd.S_reads' HO_14.out).2.2 x95_4 p221 q221
                   cases e221
                   obtain ⟨ce221, hce221, hMe221, hcc221⟩ := Kd.S_get HO_14.out [] x95_4 p221 (by first | exact q221 | exact of_decide_eq_true qe84_ | (have e_ := (Kd.S_reads' HO_14.out).1; omega))
                   obtain ⟨ve221_0, rfl, ge221_0⟩ := hMe221
                   have hv221_0 := hcc221 0 _ rfl
                   rw [Nat.add_zero, show ((Kd.slice 3 (Kd.int .i64))).sz = 1 from rfl, Nat.mul_one] at hv221_0
                   replace hv221_0 := Option.some.inj (hv221_0.symm.trans hx221_0)
                   rw [hv221_0] at ge221_0
                   have HL221_0 := Aside0.mk (show Kd.R (Kd.int .i64) 3 _ _ _ _ (rd_L1 t216 x95_4) from ge221_0)
                   clear hv221_0 ge221_0 hcc221 hce221
                   have HR221_0 := Aside0.mk hi221_0
                   have HC221_0 := Aside0.mk hl221_0
                   clear hi221_0 hl221_0
                   replace p221 := eq_true p221
                   replace q221 := eq_true q221
                   go_wp2_with (first | ((with_reducible refine gate_callee (f := 18) rfl ?_); refine gl_ 105 Try.func18 #[.slice A220_0 (rd_L1 l0 x95_4).length c220_0, .slice A221_0 (rd_L1 t216 x95_4).length c221_0] ?_; (with_reducible refine (spec_l1Same.calls k4 _ _ (rd_L1 l0 x95_4) _ _ (rd_L1 t216 x95_4) false _ ?s1 ?s2 ?s3 ?s4 A42.out).mono ?_); (case s1 => exact qe02_ HR220_0.out); (case s2 => exact HC220_0.out); (case s3 => exact qe8c_ HR221_0.out); (case s4 => exact HC221_0.out); rintro e w' ⟨rfl, ⟨nd, rfl⟩⟩; refine ⟨_, rfl, ?_⟩))
                   go_ret2
                   exact ⟨_, qce7_, qf62_, q0c4_⟩
                 ·
                  rw [if_neg c41] at H
                  exact absurd H (by simp)
                ·
                 rw [if_neg c40] at H
                 exact absurd H (by simp)
               ·
                rw [if_neg c39] at H
                exact absurd H (by simp)
              ·
               rw [if_neg c38] at H
               have c38b0 := decide_eq_false c38
               clear c38
               simp only [Option.some.injEq, Prod.mk.injEq] at H
               obtain ⟨rfl, rfl⟩ := H
               go_wp2
               go_ret2
               exact ⟨_, qce7_, q9d5_ HO_7.out, q0c4_⟩
     ·
      rw [if_neg c8] at H
      exact absurd H (by simp)
    ·
     rw [if_neg c7] at H
     exact absurd H (by simp)

end Go.Proofs.Ytdhfildgjmkgaaa.PAll
