-- written by a program of this session (wip/gen/xpatch.py over the translation); Lean checks it
import Derived.Test.YtleemfmhilhklaaGreatPAllx0
import Derived.Test.YtleemfmhilhklaaGreatPAllx1
import Derived.Test.YtleemfmhilhklaaGreatPAllx2
import Derived.Test.YtleemfmhilhklaaGreatPAllx3
namespace Go.Proofs.YtleemfmhilhklaaGreat.PAll
open Go.RowKit Go.Proofs.YtleemfmhilhklaaGreat.Hand Go.Proofs.YtleemfmhilhklaaGreatW.PrintWords Go.Proofs.YtleemfmhilhklaaGreatW.PrintLast Go.Proofs.YtleemfmhilhklaaGreatW.PrintMore
attribute [local go_sem] max2_int min2_int max_two min_two max_three min_three max_four min_four   -- for this text's walks alone
set_option maxHeartbeats 8000000
set_option maxRecDepth 100000
set_option linter.unusedVariables false
set_option linter.unusedSimpArgs false

/-! ### spec_UnitBlocks: function 7 -/
mutual
def spec_UnitBlocks.j0 : Nat → List Int → Bool → Option ((List (List Int)) × Bool)
 | 0, _, _ => none
 | k + 1, x0, x14 => if x14 = true then (some (([] : List (List Int)), false)) else ((spec_vaFair.f k x0).bind fun t389 => (spec_UnitBlocks.l0 k x0 ([] : List (List Int)) t389 (t389.length : Int) 0))
def spec_UnitBlocks.l0 : Nat → List Int → List (List Int) → List Int → Int → Int → Option ((List (List Int)) × Bool)
 | 0, _, _, _, _, _ => none
 | k + 1, x0, x4, x16, x17, x18 => if x18 < x17 then (if 0 ≤ x18 then (if x18 < (x16.length : Int) then (if 0 ≤ (rd x16 x18) then (if (rd x16 x18) < (x0.length : Int) then (if (rd x0 (rd x16 x18)) = x18 then (if x4.length < 5864062014805 then ((some (x4 ++ [[]] : List (List Int))).bind fun y394 => (if 0 ≤ (wrap64 ((y394.length : Int) - 1)) then (if (wrap64 ((y394.length : Int) - 1)) < (y394.length : Int) then (if (rd_L3 y394 (wrap64 ((y394.length : Int) - 1))).length < 17592186044416 then (spec_UnitBlocks.l0 k x0 (y394.set ((wrap64 ((y394.length : Int) - 1)) : Int).toNat ((rd_L3 y394 (wrap64 ((y394.length : Int) - 1))) ++ [rd x16 x18])) x16 x17 (wrap64 (x18 + 1))) else (none)) else (none)) else (none))) else (none)) else (if 0 ≤ (wrap64 ((x4.length : Int) - 1)) then (if (wrap64 ((x4.length : Int) - 1)) < (x4.length : Int) then (if (rd_L3 x4 (wrap64 ((x4.length : Int) - 1))).length < 17592186044416 then (spec_UnitBlocks.l0 k x0 (x4.set ((wrap64 ((x4.length : Int) - 1)) : Int).toNat ((rd_L3 x4 (wrap64 ((x4.length : Int) - 1))) ++ [rd x16 x18])) x16 x17 (wrap64 (x18 + 1))) else (none)) else (none)) else (none))) else (none)) else (none)) else (none)) else (none)) else (some (x4, true))
end
def spec_UnitBlocks.f (k : Nat) (l0 : List Int) : Option ((List (List Int)) × Bool) := (spec_paParking.f k l0).bind fun t387 => (if t387 = true then ((spec_vaUnit.f k l0 1).bind fun t388 => (spec_UnitBlocks.j0 k l0 (!t388))) else (spec_UnitBlocks.j0 k l0 true))
theorem spec_UnitBlocks.mono_l : ∀ k, (∀ y0 y1, LeO (spec_UnitBlocks.j0 k y0 y1) (spec_UnitBlocks.j0 (k + 1) y0 y1)) ∧ (∀ y0 y1 y2 y3 y4, LeO (spec_UnitBlocks.l0 k y0 y1 y2 y3 y4) (spec_UnitBlocks.l0 (k + 1) y0 y1 y2 y3 y4))
 | 0 => ⟨fun _ _ r h => by simp [spec_UnitBlocks.j0] at h, fun _ _ _ _ _ r h => by simp [spec_UnitBlocks.l0] at h⟩
 | k + 1 => by
  obtain ⟨ih0, ih1⟩ := spec_UnitBlocks.mono_l k
  refine ⟨?_, ?_⟩
  ·
   intro y0 y1
   unfold spec_UnitBlocks.j0
   repeat' (with_reducible first | exact ih0 _ _ | exact ih1 _ _ _ _ _ | exact spec_paParking.mono _ _ | exact spec_vaFair.mono _ _ | exact spec_vaUnit.mono _ _ _ | exact LeO.refl _ | exact LeO.none _ | refine LeO.ite ?_ ?_ | refine LeO.bind ?_ (fun _ => ?_))
  ·
   intro y0 y1 y2 y3 y4
   unfold spec_UnitBlocks.l0
   repeat' (with_reducible first | exact ih0 _ _ | exact ih1 _ _ _ _ _ | exact spec_paParking.mono _ _ | exact spec_vaFair.mono _ _ | exact spec_vaUnit.mono _ _ _ | exact LeO.refl _ | exact LeO.none _ | refine LeO.ite ?_ ?_ | refine LeO.bind ?_ (fun _ => ?_))
theorem spec_UnitBlocks.mono : ∀ a0 k, LeO (spec_UnitBlocks.f k a0) (spec_UnitBlocks.f (k + 1) a0) := by
 intro a0 k
 obtain ⟨ih0, ih1⟩ := spec_UnitBlocks.mono_l k
 unfold spec_UnitBlocks.f
 repeat' (with_reducible first | exact ih0 _ _ | exact ih1 _ _ _ _ _ | exact spec_paParking.mono _ _ | exact spec_vaFair.mono _ _ | exact spec_vaUnit.mono _ _ _ | exact LeO.refl _ | exact LeO.none _ | refine LeO.ite ?_ ?_ | refine LeO.bind ?_ (fun _ => ?_))
theorem spec_UnitBlocks.calls (k : Nat) (A0 : Option Addr) (c0 : Nat) (l0 : List Int) (r1 : List (List Int)) (r2 : Bool) (w : World) (hr0 : Kd.C (Kd.int .i64) w A0 l0.length l0) (hc0 : l0.length ≤ c0) (h : spec_UnitBlocks.f k l0 = some (r1, r2)) :
  Calls Tryz.prog 7 #[.slice A0 l0.length c0] w fun e w' => ∃ v0_ : Value, e = .returned (.tuple #[v0_, .bool r2]) ∧ Kd.S (Kd.slice 3 (Kd.int .i64)) 24 w' w.heap.size (fun _ => True) v0_ r1 ∧ Below w.heap.size w w' := by
 have HR0 := Aside0.mk hr0
 have HC0 := Aside0.mk hc0
 clear hr0 hc0
 have HB := Aside0.mk (Below.refl w.heap.size w)
 unfold spec_UnitBlocks.f at h
 have H := h; clear h
 have HC2 := Aside0.mk H
 clear H
 go_enter Tryz.func7, Tryz.ntmps7
 go_upto_region 1 with (fail)
 go_cut [14] (fun v14 wc => ∃ (kq : Nat) (x14_1 : Bool), v14 = .bool x14_1 ∧ Aside0 (spec_UnitBlocks.j0 kq l0 x14_1 = some (r1, r2)) ∧ Aside0 (kq ≤ k) ∧ Aside0 (Below w.heap.size w wc))
 case first =>
  have H := HC2.out
  clear HC2
  obtain ⟨t387, A3, H⟩ := ob_ H
  by_cases c4 : t387 = true
  ·
   subst c4
   rw [if_pos rfl] at H
   obtain ⟨t388, A5, H⟩ := ob_ H
   have H' := Aside0.mk H
   clear H
   go_wp2_with (first | ((with_reducible refine gate_callee (f := 24) rfl ?_); refine gl_ 8 Tryz.func24 #[.slice A0 l0.length c0] ?_; (with_reducible refine (spec_paParking.calls k _ _ l0 true _ ?s1 ?s2 A3.out).mono ?_); (case s1 => exact qe02_ HR0.out); (case s2 => exact HC0.out); rintro e w6 ⟨rfl, hb⟩; refine ⟨_, rfl, ?_⟩; replace HB := Aside0.mk (below_step q0c4_ hb); clear hb) | (go_at_call 25; (with_reducible refine (spec_vaUnit.calls k _ _ l0 1 t388 _ ?s1 ?s2 A5.out).mono ?_); (case s1 => exact qe02_ HR0.out); (case s2 => exact HC0.out); rintro e w7 ⟨rfl, hb⟩; replace HB := Aside0.mk (below_step q0c4_ hb); clear hb))
   go_meet
   case rel => exact ⟨_, (!t388), qc8f_, H', ⟨q821_⟩, ⟨q0c4_⟩⟩
  ·
   replace c4 := Bool.eq_false_iff.mpr c4
   subst c4
   rw [if_neg nf_] at H
   have H' := Aside0.mk H
   clear H
   go_wp2_with (first | ((with_reducible refine gate_callee (f := 24) rfl ?_); refine gl_ 8 Tryz.func24 #[.slice A0 l0.length c0] ?_; (with_reducible refine (spec_paParking.calls k _ _ l0 false _ ?s1 ?s2 A3.out).mono ?_); (case s1 => exact qe02_ HR0.out); (case s2 => exact HC0.out); rintro e w8 ⟨rfl, hb⟩; refine ⟨_, rfl, ?_⟩; replace HB := Aside0.mk (below_step q0c4_ hb); clear hb))
   go_meet
   case rel => exact ⟨_, (true), qc8f_, H', ⟨q821_⟩, ⟨q0c4_⟩⟩
 case rest =>
  clear HC2; try clear c2; try clear p2; try clear c4; try clear c7
  obtain ⟨kq, x14_1, rfl, HA, HJ1, HB⟩ := hcut
  cases kq with
  | zero => exact absurd HA.out (by simp [spec_UnitBlocks.j0])
  | succ kj1 =>
   have H := HA.out
   clear HA
   simp only [spec_UnitBlocks.j0] at H
   by_cases c9 : x14_1 = true
   ·
    subst c9
    rw [if_pos rfl] at H
    simp only [Option.some.injEq, Prod.mk.injEq] at H
    obtain ⟨rfl, rfl⟩ := H
    go_wp2
    go_ret2
    exact ⟨_, qce7_, qc14_, q0c4_⟩
   ·
    replace c9 := Bool.eq_false_iff.mpr c9
    subst c9
    rw [if_neg nf_] at H
    obtain ⟨t389, A10, H⟩ := ob_ H
    have H' := Aside0.mk H
    clear H
    go_wp2_with (first | ((with_reducible refine gate_callee (f := 26) rfl ?_); refine gl_ 16 Tryz.func26 #[.slice A0 l0.length c0] ?_; (with_reducible refine (spec_vaFair.calls kj1 _ _ l0 t389 _ ?s1 ?s2 A10.out).mono ?_); (case s1 => exact qe02_ HR0.out); (case s2 => exact HC0.out); rintro e w11 ⟨v390, rfl, ho0, hb⟩; refine ⟨_, rfl, ?_⟩; have HO391 := Aside0.mk (Kd.R_lower ho0 (below_size q0c4_)); replace HB := Aside0.mk (below_step q0c4_ hb); clear hb ho0; obtain ⟨Ao12, co12, eo12⟩ := Kd.R_slice HO391.out; subst eo12))
    go_loopg [4, 18] kj1 (fun kq v4 v18 w' => ∃ (x4_2 : List (List Int)) (x18_2 : Int), v18 = .int .i64 x18_2 ∧ Aside0 (spec_UnitBlocks.l0 kq l0 x4_2 t389 (t389.length : Int) x18_2 = some (r1, r2)) ∧ Aside0 (kq ≤ kj1) ∧ Aside0 (Kd.S (Kd.slice 3 (Kd.int .i64)) 24 w' w.heap.size (fun k_ => some k_ ≠ ((.slice Ao12 t389.length co12) : Value).ownBlock) v4 x4_2) ∧ Aside0 (Kd.R (Kd.int .i64) 3 w' w.heap.size (fun _ => True) (.slice Ao12 t389.length co12) t389) ∧ Aside0 (Below w.heap.size w w'))
    case atStart => exact ⟨(([] : List (List Int))), (0), qc8f_, H', ⟨Nat.le_refl _⟩, ⟨qc14_⟩, ⟨q9d5_ HO391.out⟩, ⟨q0c4_⟩⟩
    case round =>
     clear H'; try clear c2; try clear p2; try clear c4; try clear c7; try clear c9; try clear p2
     obtain ⟨x4_2, x18_2, rfl, HA, HK2, HO_4, HO_16, HB⟩ := hrel
     cases gk with
     | zero => exact absurd HA.out (by simp [spec_UnitBlocks.l0])
     | succ k2 =>
      have H := HA.out
      clear HA
      simp only [spec_UnitBlocks.l0] at H
      by_cases c13 : x18_2 < (t389.length : Int)
      ·
       rw [if_pos c13] at H
       have c13b0 := decide_eq_true c13
       clear c13
       by_cases c14 : 0 ≤ x18_2
       ·
        rw [if_pos c14] at H
        have c14b0 := decide_eq_true c14
        clear c14
        by_cases c15 : x18_2 < (t389.length : Int)
        ·
         rw [if_pos c15] at H
         have c15b0 := decide_eq_true c15
         clear c15
         by_cases c16 : 0 ≤ (rd t389 x18_2)
         ·
          rw [if_pos c16] at H
          have c16b0 := decide_eq_true c16
          clear c16
          by_cases c17 : (rd t389 x18_2) < (l0.length : Int)
          ·
           rw [if_pos c17] at H
           have c17b0 := decide_eq_true c17
           clear c17
           by_cases c18 : (rd l0 (rd t389 x18_2)) = x18_2
           ·
            rw [if_pos c18] at H
            have c18b0 := beq_iff_eq.mpr c18
            have c18b1 := bne_eq_false_iff_eq.mpr c18
            clear c18
            by_cases c19 : x4_2.length < 5864062014805
            ·
             rw [if_pos c19] at H
             have LMc19 := Aside0.mk c19
             clear c19
             obtain ⟨y394, hy394⟩ : ∃ y_ : List (List Int), y_ = (x4_2 ++ [[]]) := ⟨_, rfl⟩
             replace H : (if 0 ≤ (wrap64 ((y394.length : Int) - 1)) then (if (wrap64 ((y394.length : Int) - 1)) < (y394.length : Int) then (if (rd_L3 y394 (wrap64 ((y394.length : Int) - 1))).length < 17592186044416 then (spec_UnitBlocks.l0 k2 l0 (y394.set ((wrap64 ((y394.length : Int) - 1)) : Int).toNat ((rd_L3 y394 (wrap64 ((y394.length : Int) - 1))) ++ [rd t389 x18_2])) t389 (t389.length : Int) (wrap64 (x18_2 + 1))) else (none)) else (none)) else (none)) = some (r1, r2) := by first | (rw [hy394]; with_reducible exact H) | (have H2_ := (Option.bind_some _ _).symm.trans H; rw [hy394]; with_reducible exact H2_) | (have H2_ := (Option.bind_some _ _).symm.trans H; with_reducible exact H2_) | with_reducible exact H | (rw [hy394]; exact H) | exact H
             have Ny394 := Aside0.mk hy394
             clear hy394
             obtain ⟨ji20, hji20⟩ : ∃ j_ : Int, (wrap64 ((y394.length : Int) - 1)) = j_ := ⟨_, rfl⟩
             replace H : (if 0 ≤ (ji20) then (if (ji20) < (y394.length : Int) then (if (rd_L3 y394 (ji20)).length < 17592186044416 then (spec_UnitBlocks.l0 k2 l0 (y394.set ((ji20) : Int).toNat ((rd_L3 y394 (ji20)) ++ [rd t389 x18_2])) t389 (t389.length : Int) (wrap64 (x18_2 + 1))) else (none)) else (none)) else (none)) = some (r1, r2) := by first | (rw [hji20] at H; exact H) | (simp only [hji20] at H ⊢; exact H)
             have hji20w : (IntKind.i64.wrap ((y394.length : Int) - 1)) = ji20 := (i64_w _).trans hji20
             by_cases c21 : 0 ≤ (ji20)
             ·
              rw [if_pos c21] at H
              have c21b0 := decide_eq_true c21
              clear c21
              by_cases c22 : (ji20) < (y394.length : Int)
              ·
               rw [if_pos c22] at H
               have c22b0 := decide_eq_true c22
               clear c22
               by_cases c23 : (rd_L3 y394 (ji20)).length < 17592186044416
               ·
                rw [if_pos c23] at H
                have LMc23 := Aside0.mk c23
                clear c23
                obtain ⟨y398, hy398⟩ : ∃ y_ : List Int, y_ = ((rd_L3 y394 (ji20)) ++ [rd t389 x18_2]) := ⟨_, rfl⟩
                replace H : (spec_UnitBlocks.l0 k2 l0 (y394.set ((ji20) : Int).toNat y398) t389 (t389.length : Int) (wrap64 (x18_2 + 1))) = some (r1, r2) := by first | (rw [hy398]; with_reducible exact H) | (have H2_ := (Option.bind_some _ _).symm.trans H; rw [hy398]; with_reducible exact H2_) | (have H2_ := (Option.bind_some _ _).symm.trans H; with_reducible exact H2_) | with_reducible exact H | (rw [hy398]; exact H) | exact H
                have Ny398 := Aside0.mk hy398
                clear hy398
                obtain ⟨y401, hy401⟩ : ∃ y_ : List (List Int), y_ = (y394.set ((ji20) : Int).toNat y398) := ⟨_, rfl⟩
                replace H : (spec_UnitBlocks.l0 k2 l0 y401 t389 (t389.length : Int) (wrap64 (x18_2 + 1))) = some (r1, r2) := by first | (rw [hy401]; with_reducible exact H) | (have H2_ := (Option.bind_some _ _).symm.trans H; rw [hy401]; with_reducible exact H2_) | (have H2_ := (Option.bind_some _ _).symm.trans H; with_reducible exact H2_) | with_reducible exact H | (rw [hy401]; exact H) | exact H
                have Ny401 := Aside0.mk hy401
                clear hy401
                have H' := Aside0.mk H
                clear H
                have p392 : 0 ≤ (x18_2 : Int) := of_decide_eq_true qe84_
                have q392 : x18_2 < (t389.length : Int) := of_decide_eq_true qe84_
                obtain ⟨ad392, e392, hx392_0⟩ := Kd.at_int (Kd.R_reads' HO_16.out).2.2 x18_2 p392 q392
                cases e392
                replace p392 := eq_true p392
                replace q392 := eq_true q392
                have p393 : 0 ≤ ((rd t389 x18_2) : Int) := of_decide_eq_true qe84_
                have q393 : (rd t389 x18_2) < (l0.length : Int) := of_decide_eq_true qe84_
                obtain ⟨ad393, e393, hx393_0⟩ := Kd.at_int HR0.out (rd t389 x18_2) p393 q393
                cases e393
                (try (replace hx393_0 := (HB.out.cell (World.block_lt_of_cell? w _ hx393_0)).trans hx393_0))
                replace p393 := eq_true p393
                replace q393 := eq_true q393
                go_wp2_with (first | ((with_reducible refine gate_builtin (b := .append) (xs := #[.tmp 29, .tmp 30]) rfl ?_); at_builtin; refine Kd.S_append (Kd.slice 3 (Kd.int .i64)) (w0 := w) w.heap.size rfl (.tmp 29) (.tmp 30) 26 24 (.slice none 0 0) 24 rfl Tryz.underlying26 info24 rfl (by decide) (by omega) u4 x4_2 [] [.slice none 0 0] (fun k_ => some k_ ≠ (.slice (some ad392) t389.length co12 : Value).ownBlock) (fun _ => False) rfl rfl ?aP (fun _ hk => hk.elim) ?aF ?aO ?aB ?aS ?aL ?_; (case aP => exact ⟨_, rfl, Kd.R_nil _ _ _ _ _⟩); (case aB => exact q0c4_); (case aF => exact (fun k_ hk => Kd.fresh' (Kd.R_lt (q9d5_ HO_16.out)) k_ hk)); (case aO => exact (q607_ HO_4.out)); (case aS => exact (below_size q0c4_)); (case aL => have := LMc19.out; omega); intro v395 w25 ho hb hg hat; rw [← Ny394.out] at ho; have n0_ := Aside0.mk (Kd.R_over' (q9d5_ HO_16.out) (Kd.S_typed (qd7e_ HO_4.out)) (by decide) hg); have n1_ := Aside0.mk (hb); have n2_ := Aside0.mk (ho); replace HO_16 := n0_; replace HB := n1_; have HO396 := n2_; clear n0_ n1_ n2_; clear ho hb hg hat; obtain ⟨Ao26, co26, eo26⟩ := Kd.S_slice HO396.out; subst eo26; have p397 : 0 ≤ ((ji20) : Int) := of_decide_eq_true qe84_; have q397 : (ji20) < (y394.length : Int) := of_decide_eq_true qe84_; obtain ⟨ad397, A397_0, c397_0, e397, hx397_0, hl397_0, hi397_0⟩ := at_L3 (Kd.S_reads' HO396.out).2.2 (ji20) p397 q397; cases e397; obtain ⟨ce397, hce397, hMe397, hcc397⟩ := Kd.S_get HO396.out [] (ji20) p397 (by first | exact q397 | exact of_decide_eq_true qe84_ | (have e_ := (Kd.S_reads' HO396.out).1; omega)); obtain ⟨ve397_0, rfl, ge397_0⟩ := hMe397; have hv397_0 := hcc397 0 _ rfl; rw [Nat.add_zero, show ((Kd.slice 3 (Kd.int .i64))).sz = 1 from rfl, Nat.mul_one] at hv397_0; replace hv397_0 := Option.some.inj (hv397_0.symm.trans hx397_0); rw [hv397_0] at ge397_0; have HL397_0 := Aside0.mk (show Kd.R (Kd.int .i64) 3 _ _ _ _ (rd_L3 y394 (ji20)) from ge397_0); clear hv397_0 ge397_0; have HX397_0 := Aside0.mk hx397_0; clear hcc397 hce397; have HR397_0 := Aside0.mk hi397_0; have HC397_0 := Aside0.mk hl397_0; clear hi397_0 hl397_0; replace p397 := eq_true p397; replace q397 := eq_true q397; obtain ⟨go27, co27, eo27, gb27, gl27, cl27, HG27⟩ := Kd.S_form HO396.out (by have h_ : ((ji20) : Int) < ((y394.length : Int) : Int) := of_decide_eq_true qe84_; have h2_ : 0 ≤ ((ji20) : Int) := (of_decide_eq_true qe84_); omega); (first | cases eo27 | (injection eo27 with ea_ en_ ec_; (first | subst ea_ | (injection ea_ with ea_; subst ea_)); subst ec_; clear en_)); have GB27 := Aside0.mk gb27; have GG27 := Aside0.mk HG27; clear gb27 gl27 HG27; (first | simp only [add_plain] at hx397_0 | skip); obtain ⟨oki27, ce27, hcl27, hM27, hcc27, _, _, hH27⟩ := Kd.S_elem HO396.out [] ((ji20) : Int) (of_decide_eq_true qe84_) (by have h_ : ((ji20) : Int) < ((y394.length : Int) : Int) := of_decide_eq_true qe84_; first | exact h_ | (have e_ := (Kd.S_reads' HO396.out).1; omega) | simpa using h_); obtain ⟨ve27_0, rfl, ge27_0⟩ := hM27; have hv27 := hcc27 0 _ rfl; have hX27 := HX397_0.out; (try simp only [add_plain] at hX27); (try simp only [Nat.add_zero] at hv27); (try rw [show ((Kd.slice 3 (Kd.int .i64))).sz = 1 from rfl, Nat.mul_one] at hv27); replace hv27 := Option.some.inj (hv27.symm.trans hX27); subst hv27; clear hX27 hcc27 hcl27; have UU27 := Aside0.mk (show Kd.R (Kd.int .i64) 3 _ w.heap.size oki27 (.slice A397_0 (rd_L3 y394 (ji20)).length c397_0) (rd_L3 y394 (ji20)) from ge27_0); have HH27 := Aside0.mk hH27; have HN27 := Aside0.mk (Kd.S_reads' HO396.out).1; clear hH27 ge27_0) | ((with_reducible refine gate_builtin (b := .append) (xs := #[.tmp 41, .tmp 43]) rfl ?_); at_builtin; refine Kd.R_append (Kd.int .i64) (w0 := w) w.heap.size rfl (.tmp 41) (.tmp 43) 24 3 (.int .i64 0) 8 rfl Tryz.underlying24 info3 rfl (by decide) (by omega) (.slice A397_0 (rd_L3 y394 (ji20)).length c397_0) (rd_L3 y394 (ji20)) (rd t389 x18_2) [.int .i64 (rd t389 x18_2)] (fun k_ => oki27 k_ ∨ ((fun k_ => some k_ ≠ (.slice (some ad392) t389.length co12 : Value).ownBlock)) k_ ∧ w25.heap.size ≤ k_) (fun _ => False) rfl rfl ?aP (fun _ hk => hk.elim) ?aF ?aO ?aB ?aS ?aL ?_; (case aP => exact rfl); (case aB => exact q0c4_); (case aF => exact (fun k_ hk => .inr ⟨Kd.fresh' (Kd.R_lt (q9d5_ HO_16.out)) k_ hk, hk⟩)); (case aO => exact (by (with_reducible repeat (first | apply Kd.R_alloc | apply Kd.R_drewN | apply Kd.R_drew)); exact Kd.R_mono UU27.out (fun _ hk => .inl hk))); (case aS => exact (below_size q0c4_)); (case aL => have := LMc23.out; omega); intro v399 w28 ho hb hg hat; rw [← Ny398.out] at ho; have n0_ := Aside0.mk (Kd.R_grown2 (q9d5_ HO_16.out) rfl hg (fun k_ e_ => (HL397_0.out.1 k_ e_).1)); have n1_ := Aside0.mk (hb); have n2_ := Aside0.mk (Kd.H_grown (Kd.H_widen (q912_ HH27.out)) hg (fun k_ e_ => .inl (UU27.out.1 k_ e_))); have n3_ := Aside0.mk (ho); replace HO_16 := n0_; replace HB := n1_; replace HH27 := n2_; have HO400 := n3_; clear n0_ n1_ n2_ n3_; clear ho hb hg hat; have p24 : 0 ≤ ((ji20) : Int) := of_decide_eq_true qe84_; have q24 : ((ji20) : Int) < ((y394.length : Int) : Int) := of_decide_eq_true qe84_; replace p24 := eq_true p24; replace q24 := eq_true q24; obtain ⟨Ao31, co31, eo31⟩ := Kd.R_slice HO400.out; subst eo31; obtain ⟨_, _, hraw29, _, _, hcc29, _⟩ := Kd.H_raw HH27.out (of_decide_eq_true qe84_) (by have h_ : ((ji20) : Int) < ((y394.length : Int) : Int) := of_decide_eq_true qe84_; first | exact h_ | (have e_ := (HN27.out); omega) | simpa using h_); obtain ⟨_, hfr29⟩ := Kd.H_at HH27.out (of_decide_eq_true qe84_) (by have h_ : ((ji20) : Int) < ((y394.length : Int) : Int) := of_decide_eq_true qe84_; first | exact h_ | (have e_ := (HN27.out); omega) | simpa using h_); have hx29_0 := hcc29 0 _ rfl; have hf29_0 := hfr29 0; (try simp only [Nat.add_zero] at hx29_0 hf29_0); (try rw [show ((Kd.slice 3 (Kd.int .i64))).sz = 1 from rfl, Nat.mul_one] at hx29_0); (try rw [show ((Kd.slice 3 (Kd.int .i64))).sz = 1 from rfl, Nat.mul_one] at hf29_0); have HP29 := Kd.S_seg0 HH27.out (of_decide_eq_true qe84_) (by have h_ : ((ji20) : Int) < ((y394.length : Int) : Int) := of_decide_eq_true qe84_; first | exact h_ | (have e_ := (HN27.out); omega) | simpa using h_) (seg := [.slice Ao31 y398.length co31]) (j := 0) (show 1 ≤ 1 from by decide) (x' := y398) (Kd.M_row HO400.out) (fun _ hk => hk); (try simp only [show ((Kd.slice 3 (Kd.int .i64))).sz = 1 from rfl, Nat.mul_one, Nat.add_zero] at HP29); clear hcc29 hfr29) | ((with_reducible refine gate_store (t := 24) (p := 45) rfl ?_); refine store_event (t := 24) (p := 45) (v := ?vo_w30) (w1 := (w28.setCell ⟨go27, ((ji20) : Int).toNat, none⟩ (.slice Ao31 y398.length co31))) ?hg ?ho ?hn ?hr ?_; (case ho => rfl); (case hg => rfl); (case hn => rfl); (case hr => exact qba7_); intro w30 hw; have hg : w28.grownBy w30 (some go27) := (by rw [hw]; exact HP29.2); have hp_ : Kd.S (Kd.slice 3 (Kd.int .i64)) 24 w30 w.heap.size (fun k_ => some k_ ≠ (.slice (some ad392) t389.length co12 : Value).ownBlock) (.slice (some ⟨go27, 0, none⟩) y394.length co26) y401 := (by rw [hw, Ny401.out]; exact HP29.1); clear HP29; have n0_ := Aside0.mk (Kd.R_over' (v := (.slice (some ⟨go27, 0, none⟩) y394.length co26)) (q9d5_ HO_16.out) (Kd.R_typed hraw29) (by decide) hg); have n1_ := Aside0.mk ((by rw [hw]; exact below_set HB.out GB27.out : Below w.heap.size w w30)); have n2_ := Aside0.mk (hp_); replace HO_16 := n0_; replace HB := n1_; have HO396 := n2_; clear n0_ n1_ n2_; clear hg hw hp_ hraw29))
                go_roundg k2
                case measure => have := HJ1.out; have := HK2.out; omega
                case rel => exact ⟨(y401), (wrap64 (x18_2 + 1)), qc8f_, H', ⟨q37b_ HJ1.out HK2.out⟩, ⟨qd7e_ HO396.out⟩, ⟨q9d5_ HO_16.out⟩, ⟨q0c4_⟩⟩
               ·
                rw [if_neg c23] at H
                exact absurd H (by simp)
              ·
               rw [if_neg c22] at H
               exact absurd H (by simp)
             ·
              rw [if_neg c21] at H
              exact absurd H (by simp)
            ·
             rw [if_neg c19] at H
             exact absurd H (by simp)
           ·
            rw [if_neg c18] at H
            have c18b0 := beq_eq_false_iff_ne.mpr c18
            have c18b1 := bne_iff_ne.mpr c18
            obtain ⟨ji32, hji32⟩ : ∃ j_ : Int, (wrap64 ((x4_2.length : Int) - 1)) = j_ := ⟨_, rfl⟩
            replace H : (if 0 ≤ (ji32) then (if (ji32) < (x4_2.length : Int) then (if (rd_L3 x4_2 (ji32)).length < 17592186044416 then (spec_UnitBlocks.l0 k2 l0 (x4_2.set ((ji32) : Int).toNat ((rd_L3 x4_2 (ji32)) ++ [rd t389 x18_2])) t389 (t389.length : Int) (wrap64 (x18_2 + 1))) else (none)) else (none)) else (none)) = some (r1, r2) := by first | (rw [hji32] at H; exact H) | (simp only [hji32] at H ⊢; exact H)
            have hji32w : (IntKind.i64.wrap ((x4_2.length : Int) - 1)) = ji32 := (i64_w _).trans hji32
            by_cases c33 : 0 ≤ (ji32)
            ·
             rw [if_pos c33] at H
             have c33b0 := decide_eq_true c33
             clear c33
             by_cases c34 : (ji32) < (x4_2.length : Int)
             ·
              rw [if_pos c34] at H
              have c34b0 := decide_eq_true c34
              clear c34
              by_cases c35 : (rd_L3 x4_2 (ji32)).length < 17592186044416
              ·
               rw [if_pos c35] at H
               have LMc35 := Aside0.mk c35
               clear c35
               obtain ⟨y403, hy403⟩ : ∃ y_ : List Int, y_ = ((rd_L3 x4_2 (ji32)) ++ [rd t389 x18_2]) := ⟨_, rfl⟩
               replace H : (spec_UnitBlocks.l0 k2 l0 (x4_2.set ((ji32) : Int).toNat y403) t389 (t389.length : Int) (wrap64 (x18_2 + 1))) = some (r1, r2) := by first | (rw [hy403]; with_reducible exact H) | (have H2_ := (Option.bind_some _ _).symm.trans H; rw [hy403]; with_reducible exact H2_) | (have H2_ := (Option.bind_some _ _).symm.trans H; with_reducible exact H2_) | with_reducible exact H | (rw [hy403]; exact H) | exact H
               have Ny403 := Aside0.mk hy403
               clear hy403
               obtain ⟨y406, hy406⟩ : ∃ y_ : List (List Int), y_ = (x4_2.set ((ji32) : Int).toNat y403) := ⟨_, rfl⟩
               replace H : (spec_UnitBlocks.l0 k2 l0 y406 t389 (t389.length : Int) (wrap64 (x18_2 + 1))) = some (r1, r2) := by first | (rw [hy406]; with_reducible exact H) | (have H2_ := (Option.bind_some _ _).symm.trans H; rw [hy406]; with_reducible exact H2_) | (have H2_ := (Option.bind_some _ _).symm.trans H; with_reducible exact H2_) | with_reducible exact H | (rw [hy406]; exact H) | exact H
               have Ny406 := Aside0.mk hy406
               clear hy406
               have H' := Aside0.mk H
               clear H
               have p392 : 0 ≤ (x18_2 : Int) := of_decide_eq_true qe84_
               have q392 : x18_2 < (t389.length : Int) := of_decide_eq_true qe84_
               obtain ⟨ad392, e392, hx392_0⟩ := Kd.at_int (Kd.R_reads' HO_16.out).2.2 x18_2 p392 q392
               cases e392
               replace p392 := eq_true p392
               replace q392 := eq_true q392
               have p393 : 0 ≤ ((rd t389 x18_2) : Int) := of_decide_eq_true qe84_
               have q393 : (rd t389 x18_2) < (l0.length : Int) := of_decide_eq_true qe84_
               obtain ⟨ad393, e393, hx393_0⟩ := Kd.at_int HR0.out (rd t389 x18_2) p393 q393
               cases e393
               (try (replace hx393_0 := (HB.out.cell (World.block_lt_of_cell? w _ hx393_0)).trans hx393_0))
               replace p393 := eq_true p393
               replace q393 := eq_true q393
               obtain ⟨Ao37, co37, eo37⟩ := Kd.S_slice HO_4.out
               subst eo37
               have p402 : 0 ≤ ((ji32) : Int) := of_decide_eq_true qe84_
               have q402 : (ji32) < (x4_2.length : Int) := of_decide_eq_true qe84_
               obtain ⟨ad402, A402_0, c402_0, e402, hx402_0, hl402_0, hi402_0⟩ := at_L3 (Kd.S_reads' HO_4.out).2.2 (ji32) p402 q402
               cases e402
               obtain ⟨ce402, hce402, hMe402, hcc402⟩ := Kd.S_get HO_4.out [] (ji32) p402 (by first | exact q402 | exact of_decide_eq_true qe84_ | (have e_ := (Kd.S_reads' HO_4.out).1; omega))
               obtain ⟨ve402_0, rfl, ge402_0⟩ := hMe402
               have hv402_0 := hcc402 0 _ rfl
               rw [Nat.add_zero, show ((Kd.slice 3 (Kd.int .i64))).sz = 1 from rfl, Nat.mul_one] at hv402_0
               replace hv402_0 := Option.some.inj (hv402_0.symm.trans hx402_0)
               rw [hv402_0] at ge402_0
               have HL402_0 := Aside0.mk (show Kd.R (Kd.int .i64) 3 _ _ _ _ (rd_L3 x4_2 (ji32)) from ge402_0)
               clear hv402_0 ge402_0
               have HX402_0 := Aside0.mk hx402_0
               clear hcc402 hce402
               have HR402_0 := Aside0.mk hi402_0
               have HC402_0 := Aside0.mk hl402_0
               clear hi402_0 hl402_0
               replace p402 := eq_true p402
               replace q402 := eq_true q402
               obtain ⟨go38, co38, eo38, gb38, gl38, cl38, HG38⟩ := Kd.S_form HO_4.out (by have h_ : ((ji32) : Int) < ((x4_2.length : Int) : Int) := of_decide_eq_true qe84_; have h2_ : 0 ≤ ((ji32) : Int) := (of_decide_eq_true qe84_); omega)
               (first | cases eo38 | (injection eo38 with ea_ en_ ec_; (first | subst ea_ | (injection ea_ with ea_; subst ea_)); subst ec_; clear en_))
               have GB38 := Aside0.mk gb38
               have GG38 := Aside0.mk HG38
               clear gb38 gl38 HG38
               (first | simp only [add_plain] at hx402_0 | skip)
               obtain ⟨oki38, ce38, hcl38, hM38, hcc38, _, _, hH38⟩ := Kd.S_elem HO_4.out [] ((ji32) : Int) (of_decide_eq_true qe84_) (by have h_ : ((ji32) : Int) < ((x4_2.length : Int) : Int) := of_decide_eq_true qe84_; first | exact h_ | (have e_ := (Kd.S_reads' HO_4.out).1; omega) | simpa using h_)
               obtain ⟨ve38_0, rfl, ge38_0⟩ := hM38
               have hv38 := hcc38 0 _ rfl
               have hX38 := HX402_0.out
               (try simp only [add_plain] at hX38)
               (try simp only [Nat.add_zero] at hv38)
               (try rw [show ((Kd.slice 3 (Kd.int .i64))).sz = 1 from rfl, Nat.mul_one] at hv38)
               replace hv38 := Option.some.inj (hv38.symm.trans hX38)
               subst hv38
               clear hX38 hcc38 hcl38
               have UU38 := Aside0.mk (show Kd.R (Kd.int .i64) 3 _ w.heap.size oki38 (.slice A402_0 (rd_L3 x4_2 (ji32)).length c402_0) (rd_L3 x4_2 (ji32)) from ge38_0)
               have HH38 := Aside0.mk hH38
               have HN38 := Aside0.mk (Kd.S_reads' HO_4.out).1
               clear hH38 ge38_0
               go_wp2_with (first | ((with_reducible refine gate_builtin (b := .append) (xs := #[.tmp 41, .tmp 43]) rfl ?_); at_builtin; refine Kd.R_append (Kd.int .i64) (w0 := w) w.heap.size rfl (.tmp 41) (.tmp 43) 24 3 (.int .i64 0) 8 rfl Tryz.underlying24 info3 rfl (by decide) (by omega) (.slice A402_0 (rd_L3 x4_2 (ji32)).length c402_0) (rd_L3 x4_2 (ji32)) (rd t389 x18_2) [.int .i64 (rd t389 x18_2)] (fun k_ => oki38 k_ ∨ ((fun k_ => some k_ ≠ (.slice (some ad392) t389.length co12 : Value).ownBlock)) k_ ∧ wr.heap.size ≤ k_) (fun _ => False) rfl rfl ?aP (fun _ hk => hk.elim) ?aF ?aO ?aB ?aS ?aL ?_; (case aP => exact rfl); (case aB => exact q0c4_); (case aF => exact (fun k_ hk => .inr ⟨Kd.fresh' (Kd.R_lt (q9d5_ HO_16.out)) k_ hk, hk⟩)); (case aO => exact (by (with_reducible repeat (first | apply Kd.R_alloc | apply Kd.R_drewN | apply Kd.R_drew)); exact Kd.R_mono UU38.out (fun _ hk => .inl hk))); (case aS => exact (below_size q0c4_)); (case aL => have := LMc35.out; omega); intro v404 w39 ho hb hg hat; rw [← Ny403.out] at ho; have n0_ := Aside0.mk (Kd.R_grown2 (q9d5_ HO_16.out) rfl hg (fun k_ e_ => (HL402_0.out.1 k_ e_).1)); have n1_ := Aside0.mk (hb); have n2_ := Aside0.mk (Kd.H_grown (Kd.H_widen (q912_ HH38.out)) hg (fun k_ e_ => .inl (UU38.out.1 k_ e_))); have n3_ := Aside0.mk (ho); replace HO_16 := n0_; replace HB := n1_; replace HH38 := n2_; have HO405 := n3_; clear n0_ n1_ n2_ n3_; clear ho hb hg hat; have p36 : 0 ≤ ((ji32) : Int) := of_decide_eq_true qe84_; have q36 : ((ji32) : Int) < ((x4_2.length : Int) : Int) := of_decide_eq_true qe84_; replace p36 := eq_true p36; replace q36 := eq_true q36; obtain ⟨Ao42, co42, eo42⟩ := Kd.R_slice HO405.out; subst eo42; obtain ⟨_, _, hraw40, _, _, hcc40, _⟩ := Kd.H_raw HH38.out (of_decide_eq_true qe84_) (by have h_ : ((ji32) : Int) < ((x4_2.length : Int) : Int) := of_decide_eq_true qe84_; first | exact h_ | (have e_ := (HN38.out); omega) | simpa using h_); obtain ⟨_, hfr40⟩ := Kd.H_at HH38.out (of_decide_eq_true qe84_) (by have h_ : ((ji32) : Int) < ((x4_2.length : Int) : Int) := of_decide_eq_true qe84_; first | exact h_ | (have e_ := (HN38.out); omega) | simpa using h_); have hx40_0 := hcc40 0 _ rfl; have hf40_0 := hfr40 0; (try simp only [Nat.add_zero] at hx40_0 hf40_0); (try rw [show ((Kd.slice 3 (Kd.int .i64))).sz = 1 from rfl, Nat.mul_one] at hx40_0); (try rw [show ((Kd.slice 3 (Kd.int .i64))).sz = 1 from rfl, Nat.mul_one] at hf40_0); have HP40 := Kd.S_seg0 HH38.out (of_decide_eq_true qe84_) (by have h_ : ((ji32) : Int) < ((x4_2.length : Int) : Int) := of_decide_eq_true qe84_; first | exact h_ | (have e_ := (HN38.out); omega) | simpa using h_) (seg := [.slice Ao42 y403.length co42]) (j := 0) (show 1 ≤ 1 from by decide) (x' := y403) (Kd.M_row HO405.out) (fun _ hk => hk); (try simp only [show ((Kd.slice 3 (Kd.int .i64))).sz = 1 from rfl, Nat.mul_one, Nat.add_zero] at HP40); clear hcc40 hfr40) | ((with_reducible refine gate_store (t := 24) (p := 45) rfl ?_); refine store_event (t := 24) (p := 45) (v := ?vo_w41) (w1 := (w39.setCell ⟨go38, ((ji32) : Int).toNat, none⟩ (.slice Ao42 y403.length co42))) ?hg ?ho ?hn ?hr ?_; (case ho => rfl); (case hg => rfl); (case hn => rfl); (case hr => exact qba7_); intro w41 hw; have hg : w39.grownBy w41 (some go38) := (by rw [hw]; exact HP40.2); have hp_ : Kd.S (Kd.slice 3 (Kd.int .i64)) 24 w41 w.heap.size (fun k_ => some k_ ≠ (.slice (some ad392) t389.length co12 : Value).ownBlock) (.slice (some ⟨go38, 0, none⟩) x4_2.length co37) y406 := (by rw [hw, Ny406.out]; exact HP40.1); clear HP40; have n0_ := Aside0.mk (Kd.R_over' (v := (.slice (some ⟨go38, 0, none⟩) x4_2.length co37)) (q9d5_ HO_16.out) (Kd.R_typed hraw40) (by decide) hg); have n1_ := Aside0.mk ((by rw [hw]; exact below_set HB.out GB38.out : Below w.heap.size w w41)); have n2_ := Aside0.mk (hp_); replace HO_16 := n0_; replace HB := n1_; have HO_4 := n2_; clear n0_ n1_ n2_; clear hg hw hp_ hraw40))
               go_roundg k2
               case measure => have := HJ1.out; have := HK2.out; omega
               case rel => exact ⟨(y406), (wrap64 (x18_2 + 1)), qc8f_, H', ⟨q37b_ HJ1.out HK2.out⟩, ⟨qd7e_ HO_4.out⟩, ⟨q9d5_ HO_16.out⟩, ⟨q0c4_⟩⟩
              ·
               rw [if_neg c35] at H
               exact absurd H (by simp)
             ·
              rw [if_neg c34] at H
              exact absurd H (by simp)
            ·
             rw [if_neg c33] at H
             exact absurd H (by simp)
          ·
           rw [if_neg c17] at H
           exact absurd H (by simp)
         ·
          rw [if_neg c16] at H
          exact absurd H (by simp)
        ·
         rw [if_neg c15] at H
         exact absurd H (by simp)
       ·
        rw [if_neg c14] at H
        exact absurd H (by simp)
      ·
       rw [if_neg c13] at H
       have c13b0 := decide_eq_false c13
       clear c13
       simp only [Option.some.injEq, Prod.mk.injEq] at H
       obtain ⟨rfl, rfl⟩ := H
       go_wp2
       go_ret2
       exact ⟨_, qce7_, qcd3_ HO_4.out, q0c4_⟩

/-! ### laws_jSame: function 11 -/
def laws_jSame.l0 : Nat → List Int → List Int → Int → Int → Option (Bool)
 | 0, _, _, _, _ => none
 | k + 1, x0, x1, x12, x13 => if x13 < x12 then (if 0 ≤ x13 then (if x13 < (x0.length : Int) then (if x13 < (x1.length : Int) then (if (rd x0 x13) = (rd x1 x13) then (laws_jSame.l0 k x0 x1 x12 (wrap64 (x13 + 1))) else (some false)) else (none)) else (none)) else (none)) else (some true)
def laws_jSame.f (k : Nat) (l0 : List Int) (l1 : List Int) : Option (Bool) := if (l0.length : Int) = (l1.length : Int) then (laws_jSame.l0 k l0 l1 (l0.length : Int) 0) else (some false)
theorem laws_jSame.mono_l : ∀ k, (∀ y0 y1 y2 y3, LeO (laws_jSame.l0 k y0 y1 y2 y3) (laws_jSame.l0 (k + 1) y0 y1 y2 y3))
 | 0 => fun _ _ _ _ r h => by simp [laws_jSame.l0] at h
 | k + 1 => by
  have ih0 := laws_jSame.mono_l k
  ·
   intro y0 y1 y2 y3
   unfold laws_jSame.l0
   repeat' (with_reducible first | exact ih0 _ _ _ _ | exact LeO.refl _ | exact LeO.none _ | refine LeO.ite ?_ ?_ | refine LeO.bind ?_ (fun _ => ?_))
theorem laws_jSame.mono : ∀ a0 a1 k, LeO (laws_jSame.f k a0 a1) (laws_jSame.f (k + 1) a0 a1) := by
 intro a0 a1 k
 have ih0 := laws_jSame.mono_l k
 unfold laws_jSame.f
 repeat' (with_reducible first | exact ih0 _ _ _ _ | exact LeO.refl _ | exact LeO.none _ | refine LeO.ite ?_ ?_ | refine LeO.bind ?_ (fun _ => ?_))
theorem laws_jSame.calls (k : Nat) (A0 : Option Addr) (c0 : Nat) (l0 : List Int) (A1 : Option Addr) (c1 : Nat) (l1 : List Int) (r : Bool) (w : World) (hr0 : Kd.C (Kd.int .i64) w A0 l0.length l0) (hc0 : l0.length ≤ c0) (hr1 : Kd.C (Kd.int .i64) w A1 l1.length l1) (hc1 : l1.length ≤ c1) (h : laws_jSame.f k l0 l1 = some r) :
  Calls Tryz.prog 11 #[.slice A0 l0.length c0, .slice A1 l1.length c1] w fun e w' => e = .returned (.bool r) ∧ Drawn0 w w' := by
 have HR0 := Aside0.mk hr0
 have HC0 := Aside0.mk hc0
 clear hr0 hc0
 have HR1 := Aside0.mk hr1
 have HC1 := Aside0.mk hc1
 clear hr1 hc1
 unfold laws_jSame.f at h
 have H := h; clear h
 by_cases c3 : (l0.length : Int) = (l1.length : Int)
 ·
  rw [if_pos c3] at H
  have c3b0 := beq_iff_eq.mpr c3
  have c3b1 := bne_eq_false_iff_eq.mpr c3
  have c3b2 : (l0.length == l1.length) = true := q002_
  clear c3
  have H' := Aside0.mk H
  clear H
  go_enter Tryz.func11, Tryz.ntmps11
  go_wp2
  repeat (go_quiet (fail); try go_wp2)
  go_loopg [13] k (fun kq v13 w' => ∃ (x13_1 : Int), v13 = .int .i64 x13_1 ∧ Aside0 (laws_jSame.l0 kq l0 l1 (l0.length : Int) x13_1 = some r) ∧ Aside0 (kq ≤ k) ∧ Drawn0 w w')
  case atStart => exact ⟨(0), qc8f_, H', ⟨Nat.le_refl _⟩, qffa_⟩
  case round =>
   clear H'; try clear c1; try clear p2; try clear c3; try clear c3b0; try clear c3b1; try clear c3b2
   obtain ⟨x13_1, rfl, HA, HK1, ⟨m1, rfl⟩⟩ := hrel
   cases gk with
   | zero => exact absurd HA.out (by simp [laws_jSame.l0])
   | succ k1 =>
    have H := HA.out
    clear HA
    simp only [laws_jSame.l0] at H
    by_cases c4 : x13_1 < (l0.length : Int)
    ·
     rw [if_pos c4] at H
     have c4b0 := decide_eq_true c4
     clear c4
     by_cases c5 : 0 ≤ x13_1
     ·
      rw [if_pos c5] at H
      have c5b0 := decide_eq_true c5
      clear c5
      by_cases c6 : x13_1 < (l0.length : Int)
      ·
       rw [if_pos c6] at H
       have c6b0 := decide_eq_true c6
       clear c6
       by_cases c7 : x13_1 < (l1.length : Int)
       ·
        rw [if_pos c7] at H
        have c7b0 := decide_eq_true c7
        clear c7
        by_cases c8 : (rd l0 x13_1) = (rd l1 x13_1)
        ·
         rw [if_pos c8] at H
         have c8b0 := beq_iff_eq.mpr c8
         have c8b1 := bne_eq_false_iff_eq.mpr c8
         clear c8
         have H' := Aside0.mk H
         clear H
         have p407 : 0 ≤ (x13_1 : Int) := of_decide_eq_true qe84_
         have q407 : x13_1 < (l0.length : Int) := of_decide_eq_true qe84_
         obtain ⟨ad407, e407, hx407_0⟩ := Kd.at_int HR0.out x13_1 p407 q407
         cases e407
         replace p407 := eq_true p407
         replace q407 := eq_true q407
         have p408 : 0 ≤ (x13_1 : Int) := of_decide_eq_true qe84_
         have q408 : x13_1 < (l1.length : Int) := of_decide_eq_true qe84_
         obtain ⟨ad408, e408, hx408_0⟩ := Kd.at_int HR1.out x13_1 p408 q408
         cases e408
         replace p408 := eq_true p408
         replace q408 := eq_true q408
         go_wp2
         repeat (go_quiet (fail); try go_wp2)
         go_roundg k1
         case measure => have := HK1.out; omega
         case rel => exact ⟨(wrap64 (x13_1 + 1)), qc8f_, H', ⟨q1d0_ HK1.out⟩, qffa_⟩
        ·
         rw [if_neg c8] at H
         have c8b0 := beq_eq_false_iff_ne.mpr c8
         have c8b1 := bne_iff_ne.mpr c8
         obtain rfl := Option.some.inj H
         have p407 : 0 ≤ (x13_1 : Int) := of_decide_eq_true qe84_
         have q407 : x13_1 < (l0.length : Int) := of_decide_eq_true qe84_
         obtain ⟨ad407, e407, hx407_0⟩ := Kd.at_int HR0.out x13_1 p407 q407
         cases e407
         replace p407 := eq_true p407
         replace q407 := eq_true q407
         have p408 : 0 ≤ (x13_1 : Int) := of_decide_eq_true qe84_
         have q408 : x13_1 < (l1.length : Int) := of_decide_eq_true qe84_
         obtain ⟨ad408, e408, hx408_0⟩ := Kd.at_int HR1.out x13_1 p408 q408
         cases e408
         replace p408 := eq_true p408
         replace q408 := eq_true q408
         go_wp2
         repeat (go_quiet (fail); try go_wp2)
         go_ret
         exact ⟨qc8f_, qffa_⟩
       ·
        rw [if_neg c7] at H
        exact absurd H (by simp)
      ·
       rw [if_neg c6] at H
       exact absurd H (by simp)
     ·
      rw [if_neg c5] at H
      exact absurd H (by simp)
    ·
     rw [if_neg c4] at H
     have c4b0 := decide_eq_false c4
     clear c4
     obtain rfl := Option.some.inj H
     go_wp2
     repeat (go_quiet (fail); try go_wp2)
     go_ret
     exact ⟨qc8f_, qffa_⟩
 ·
  rw [if_neg c3] at H
  have c3b0 := beq_eq_false_iff_ne.mpr c3
  have c3b1 := bne_iff_ne.mpr c3
  have c3b2 : (l0.length == l1.length) = false := q002_
  obtain rfl := Option.some.inj H
  go_enter Tryz.func11, Tryz.ntmps11
  go_wp2
  repeat (go_quiet (fail); try go_wp2)
  go_ret
  exact ⟨qc8f_, qffa_⟩

/-! ### laws_jRows: function 8 -/
def laws_jRows.l0 : Nat → List (List Int) → List (List Int) → Int → Int → Option (Bool)
 | 0, _, _, _, _ => none
 | k + 1, x0, x1, x12, x13 => if x13 < x12 then (if 0 ≤ x13 then (if x13 < (x0.length : Int) then (if x13 < (x1.length : Int) then ((laws_jSame.f k (rd_L3 x0 x13) (rd_L3 x1 x13)).bind fun t411 => (if t411 = true then (laws_jRows.l0 k x0 x1 x12 (wrap64 (x13 + 1))) else (some false))) else (none)) else (none)) else (none)) else (some true)
def laws_jRows.f (k : Nat) (l0 : List (List Int)) (l1 : List (List Int)) : Option (Bool) := if (l0.length : Int) = (l1.length : Int) then (laws_jRows.l0 k l0 l1 (l0.length : Int) 0) else (some false)
theorem laws_jRows.mono_l : ∀ k, (∀ y0 y1 y2 y3, LeO (laws_jRows.l0 k y0 y1 y2 y3) (laws_jRows.l0 (k + 1) y0 y1 y2 y3))
 | 0 => fun _ _ _ _ r h => by simp [laws_jRows.l0] at h
 | k + 1 => by
  have ih0 := laws_jRows.mono_l k
  ·
   intro y0 y1 y2 y3
   unfold laws_jRows.l0
   repeat' (with_reducible first | exact ih0 _ _ _ _ | exact laws_jSame.mono _ _ _ | exact LeO.refl _ | exact LeO.none _ | refine LeO.ite ?_ ?_ | refine LeO.bind ?_ (fun _ => ?_))
theorem laws_jRows.mono : ∀ a0 a1 k, LeO (laws_jRows.f k a0 a1) (laws_jRows.f (k + 1) a0 a1) := by
 intro a0 a1 k
 have ih0 := laws_jRows.mono_l k
 unfold laws_jRows.f
 repeat' (with_reducible first | exact ih0 _ _ _ _ | exact laws_jSame.mono _ _ _ | exact LeO.refl _ | exact LeO.none _ | refine LeO.ite ?_ ?_ | refine LeO.bind ?_ (fun _ => ?_))
theorem laws_jRows.calls (k : Nat) (A0 : Option Addr) (c0 : Nat) (l0 : List (List Int)) (A1 : Option Addr) (c1 : Nat) (l1 : List (List Int)) (r : Bool) (w : World) (hr0 : Kd.C (Kd.slice 3 (Kd.int .i64)) w A0 l0.length l0) (hc0 : l0.length ≤ c0) (hr1 : Kd.C (Kd.slice 3 (Kd.int .i64)) w A1 l1.length l1) (hc1 : l1.length ≤ c1) (h : laws_jRows.f k l0 l1 = some r) :
  Calls Tryz.prog 8 #[.slice A0 l0.length c0, .slice A1 l1.length c1] w fun e w' => e = .returned (.bool r) ∧ Drawn0 w w' := by
 have HR0 := Aside0.mk hr0
 have HC0 := Aside0.mk hc0
 clear hr0 hc0
 have HR1 := Aside0.mk hr1
 have HC1 := Aside0.mk hc1
 clear hr1 hc1
 unfold laws_jRows.f at h
 have H := h; clear h
 by_cases c3 : (l0.length : Int) = (l1.length : Int)
 ·
  rw [if_pos c3] at H
  have c3b0 := beq_iff_eq.mpr c3
  have c3b1 := bne_eq_false_iff_eq.mpr c3
  have c3b2 : (l0.length == l1.length) = true := q002_
  clear c3
  have H' := Aside0.mk H
  clear H
  go_enter Tryz.func8, Tryz.ntmps8
  go_wp2
  repeat (go_quiet (fail); try go_wp2)
  go_loopg [13] k (fun kq v13 w' => ∃ (x13_1 : Int), v13 = .int .i64 x13_1 ∧ Aside0 (laws_jRows.l0 kq l0 l1 (l0.length : Int) x13_1 = some r) ∧ Aside0 (kq ≤ k) ∧ Drawn0 w w')
  case atStart => exact ⟨(0), qc8f_, H', ⟨Nat.le_refl _⟩, qffa_⟩
  case round =>
   clear H'; try clear c1; try clear p2; try clear c3; try clear c3b0; try clear c3b1; try clear c3b2
   obtain ⟨x13_1, rfl, HA, HK1, ⟨m1, rfl⟩⟩ := hrel
   cases gk with
   | zero => exact absurd HA.out (by simp [laws_jRows.l0])
   | succ k1 =>
    have H := HA.out
    clear HA
    simp only [laws_jRows.l0] at H
    by_cases c4 : x13_1 < (l0.length : Int)
    ·
     rw [if_pos c4] at H
     have c4b0 := decide_eq_true c4
     clear c4
     by_cases c5 : 0 ≤ x13_1
     ·
      rw [if_pos c5] at H
      have c5b0 := decide_eq_true c5
      clear c5
      by_cases c6 : x13_1 < (l0.length : Int)
      ·
       rw [if_pos c6] at H
       have c6b0 := decide_eq_true c6
       clear c6
       by_cases c7 : x13_1 < (l1.length : Int)
       ·
        rw [if_pos c7] at H
        have c7b0 := decide_eq_true c7
        clear c7
        obtain ⟨t411, A8, H⟩ := ob_ H
        by_cases c9 : t411 = true
        ·
         subst c9
         rw [if_pos rfl] at H
         have H' := Aside0.mk H
         clear H
         have p409 : 0 ≤ (x13_1 : Int) := of_decide_eq_true qe84_
         have q409 : x13_1 < (l0.length : Int) := of_decide_eq_true qe84_
         obtain ⟨ad409, A409_0, c409_0, e409, hx409_0, hl409_0, hi409_0⟩ := at_L3 HR0.out x13_1 p409 q409
         cases e409
         have HR409_0 := Aside0.mk hi409_0
         have HC409_0 := Aside0.mk hl409_0
         clear hi409_0 hl409_0
         replace p409 := eq_true p409
         replace q409 := eq_true q409
         have p410 : 0 ≤ (x13_1 : Int) := of_decide_eq_true qe84_
         have q410 : x13_1 < (l1.length : Int) := of_decide_eq_true qe84_
         obtain ⟨ad410, A410_0, c410_0, e410, hx410_0, hl410_0, hi410_0⟩ := at_L3 HR1.out x13_1 p410 q410
         cases e410
         have HR410_0 := Aside0.mk hi410_0
         have HC410_0 := Aside0.mk hl410_0
         clear hi410_0 hl410_0
         replace p410 := eq_true p410
         replace q410 := eq_true q410
         have zz_ := trivial
         repeat (clear zz_; go_wp2_with (first | (go_at_call 11; (with_reducible refine (laws_jSame.calls k1 _ _ (rd_L3 l0 x13_1) _ _ (rd_L3 l1 x13_1) true _ ?s1 ?s2 ?s3 ?s4 A8.out).mono ?_); (case s1 => exact q201_ HR409_0.out); (case s2 => exact HC409_0.out); (case s3 => exact q201_ HR410_0.out); (case s4 => exact HC410_0.out); rintro e w' ⟨rfl, ⟨nd, rfl⟩⟩; (try exact q447_))); try (go_quiet ((go_at_call 11; (with_reducible refine (laws_jSame.calls k1 _ _ (rd_L3 l0 x13_1) _ _ (rd_L3 l1 x13_1) true _ ?s1 ?s2 ?s3 ?s4 A8.out).mono ?_); (case s1 => exact q201_ HR409_0.out); (case s2 => exact HC409_0.out); (case s3 => exact q201_ HR410_0.out); (case s4 => exact HC410_0.out); rintro e w' ⟨rfl, ⟨nd, rfl⟩⟩; (try exact q447_))); have zz_ := trivial))
         go_roundg k1
         case measure => have := HK1.out; omega
         case rel => exact ⟨(wrap64 (x13_1 + 1)), qc8f_, H', ⟨q1d0_ HK1.out⟩, qffa_⟩
        ·
         replace c9 := Bool.eq_false_iff.mpr c9
         subst c9
         rw [if_neg nf_] at H
         obtain rfl := Option.some.inj H
         have p409 : 0 ≤ (x13_1 : Int) := of_decide_eq_true qe84_
         have q409 : x13_1 < (l0.length : Int) := of_decide_eq_true qe84_
         obtain ⟨ad409, A409_0, c409_0, e409, hx409_0, hl409_0, hi409_0⟩ := at_L3 HR0.out x13_1 p409 q409
         cases e409
         have HR409_0 := Aside0.mk hi409_0
         have HC409_0 := Aside0.mk hl409_0
         clear hi409_0 hl409_0
         replace p409 := eq_true p409
         replace q409 := eq_true q409
         have p410 : 0 ≤ (x13_1 : Int) := of_decide_eq_true qe84_
         have q410 : x13_1 < (l1.length : Int) := of_decide_eq_true qe84_
         obtain ⟨ad410, A410_0, c410_0, e410, hx410_0, hl410_0, hi410_0⟩ := at_L3 HR1.out x13_1 p410 q410
         cases e410
         have HR410_0 := Aside0.mk hi410_0
         have HC410_0 := Aside0.mk hl410_0
         clear hi410_0 hl410_0
         replace p410 := eq_true p410
         replace q410 := eq_true q410
         have zz_ := trivial
         repeat (clear zz_; go_wp2_with (first | (go_at_call 11; (with_reducible refine (laws_jSame.calls k1 _ _ (rd_L3 l0 x13_1) _ _ (rd_L3 l1 x13_1) false _ ?s1 ?s2 ?s3 ?s4 A8.out).mono ?_); (case s1 => exact q201_ HR409_0.out); (case s2 => exact HC409_0.out); (case s3 => exact q201_ HR410_0.out); (case s4 => exact HC410_0.out); rintro e w' ⟨rfl, ⟨nd, rfl⟩⟩; (try exact q447_))); try (go_quiet ((go_at_call 11; (with_reducible refine (laws_jSame.calls k1 _ _ (rd_L3 l0 x13_1) _ _ (rd_L3 l1 x13_1) false _ ?s1 ?s2 ?s3 ?s4 A8.out).mono ?_); (case s1 => exact q201_ HR409_0.out); (case s2 => exact HC409_0.out); (case s3 => exact q201_ HR410_0.out); (case s4 => exact HC410_0.out); rintro e w' ⟨rfl, ⟨nd, rfl⟩⟩; (try exact q447_))); have zz_ := trivial))
         go_ret
         exact ⟨qc8f_, qffa_⟩
       ·
        rw [if_neg c7] at H
        exact absurd H (by simp)
      ·
       rw [if_neg c6] at H
       exact absurd H (by simp)
     ·
      rw [if_neg c5] at H
      exact absurd H (by simp)
    ·
     rw [if_neg c4] at H
     have c4b0 := decide_eq_false c4
     clear c4
     obtain rfl := Option.some.inj H
     go_wp2
     repeat (go_quiet (fail); try go_wp2)
     go_ret
     exact ⟨qc8f_, qffa_⟩
 ·
  rw [if_neg c3] at H
  have c3b0 := beq_eq_false_iff_ne.mpr c3
  have c3b1 := bne_iff_ne.mpr c3
  have c3b2 : (l0.length == l1.length) = false := q002_
  obtain rfl := Option.some.inj H
  go_enter Tryz.func8, Tryz.ntmps8
  go_wp2
  repeat (go_quiet (fail); try go_wp2)
  go_ret
  exact ⟨qc8f_, qffa_⟩

/-! ### impl_isCars: function 27 -/
def impl_isCars.f (a0 : Int) : Option (Bool) := (impl_between.f a0 0 8).bind fun t412 => (some t412)
theorem impl_isCars.calls (a0 : Int) (r : Bool) (w : World) (h : impl_isCars.f a0 = some r) :
  Calls Tryz.prog 27 #[.int .i64 a0] w fun e w' => e = .returned (.bool r) ∧ Drawn0 w w' := by
 unfold impl_isCars.f at h
 have H := h; clear h
 obtain ⟨t412, A2, H⟩ := ob_ H
 obtain rfl := Option.some.inj H
 go_enter Tryz.func27, Tryz.ntmps27
 go_wp2_with (first | ((with_reducible refine gate_callee (f := 42) rfl ?_); refine gl_ 4 Tryz.func42 #[.int .i64 a0, .int .i64 0, .int .i64 8] ?_; (with_reducible refine (impl_between.calls a0 0 8 t412 _ A2.out).mono ?_); rintro e w' ⟨rfl, ⟨nd, rfl⟩⟩; refine ⟨_, rfl, ?_⟩))
 go_ret
 exact ⟨qc8f_, qffa_⟩

/-! ### impl_IsUnit: function 9 -/
def impl_IsUnit.f (k : Nat) (l0 : List Int) (a1 : Int) : Option (Bool × Bool) := (impl_isParking.f k l0).bind fun t413 => (if t413 = true then ((impl_isCars.f a1).bind fun t414 => (if t414 = true then ((impl_isUnit.f k l0 a1).bind fun t415 => (some (t415, true))) else (some (false, false)))) else (some (false, false)))
theorem impl_IsUnit.mono : ∀ a0 a1 k, LeO (impl_IsUnit.f k a0 a1) (impl_IsUnit.f (k + 1) a0 a1) := by
 intro a0 a1 k
 unfold impl_IsUnit.f
 repeat' (with_reducible first | exact impl_isParking.mono _ _ | exact impl_isUnit.mono _ _ _ | exact LeO.refl _ | exact LeO.none _ | refine LeO.ite ?_ ?_ | refine LeO.bind ?_ (fun _ => ?_))
theorem impl_IsUnit.calls (k : Nat) (A0 : Option Addr) (c0 : Nat) (l0 : List Int) (a1 : Int) (r1 : Bool) (r2 : Bool) (w : World) (hr0 : Kd.C (Kd.int .i64) w A0 l0.length l0) (hc0 : l0.length ≤ c0) (h : impl_IsUnit.f k l0 a1 = some (r1, r2)) :
  Calls Tryz.prog 9 #[.slice A0 l0.length c0, .int .i64 a1] w fun e w' => e = .returned (.tuple #[.bool r1, .bool r2]) ∧ Below w.heap.size w w' := by
 have HR0 := Aside0.mk hr0
 have HC0 := Aside0.mk hc0
 clear hr0 hc0
 have HB := Aside0.mk (Below.refl w.heap.size w)
 unfold impl_IsUnit.f at h
 have H := h; clear h
 obtain ⟨t413, A3, H⟩ := ob_ H
 by_cases c4 : t413 = true
 ·
  subst c4
  rw [if_pos rfl] at H
  obtain ⟨t414, A5, H⟩ := ob_ H
  by_cases c6 : t414 = true
  ·
   subst c6
   rw [if_pos rfl] at H
   obtain ⟨t415, A7, H⟩ := ob_ H
   simp only [Option.some.injEq, Prod.mk.injEq] at H
   obtain ⟨rfl, rfl⟩ := H
   go_enter Tryz.func9, Tryz.ntmps9
   go_wp2_with (first | ((with_reducible refine gate_callee (f := 21) rfl ?_); refine gl_ 7 Tryz.func21 #[.slice A0 l0.length c0] ?_; (with_reducible refine (impl_isParking.calls k _ _ l0 true _ ?s1 ?s2 A3.out).mono ?_); (case s1 => exact q201_ HR0.out); (case s2 => exact HC0.out); rintro e w8 ⟨rfl, hb⟩; refine ⟨_, rfl, ?_⟩; replace HB := Aside0.mk (below_step q0c4_ hb); clear hb) | (go_at_call 27; (with_reducible refine (impl_isCars.calls a1 true _ A5.out).mono ?_); rintro e w' ⟨rfl, ⟨nd, rfl⟩⟩) | ((with_reducible refine gate_callee (f := 22) rfl ?_); refine gl_ 16 Tryz.func22 #[.slice A0 l0.length c0, .int .i64 a1] ?_; (with_reducible refine (impl_isUnit.calls k _ _ l0 a1 t415 _ ?s1 ?s2 A7.out).mono ?_); (case s1 => exact q749_ HR0.out); (case s2 => exact HC0.out); rintro e w9 ⟨rfl, hb⟩; refine ⟨_, rfl, ?_⟩; replace HB := Aside0.mk (below_step q0c4_ hb); clear hb))
   go_ret2
   exact ⟨qce7_, q0c4_⟩
  ·
   replace c6 := Bool.eq_false_iff.mpr c6
   subst c6
   rw [if_neg nf_] at H
   simp only [Option.some.injEq, Prod.mk.injEq] at H
   obtain ⟨rfl, rfl⟩ := H
   go_enter Tryz.func9, Tryz.ntmps9
   go_wp2_with (first | ((with_reducible refine gate_callee (f := 21) rfl ?_); refine gl_ 7 Tryz.func21 #[.slice A0 l0.length c0] ?_; (with_reducible refine (impl_isParking.calls k _ _ l0 true _ ?s1 ?s2 A3.out).mono ?_); (case s1 => exact q201_ HR0.out); (case s2 => exact HC0.out); rintro e w10 ⟨rfl, hb⟩; refine ⟨_, rfl, ?_⟩; replace HB := Aside0.mk (below_step q0c4_ hb); clear hb) | (go_at_call 27; (with_reducible refine (impl_isCars.calls a1 false _ A5.out).mono ?_); rintro e w' ⟨rfl, ⟨nd, rfl⟩⟩))
   go_ret2
   exact ⟨qce7_, q0c4_⟩
 ·
  replace c4 := Bool.eq_false_iff.mpr c4
  subst c4
  rw [if_neg nf_] at H
  simp only [Option.some.injEq, Prod.mk.injEq] at H
  obtain ⟨rfl, rfl⟩ := H
  go_enter Tryz.func9, Tryz.ntmps9
  go_wp2_with (first | ((with_reducible refine gate_callee (f := 21) rfl ?_); refine gl_ 7 Tryz.func21 #[.slice A0 l0.length c0] ?_; (with_reducible refine (impl_isParking.calls k _ _ l0 false _ ?s1 ?s2 A3.out).mono ?_); (case s1 => exact q201_ HR0.out); (case s2 => exact HC0.out); rintro e w11 ⟨rfl, hb⟩; refine ⟨_, rfl, ?_⟩; replace HB := Aside0.mk (below_step q0c4_ hb); clear hb))
  go_ret2
  exact ⟨qce7_, q0c4_⟩

/-! ### impl_isOrder: function 29 -/
def impl_isOrder.l0 : Nat → List Int → List Int → Int → Int → Option (Bool)
 | 0, _, _, _, _ => none
 | k + 1, x0, x6, x7, x8 => if x8 < x7 then (if 0 ≤ x8 then (if x8 < (x6.length : Int) then (if (rd x6 x8) = x8 then (impl_isOrder.l0 k x0 x6 x7 (wrap64 (x8 + 1))) else (some false)) else (none)) else (none)) else (some (decide ((x0.length : Int) ≤ 8)))
def impl_isOrder.f (k : Nat) (l0 : List Int) : Option (Bool) := (impl_sorted.f l0).bind fun t418 => (impl_isOrder.l0 k l0 t418 (t418.length : Int) 0)
theorem impl_isOrder.mono_l : ∀ k, (∀ y0 y1 y2 y3, LeO (impl_isOrder.l0 k y0 y1 y2 y3) (impl_isOrder.l0 (k + 1) y0 y1 y2 y3))
 | 0 => fun _ _ _ _ r h => by simp [impl_isOrder.l0] at h
 | k + 1 => by
  have ih0 := impl_isOrder.mono_l k
  ·
   intro y0 y1 y2 y3
   unfold impl_isOrder.l0
   repeat' (with_reducible first | exact ih0 _ _ _ _ | exact LeO.refl _ | exact LeO.none _ | refine LeO.ite ?_ ?_ | refine LeO.bind ?_ (fun _ => ?_))
theorem impl_isOrder.mono : ∀ a0 k, LeO (impl_isOrder.f k a0) (impl_isOrder.f (k + 1) a0) := by
 intro a0 k
 have ih0 := impl_isOrder.mono_l k
 unfold impl_isOrder.f
 repeat' (with_reducible first | exact ih0 _ _ _ _ | exact LeO.refl _ | exact LeO.none _ | refine LeO.ite ?_ ?_ | refine LeO.bind ?_ (fun _ => ?_))
theorem impl_isOrder.calls (k : Nat) (A0 : Option Addr) (c0 : Nat) (l0 : List Int) (r : Bool) (w : World) (hr0 : Kd.C (Kd.int .i64) w A0 l0.length l0) (hc0 : l0.length ≤ c0) (h : impl_isOrder.f k l0 = some r) :
  Calls Tryz.prog 29 #[.slice A0 l0.length c0] w fun e w' => e = .returned (.bool r) ∧ Below w.heap.size w w' := by
 have HR0 := Aside0.mk hr0
 have HC0 := Aside0.mk hc0
 clear hr0 hc0
 have HB := Aside0.mk (Below.refl w.heap.size w)
 unfold impl_isOrder.f at h
 have H := h; clear h
 obtain ⟨t418, A2, H⟩ := ob_ H
 have H' := Aside0.mk H
 clear H
 go_enter Tryz.func29, Tryz.ntmps29
 go_wp2_with (first | ((with_reducible refine gate_callee (f := 56) rfl ?_); refine gl_ 6 Tryz.func56 #[.slice A0 l0.length c0] ?_; (with_reducible refine (impl_sorted.calls _ _ l0 t418 _ ?s1 ?s2 A2.out).mono ?_); (case s1 => exact q201_ HR0.out); (case s2 => exact HC0.out); rintro e w3 ⟨v419, rfl, ho0, hb⟩; refine ⟨_, rfl, ?_⟩; have HO420 := Aside0.mk (Kd.R_lower ho0 (below_size q0c4_)); replace HB := Aside0.mk (below_step q0c4_ hb); clear hb ho0; obtain ⟨Ao4, co4, eo4⟩ := Kd.R_slice HO420.out; subst eo4))
 go_loopg [8] k (fun kq v8 w' => ∃ (x8_1 : Int), v8 = .int .i64 x8_1 ∧ Aside0 (impl_isOrder.l0 kq l0 t418 (t418.length : Int) x8_1 = some r) ∧ Aside0 (kq ≤ k) ∧ Aside0 (Kd.R (Kd.int .i64) 3 w' w.heap.size (fun _ => True) (.slice Ao4 t418.length co4) t418) ∧ Aside0 (Below w.heap.size w w'))
 case atStart => exact ⟨(0), qc8f_, H', ⟨Nat.le_refl _⟩, ⟨q9d5_ HO420.out⟩, ⟨q0c4_⟩⟩
 case round =>
  clear H'; try clear c2; try clear p2
  obtain ⟨x8_1, rfl, HA, HK1, HO_6, HB⟩ := hrel
  cases gk with
  | zero => exact absurd HA.out (by simp [impl_isOrder.l0])
  | succ k1 =>
   have H := HA.out
   clear HA
   simp only [impl_isOrder.l0] at H
   by_cases c5 : x8_1 < (t418.length : Int)
   ·
    rw [if_pos c5] at H
    have c5b0 := decide_eq_true c5
    clear c5
    by_cases c6 : 0 ≤ x8_1
    ·
     rw [if_pos c6] at H
     have c6b0 := decide_eq_true c6
     clear c6
     by_cases c7 : x8_1 < (t418.length : Int)
     ·
      rw [if_pos c7] at H
      have c7b0 := decide_eq_true c7
      clear c7
      by_cases c8 : (rd t418 x8_1) = x8_1
      ·
       rw [if_pos c8] at H
       have c8b0 := beq_iff_eq.mpr c8
       have c8b1 := bne_eq_false_iff_eq.mpr c8
       clear c8
       have H' := Aside0.mk H
       clear H
       have p421 : 0 ≤ (x8_1 : Int) := of_decide_eq_true qe84_
       have q421 : x8_1 < (t418.length : Int) := of_decide_eq_true qe84_
       obtain ⟨ad421, e421, hx421_0⟩ := Kd.at_int (Kd.R_reads' HO_6.out).2.2 x8_1 p421 q421
       cases e421
       replace p421 := eq_true p421
       replace q421 := eq_true q421
       go_wp2
       go_roundg k1
       case measure => have := HK1.out; omega
       case rel => exact ⟨(wrap64 (x8_1 + 1)), qc8f_, H', ⟨q1d0_ HK1.out⟩, ⟨q9d5_ HO_6.out⟩, ⟨q0c4_⟩⟩
      ·
       rw [if_neg c8] at H
       have c8b0 := beq_eq_false_iff_ne.mpr c8
       have c8b1 := bne_iff_ne.mpr c8
       obtain rfl := Option.some.inj H
       have p421 : 0 ≤ (x8_1 : Int) := of_decide_eq_true qe84_
       have q421 : x8_1 < (t418.length : Int) := of_decide_eq_true qe84_
       obtain ⟨ad421, e421, hx421_0⟩ := Kd.at_int (Kd.R_reads' HO_6.out).2.2 x8_1 p421 q421
       cases e421
       replace p421 := eq_true p421
       replace q421 := eq_true q421
       go_wp2
       go_ret
       exact ⟨qce7_, q0c4_⟩
     ·
      rw [if_neg c7] at H
      exact absurd H (by simp)
    ·
     rw [if_neg c6] at H
     exact absurd H (by simp)
   ·
    rw [if_neg c5] at H
    have c5b0 := decide_eq_false c5
    clear c5
    obtain rfl := Option.some.inj H
    go_wp2
    go_ret
    exact ⟨qce7_, q0c4_⟩

/-! ### slices_Equal_int_int: function 31 -/
def slices_Equal_int_int.l0 : Nat → List Int → List Int → Int → Int → Option (Bool)
 | 0, _, _, _, _ => none
 | k + 1, x0, x1, x12, x13 => if x13 < x12 then (if 0 ≤ x13 then (if x13 < (x0.length : Int) then (if x13 < (x1.length : Int) then (if (rd x0 x13) = (rd x1 x13) then (slices_Equal_int_int.l0 k x0 x1 x12 (wrap64 (x13 + 1))) else (some false)) else (none)) else (none)) else (none)) else (some true)
def slices_Equal_int_int.f (k : Nat) (l0 : List Int) (l1 : List Int) : Option (Bool) := if (l0.length : Int) = (l1.length : Int) then (slices_Equal_int_int.l0 k l0 l1 (l0.length : Int) 0) else (some false)
theorem slices_Equal_int_int.mono_l : ∀ k, (∀ y0 y1 y2 y3, LeO (slices_Equal_int_int.l0 k y0 y1 y2 y3) (slices_Equal_int_int.l0 (k + 1) y0 y1 y2 y3))
 | 0 => fun _ _ _ _ r h => by simp [slices_Equal_int_int.l0] at h
 | k + 1 => by
  have ih0 := slices_Equal_int_int.mono_l k
  ·
   intro y0 y1 y2 y3
   unfold slices_Equal_int_int.l0
   repeat' (with_reducible first | exact ih0 _ _ _ _ | exact LeO.refl _ | exact LeO.none _ | refine LeO.ite ?_ ?_ | refine LeO.bind ?_ (fun _ => ?_))
theorem slices_Equal_int_int.mono : ∀ a0 a1 k, LeO (slices_Equal_int_int.f k a0 a1) (slices_Equal_int_int.f (k + 1) a0 a1) := by
 intro a0 a1 k
 have ih0 := slices_Equal_int_int.mono_l k
 unfold slices_Equal_int_int.f
 repeat' (with_reducible first | exact ih0 _ _ _ _ | exact LeO.refl _ | exact LeO.none _ | refine LeO.ite ?_ ?_ | refine LeO.bind ?_ (fun _ => ?_))
theorem slices_Equal_int_int.calls (k : Nat) (A0 : Option Addr) (c0 : Nat) (l0 : List Int) (A1 : Option Addr) (c1 : Nat) (l1 : List Int) (r : Bool) (w : World) (hr0 : Kd.C (Kd.int .i64) w A0 l0.length l0) (hc0 : l0.length ≤ c0) (hr1 : Kd.C (Kd.int .i64) w A1 l1.length l1) (hc1 : l1.length ≤ c1) (h : slices_Equal_int_int.f k l0 l1 = some r) :
  Calls Tryz.prog 31 #[.slice A0 l0.length c0, .slice A1 l1.length c1] w fun e w' => e = .returned (.bool r) ∧ Drawn0 w w' := by
 have HR0 := Aside0.mk hr0
 have HC0 := Aside0.mk hc0
 clear hr0 hc0
 have HR1 := Aside0.mk hr1
 have HC1 := Aside0.mk hc1
 clear hr1 hc1
 unfold slices_Equal_int_int.f at h
 have H := h; clear h
 by_cases c3 : (l0.length : Int) = (l1.length : Int)
 ·
  rw [if_pos c3] at H
  have c3b0 := beq_iff_eq.mpr c3
  have c3b1 := bne_eq_false_iff_eq.mpr c3
  have c3b2 : (l0.length == l1.length) = true := q002_
  clear c3
  have H' := Aside0.mk H
  clear H
  go_enter Tryz.func31, Tryz.ntmps31
  go_wp2
  repeat (go_quiet (fail); try go_wp2)
  go_loopg [13] k (fun kq v13 w' => ∃ (x13_1 : Int), v13 = .int .i64 x13_1 ∧ Aside0 (slices_Equal_int_int.l0 kq l0 l1 (l0.length : Int) x13_1 = some r) ∧ Aside0 (kq ≤ k) ∧ Drawn0 w w')
  case atStart => exact ⟨(0), qc8f_, H', ⟨Nat.le_refl _⟩, qffa_⟩
  case round =>
   clear H'; try clear c1; try clear p2; try clear c3; try clear c3b0; try clear c3b1; try clear c3b2
   obtain ⟨x13_1, rfl, HA, HK1, ⟨m1, rfl⟩⟩ := hrel
   cases gk with
   | zero => exact absurd HA.out (by simp [slices_Equal_int_int.l0])
   | succ k1 =>
    have H := HA.out
    clear HA
    simp only [slices_Equal_int_int.l0] at H
    by_cases c4 : x13_1 < (l0.length : Int)
    ·
     rw [if_pos c4] at H
     have c4b0 := decide_eq_true c4
     clear c4
     by_cases c5 : 0 ≤ x13_1
     ·
      rw [if_pos c5] at H
      have c5b0 := decide_eq_true c5
      clear c5
      by_cases c6 : x13_1 < (l0.length : Int)
      ·
       rw [if_pos c6] at H
       have c6b0 := decide_eq_true c6
       clear c6
       by_cases c7 : x13_1 < (l1.length : Int)
       ·
        rw [if_pos c7] at H
        have c7b0 := decide_eq_true c7
        clear c7
        by_cases c8 : (rd l0 x13_1) = (rd l1 x13_1)
        ·
         rw [if_pos c8] at H
         have c8b0 := beq_iff_eq.mpr c8
         have c8b1 := bne_eq_false_iff_eq.mpr c8
         clear c8
         have H' := Aside0.mk H
         clear H
         have p422 : 0 ≤ (x13_1 : Int) := of_decide_eq_true qe84_
         have q422 : x13_1 < (l0.length : Int) := of_decide_eq_true qe84_
         obtain ⟨ad422, e422, hx422_0⟩ := Kd.at_int HR0.out x13_1 p422 q422
         cases e422
         replace p422 := eq_true p422
         replace q422 := eq_true q422
         have p423 : 0 ≤ (x13_1 : Int) := of_decide_eq_true qe84_
         have q423 : x13_1 < (l1.length : Int) := of_decide_eq_true qe84_
         obtain ⟨ad423, e423, hx423_0⟩ := Kd.at_int HR1.out x13_1 p423 q423
         cases e423
         replace p423 := eq_true p423
         replace q423 := eq_true q423
         go_wp2
         repeat (go_quiet (fail); try go_wp2)
         go_roundg k1
         case measure => have := HK1.out; omega
         case rel => exact ⟨(wrap64 (x13_1 + 1)), qc8f_, H', ⟨q1d0_ HK1.out⟩, qffa_⟩
        ·
         rw [if_neg c8] at H
         have c8b0 := beq_eq_false_iff_ne.mpr c8
         have c8b1 := bne_iff_ne.mpr c8
         obtain rfl := Option.some.inj H
         have p422 : 0 ≤ (x13_1 : Int) := of_decide_eq_true qe84_
         have q422 : x13_1 < (l0.length : Int) := of_decide_eq_true qe84_
         obtain ⟨ad422, e422, hx422_0⟩ := Kd.at_int HR0.out x13_1 p422 q422
         cases e422
         replace p422 := eq_true p422
         replace q422 := eq_true q422
         have p423 : 0 ≤ (x13_1 : Int) := of_decide_eq_true qe84_
         have q423 : x13_1 < (l1.length : Int) := of_decide_eq_true qe84_
         obtain ⟨ad423, e423, hx423_0⟩ := Kd.at_int HR1.out x13_1 p423 q423
         cases e423
         replace p423 := eq_true p423
         replace q423 := eq_true q423
         go_wp2
         repeat (go_quiet (fail); try go_wp2)
         go_ret
         exact ⟨qc8f_, qffa_⟩
       ·
        rw [if_neg c7] at H
        exact absurd H (by simp)
      ·
       rw [if_neg c6] at H
       exact absurd H (by simp)
     ·
      rw [if_neg c5] at H
      exact absurd H (by simp)
    ·
     rw [if_neg c4] at H
     have c4b0 := decide_eq_false c4
     clear c4
     obtain rfl := Option.some.inj H
     go_wp2
     repeat (go_quiet (fail); try go_wp2)
     go_ret
     exact ⟨qc8f_, qffa_⟩
 ·
  rw [if_neg c3] at H
  have c3b0 := beq_eq_false_iff_ne.mpr c3
  have c3b1 := bne_iff_ne.mpr c3
  have c3b2 : (l0.length == l1.length) = false := q002_
  obtain rfl := Option.some.inj H
  go_enter Tryz.func31, Tryz.ntmps31
  go_wp2
  repeat (go_quiet (fail); try go_wp2)
  go_ret
  exact ⟨qc8f_, qffa_⟩

/-! ### spec_DrawFromUnitBlocks: function 12 -/
mutual
def spec_DrawFromUnitBlocks.j0 : Nat → List (List Int) → Bool → List Int → Int → Int → Option ((List (List Int)))
 | 0, _, _, _, _, _ => none
 | k + 1, x4, x24, x425000, x425001, x425002 => if x24 = true then (some x4) else ((spec_l1Cur_pick.f x425000 x425001 x425002 6).bind fun bt437 => ((spec_l1Cur_outcome.f k x425000 bt437.2.1 bt437.2.2 bt437.1).bind fun bt440 => (spec_DrawFromUnitBlocks.l0 k ([] : List (List Int)) ([] : List Int) bt440.1 (bt440.1.length : Int) 0 x425000 bt440.2.1 bt440.2.2)))
def spec_DrawFromUnitBlocks.l0 : Nat → List (List Int) → List Int → List Int → Int → Int → List Int → Int → Int → Option ((List (List Int)))
 | 0, _, _, _, _, _, _, _, _ => none
 | k + 1, x6, x7, x29, x30, x31, x425000, x425001, x425002 => if x31 < x30 then (if 0 ≤ x31 then (if x31 < (x29.length : Int) then (if x7.length < 17592186044416 then ((some (x7 ++ [rd x29 x31] : List Int)).bind fun y446 => ((spec_l1Cur_one.f x425000 x425001 x425002 2).bind fun bt449 => (if bt449.1 = true then (if x6.length < 5864062014805 then (spec_DrawFromUnitBlocks.l0 k (x6 ++ [y446]) ([] : List Int) x29 x30 (wrap64 (x31 + 1)) x425000 bt449.2.1 bt449.2.2) else (none)) else (spec_DrawFromUnitBlocks.l0 k x6 y446 x29 x30 (wrap64 (x31 + 1)) x425000 bt449.2.1 bt449.2.2)))) else (none)) else (none)) else (none)) else (if (x7.length : Int) > 0 then (if x6.length < 5864062014805 then (some (x6 ++ [x7])) else (none)) else ((spec_l1Cur_one.f x425000 x425001 x425002 6).bind fun bt458 => (if bt458.1 = true then (if x6.length < 5864062014805 then (some (x6 ++ [x7])) else (none)) else (some x6))))
end
def spec_DrawFromUnitBlocks.f (k : Nat) (l0 : List Int) : Option ((List (List Int))) := (spec_l1Cur_unit.f k l0 0 0).bind fun bt425 => ((spec_UnitBlocks.f k bt425.1).bind fun bt430 => (if bt430.2 = true then ((spec_l1Cur_one.f l0 bt425.2.1 bt425.2.2 4).bind fun bt434 => (spec_DrawFromUnitBlocks.j0 k bt430.1 (!bt434.1) l0 bt434.2.1 bt434.2.2)) else (spec_DrawFromUnitBlocks.j0 k bt430.1 false l0 bt425.2.1 bt425.2.2)))
theorem spec_DrawFromUnitBlocks.mono_l : ∀ k, (∀ y0 y1 y2 y3 y4, LeO (spec_DrawFromUnitBlocks.j0 k y0 y1 y2 y3 y4) (spec_DrawFromUnitBlocks.j0 (k + 1) y0 y1 y2 y3 y4)) ∧ (∀ y0 y1 y2 y3 y4 y5 y6 y7, LeO (spec_DrawFromUnitBlocks.l0 k y0 y1 y2 y3 y4 y5 y6 y7) (spec_DrawFromUnitBlocks.l0 (k + 1) y0 y1 y2 y3 y4 y5 y6 y7))
 | 0 => ⟨fun _ _ _ _ _ r h => by simp [spec_DrawFromUnitBlocks.j0] at h, fun _ _ _ _ _ _ _ _ r h => by simp [spec_DrawFromUnitBlocks.l0] at h⟩
 | k + 1 => by
  obtain ⟨ih0, ih1⟩ := spec_DrawFromUnitBlocks.mono_l k
  refine ⟨?_, ?_⟩
  ·
   intro y0 y1 y2 y3 y4
   unfold spec_DrawFromUnitBlocks.j0
   repeat' (with_reducible first | exact ih0 _ _ _ _ _ | exact ih1 _ _ _ _ _ _ _ _ | exact spec_UnitBlocks.mono _ _ | exact spec_l1Cur_outcome.mono _ _ _ _ _ | exact spec_l1Cur_unit.mono _ _ _ _ | exact LeO.refl _ | exact LeO.none _ | refine LeO.ite ?_ ?_ | refine LeO.bind ?_ (fun _ => ?_))
  ·
   intro y0 y1 y2 y3 y4 y5 y6 y7
   unfold spec_DrawFromUnitBlocks.l0
   repeat' (with_reducible first | exact ih0 _ _ _ _ _ | exact ih1 _ _ _ _ _ _ _ _ | exact spec_UnitBlocks.mono _ _ | exact spec_l1Cur_outcome.mono _ _ _ _ _ | exact spec_l1Cur_unit.mono _ _ _ _ | exact LeO.refl _ | exact LeO.none _ | refine LeO.ite ?_ ?_ | refine LeO.bind ?_ (fun _ => ?_))
theorem spec_DrawFromUnitBlocks.mono : ∀ a0 k, LeO (spec_DrawFromUnitBlocks.f k a0) (spec_DrawFromUnitBlocks.f (k + 1) a0) := by
 intro a0 k
 obtain ⟨ih0, ih1⟩ := spec_DrawFromUnitBlocks.mono_l k
 unfold spec_DrawFromUnitBlocks.f
 repeat' (with_reducible first | exact ih0 _ _ _ _ _ | exact ih1 _ _ _ _ _ _ _ _ | exact spec_UnitBlocks.mono _ _ | exact spec_l1Cur_outcome.mono _ _ _ _ _ | exact spec_l1Cur_unit.mono _ _ _ _ | exact LeO.refl _ | exact LeO.none _ | refine LeO.ite ?_ ?_ | refine LeO.bind ?_ (fun _ => ?_))
theorem spec_DrawFromUnitBlocks.calls (k : Nat) (A0 : Option Addr) (c0 : Nat) (l0 : List Int) (r : List (List Int)) (w : World) (hr0 : Kd.C (Kd.int .u8) w A0 l0.length l0) (hc0 : l0.length ≤ c0) (h : spec_DrawFromUnitBlocks.f k l0 = some r) :
  Calls Tryz.prog 12 #[.slice A0 l0.length c0] w fun e w' => ∃ v0_ : Value, e = .returned (v0_) ∧ Kd.S (Kd.slice 3 (Kd.int .i64)) 24 w' w.heap.size (fun _ => True) v0_ r ∧ Below w.heap.size w w' := by
 have hu46 := Tryz.underlying46
 have HR0 := Aside0.mk hr0
 have HC0 := Aside0.mk hc0
 clear hr0 hc0
 have HB := Aside0.mk (Below.refl w.heap.size w)
 unfold spec_DrawFromUnitBlocks.f at h
 have H := h; clear h
 obtain ⟨⟨t425, t428, t429⟩, A2, H⟩ := ob_ H
 dsimp only at H
 obtain ⟨⟨t430, t431⟩, A3, H⟩ := ob_ H
 dsimp only at H
 have HC4 := Aside0.mk H
 clear H
 go_enter Tryz.func12, Tryz.ntmps12
 go_upto_region 3 with (first | ((with_reducible refine gate_dst (N := 12) rfl ?_); refine box_event ?hg (N := 12) ?hd (cs := #[.slice A0 l0.length c0, .int .i64 0, .int .u64 0]) (t := 46) ?hr ?_; (case hd => rfl); (case hg => rfl); (case hr => exact qba7_); intro gb424 hg w5 hbox hb; have n0_ := Aside0.mk (below_step q0c4_ hb); have n1_ := Aside0.mk (hbox); have n2_ := Aside0.mk ((by rw [hg]; exact (below_size q0c4_) : w.heap.size ≤ gb424)); have n3_ := Aside0.mk ((by rw [hg]; exact (below_size q0c4_) : w.heap.size ≤ gb424)); have n4_ := Aside0.mk ((show IsS46 w w5 gb424 l0 0 0 from ⟨_, _, hbox, (by rw [hg]; exact (below_size q0c4_) : w.heap.size ≤ gb424), HR0.out⟩)); replace HB := n0_; have BK424 := n1_; have GW424 := n2_; have GE424 := n3_; have HI424 := n4_; clear n0_ n1_ n2_ n3_ n4_; clear hb hbox hg) | ((with_reducible refine gate_callee (f := 20) rfl ?_); refine gl_ 15 Tryz.func20 #[.pointer (some ⟨gb424, 0, none⟩)] ?_; (with_reducible refine (spec_l1Cur_unit.calls k gb424 l0 0 0 t425 t428 t429 w _ ?s1 ?s2 A2.out).mono ?_); (case s1 => exact qdc6_ HI424.out); (case s2 => exact q59b_ HI424.out); rintro e w6 ⟨v426, rfl, ho0, hi, hb, hk⟩; refine ⟨_, rfl, ?_⟩; have HO427 := Aside0.mk (Kd.R_lower ho0 (below_size (q59b_ HI424.out))); replace HB := Aside0.mk (hb); replace HI424 := Aside0.mk (hi); clear hb hk hi ho0; obtain ⟨Ao7, co7, eo7⟩ := Kd.R_slice HO427.out; subst eo7) | ((with_reducible refine gate_callee (f := 7) rfl ?_); refine gl_ 16 Tryz.func7 #[.slice Ao7 t425.length co7] ?_; (with_reducible refine (spec_UnitBlocks.calls k _ _ t425 t430 t431 _ ?s1 ?s2 A3.out).mono ?_); (case s1 => exact q5a8_ HO427.out); (case s2 => exact (Kd.R_reads' HO427.out).2.1); rintro e w8 ⟨v432, rfl, ho0, hb⟩; refine ⟨_, rfl, ?_⟩; have n0_ := Aside0.mk (Kd.R_below (q9d5_ HO427.out) hb); have n1_ := Aside0.mk (Kd.S_lower (Kd.S_new' ho0 (Kd.R_lt (q9d5_ HO427.out))) (below_size (q59b_ HI424.out))); have n2_ := Aside0.mk (IsS46.below (qdc6_ HI424.out) hb); have n3_ := Aside0.mk (below_step (q59b_ HI424.out) hb); replace HO427 := n0_; have HO433 := n1_; replace HI424 := n2_; replace HB := n3_; clear n0_ n1_ n2_ n3_; clear hb ho0))
 (try simp only [Act.put, List.setIfInBounds_toArray, List.set_cons_zero, List.set_cons_succ])
 go_cut [24] (fun v24 wc => ∃ (kq : Nat) (x24_3 : Bool) (x425001_3 : Int) (x425002_3 : Int), v24 = .bool x24_3 ∧ Aside0 (spec_DrawFromUnitBlocks.j0 kq t430 x24_3 l0 x425001_3 x425002_3 = some r) ∧ Aside0 (kq ≤ k) ∧ Aside0 (Kd.S (Kd.slice 3 (Kd.int .i64)) 24 wc w.heap.size (fun _ => True) v432 t430) ∧ Aside0 (IsS46 w wc gb424 l0 x425001_3 x425002_3) ∧ Aside0 (Below w.heap.size w wc))
 case first =>
  have H := HC4.out
  clear HC4
  by_cases c9 : t431 = true
  ·
   subst c9
   rw [if_pos rfl] at H
   obtain ⟨⟨t434, t435, t436⟩, A10, H⟩ := ob_ H
   dsimp only at H
   have H' := Aside0.mk H
   clear H
   go_wp2_with (first | (go_at_call 32; (with_reducible refine (spec_l1Cur_one.calls gb424 l0 t428 t429 4 t434 t435 t436 w _ ?s1 ?s2 A10.out).mono ?_); (case s1 => exact qdc6_ HI424.out); (case s2 => exact q59b_ HI424.out); rintro e w11 ⟨rfl, hi, hb, hk⟩; replace HO427 := Aside0.mk (Kd.R_mono (Kd.R_keep (IsS46.apart (show IsS46 w _ gb424 l0 t428 t429 from qdc6_ HI424.out) (q9d5_ HO427.out) (by decide)) hk (fun _ h => h.2)) (fun _ h => h.1)); replace HO433 := Aside0.mk (Kd.S_mono (Kd.S_keep (IsS46.apartS (show IsS46 w _ gb424 l0 t428 t429 from qdc6_ HI424.out) (qd7e_ HO433.out) (by decide)) hk (fun _ h => h.2)) (fun _ h => h.1)); replace HB := Aside0.mk (hb); replace HI424 := Aside0.mk (hi); clear hb hk hi))
   go_meet
   case rel => exact ⟨_, (!t434), (t435), (t436), qc8f_, H', ⟨q821_⟩, ⟨qcd3_ HO433.out⟩, ⟨qdc6_ HI424.out⟩, ⟨q59b_ HI424.out⟩⟩
  ·
   replace c9 := Bool.eq_false_iff.mpr c9
   subst c9
   rw [if_neg nf_] at H
   have H' := Aside0.mk H
   clear H
   go_wp2
   go_meet
   case rel => exact ⟨_, (false), (t428), (t429), qc8f_, H', ⟨q821_⟩, ⟨qcd3_ HO433.out⟩, ⟨qdc6_ HI424.out⟩, ⟨q59b_ HI424.out⟩⟩
 case rest =>
  clear HC4; try clear c1; try clear c2; try clear p2; try clear c7; try clear c9
  obtain ⟨kq, x24_3, x425001_3, x425002_3, rfl, HA, HJ3, HO_4, HI424, HB⟩ := hcut
  cases kq with
  | zero => exact absurd HA.out (by simp [spec_DrawFromUnitBlocks.j0])
  | succ kj3 =>
   have H := HA.out
   clear HA
   simp only [spec_DrawFromUnitBlocks.j0] at H
   by_cases c12 : x24_3 = true
   ·
    subst c12
    rw [if_pos rfl] at H
    obtain rfl := Option.some.inj H
    go_wp2
    go_ret
    exact ⟨_, qce7_, qd7e_ HO_4.out, q59b_ HI424.out⟩
   ·
    replace c12 := Bool.eq_false_iff.mpr c12
    subst c12
    rw [if_neg nf_] at H
    obtain ⟨⟨t437, t438, t439⟩, A13, H⟩ := ob_ H
    dsimp only at H
    obtain ⟨⟨t440, t443, t444⟩, A14, H⟩ := ob_ H
    dsimp only at H
    have H' := Aside0.mk H
    clear H
    go_wp2_with (first | ((with_reducible refine gate_callee (f := 34) rfl ?_); refine gl_ 28 Tryz.func34 #[.pointer (some ⟨gb424, 0, none⟩), .int .i64 6] ?_; (with_reducible refine (spec_l1Cur_pick.calls gb424 l0 x425001_3 x425002_3 6 t437 t438 t439 w _ ?s1 ?s2 A13.out).mono ?_); (case s1 => exact qdc6_ HI424.out); (case s2 => exact q59b_ HI424.out); rintro e w15 ⟨rfl, hi, hb, hk⟩; refine ⟨_, rfl, ?_⟩; replace HO_4 := Aside0.mk (Kd.S_mono (Kd.S_keep (IsS46.apartS (show IsS46 w _ gb424 l0 x425001_3 x425002_3 from qdc6_ HI424.out) (qd7e_ HO_4.out) (by decide)) hk (fun _ h => h.2)) (fun _ h => h.1)); replace HB := Aside0.mk (hb); replace HI424 := Aside0.mk (hi); clear hb hk hi) | ((with_reducible refine gate_callee (f := 33) rfl ?_); refine gl_ 29 Tryz.func33 #[.pointer (some ⟨gb424, 0, none⟩), .int .i64 t437] ?_; (with_reducible refine (spec_l1Cur_outcome.calls kj3 gb424 l0 t438 t439 t437 t440 t443 t444 w _ ?s1 ?s2 A14.out).mono ?_); (case s1 => exact qdc6_ HI424.out); (case s2 => exact q59b_ HI424.out); rintro e w16 ⟨v441, rfl, ho0, hi, hb, hk⟩; refine ⟨_, rfl, ?_⟩; replace HO_4 := Aside0.mk (Kd.S_mono (Kd.S_told (Kd.S_oldK (IsS46.apartS (show IsS46 w _ gb424 l0 t438 t439 from qdc6_ HI424.out) (qd7e_ HO_4.out) (by decide)) hk) (Kd.R_base ho0)) (fun _ h_ => h_.1)); have HO442 := Aside0.mk (Kd.R_lower ho0 (below_size (q59b_ HI424.out))); replace HB := Aside0.mk (hb); replace HI424 := Aside0.mk (hi); clear hb hk hi ho0; obtain ⟨Ao17, co17, eo17⟩ := Kd.R_slice HO442.out; subst eo17))
    go_loopg [6, 7, 31] kj3 (fun kq v6 v7 v31 w' => ∃ (x6_2 : List (List Int)) (x7_2 : List Int) (x31_2 : Int) (x425001_2 : Int) (x425002_2 : Int), v31 = .int .i64 x31_2 ∧ Aside0 (spec_DrawFromUnitBlocks.l0 kq x6_2 x7_2 t440 (t440.length : Int) x31_2 l0 x425001_2 x425002_2 = some r) ∧ Aside0 (kq ≤ kj3) ∧ Aside0 (Kd.S (Kd.slice 3 (Kd.int .i64)) 24 w' w.heap.size (fun k_ => some k_ ≠ (v7 : Value).ownBlock ∧ some k_ ≠ ((.slice Ao17 t440.length co17) : Value).ownBlock) v6 x6_2) ∧ Aside0 (Kd.R (Kd.int .i64) 3 w' w.heap.size (fun k_ => some k_ ≠ ((.slice Ao17 t440.length co17) : Value).ownBlock) v7 x7_2) ∧ Aside0 (Kd.R (Kd.int .i64) 3 w' w.heap.size (fun k_ => some k_ ≠ (v7 : Value).ownBlock) (.slice Ao17 t440.length co17) t440) ∧ Aside0 (IsS46 w w' gb424 l0 x425001_2 x425002_2) ∧ Aside0 (Below w.heap.size w w'))
    case atStart => exact ⟨(([] : List (List Int))), (([] : List Int)), (0), (t443), (t444), qc8f_, H', ⟨Nat.le_refl _⟩, ⟨qc14_⟩, ⟨qf62_⟩, ⟨by (with_reducible repeat (first | apply Kd.R_alloc | apply Kd.R_drewN | apply Kd.R_drew)); exact Kd.R_mono HO442.out (fun _ hk => (by simp [Value.ownBlock]))⟩, ⟨qdc6_ HI424.out⟩, ⟨q59b_ HI424.out⟩⟩
    case round =>
     clear H'; try clear c1; try clear c2; try clear p2; try clear c3; try clear c7; try clear c9; try clear c12; try clear p2
     obtain ⟨x6_2, x7_2, x31_2, x425001_2, x425002_2, rfl, HA, HK2, HO_6, HO_7, HO_29, HI424, HB⟩ := hrel
     cases gk with
     | zero => exact absurd HA.out (by simp [spec_DrawFromUnitBlocks.l0])
     | succ k2 =>
      have H := HA.out
      clear HA
      simp only [spec_DrawFromUnitBlocks.l0] at H
      by_cases c18 : x31_2 < (t440.length : Int)
      ·
       rw [if_pos c18] at H
       have c18b0 := decide_eq_true c18
       clear c18
       by_cases c19 : 0 ≤ x31_2
       ·
        rw [if_pos c19] at H
        have c19b0 := decide_eq_true c19
        clear c19
        by_cases c20 : x31_2 < (t440.length : Int)
        ·
         rw [if_pos c20] at H
         have c20b0 := decide_eq_true c20
         clear c20
         by_cases c21 : x7_2.length < 17592186044416
         ·
          rw [if_pos c21] at H
          have LMc21 := Aside0.mk c21
          clear c21
          obtain ⟨y446, hy446⟩ : ∃ y_ : List Int, y_ = (x7_2 ++ [rd t440 x31_2]) := ⟨_, rfl⟩
          replace H : ((spec_l1Cur_one.f l0 x425001_2 x425002_2 2).bind fun bt449 => (if bt449.1 = true then (if x6_2.length < 5864062014805 then (spec_DrawFromUnitBlocks.l0 k2 (x6_2 ++ [y446]) ([] : List Int) t440 (t440.length : Int) (wrap64 (x31_2 + 1)) l0 bt449.2.1 bt449.2.2) else (none)) else (spec_DrawFromUnitBlocks.l0 k2 x6_2 y446 t440 (t440.length : Int) (wrap64 (x31_2 + 1)) l0 bt449.2.1 bt449.2.2))) = some r := by first | (rw [hy446]; with_reducible exact H) | (have H2_ := (Option.bind_some _ _).symm.trans H; rw [hy446]; with_reducible exact H2_) | (have H2_ := (Option.bind_some _ _).symm.trans H; with_reducible exact H2_) | with_reducible exact H | (rw [hy446]; exact H) | exact H
          have Ny446 := Aside0.mk hy446
          clear hy446
          obtain ⟨⟨t449, t450, t451⟩, A22, H⟩ := ob_ H
          dsimp only at H
          by_cases c23 : t449 = true
          ·
           subst c23
           rw [if_pos rfl] at H
           by_cases c24 : x6_2.length < 5864062014805
           ·
            rw [if_pos c24] at H
            have LMc24 := Aside0.mk c24
            clear c24
            obtain ⟨y452, hy452⟩ : ∃ y_ : List (List Int), y_ = (x6_2 ++ [y446]) := ⟨_, rfl⟩
            replace H : (spec_DrawFromUnitBlocks.l0 k2 y452 ([] : List Int) t440 (t440.length : Int) (wrap64 (x31_2 + 1)) l0 t450 t451) = some r := by first | (rw [hy452]; with_reducible exact H) | (have H2_ := (Option.bind_some _ _).symm.trans H; rw [hy452]; with_reducible exact H2_) | (have H2_ := (Option.bind_some _ _).symm.trans H; with_reducible exact H2_) | with_reducible exact H | (rw [hy452]; exact H) | exact H
            have Ny452 := Aside0.mk hy452
            clear hy452
            have H' := Aside0.mk H
            clear H
            have p445 : 0 ≤ (x31_2 : Int) := of_decide_eq_true qe84_
            have q445 : x31_2 < (t440.length : Int) := of_decide_eq_true qe84_
            obtain ⟨ad445, e445, hx445_0⟩ := Kd.at_int (Kd.R_reads' HO_29.out).2.2 x31_2 p445 q445
            cases e445
            replace p445 := eq_true p445
            replace q445 := eq_true q445
            go_wp2_with (first | ((with_reducible refine gate_builtin (b := .append) (xs := #[.tmp 35, .tmp 37]) rfl ?_); at_builtin; refine Kd.R_append (Kd.int .i64) (w0 := w) w.heap.size rfl (.tmp 35) (.tmp 37) 24 3 (.int .i64 0) 8 rfl Tryz.underlying24 info3 rfl (by decide) (by omega) u7 x7_2 (rd t440 x31_2) [.int .i64 (rd t440 x31_2)] (fun k_ => some k_ ≠ (.slice (some ad445) t440.length co17 : Value).ownBlock) (fun _ => False) rfl rfl ?aP (fun _ hk => hk.elim) ?aF ?aO ?aB ?aS ?aL ?_; (case aP => exact rfl); (case aB => exact (q59b_ HI424.out)); (case aF => exact (fun k_ hk => Kd.fresh' (Kd.R_lt (q9d5_ HO_29.out)) k_ hk)); (case aO => exact (q9d5_ HO_7.out)); (case aS => exact (below_size (q59b_ HI424.out))); (case aL => have := LMc21.out; omega); intro v447 w25 ho hb hg hat; rw [← Ny446.out] at ho; have n0_ := Aside0.mk (Kd.S_after (ok := (fun k_ => some k_ ≠ (.slice (some ad445) t440.length co17 : Value).ownBlock)) (q2b2_ HO_6.out) hg hat); have n1_ := Aside0.mk (Kd.R_after (ok := (fun _ => True)) (q0ef_ HO_29.out) hg hat); have n2_ := Aside0.mk (IsS46.grown (qdc6_ HI424.out) hg (IsS46.own_ne HI424.out HO_7.out (by decide))); have n3_ := Aside0.mk (hb); have n4_ := Aside0.mk (ho); replace HO_6 := n0_; replace HO_29 := n1_; replace HI424 := n2_; replace HB := n3_; have HO448 := n4_; clear n0_ n1_ n2_ n3_ n4_; clear ho hb hg hat) | ((with_reducible refine gate_callee (f := 32) rfl ?_); refine gl_ 40 Tryz.func32 #[.pointer (some ⟨gb424, 0, none⟩), .int .i64 2] ?_; (with_reducible refine (spec_l1Cur_one.calls gb424 l0 x425001_2 x425002_2 2 true t450 t451 w _ ?s1 ?s2 A22.out).mono ?_); (case s1 => exact qdc6_ HI424.out); (case s2 => exact q59b_ HI424.out); rintro e w26 ⟨rfl, hi, hb, hk⟩; refine ⟨_, rfl, ?_⟩; replace HO_6 := Aside0.mk (Kd.S_mono (Kd.S_keep (IsS46.apartS (show IsS46 w _ gb424 l0 x425001_2 x425002_2 from qdc6_ HI424.out) (qd7e_ HO_6.out) (by decide)) hk (fun _ h => h.2)) (fun _ h => h.1)); replace HO_29 := Aside0.mk (Kd.R_mono (Kd.R_keep (IsS46.apart (show IsS46 w _ gb424 l0 x425001_2 x425002_2 from qdc6_ HI424.out) (q9d5_ HO_29.out) (by decide)) hk (fun _ h => h.2)) (fun _ h => h.1)); replace HO448 := Aside0.mk (Kd.R_mono (Kd.R_keep (IsS46.apart (show IsS46 w _ gb424 l0 x425001_2 x425002_2 from qdc6_ HI424.out) (q9d5_ HO448.out) (by decide)) hk (fun _ h => h.2)) (fun _ h => h.1)); replace HB := Aside0.mk (hb); replace HI424 := Aside0.mk (hi); clear hb hk hi; obtain ⟨Ao28, co28, eo28⟩ := Kd.R_slice HO448.out; subst eo28) | ((with_reducible refine gate_builtin (b := .append) (xs := #[.tmp 41, .tmp 43]) rfl ?_); at_builtin; refine Kd.S_append (Kd.slice 3 (Kd.int .i64)) (w0 := w) w.heap.size rfl (.tmp 41) (.tmp 43) 26 24 (.slice none 0 0) 24 rfl Tryz.underlying26 info24 rfl (by decide) (by omega) u6 x6_2 y446 [.slice Ao28 y446.length co28] (fun k_ => some k_ ≠ (.slice (some ad445) t440.length co17 : Value).ownBlock) (fun k_ => some k_ = (.slice Ao28 y446.length co28 : Value).ownBlock) rfl rfl ?aP (fun k_ hk_ => ((Kd.R_mono (ok' := fun k_ => ((fun k_ => some k_ ≠ (.slice (some ad445) t440.length co17 : Value).ownBlock)) k_ ∧ some k_ ≠ (u6 : Value).ownBlock) (Kd.R_apart' (HO448.out) (Kd.S_typed HO_6.out) (by decide)) (fun k_ hk => ⟨hk.1, hk.2⟩))).1 k_ hk_.symm) ?aF ?aO ?aB ?aS ?aL ?_; (case aP => exact Kd.M_row (Kd.R_mono (Kd.R_tight rfl (Kd.R_mono (ok' := fun k_ => ((fun k_ => some k_ ≠ (.slice (some ad445) t440.length co17 : Value).ownBlock)) k_ ∧ some k_ ≠ (u6 : Value).ownBlock) (Kd.R_apart' (HO448.out) (Kd.S_typed HO_6.out) (by decide)) (fun k_ hk => ⟨hk.1, hk.2⟩))) (fun _ h_ => h_))); (case aB => exact (q59b_ HI424.out)); (case aF => exact (fun k_ hk => Kd.fresh' (Kd.R_lt (q9d5_ HO_29.out)) k_ hk)); (case aO => exact (by (with_reducible repeat (first | apply Kd.S_alloc | apply Kd.S_drewN | apply Kd.S_drew)); exact Kd.S_mono HO_6.out (fun k_ hk => ⟨hk.1, fun e_ => hk.2 e_⟩))); (case aS => exact (below_size (q59b_ HI424.out))); (case aL => have := LMc24.out; omega); intro v453 w27 ho hb hg hat; rw [← Ny452.out] at ho; have n0_ := Aside0.mk (Kd.R_over' (q9d5_ HO_29.out) (Kd.S_typed (qd7e_ HO_6.out)) (by decide) hg); have n1_ := Aside0.mk (IsS46.grown (qdc6_ HI424.out) hg (IsS46.own_neS HI424.out HO_6.out (by decide))); have n2_ := Aside0.mk (hb); have n3_ := Aside0.mk (ho); replace HO_29 := n0_; replace HI424 := n1_; replace HB := n2_; have HO454 := n3_; clear n0_ n1_ n2_ n3_; clear ho hb hg hat))
            go_roundg k2
            case measure => have := HJ3.out; have := HK2.out; omega
            case rel => exact ⟨(y452), (([] : List Int)), (wrap64 (x31_2 + 1)), (t450), (t451), qc8f_, H', ⟨q37b_ HJ3.out HK2.out⟩, ⟨by (with_reducible repeat (first | apply Kd.S_alloc | apply Kd.S_drewN | apply Kd.S_drew)); exact Kd.S_mono HO454.out (fun _ hk => ⟨(by simp [Value.ownBlock]), hk⟩)⟩, ⟨qf62_⟩, ⟨by (with_reducible repeat (first | apply Kd.R_alloc | apply Kd.R_drewN | apply Kd.R_drew)); exact Kd.R_mono HO_29.out (fun _ hk => (by simp [Value.ownBlock]))⟩, ⟨qdc6_ HI424.out⟩, ⟨q59b_ HI424.out⟩⟩
           ·
            rw [if_neg c24] at H
            exact absurd H (by simp)
          ·
           replace c23 := Bool.eq_false_iff.mpr c23
           subst c23
           rw [if_neg nf_] at H
           have H' := Aside0.mk H
           clear H
           have p445 : 0 ≤ (x31_2 : Int) := of_decide_eq_true qe84_
           have q445 : x31_2 < (t440.length : Int) := of_decide_eq_true qe84_
           obtain ⟨ad445, e445, hx445_0⟩ := Kd.at_int (Kd.R_reads' HO_29.out).2.2 x31_2 p445 q445
           cases e445
           replace p445 := eq_true p445
           replace q445 := eq_true q445
           go_wp2_with (first | ((with_reducible refine gate_builtin (b := .append) (xs := #[.tmp 35, .tmp 37]) rfl ?_); at_builtin; refine Kd.R_append (Kd.int .i64) (w0 := w) w.heap.size rfl (.tmp 35) (.tmp 37) 24 3 (.int .i64 0) 8 rfl Tryz.underlying24 info3 rfl (by decide) (by omega) u7 x7_2 (rd t440 x31_2) [.int .i64 (rd t440 x31_2)] (fun k_ => some k_ ≠ (.slice (some ad445) t440.length co17 : Value).ownBlock) (fun _ => False) rfl rfl ?aP (fun _ hk => hk.elim) ?aF ?aO ?aB ?aS ?aL ?_; (case aP => exact rfl); (case aB => exact (q59b_ HI424.out)); (case aF => exact (fun k_ hk => Kd.fresh' (Kd.R_lt (q9d5_ HO_29.out)) k_ hk)); (case aO => exact (q9d5_ HO_7.out)); (case aS => exact (below_size (q59b_ HI424.out))); (case aL => have := LMc21.out; omega); intro v447 w29 ho hb hg hat; rw [← Ny446.out] at ho; have n0_ := Aside0.mk (Kd.S_after (ok := (fun k_ => some k_ ≠ (.slice (some ad445) t440.length co17 : Value).ownBlock)) (q2b2_ HO_6.out) hg hat); have n1_ := Aside0.mk (Kd.R_after (ok := (fun _ => True)) (q0ef_ HO_29.out) hg hat); have n2_ := Aside0.mk (IsS46.grown (qdc6_ HI424.out) hg (IsS46.own_ne HI424.out HO_7.out (by decide))); have n3_ := Aside0.mk (hb); have n4_ := Aside0.mk (ho); replace HO_6 := n0_; replace HO_29 := n1_; replace HI424 := n2_; replace HB := n3_; have HO448 := n4_; clear n0_ n1_ n2_ n3_ n4_; clear ho hb hg hat) | ((with_reducible refine gate_callee (f := 32) rfl ?_); refine gl_ 40 Tryz.func32 #[.pointer (some ⟨gb424, 0, none⟩), .int .i64 2] ?_; (with_reducible refine (spec_l1Cur_one.calls gb424 l0 x425001_2 x425002_2 2 false t450 t451 w _ ?s1 ?s2 A22.out).mono ?_); (case s1 => exact qdc6_ HI424.out); (case s2 => exact q59b_ HI424.out); rintro e w30 ⟨rfl, hi, hb, hk⟩; refine ⟨_, rfl, ?_⟩; replace HO_6 := Aside0.mk (Kd.S_mono (Kd.S_keep (IsS46.apartS (show IsS46 w _ gb424 l0 x425001_2 x425002_2 from qdc6_ HI424.out) (qd7e_ HO_6.out) (by decide)) hk (fun _ h => h.2)) (fun _ h => h.1)); replace HO_29 := Aside0.mk (Kd.R_mono (Kd.R_keep (IsS46.apart (show IsS46 w _ gb424 l0 x425001_2 x425002_2 from qdc6_ HI424.out) (q9d5_ HO_29.out) (by decide)) hk (fun _ h => h.2)) (fun _ h => h.1)); replace HO448 := Aside0.mk (Kd.R_mono (Kd.R_keep (IsS46.apart (show IsS46 w _ gb424 l0 x425001_2 x425002_2 from qdc6_ HI424.out) (q9d5_ HO448.out) (by decide)) hk (fun _ h => h.2)) (fun _ h => h.1)); replace HB := Aside0.mk (hb); replace HI424 := Aside0.mk (hi); clear hb hk hi))
           go_roundg k2
           case measure => have := HJ3.out; have := HK2.out; omega
           case rel => exact ⟨(x6_2), (y446), (wrap64 (x31_2 + 1)), (t450), (t451), qc8f_, H', ⟨q37b_ HJ3.out HK2.out⟩, ⟨q2b2_ HO_6.out⟩, ⟨q9d5_ HO448.out⟩, ⟨qe0f_ HO_29.out⟩, ⟨qdc6_ HI424.out⟩, ⟨q59b_ HI424.out⟩⟩
         ·
          rw [if_neg c21] at H
          exact absurd H (by simp)
        ·
         rw [if_neg c20] at H
         exact absurd H (by simp)
       ·
        rw [if_neg c19] at H
        exact absurd H (by simp)
      ·
       rw [if_neg c18] at H
       have c18b0 := decide_eq_false c18
       clear c18
       by_cases c31 : (x7_2.length : Int) > 0
       ·
        rw [if_pos c31] at H
        have c31b0 := decide_eq_true c31
        have c31b1 : decide (0 < x7_2.length) = true := decide_eq_true (by omega)
        clear c31
        by_cases c32 : x6_2.length < 5864062014805
        ·
         rw [if_pos c32] at H
         have LMc32 := Aside0.mk c32
         clear c32
         obtain ⟨y455, hy455⟩ : ∃ y_ : List (List Int), y_ = (x6_2 ++ [x7_2]) := ⟨_, rfl⟩
         replace H : (some y455) = some r := by first | (rw [hy455]; with_reducible exact H) | (have H2_ := (Option.bind_some _ _).symm.trans H; rw [hy455]; with_reducible exact H2_) | (have H2_ := (Option.bind_some _ _).symm.trans H; with_reducible exact H2_) | with_reducible exact H | (rw [hy455]; exact H) | exact H
         have Ny455 := Aside0.mk hy455
         clear hy455
         obtain rfl := Option.some.inj H
         obtain ⟨Ao33, co33, eo33⟩ := Kd.R_slice HO_7.out
         subst eo33
         go_wp2_with (first | ((with_reducible refine gate_builtin (b := .append) (xs := #[.tmp 53, .tmp 55]) rfl ?_); at_builtin; refine Kd.S_append (Kd.slice 3 (Kd.int .i64)) (w0 := w) w.heap.size rfl (.tmp 53) (.tmp 55) 26 24 (.slice none 0 0) 24 rfl Tryz.underlying26 info24 rfl (by decide) (by omega) u6 x6_2 x7_2 [.slice Ao33 x7_2.length co33] (fun k_ => some k_ ≠ (.slice Ao17 t440.length co17 : Value).ownBlock) (fun k_ => some k_ = (.slice Ao33 x7_2.length co33 : Value).ownBlock) rfl rfl ?aP (fun k_ hk_ => ((Kd.R_mono (ok' := fun k_ => ((fun k_ => some k_ ≠ (.slice Ao17 t440.length co17 : Value).ownBlock)) k_ ∧ some k_ ≠ (u6 : Value).ownBlock) (Kd.R_apart' (HO_7.out) (Kd.S_typed HO_6.out) (by decide)) (fun k_ hk => ⟨hk.1, hk.2⟩))).1 k_ hk_.symm) ?aF ?aO ?aB ?aS ?aL ?_; (case aP => exact Kd.M_row (Kd.R_mono (Kd.R_tight rfl (Kd.R_mono (ok' := fun k_ => ((fun k_ => some k_ ≠ (.slice Ao17 t440.length co17 : Value).ownBlock)) k_ ∧ some k_ ≠ (u6 : Value).ownBlock) (Kd.R_apart' (HO_7.out) (Kd.S_typed HO_6.out) (by decide)) (fun k_ hk => ⟨hk.1, hk.2⟩))) (fun _ h_ => h_))); (case aB => exact (q59b_ HI424.out)); (case aF => exact (fun k_ hk => Kd.fresh' (Kd.R_lt (q9d5_ HO_29.out)) k_ hk)); (case aO => exact (qc71_ HO_6.out)); (case aS => exact (below_size (q59b_ HI424.out))); (case aL => have := LMc32.out; omega); intro v456 w34 ho hb hg hat; rw [← Ny455.out] at ho; have n0_ := Aside0.mk (Kd.R_over' (q9d5_ HO_29.out) (Kd.S_typed (qd7e_ HO_6.out)) (by decide) hg); have n1_ := Aside0.mk (IsS46.grown (qdc6_ HI424.out) hg (IsS46.own_neS HI424.out HO_6.out (by decide))); have n2_ := Aside0.mk (hb); have n3_ := Aside0.mk (ho); replace HO_29 := n0_; replace HI424 := n1_; replace HB := n2_; have HO457 := n3_; clear n0_ n1_ n2_ n3_; clear ho hb hg hat))
         go_ret
         exact ⟨_, qce7_, qcd3_ HO457.out, q59b_ HI424.out⟩
        ·
         rw [if_neg c32] at H
         exact absurd H (by simp)
       ·
        rw [if_neg c31] at H
        have c31b0 := decide_eq_false c31
        have c31b1 : decide (0 < x7_2.length) = false := decide_eq_false (by omega)
        clear c31
        obtain ⟨⟨t458, t459, t460⟩, A35, H⟩ := ob_ H
        dsimp only at H
        by_cases c36 : t458 = true
        ·
         subst c36
         rw [if_pos rfl] at H
         by_cases c37 : x6_2.length < 5864062014805
         ·
          rw [if_pos c37] at H
          have LMc37 := Aside0.mk c37
          clear c37
          obtain ⟨y461, hy461⟩ : ∃ y_ : List (List Int), y_ = (x6_2 ++ [x7_2]) := ⟨_, rfl⟩
          replace H : (some y461) = some r := by first | (rw [hy461]; with_reducible exact H) | (have H2_ := (Option.bind_some _ _).symm.trans H; rw [hy461]; with_reducible exact H2_) | (have H2_ := (Option.bind_some _ _).symm.trans H; with_reducible exact H2_) | with_reducible exact H | (rw [hy461]; exact H) | exact H
          have Ny461 := Aside0.mk hy461
          clear hy461
          obtain rfl := Option.some.inj H
          obtain ⟨Ao38, co38, eo38⟩ := Kd.R_slice HO_7.out
          subst eo38
          go_wp2_with (first | (go_at_call 32; (with_reducible refine (spec_l1Cur_one.calls gb424 l0 x425001_2 x425002_2 6 true t459 t460 w _ ?s1 ?s2 A35.out).mono ?_); (case s1 => exact qdc6_ HI424.out); (case s2 => exact q59b_ HI424.out); rintro e w39 ⟨rfl, hi, hb, hk⟩; replace HO_6 := Aside0.mk (Kd.S_mono (Kd.S_keep (IsS46.apartS (show IsS46 w _ gb424 l0 x425001_2 x425002_2 from qdc6_ HI424.out) (qd7e_ HO_6.out) (by decide)) hk (fun _ h => h.2)) (fun _ h => h.1)); replace HO_7 := Aside0.mk (Kd.R_mono (Kd.R_keep (IsS46.apart (show IsS46 w _ gb424 l0 x425001_2 x425002_2 from qdc6_ HI424.out) (q9d5_ HO_7.out) (by decide)) hk (fun _ h => h.2)) (fun _ h => h.1)); replace HO_29 := Aside0.mk (Kd.R_mono (Kd.R_keep (IsS46.apart (show IsS46 w _ gb424 l0 x425001_2 x425002_2 from qdc6_ HI424.out) (q9d5_ HO_29.out) (by decide)) hk (fun _ h => h.2)) (fun _ h => h.1)); replace HB := Aside0.mk (hb); replace HI424 := Aside0.mk (hi); clear hb hk hi) | ((with_reducible refine gate_builtin (b := .append) (xs := #[.tmp 53, .tmp 55]) rfl ?_); at_builtin; refine Kd.S_append (Kd.slice 3 (Kd.int .i64)) (w0 := w) w.heap.size rfl (.tmp 53) (.tmp 55) 26 24 (.slice none 0 0) 24 rfl Tryz.underlying26 info24 rfl (by decide) (by omega) u6 x6_2 x7_2 [.slice Ao38 x7_2.length co38] (fun k_ => some k_ ≠ (.slice Ao17 t440.length co17 : Value).ownBlock) (fun k_ => some k_ = (.slice Ao38 x7_2.length co38 : Value).ownBlock) rfl rfl ?aP (fun k_ hk_ => ((Kd.R_mono (ok' := fun k_ => ((fun k_ => some k_ ≠ (.slice Ao17 t440.length co17 : Value).ownBlock)) k_ ∧ some k_ ≠ (u6 : Value).ownBlock) (Kd.R_apart' (HO_7.out) (Kd.S_typed HO_6.out) (by decide)) (fun k_ hk => ⟨hk.1, hk.2⟩))).1 k_ hk_.symm) ?aF ?aO ?aB ?aS ?aL ?_; (case aP => exact Kd.M_row (Kd.R_mono (Kd.R_tight rfl (Kd.R_mono (ok' := fun k_ => ((fun k_ => some k_ ≠ (.slice Ao17 t440.length co17 : Value).ownBlock)) k_ ∧ some k_ ≠ (u6 : Value).ownBlock) (Kd.R_apart' (HO_7.out) (Kd.S_typed HO_6.out) (by decide)) (fun k_ hk => ⟨hk.1, hk.2⟩))) (fun _ h_ => h_))); (case aB => exact (q59b_ HI424.out)); (case aF => exact (fun k_ hk => Kd.fresh' (Kd.R_lt (q9d5_ HO_29.out)) k_ hk)); (case aO => exact (qc71_ HO_6.out)); (case aS => exact (below_size (q59b_ HI424.out))); (case aL => have := LMc37.out; omega); intro v462 w40 ho hb hg hat; rw [← Ny461.out] at ho; have n0_ := Aside0.mk (Kd.R_over' (q9d5_ HO_29.out) (Kd.S_typed (qd7e_ HO_6.out)) (by decide) hg); have n1_ := Aside0.mk (IsS46.grown (qdc6_ HI424.out) hg (IsS46.own_neS HI424.out HO_6.out (by decide))); have n2_ := Aside0.mk (hb); have n3_ := Aside0.mk (ho); replace HO_29 := n0_; replace HI424 := n1_; replace HB := n2_; have HO463 := n3_; clear n0_ n1_ n2_ n3_; clear ho hb hg hat))
          go_ret
          exact ⟨_, qce7_, qcd3_ HO463.out, q59b_ HI424.out⟩
         ·
          rw [if_neg c37] at H
          exact absurd H (by simp)
        ·
         replace c36 := Bool.eq_false_iff.mpr c36
         subst c36
         rw [if_neg nf_] at H
         obtain rfl := Option.some.inj H
         obtain ⟨Ao41, co41, eo41⟩ := Kd.R_slice HO_7.out
         subst eo41
         go_wp2_with (first | (go_at_call 32; (with_reducible refine (spec_l1Cur_one.calls gb424 l0 x425001_2 x425002_2 6 false t459 t460 w _ ?s1 ?s2 A35.out).mono ?_); (case s1 => exact qdc6_ HI424.out); (case s2 => exact q59b_ HI424.out); rintro e w42 ⟨rfl, hi, hb, hk⟩; replace HO_6 := Aside0.mk (Kd.S_mono (Kd.S_keep (IsS46.apartS (show IsS46 w _ gb424 l0 x425001_2 x425002_2 from qdc6_ HI424.out) (qd7e_ HO_6.out) (by decide)) hk (fun _ h => h.2)) (fun _ h => h.1)); replace HO_7 := Aside0.mk (Kd.R_mono (Kd.R_keep (IsS46.apart (show IsS46 w _ gb424 l0 x425001_2 x425002_2 from qdc6_ HI424.out) (q9d5_ HO_7.out) (by decide)) hk (fun _ h => h.2)) (fun _ h => h.1)); replace HO_29 := Aside0.mk (Kd.R_mono (Kd.R_keep (IsS46.apart (show IsS46 w _ gb424 l0 x425001_2 x425002_2 from qdc6_ HI424.out) (q9d5_ HO_29.out) (by decide)) hk (fun _ h => h.2)) (fun _ h => h.1)); replace HB := Aside0.mk (hb); replace HI424 := Aside0.mk (hi); clear hb hk hi))
         go_ret
         exact ⟨_, qce7_, qcd3_ HO_6.out, q59b_ HI424.out⟩

end Go.Proofs.YtleemfmhilhklaaGreat.PAll
