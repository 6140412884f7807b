-- written by a program of this session (wip/gen/xpatch.py over the translation); Lean checks it
import Derived.Test.YtflgalpfbjhdlaaGreatPAllx0
import Derived.Test.YtflgalpfbjhdlaaGreatPAllx1
import Derived.Test.YtflgalpfbjhdlaaGreatPAllx2
import Derived.Test.YtflgalpfbjhdlaaGreatPAllx3
namespace Go.Proofs.YtflgalpfbjhdlaaGreat.PAll
open Go.RowKit Go.Proofs.YtflgalpfbjhdlaaGreat.Hand Go.Proofs.YtflgalpfbjhdlaaGreatW.PrintWords Go.Proofs.YtflgalpfbjhdlaaGreatW.PrintLast Go.Proofs.YtflgalpfbjhdlaaGreatW.PrintMore
attribute [local go_sem] max2_int min2_int max_two min_two max_three min_three max_four min_four   -- for this text's walks alone
set_option maxHeartbeats 8000000
set_option maxRecDepth 100000
set_option linter.unusedVariables false
set_option linter.unusedSimpArgs false

/-! ### spec_WaitsOf: function 15 -/
mutual
def spec_WaitsOf.j0 : Nat → List Int → Int → Bool → Option (List Int × Bool)
 | 0, _, _, _ => none
 | k + 1, x0, x1, x19 => if x19 = true then (some (([] : List Int), false)) else (if 0 ≤ x1 then (if (x1 : Int).toNat ≤ 35184372088832 then ((spec_paDrive.f k x0 x1).bind fun t519 => (spec_WaitsOf.l0 k x0 (List.replicate (x1 : Int).toNat 0) t519 (t519.length : Int) 0)) else (none)) else (none))
def spec_WaitsOf.l0 : Nat → List Int → List Int → List Int → Int → Int → Option (List Int × Bool)
 | 0, _, _, _, _, _ => none
 | k + 1, x0, x6, x24, x25, x26 => if x26 < x25 then (if 0 ≤ x26 then (if x26 < (x24.length : Int) then (if x26 < (x0.length : Int) then (spec_WaitsOf.l1 k x0 x6 (rd x24 x26) (rd x0 x26) x24 x25 x26) else (none)) else (none)) else (none)) else (some (x6, true))
def spec_WaitsOf.l1 : Nat → List Int → List Int → Int → Int → List Int → Int → Int → Option (List Int × Bool)
 | 0, _, _, _, _, _, _, _ => none
 | k + 1, x0, x6, x8, x9, x24, x25, x26 => if x9 < x8 then (if 0 ≤ x9 then (if x9 < (x6.length : Int) then (spec_WaitsOf.l1 k x0 (x6.set (x9 : Int).toNat (wrap64 ((rd x6 x9) + 1))) x8 (wrap64 (x9 + 1)) x24 x25 x26) else (none)) else (none)) else (spec_WaitsOf.l0 k x0 x6 x24 x25 (wrap64 (x26 + 1)))
end
def spec_WaitsOf.f (k : Nat) (l0 : List Int) (a1 : Int) : Option (List Int × Bool) := (spec_paGood.f k l0 a1).bind fun t514 => (if t514 = true then ((spec_paAll.f k l0 a1).bind fun t515 => (spec_WaitsOf.j0 k l0 a1 (!t515))) else (spec_WaitsOf.j0 k l0 a1 true))
theorem spec_WaitsOf.mono_l : ∀ k, (∀ y0 y1 y2, LeO (spec_WaitsOf.j0 k y0 y1 y2) (spec_WaitsOf.j0 (k + 1) y0 y1 y2)) ∧ (∀ y0 y1 y2 y3 y4, LeO (spec_WaitsOf.l0 k y0 y1 y2 y3 y4) (spec_WaitsOf.l0 (k + 1) y0 y1 y2 y3 y4)) ∧ (∀ y0 y1 y2 y3 y4 y5 y6, LeO (spec_WaitsOf.l1 k y0 y1 y2 y3 y4 y5 y6) (spec_WaitsOf.l1 (k + 1) y0 y1 y2 y3 y4 y5 y6))
 | 0 => ⟨fun _ _ _ r h => by simp [spec_WaitsOf.j0] at h, fun _ _ _ _ _ r h => by simp [spec_WaitsOf.l0] at h, fun _ _ _ _ _ _ _ r h => by simp [spec_WaitsOf.l1] at h⟩
 | k + 1 => by
  obtain ⟨ih0, ih1, ih2⟩ := spec_WaitsOf.mono_l k
  refine ⟨?_, ?_, ?_⟩
  ·
   intro y0 y1 y2
   unfold spec_WaitsOf.j0
   repeat' (with_reducible first | exact ih0 _ _ _ | exact ih1 _ _ _ _ _ | exact ih2 _ _ _ _ _ _ _ | exact spec_paAll.mono _ _ _ | exact spec_paDrive.mono _ _ _ | exact spec_paGood.mono _ _ _ | exact LeO.refl _ | exact LeO.none _ | refine LeO.ite ?_ ?_ | refine LeO.bind ?_ (fun _ => ?_))
  ·
   intro y0 y1 y2 y3 y4
   unfold spec_WaitsOf.l0
   repeat' (with_reducible first | exact ih0 _ _ _ | exact ih1 _ _ _ _ _ | exact ih2 _ _ _ _ _ _ _ | exact spec_paAll.mono _ _ _ | exact spec_paDrive.mono _ _ _ | exact spec_paGood.mono _ _ _ | exact LeO.refl _ | exact LeO.none _ | refine LeO.ite ?_ ?_ | refine LeO.bind ?_ (fun _ => ?_))
  ·
   intro y0 y1 y2 y3 y4 y5 y6
   unfold spec_WaitsOf.l1
   repeat' (with_reducible first | exact ih0 _ _ _ | exact ih1 _ _ _ _ _ | exact ih2 _ _ _ _ _ _ _ | exact spec_paAll.mono _ _ _ | exact spec_paDrive.mono _ _ _ | exact spec_paGood.mono _ _ _ | exact LeO.refl _ | exact LeO.none _ | refine LeO.ite ?_ ?_ | refine LeO.bind ?_ (fun _ => ?_))
theorem spec_WaitsOf.mono : ∀ a0 a1 k, LeO (spec_WaitsOf.f k a0 a1) (spec_WaitsOf.f (k + 1) a0 a1) := by
 intro a0 a1 k
 obtain ⟨ih0, ih1, ih2⟩ := spec_WaitsOf.mono_l k
 unfold spec_WaitsOf.f
 repeat' (with_reducible first | exact ih0 _ _ _ | exact ih1 _ _ _ _ _ | exact ih2 _ _ _ _ _ _ _ | exact spec_paAll.mono _ _ _ | exact spec_paDrive.mono _ _ _ | exact spec_paGood.mono _ _ _ | exact LeO.refl _ | exact LeO.none _ | refine LeO.ite ?_ ?_ | refine LeO.bind ?_ (fun _ => ?_))
theorem spec_WaitsOf.calls (k : Nat) (A0 : Option Addr) (c0 : Nat) (l0 : List Int) (a1 : Int) (r1 : List Int) (r2 : Bool) (w : World) (hr0 : Kd.C (Kd.int .i64) w A0 l0.length l0) (hc0 : l0.length ≤ c0) (h : spec_WaitsOf.f k l0 a1 = some (r1, r2)) :
  Calls Tryz.prog 15 #[.slice A0 l0.length c0, .int .i64 a1] w fun e w' => ∃ v0_ : Value, e = .returned (.tuple #[v0_, .bool r2]) ∧ Kd.R (Kd.int .i64) 3 w' w.heap.size (fun _ => True) v0_ r1 ∧ Below w.heap.size w w' := by
 have HR0 := Aside0.mk hr0
 have HC0 := Aside0.mk hc0
 clear hr0 hc0
 have HB := Aside0.mk (Below.refl w.heap.size w)
 unfold spec_WaitsOf.f at h
 have H := h; clear h
 have HC3 := Aside0.mk H
 clear H
 go_enter Tryz.func15, Tryz.ntmps15
 go_upto_region 1 with (fail)
 go_cut [19] (fun v19 wc => ∃ (kq : Nat) (x19_2 : Bool), v19 = .bool x19_2 ∧ Aside0 (spec_WaitsOf.j0 kq l0 a1 x19_2 = some (r1, r2)) ∧ Aside0 (kq ≤ k) ∧ Aside0 (Below w.heap.size w wc))
 case first =>
  have H := HC3.out
  clear HC3
  obtain ⟨t514, A4, H⟩ := ob_ H
  by_cases c5 : t514 = true
  ·
   subst c5
   rw [if_pos rfl] at H
   obtain ⟨t515, A6, H⟩ := ob_ H
   have H' := Aside0.mk H
   clear H
   go_wp2_with (first | ((with_reducible refine gate_callee (f := 31) rfl ?_); refine gl_ 12 Tryz.func31 #[.slice A0 l0.length c0, .int .i64 a1] ?_; (with_reducible refine (spec_paGood.calls k _ _ l0 a1 true _ ?s1 ?s2 A4.out).mono ?_); (case s1 => exact q02f_ HR0.out); (case s2 => exact HC0.out); rintro e w' ⟨rfl, ⟨nd, rfl⟩⟩; refine ⟨_, rfl, ?_⟩) | (go_at_call 32; (with_reducible refine (spec_paAll.calls k _ _ l0 a1 t515 _ ?s1 ?s2 A6.out).mono ?_); (case s1 => exact q749_ HR0.out); (case s2 => exact HC0.out); rintro e w7 ⟨rfl, hb⟩; replace HB := Aside0.mk (below_step q0c4_ hb); clear hb))
   go_meet
   case rel => exact ⟨_, (!t515), qc8f_, H', ⟨q821_⟩, ⟨q0c4_⟩⟩
  ·
   replace c5 := Bool.eq_false_iff.mpr c5
   subst c5
   rw [if_neg nf_] at H
   have H' := Aside0.mk H
   clear H
   go_wp2_with (first | ((with_reducible refine gate_callee (f := 31) rfl ?_); refine gl_ 12 Tryz.func31 #[.slice A0 l0.length c0, .int .i64 a1] ?_; (with_reducible refine (spec_paGood.calls k _ _ l0 a1 false _ ?s1 ?s2 A4.out).mono ?_); (case s1 => exact q02f_ HR0.out); (case s2 => exact HC0.out); rintro e w' ⟨rfl, ⟨nd, rfl⟩⟩; refine ⟨_, rfl, ?_⟩))
   go_meet
   case rel => exact ⟨_, (true), qc8f_, H', ⟨q821_⟩, ⟨q0c4_⟩⟩
 case rest =>
  clear HC3; try clear c1; try clear p2; try clear c3; try clear c5
  obtain ⟨kq, x19_2, rfl, HA, HJ2, HB⟩ := hcut
  cases kq with
  | zero => exact absurd HA.out (by simp [spec_WaitsOf.j0])
  | succ kj2 =>
   have H := HA.out
   clear HA
   simp only [spec_WaitsOf.j0] at H
   by_cases c8 : x19_2 = true
   ·
    subst c8
    rw [if_pos rfl] at H
    simp only [Option.some.injEq, Prod.mk.injEq] at H
    obtain ⟨rfl, rfl⟩ := H
    go_wp2
    go_ret2
    exact ⟨_, qce7_, qf62_, q0c4_⟩
   ·
    replace c8 := Bool.eq_false_iff.mpr c8
    subst c8
    rw [if_neg nf_] at H
    by_cases c9 : 0 ≤ a1
    ·
     rw [if_pos c9] at H
     have c9b0 := eq_true c9
     have c9b1 := decide_eq_true c9
     clear c9
     by_cases c10 : (a1 : Int).toNat ≤ 35184372088832
     ·
      rw [if_pos c10] at H
      have c10b0 := eq_true c10
      have c10b1 := decide_eq_true c10
      clear c10
      obtain ⟨y516, hy516⟩ : ∃ y_ : List Int, y_ = (List.replicate (a1 : Int).toNat 0) := ⟨_, rfl⟩
      replace H : ((spec_paDrive.f kj2 l0 a1).bind fun t519 => (spec_WaitsOf.l0 kj2 l0 y516 t519 (t519.length : Int) 0)) = some (r1, r2) := by first | (rw [hy516]; with_reducible exact H) | (have H2_ := (Option.bind_some _ _).symm.trans H; rw [hy516]; with_reducible exact H2_) | (have H2_ := (Option.bind_some _ _).symm.trans H; with_reducible exact H2_) | with_reducible exact H | (rw [hy516]; exact H) | exact H
      have Ny516 := Aside0.mk hy516
      clear hy516
      obtain ⟨t519, A11, H⟩ := ob_ H
      have H' := Aside0.mk H
      clear H
      go_wp2_with (first | ((with_reducible refine gate_dst (N := 21) rfl ?_); refine Kd.R_make (Kd.int .i64) _ 3 rfl (N := 21) rfl 24 _ _ rfl a1 rfl rfl Tryz.underlying24 (.int .i64 0) 8 info3 rfl (by decide) (by omega) 0 (ok := fun _ => True) (okp := fun _ => True) rfl (fun _ hk => hk) trivial (of_decide_eq_true qe84_) (Nat.le_trans (Nat.mul_le_mul_right _ (of_decide_eq_true qe84_ : a1.toNat ≤ 35184372088832)) (by omega)) (Below.refl _ _) (Nat.le_refl _) ?_; intro v517 w12 ho13 hb hg_ hnew_; clear hg_ hnew_; (first | rw [← Ny516.out] at ho13 | (simp only [Int.reduceToNat] at ho13; rw [← Ny516.out] at ho13)); have HO518 := Aside0.mk (Kd.R_lower ho13 (below_size q0c4_)); replace HB := Aside0.mk (below_step q0c4_ hb); clear hb ho13) | ((with_reducible refine gate_callee (f := 44) rfl ?_); refine gl_ 24 Tryz.func44 #[.slice A0 l0.length c0, .int .i64 a1] ?_; (with_reducible refine (spec_paDrive.calls kj2 _ _ l0 a1 t519 _ ?s1 ?s2 A11.out).mono ?_); (case s1 => exact q02f_ HR0.out); (case s2 => exact HC0.out); rintro e w14 ⟨v520, rfl, ho0, hb⟩; refine ⟨_, rfl, ?_⟩; have n0_ := Aside0.mk (Kd.R_elder' (q9d5_ HO518.out) (Kd.R_base ho0) hb); have n1_ := Aside0.mk (Kd.R_lower (Kd.R_new' ho0 (Kd.R_lt (q9d5_ HO518.out))) (below_size q0c4_)); have n2_ := Aside0.mk (below_step q0c4_ hb); replace HO518 := n0_; have HO521 := n1_; replace HB := n2_; clear n0_ n1_ n2_; clear hb ho0; obtain ⟨Ao15, co15, eo15⟩ := Kd.R_slice HO521.out; subst eo15))
      go_loopg [26] kj2 (fun kq v26 w' => ∃ (x6_2 : List Int) (x26_2 : Int), v26 = .int .i64 x26_2 ∧ Aside0 (spec_WaitsOf.l0 kq l0 x6_2 t519 (t519.length : Int) x26_2 = some (r1, r2)) ∧ Aside0 (kq ≤ kj2) ∧ Aside0 (Kd.R (Kd.int .i64) 3 w' w.heap.size (fun k_ => some k_ ≠ ((.slice Ao15 t519.length co15) : Value).ownBlock) v517 x6_2) ∧ Aside0 (Kd.R (Kd.int .i64) 3 w' w.heap.size (fun k_ => some k_ ≠ (v517 : Value).ownBlock) (.slice Ao15 t519.length co15) t519) ∧ Aside0 (Below w.heap.size w w'))
      case atStart => exact ⟨(y516), (0), qc8f_, H', ⟨Nat.le_refl _⟩, ⟨qe0f_ HO518.out⟩, ⟨qe0f_ HO521.out⟩, ⟨q0c4_⟩⟩
      case round =>
       clear H'; try clear c1; try clear p2; try clear c3; try clear c4; try clear c5; try clear c8; try clear c9; try clear c9b0; try clear c9b1; try clear c10; try clear c10b0; try clear c10b1; try clear c15; try clear p2
       obtain ⟨x6_2, x26_2, rfl, HA, HK2, HO_6, HO_24, HB⟩ := hrel
       cases gk with
       | zero => exact absurd HA.out (by simp [spec_WaitsOf.l0])
       | succ k2 =>
        have H := HA.out
        clear HA
        simp only [spec_WaitsOf.l0] at H
        by_cases c16 : x26_2 < (t519.length : Int)
        ·
         rw [if_pos c16] at H
         have c16b0 := decide_eq_true c16
         clear c16
         by_cases c17 : 0 ≤ x26_2
         ·
          rw [if_pos c17] at H
          have c17b0 := decide_eq_true c17
          clear c17
          by_cases c18 : x26_2 < (t519.length : Int)
          ·
           rw [if_pos c18] at H
           have c18b0 := decide_eq_true c18
           clear c18
           by_cases c19 : x26_2 < (l0.length : Int)
           ·
            rw [if_pos c19] at H
            have c19b0 := decide_eq_true c19
            clear c19
            have H' := Aside0.mk H
            clear H
            have p522 : 0 ≤ (x26_2 : Int) := of_decide_eq_true qe84_
            have q522 : x26_2 < (t519.length : Int) := of_decide_eq_true qe84_
            obtain ⟨ad522, e522, hx522_0⟩ := Kd.at_int (Kd.R_reads' HO_24.out).2.2 x26_2 p522 q522
            cases e522
            replace p522 := eq_true p522
            replace q522 := eq_true q522
            have p523 : 0 ≤ (x26_2 : Int) := of_decide_eq_true qe84_
            have q523 : x26_2 < (l0.length : Int) := of_decide_eq_true qe84_
            obtain ⟨ad523, e523, hx523_0⟩ := Kd.at_int HR0.out x26_2 p523 q523
            cases e523
            replace hx523_0 := (HB.out.cell (World.block_lt_of_cell? w _ hx523_0)).trans hx523_0
            replace p523 := eq_true p523
            replace q523 := eq_true q523
            go_wp2
            go_loopg [9] k2 (fun kq v9 w' => ∃ (x6_3 : List Int) (x9_3 : Int), v9 = .int .i64 x9_3 ∧ Aside0 (spec_WaitsOf.l1 kq l0 x6_3 (rd t519 x26_2) x9_3 t519 (t519.length : Int) x26_2 = some (r1, r2)) ∧ Aside0 (kq ≤ k2) ∧ Aside0 (Kd.R (Kd.int .i64) 3 w' w.heap.size (fun k_ => some k_ ≠ ((.slice (some ad522) t519.length co15) : Value).ownBlock) v517 x6_3) ∧ Aside0 (Kd.R (Kd.int .i64) 3 w' w.heap.size (fun k_ => some k_ ≠ (v517 : Value).ownBlock) (.slice (some ad522) t519.length co15) t519) ∧ Aside0 (Below w.heap.size w w'))
            case atStart => exact ⟨(x6_2), (rd l0 x26_2), qc8f_, H', ⟨Nat.le_refl _⟩, ⟨q9d5_ HO_6.out⟩, ⟨q9d5_ HO_24.out⟩, ⟨q0c4_⟩⟩
            case round =>
             clear H'; try clear c1; try clear p2; try clear c3; try clear c4; try clear c5; try clear p5; try clear q5; try clear hx5; try clear c8; try clear c9; try clear c9b0; try clear c9b1; try clear c10; try clear c10b0; try clear c10b1; try clear c15; try clear c16; try clear c16b0; try clear c17; try clear c17b0; try clear c18; try clear c18b0; try clear c19; try clear c19b0; try clear hx522_0; try clear hx523_0; try clear p2; try clear p522; try clear p523; try clear q522; try clear q523
             obtain ⟨x6_3, x9_3, rfl, HA, HK3, HO_6, HO_24, HB⟩ := hrel
             cases gk with
             | zero => exact absurd HA.out (by simp [spec_WaitsOf.l1])
             | succ k3 =>
              have H := HA.out
              clear HA
              simp only [spec_WaitsOf.l1] at H
              by_cases c20 : x9_3 < (rd t519 x26_2)
              ·
               rw [if_pos c20] at H
               have c20b0 := decide_eq_true c20
               clear c20
               by_cases c21 : 0 ≤ x9_3
               ·
                rw [if_pos c21] at H
                have c21b0 := decide_eq_true c21
                clear c21
                by_cases c22 : x9_3 < (x6_3.length : Int)
                ·
                 rw [if_pos c22] at H
                 have c22b0 := decide_eq_true c22
                 clear c22
                 obtain ⟨y525, hy525⟩ : ∃ y_ : List Int, y_ = (x6_3.set (x9_3 : Int).toNat (wrap64 ((rd x6_3 x9_3) + 1))) := ⟨_, rfl⟩
                 replace H : (spec_WaitsOf.l1 k3 l0 y525 (rd t519 x26_2) (wrap64 (x9_3 + 1)) t519 (t519.length : Int) x26_2) = some (r1, r2) := by first | (rw [hy525]; with_reducible exact H) | (have H2_ := (Option.bind_some _ _).symm.trans H; rw [hy525]; with_reducible exact H2_) | (have H2_ := (Option.bind_some _ _).symm.trans H; with_reducible exact H2_) | with_reducible exact H | (rw [hy525]; exact H) | exact H
                 have Ny525 := Aside0.mk hy525
                 clear hy525
                 have H' := Aside0.mk H
                 clear H
                 obtain ⟨Ao24, co24, eo24⟩ := Kd.R_slice HO_6.out
                 subst eo24
                 have p524 : 0 ≤ (x9_3 : Int) := of_decide_eq_true qe84_
                 have q524 : x9_3 < (x6_3.length : Int) := of_decide_eq_true qe84_
                 obtain ⟨ad524, e524, hx524_0⟩ := Kd.at_int (Kd.R_reads' HO_6.out).2.2 x9_3 p524 q524
                 cases e524
                 replace p524 := eq_true p524
                 replace q524 := eq_true q524
                 have p23 : 0 ≤ (x9_3 : Int) := of_decide_eq_true qe84_
                 have q23 : (x9_3 : Int) < ((x6_3.length : Int) : Int) := of_decide_eq_true qe84_
                 obtain ⟨go23, co23, eo23, gb23, gl23, cl23, HG23⟩ := Kd.R_form HO_6.out (by omega)
                 (first | cases eo23 | (injection eo23 with ea_ en_ ec_; (first | subst ea_ | (injection ea_ with ea_; subst ea_)); subst ec_; clear en_))
                 have GB23 := Aside0.mk gb23
                 have GG23 := Aside0.mk HG23
                 clear gb23 gl23 HG23
                 (first | simp only [add_plain] at hx524_0 | skip)
                 obtain ⟨hx23_0, hf23_0⟩ := Kd.R_celln 0 HO_6.out (x9_3 : Int) p23 q23
                 replace p23 := eq_true p23
                 replace q23 := eq_true q23
                 have HP25 := Kd.R_putg HO_6.out (x9_3 : Int) (wrap64 ((rd x6_3 x9_3) + 1))
                 go_wp2_with (first | ((with_reducible refine gate_store (t := 3) (p := 45) rfl ?_); refine store_event (t := 3) (p := 45) (v := ?vo_w26) (w1 := (wr.setCell ⟨go23, (x9_3 : Int).toNat, none⟩ (.int .i64 (wrap64 ((rd x6_3 x9_3) + 1))))) ?hg ?ho ?hn ?hr ?_; (case ho => rfl); (case hg => rfl); (case hn => rfl); (case hr => exact qba7_); intro w26 hw; have hg : wr.grownBy w26 (some go23) := (by rw [hw]; exact HP25.2); have hp_ : Kd.R (Kd.int .i64) 3 w26 w.heap.size (fun k_ => some k_ ≠ (.slice (some ad522) t519.length co15 : Value).ownBlock) (.slice (some ⟨go23, 0, none⟩) x6_3.length co24) y525 := (by rw [hw, Ny525.out]; exact HP25.1); clear HP25; replace HO_6 := Aside0.mk (hp_); replace HO_24 := Aside0.mk (Kd.R_after (v := (.slice (some ⟨go23, 0, none⟩) x6_3.length co24)) (v1 := (.slice (some ⟨go23, 0, none⟩) x6_3.length co24)) (ok := (fun _ => True)) (q0ef_ HO_24.out) hg (.inl rfl)); replace HB := Aside0.mk ((by rw [hw]; exact below_set (HB.out) GB23.out : Below w.heap.size w w26)); clear hg hw hp_))
                 go_roundg k3
                 case measure => have := HJ2.out; have := HK2.out; have := HK3.out; omega
                 case rel => exact ⟨(y525), (wrap64 (x9_3 + 1)), qc8f_, H', ⟨by have := HJ2.out; have := HK2.out; have := HK3.out; omega⟩, ⟨q9d5_ HO_6.out⟩, ⟨qe0f_ HO_24.out⟩, ⟨q0c4_⟩⟩
                ·
                 rw [if_neg c22] at H
                 exact absurd H (by simp)
               ·
                rw [if_neg c21] at H
                exact absurd H (by simp)
              ·
               rw [if_neg c20] at H
               have c20b0 := decide_eq_false c20
               clear c20
               have H' := Aside0.mk H
               clear H
               go_wp2
               go_roundg k3
               case measure => have := HJ2.out; have := HK2.out; have := HK3.out; omega
               case rel => exact ⟨(x6_3), (wrap64 (x26_2 + 1)), qc8f_, H', ⟨by have := HJ2.out; have := HK2.out; have := HK3.out; omega⟩, ⟨q9d5_ HO_6.out⟩, ⟨q9d5_ HO_24.out⟩, ⟨q0c4_⟩⟩
           ·
            rw [if_neg c19] at H
            exact absurd H (by simp)
          ·
           rw [if_neg c18] at H
           exact absurd H (by simp)
         ·
          rw [if_neg c17] at H
          exact absurd H (by simp)
        ·
         rw [if_neg c16] at H
         have c16b0 := decide_eq_false c16
         clear c16
         simp only [Option.some.injEq, Prod.mk.injEq] at H
         obtain ⟨rfl, rfl⟩ := H
         go_wp2
         go_ret2
         exact ⟨_, qce7_, q7d9_ HO_6.out, q0c4_⟩
     ·
      rw [if_neg c10] at H
      exact absurd H (by simp)
    ·
     rw [if_neg c9] at H
     exact absurd H (by simp)

/-! ### laws_jSame: function 16 -/
def laws_jSame.l0 : Nat → List Int → List Int → Int → Int → Option (Bool)
 | 0, _, _, _, _ => none
 | k + 1, x0, x1, x12, x13 => if x13 < x12 then (if 0 ≤ x13 then (if x13 < (x0.length : Int) then (if x13 < (x1.length : Int) then (if (rd x0 x13) = (rd x1 x13) then (laws_jSame.l0 k x0 x1 x12 (wrap64 (x13 + 1))) else (some false)) else (none)) else (none)) else (none)) else (some true)
def laws_jSame.f (k : Nat) (l0 : List Int) (l1 : List Int) : Option (Bool) := if (l0.length : Int) = (l1.length : Int) then (laws_jSame.l0 k l0 l1 (l0.length : Int) 0) else (some false)
theorem laws_jSame.mono_l : ∀ k, (∀ y0 y1 y2 y3, LeO (laws_jSame.l0 k y0 y1 y2 y3) (laws_jSame.l0 (k + 1) y0 y1 y2 y3))
 | 0 => fun _ _ _ _ r h => by simp [laws_jSame.l0] at h
 | k + 1 => by
  have ih0 := laws_jSame.mono_l k
  ·
   intro y0 y1 y2 y3
   unfold laws_jSame.l0
   repeat' (with_reducible first | exact ih0 _ _ _ _ | exact LeO.refl _ | exact LeO.none _ | refine LeO.ite ?_ ?_ | refine LeO.bind ?_ (fun _ => ?_))
theorem laws_jSame.mono : ∀ a0 a1 k, LeO (laws_jSame.f k a0 a1) (laws_jSame.f (k + 1) a0 a1) := by
 intro a0 a1 k
 have ih0 := laws_jSame.mono_l k
 unfold laws_jSame.f
 repeat' (with_reducible first | exact ih0 _ _ _ _ | exact LeO.refl _ | exact LeO.none _ | refine LeO.ite ?_ ?_ | refine LeO.bind ?_ (fun _ => ?_))
theorem laws_jSame.calls (k : Nat) (A0 : Option Addr) (c0 : Nat) (l0 : List Int) (A1 : Option Addr) (c1 : Nat) (l1 : List Int) (r : Bool) (w : World) (hr0 : Kd.C (Kd.int .i64) w A0 l0.length l0) (hc0 : l0.length ≤ c0) (hr1 : Kd.C (Kd.int .i64) w A1 l1.length l1) (hc1 : l1.length ≤ c1) (h : laws_jSame.f k l0 l1 = some r) :
  Calls Tryz.prog 16 #[.slice A0 l0.length c0, .slice A1 l1.length c1] w fun e w' => e = .returned (.bool r) ∧ Drawn0 w w' := by
 have HR0 := Aside0.mk hr0
 have HC0 := Aside0.mk hc0
 clear hr0 hc0
 have HR1 := Aside0.mk hr1
 have HC1 := Aside0.mk hc1
 clear hr1 hc1
 unfold laws_jSame.f at h
 have H := h; clear h
 by_cases c3 : (l0.length : Int) = (l1.length : Int)
 ·
  rw [if_pos c3] at H
  have c3b0 := beq_iff_eq.mpr c3
  have c3b1 := bne_eq_false_iff_eq.mpr c3
  have c3b2 : (l0.length == l1.length) = true := by first | simpa using c3 | (simp at c3 ⊢; omega)
  clear c3
  have H' := Aside0.mk H
  clear H
  go_enter Tryz.func16, Tryz.ntmps16
  go_wp2
  repeat (go_quiet (fail); try go_wp2)
  go_loopg [13] k (fun kq v13 w' => ∃ (x13_1 : Int), v13 = .int .i64 x13_1 ∧ Aside0 (laws_jSame.l0 kq l0 l1 (l0.length : Int) x13_1 = some r) ∧ Aside0 (kq ≤ k) ∧ Drawn0 w w')
  case atStart => exact ⟨(0), qc8f_, H', ⟨Nat.le_refl _⟩, qffa_⟩
  case round =>
   clear H'; try clear c1; try clear p2; try clear c3; try clear c3b0; try clear c3b1; try clear c3b2
   obtain ⟨x13_1, rfl, HA, HK1, ⟨m1, rfl⟩⟩ := hrel
   cases gk with
   | zero => exact absurd HA.out (by simp [laws_jSame.l0])
   | succ k1 =>
    have H := HA.out
    clear HA
    simp only [laws_jSame.l0] at H
    by_cases c4 : x13_1 < (l0.length : Int)
    ·
     rw [if_pos c4] at H
     have c4b0 := decide_eq_true c4
     clear c4
     by_cases c5 : 0 ≤ x13_1
     ·
      rw [if_pos c5] at H
      have c5b0 := decide_eq_true c5
      clear c5
      by_cases c6 : x13_1 < (l0.length : Int)
      ·
       rw [if_pos c6] at H
       have c6b0 := decide_eq_true c6
       clear c6
       by_cases c7 : x13_1 < (l1.length : Int)
       ·
        rw [if_pos c7] at H
        have c7b0 := decide_eq_true c7
        clear c7
        by_cases c8 : (rd l0 x13_1) = (rd l1 x13_1)
        ·
         rw [if_pos c8] at H
         have c8b0 := beq_iff_eq.mpr c8
         have c8b1 := bne_eq_false_iff_eq.mpr c8
         clear c8
         have H' := Aside0.mk H
         clear H
         have p526 : 0 ≤ (x13_1 : Int) := of_decide_eq_true qe84_
         have q526 : x13_1 < (l0.length : Int) := of_decide_eq_true qe84_
         obtain ⟨ad526, e526, hx526_0⟩ := Kd.at_int HR0.out x13_1 p526 q526
         cases e526
         replace p526 := eq_true p526
         replace q526 := eq_true q526
         have p527 : 0 ≤ (x13_1 : Int) := of_decide_eq_true qe84_
         have q527 : x13_1 < (l1.length : Int) := of_decide_eq_true qe84_
         obtain ⟨ad527, e527, hx527_0⟩ := Kd.at_int HR1.out x13_1 p527 q527
         cases e527
         replace p527 := eq_true p527
         replace q527 := eq_true q527
         go_wp2
         repeat (go_quiet (fail); try go_wp2)
         go_roundg k1
         case measure => have := HK1.out; omega
         case rel => exact ⟨(wrap64 (x13_1 + 1)), qc8f_, H', ⟨q1d0_ HK1.out⟩, qffa_⟩
        ·
         rw [if_neg c8] at H
         have c8b0 := beq_eq_false_iff_ne.mpr c8
         have c8b1 := bne_iff_ne.mpr c8
         obtain rfl := Option.some.inj H
         have p526 : 0 ≤ (x13_1 : Int) := of_decide_eq_true qe84_
         have q526 : x13_1 < (l0.length : Int) := of_decide_eq_true qe84_
         obtain ⟨ad526, e526, hx526_0⟩ := Kd.at_int HR0.out x13_1 p526 q526
         cases e526
         replace p526 := eq_true p526
         replace q526 := eq_true q526
         have p527 : 0 ≤ (x13_1 : Int) := of_decide_eq_true qe84_
         have q527 : x13_1 < (l1.length : Int) := of_decide_eq_true qe84_
         obtain ⟨ad527, e527, hx527_0⟩ := Kd.at_int HR1.out x13_1 p527 q527
         cases e527
         replace p527 := eq_true p527
         replace q527 := eq_true q527
         go_wp2
         repeat (go_quiet (fail); try go_wp2)
         go_ret
         exact ⟨qc8f_, qffa_⟩
       ·
        rw [if_neg c7] at H
        exact absurd H (by simp)
      ·
       rw [if_neg c6] at H
       exact absurd H (by simp)
     ·
      rw [if_neg c5] at H
      exact absurd H (by simp)
    ·
     rw [if_neg c4] at H
     have c4b0 := decide_eq_false c4
     clear c4
     obtain rfl := Option.some.inj H
     go_wp2
     repeat (go_quiet (fail); try go_wp2)
     go_ret
     exact ⟨qc8f_, qffa_⟩
 ·
  rw [if_neg c3] at H
  have c3b0 := beq_eq_false_iff_ne.mpr c3
  have c3b1 := bne_iff_ne.mpr c3
  have c3b2 : (l0.length == l1.length) = false := by first | simpa using c3 | (simp at c3 ⊢; omega)
  obtain rfl := Option.some.inj H
  go_enter Tryz.func16, Tryz.ntmps16
  go_wp2
  repeat (go_quiet (fail); try go_wp2)
  go_ret
  exact ⟨qc8f_, qffa_⟩

/-! ### spec_l1Cur_outcome: function 47 -/
mutual
def spec_l1Cur_outcome.l0 : Nat → Int → List Int → Int → List Int → Int → Int → Option (List Int × Int × Int)
 | 0, _, _, _, _, _, _ => none
 | k + 1, x1, x5, x6, x1000, x1001, x1002 => if x6 < x1 then ((spec_l1Cur_pick.f x1000 x1001 x1002 (wrap64 (x6 + 1))).bind fun bt528 => (if 0 ≤ bt528.1 then (if bt528.1 ≤ (x5.length : Int) then ((spec_l1Own.f (x5.take (bt528.1 : Int).toNat)).bind fun t535 => (if t535.length < 17592186044416 then ((some (t535 ++ [x6] : List Int)).bind fun y538 => ((some (x5.drop (bt528.1 : Int).toNat : List Int)).bind fun y541 => (if y538.length + y541.length < 17592186044416 then (spec_l1Cur_outcome.l0 k x1 (y538 ++ y541) (wrap64 (x6 + 1)) x1000 bt528.2.1 bt528.2.2) else (none)))) else (none))) else (none)) else (none))) else (if (x5.length : Int) > 0 then ((spec_l1Cur_one.f x1000 x1001 x1002 20).bind fun bt548 => (spec_l1Cur_outcome.j1 k x1 x5 bt548.1 x1000 bt548.2.1 bt548.2.2)) else (spec_l1Cur_outcome.j1 k x1 x5 false x1000 x1001 x1002))
def spec_l1Cur_outcome.j1 : Nat → Int → List Int → Bool → List Int → Int → Int → Option (List Int × Int × Int)
 | 0, _, _, _, _, _, _ => none
 | k + 1, x1, x5, x36, x1000, x1001, x1002 => if x36 = true then ((spec_l1Cur_pick.f x1000 x1001 x1002 (x5.length : Int)).bind fun bt551 => ((spec_l1Cur_among.f x1000 bt551.2.1 bt551.2.2 (([(-1), 0, x1] : List Int))).bind fun bt557 => (if 0 ≤ bt551.1 then (if bt551.1 < (x5.length : Int) then (some ((x5.set (bt551.1 : Int).toNat bt557.1), bt557.2.1, bt557.2.2)) else (none)) else (none)))) else (some (x5, x1001, x1002))
end
def spec_l1Cur_outcome.f (k : Nat) (s0_0 : List Int) (s0_1 : Int) (s0_2 : Int) (a1 : Int) : Option (List Int × Int × Int) := spec_l1Cur_outcome.l0 k a1 ([] : List Int) 0 s0_0 s0_1 s0_2
theorem spec_l1Cur_outcome.mono_l : ∀ k, (∀ y0 y1 y2 y3 y4 y5, LeO (spec_l1Cur_outcome.l0 k y0 y1 y2 y3 y4 y5) (spec_l1Cur_outcome.l0 (k + 1) y0 y1 y2 y3 y4 y5)) ∧ (∀ y0 y1 y2 y3 y4 y5, LeO (spec_l1Cur_outcome.j1 k y0 y1 y2 y3 y4 y5) (spec_l1Cur_outcome.j1 (k + 1) y0 y1 y2 y3 y4 y5))
 | 0 => ⟨fun _ _ _ _ _ _ r h => by simp [spec_l1Cur_outcome.l0] at h, fun _ _ _ _ _ _ r h => by simp [spec_l1Cur_outcome.j1] at h⟩
 | k + 1 => by
  obtain ⟨ih0, ih1⟩ := spec_l1Cur_outcome.mono_l k
  refine ⟨?_, ?_⟩
  ·
   intro y0 y1 y2 y3 y4 y5
   unfold spec_l1Cur_outcome.l0
   repeat' (with_reducible first | exact ih0 _ _ _ _ _ _ | exact ih1 _ _ _ _ _ _ | exact LeO.refl _ | exact LeO.none _ | refine LeO.ite ?_ ?_ | refine LeO.bind ?_ (fun _ => ?_))
  ·
   intro y0 y1 y2 y3 y4 y5
   unfold spec_l1Cur_outcome.j1
   repeat' (with_reducible first | exact ih0 _ _ _ _ _ _ | exact ih1 _ _ _ _ _ _ | exact LeO.refl _ | exact LeO.none _ | refine LeO.ite ?_ ?_ | refine LeO.bind ?_ (fun _ => ?_))
theorem spec_l1Cur_outcome.mono : ∀ a0 a1 a2 a3 k, LeO (spec_l1Cur_outcome.f k a0 a1 a2 a3) (spec_l1Cur_outcome.f (k + 1) a0 a1 a2 a3) := by
 intro a0 a1 a2 a3 k
 obtain ⟨ih0, ih1⟩ := spec_l1Cur_outcome.mono_l k
 unfold spec_l1Cur_outcome.f
 repeat' (with_reducible first | exact ih0 _ _ _ _ _ _ | exact ih1 _ _ _ _ _ _ | exact LeO.refl _ | exact LeO.none _ | refine LeO.ite ?_ ?_ | refine LeO.bind ?_ (fun _ => ?_))
theorem spec_l1Cur_outcome.calls (k : Nat) (g : Nat) (s0_0 : List Int) (s0_1 : Int) (s0_2 : Int) (a1 : Int) (r1 : List Int) (r2 : Int) (r3 : Int) (w0 w : World) (hI : IsS42 w0 w g s0_0 s0_1 s0_2) (hB : Below w0.heap.size w0 w) (h : spec_l1Cur_outcome.f k s0_0 s0_1 s0_2 a1 = some (r1, r2, r3)) :
  Calls Tryz.prog 47 #[.pointer (some ⟨g, 0, none⟩), .int .i64 a1] w fun e w' => ∃ v0_ : Value, e = .returned (v0_) ∧ Kd.R (Kd.int .i64) 3 w' w.heap.size (fun _ => True) v0_ r1 ∧ IsS42 w0 w' g s0_0 r2 r3 ∧ Below w0.heap.size w0 w' ∧ KeepBut w w' g none := by
 have HI0 := Aside0.mk hI
 have HK := Aside0.mk (KeepBut.refl w g none)
 have HL := Aside0.mk hB.size
 clear hI
 have HW0 := Aside0.mk hB.size
 have HB := Aside0.mk hB
 clear hB
 unfold spec_l1Cur_outcome.f at h
 have H := h; clear h
 have H' := Aside0.mk H
 clear H
 go_enter Tryz.func47, Tryz.ntmps47
 go_wp2
 go_loopg [5, 6] k (fun kq v5 v6 w' => ∃ (x5_1 : List Int) (x6_1 : Int) (x1001_1 : Int) (x1002_1 : Int), v6 = .int .i64 x6_1 ∧ Aside0 (spec_l1Cur_outcome.l0 kq a1 x5_1 x6_1 s0_0 x1001_1 x1002_1 = some (r1, r2, r3)) ∧ Aside0 (kq ≤ k) ∧ Aside0 (Kd.R (Kd.int .i64) 3 w' w.heap.size (fun _ => True) v5 x5_1) ∧ Aside0 (IsS42 w0 w' g s0_0 x1001_1 x1002_1) ∧ Aside0 (KeepBut w w' g none) ∧ Aside0 (Below w0.heap.size w0 w'))
 case atStart => exact ⟨(([] : List Int)), (0), (s0_1), (s0_2), qc8f_, H', ⟨Nat.le_refl _⟩, ⟨qf62_⟩, ⟨qe02_ HI0.out⟩, ⟨q1d6_⟩, ⟨qb05_ HI0.out⟩⟩
 case round =>
  clear H'; try clear p2
  obtain ⟨x5_1, x6_1, x1001_1, x1002_1, rfl, HA, HK1, HO_5, HI0, HK, HB⟩ := hrel
  cases gk with
  | zero => exact absurd HA.out (by simp [spec_l1Cur_outcome.l0])
  | succ k1 =>
   have H := HA.out
   clear HA
   simp only [spec_l1Cur_outcome.l0] at H
   by_cases c3 : x6_1 < a1
   ·
    rw [if_pos c3] at H
    have c3b0 := decide_eq_true c3
    clear c3
    obtain ⟨⟨t528, t529, t530⟩, A4, H⟩ := ob_ H
    dsimp only at H
    by_cases c5 : 0 ≤ t528
    ·
     rw [if_pos c5] at H
     have c5b0 := eq_true c5
     have c5b1 := decide_eq_true c5
     clear c5
     by_cases c6 : t528 ≤ (x5_1.length : Int)
     ·
      rw [if_pos c6] at H
      have c6b0 := eq_true c6
      have c6b1 := decide_eq_true c6
      clear c6
      obtain ⟨y531, hy531⟩ : ∃ y_ : List Int, y_ = (x5_1.take (t528 : Int).toNat) := ⟨_, rfl⟩
      replace H : ((spec_l1Own.f y531).bind fun t535 => (if t535.length < 17592186044416 then ((some (t535 ++ [x6_1] : List Int)).bind fun y538 => ((some (x5_1.drop (t528 : Int).toNat : List Int)).bind fun y541 => (if y538.length + y541.length < 17592186044416 then (spec_l1Cur_outcome.l0 k1 a1 (y538 ++ y541) (wrap64 (x6_1 + 1)) s0_0 t529 t530) else (none)))) else (none))) = some (r1, r2, r3) := by first | (rw [hy531]; with_reducible exact H) | (have H2_ := (Option.bind_some _ _).symm.trans H; rw [hy531]; with_reducible exact H2_) | (have H2_ := (Option.bind_some _ _).symm.trans H; with_reducible exact H2_) | with_reducible exact H | (rw [hy531]; exact H) | exact H
      have Ny531 := Aside0.mk hy531
      clear hy531
      obtain ⟨t535, A7, H⟩ := ob_ H
      by_cases c8 : t535.length < 17592186044416
      ·
       rw [if_pos c8] at H
       have LMc8 := Aside0.mk c8
       clear c8
       obtain ⟨y538, hy538⟩ : ∃ y_ : List Int, y_ = (t535 ++ [x6_1]) := ⟨_, rfl⟩
       replace H : ((some (x5_1.drop (t528 : Int).toNat : List Int)).bind fun y541 => (if y538.length + y541.length < 17592186044416 then (spec_l1Cur_outcome.l0 k1 a1 (y538 ++ y541) (wrap64 (x6_1 + 1)) s0_0 t529 t530) else (none))) = some (r1, r2, r3) := by first | (rw [hy538]; with_reducible exact H) | (have H2_ := (Option.bind_some _ _).symm.trans H; rw [hy538]; with_reducible exact H2_) | (have H2_ := (Option.bind_some _ _).symm.trans H; with_reducible exact H2_) | with_reducible exact H | (rw [hy538]; exact H) | exact H
       have Ny538 := Aside0.mk hy538
       clear hy538
       have c9b0 := eq_true (of_decide_eq_true qe84_ : 0 ≤ t528)
       have c10b0 := eq_true (of_decide_eq_true qe84_ : t528 ≤ (x5_1.length : Int))
       obtain ⟨y541, hy541⟩ : ∃ y_ : List Int, y_ = (x5_1.drop (t528 : Int).toNat) := ⟨_, rfl⟩
       replace H : (if y538.length + y541.length < 17592186044416 then (spec_l1Cur_outcome.l0 k1 a1 (y538 ++ y541) (wrap64 (x6_1 + 1)) s0_0 t529 t530) else (none)) = some (r1, r2, r3) := by first | (rw [hy541]; with_reducible exact H) | (have H2_ := (Option.bind_some _ _).symm.trans H; rw [hy541]; with_reducible exact H2_) | (have H2_ := (Option.bind_some _ _).symm.trans H; with_reducible exact H2_) | with_reducible exact H | (rw [hy541]; exact H) | exact H
       have Ny541 := Aside0.mk hy541
       clear hy541
       by_cases c11 : y538.length + y541.length < 17592186044416
       ·
        rw [if_pos c11] at H
        have LMc11 := Aside0.mk c11
        clear c11
        obtain ⟨y545, hy545⟩ : ∃ y_ : List Int, y_ = (y538 ++ y541) := ⟨_, rfl⟩
        replace H : (spec_l1Cur_outcome.l0 k1 a1 y545 (wrap64 (x6_1 + 1)) s0_0 t529 t530) = some (r1, r2, r3) := by first | (rw [hy545]; with_reducible exact H) | (have H2_ := (Option.bind_some _ _).symm.trans H; rw [hy545]; with_reducible exact H2_) | (have H2_ := (Option.bind_some _ _).symm.trans H; with_reducible exact H2_) | with_reducible exact H | (rw [hy545]; exact H) | exact H
        have Ny545 := Aside0.mk hy545
        clear hy545
        have H' := Aside0.mk H
        clear H
        go_wp2_with (first | ((with_reducible refine gate_callee (f := 48) rfl ?_); refine gl_ 17 Tryz.func48 #[.pointer (some ⟨g, 0, none⟩), .int .i64 (wrap64 (x6_1 + 1))] ?_; (with_reducible refine (spec_l1Cur_pick.calls g s0_0 x1001_1 x1002_1 (wrap64 (x6_1 + 1)) t528 t529 t530 w0 _ ?s1 ?s2 A4.out).mono ?_); (case s1 => exact qe02_ HI0.out); (case s2 => exact qb05_ HI0.out); rintro e w12 ⟨rfl, hi, hb, hk⟩; refine ⟨_, rfl, ?_⟩; replace HO_5 := Aside0.mk (Kd.R_mono (Kd.R_keep (IsS42.apart (show IsS42 w0 _ g s0_0 x1001_1 x1002_1 from qe02_ HI0.out) (q9d5_ HO_5.out) (by decide)) hk (fun _ h => h.2)) (fun _ h => h.1)); replace HK := Aside0.mk (KeepBut.trans q1d6_ hk (.inl rfl)); replace HB := Aside0.mk (hb); replace HI0 := Aside0.mk (hi); clear hb hk hi; obtain ⟨Ao14, co14, eo14⟩ := Kd.R_slice HO_5.out; subst eo14; have q13 : (t528 : Int) ≤ ((x5_1.length : Int) : Int) := of_decide_eq_true qe84_; obtain ⟨i013, hi013, _, hsz13, _⟩ := info_parts info3; have hroom13 : x5_1.length ≤ co14 := (Kd.R_reads' HO_5.out).2.1; have hC13 : Kd.C (Kd.int .i64) _ Ao14 x5_1.length x5_1 := (Kd.R_reads' HO_5.out).2.2; have hcut13 := cut_to (P := Tryz.prog) 24 3 .i64 Tryz.underlying24 hi013 Ao14 x5_1.length co14 t528 (of_decide_eq_true qe84_) q13 hroom13; have hr13 := Kd.C_take (m := (t528 : Int).toNat) hC13 (by omega); have hy13 : y531.length = (t528 : Int).toNat := (by rw [Ny531.out, List.length_take]; omega); rw [← Ny531.out] at hr13; rw [← hy13] at hcut13; have HR534 := Aside0.mk hr13; have HC534 := Aside0.mk (show y531.length ≤ co14 from by omega); clear hr13 hC13 hroom13 hi013 hsz13; have KY13 := Aside0.mk hy13; clear hy13; have KL13 := Aside0.mk (show (t528 : Int).toNat ≤ x5_1.length from by omega); replace q13 := eq_true q13) | ((with_reducible refine gate_callee (f := 63) rfl ?_); refine gl_ 21 Tryz.func63 #[.slice Ao14 y531.length co14] ?_; (with_reducible refine (spec_l1Own.calls _ _ y531 t535 _ ?s1 ?s2 A7.out).mono ?_); (case s1 => exact qe8c_ HR534.out); (case s2 => exact HC534.out); rintro e w15 ⟨v536, rfl, ho0, hb⟩; refine ⟨_, rfl, ?_⟩; have n0_ := Aside0.mk (Kd.R_elder' (q9d5_ HO_5.out) (Kd.R_base ho0) hb); have n1_ := Aside0.mk (Kd.R_lower (Kd.R_new' ho0 (Kd.R_lt (q9d5_ HO_5.out))) (keep_size (w := w) (g := g) (row := none) q1d6_)); have n2_ := Aside0.mk (IsS42.below (qe02_ HI0.out) hb); have n3_ := Aside0.mk (Kd.C_below (q75a_ HR534.out) hb); have n4_ := Aside0.mk (KeepBut.trans q1d6_ (KeepBut.of_below hb g none) (.inl rfl)); have n5_ := Aside0.mk (below_step (qb05_ HI0.out) hb); replace HO_5 := n0_; have HO537 := n1_; replace HI0 := n2_; replace HR534 := n3_; replace HK := n4_; replace HB := n5_; clear n0_ n1_ n2_ n3_ n4_ n5_; clear hb ho0) | ((with_reducible refine gate_builtin (b := .append) (xs := #[.tmp 21, .tmp 23]) rfl ?_); at_builtin; refine Kd.R_append (Kd.int .i64) w.heap.size rfl (.tmp 21) (.tmp 23) 24 3 (.int .i64 0) 8 rfl Tryz.underlying24 info3 rfl (by decide) (by omega) v536 t535 x6_1 [.int .i64 x6_1] (fun k_ => some k_ ≠ (.slice Ao14 x5_1.length co14 : Value).ownBlock) (fun _ => False) rfl rfl ?aP (fun _ hk => hk.elim) ?aF ?aO (Below.refl _ _) ?aS ?aL ?_; (case aP => exact rfl); (case aF => exact (fun k_ hk => Kd.fresh' (Kd.R_lt (q9d5_ HO_5.out)) k_ hk)); (case aO => exact (qe0f_ HO537.out)); (case aS => exact (keep_size (w := w) (g := g) (row := none) q1d6_)); (case aL => have := LMc8.out; omega); intro v539 w16 ho hb hg hat; rw [← Ny538.out] at ho; have n0_ := Aside0.mk (Kd.R_after (ok := (fun _ => True)) (q9d5_ HO_5.out) hg hat); have n1_ := Aside0.mk (IsS42.grown (qe02_ HI0.out) hg (IsS42.own_ne HI0.out HO537.out (by decide))); have n2_ := Aside0.mk (below_weaken (qb05_ HI0.out) HL.out hb); have n3_ := Aside0.mk (KeepBut.trans q1d6_ (KeepBut.of_grown hg g) (Kd.R_base2 HO537.out)); have n4_ := Aside0.mk ((show Kd.C (Kd.int .i64) w16 Ao14 y531.length y531 from q088_ HO_5.out)); have n5_ := Aside0.mk (ho); replace HO_5 := n0_; replace HI0 := n1_; replace HB := n2_; replace HK := n3_; replace HR534 := n4_; have HO540 := n5_; clear n0_ n1_ n2_ n3_ n4_ n5_; clear ho hb hg hat; have q17 : (t528 : Int) ≤ ((x5_1.length : Int) : Int) := of_decide_eq_true qe84_; obtain ⟨i017, hi017, _, hsz17, _⟩ := info_parts info3; have hroom17 : x5_1.length ≤ co14 := (Kd.R_reads' HO_5.out).2.1; have hC17 : Kd.C (Kd.int .i64) _ Ao14 x5_1.length x5_1 := (Kd.R_reads' HO_5.out).2.2; have q017 : (0 : Int) ≤ (t528 : Int) := of_decide_eq_true qe84_; have hcut17 := cut_from (P := Tryz.prog) 24 3 .i64 Tryz.underlying24 hi017 1 hsz17 Ao14 x5_1.length co14 t528 q017 q17; have hr17 := Kd.C_drop (m := (t528 : Int).toNat) (c := co14) hC17 (by omega) hroom17; obtain ⟨A17, hA17⟩ : ∃ A1, A1 = (if co14 = (t528 : Int).toNat then Ao14 else (Ao14 : Option Addr).map (·.add ((t528 : Int).toNat * 1))) := ⟨_, rfl⟩; obtain ⟨c17, hc17⟩ : ∃ c1, c1 = co14 - (t528 : Int).toNat := ⟨_, rfl⟩; have hy17 : y541.length = x5_1.length - (t528 : Int).toNat := (by rw [Ny541.out, List.length_drop] <;> omega); rw [show (x5_1).drop (t528 : Int).toNat = y541 from Ny541.out.symm] at hr17; replace hr17 : Kd.C (Kd.int .i64) _ A17 y541.length y541 := (by rw [hA17]; exact hr17); rw [← hy17, ← hA17, ← hc17] at hcut17; have HR544 := Aside0.mk hr17; have HC544 := Aside0.mk (show y541.length ≤ c17 from by rw [hy17, hc17]; exact Nat.sub_le_sub_right hroom17 _); clear hr17 hC17 hroom17 hi017 hsz17 hc17; have KY17 := Aside0.mk hy17; have KA17 := Aside0.mk hA17; clear hy17 hA17; have KL17 := Aside0.mk (show (t528 : Int).toNat ≤ x5_1.length from by omega); replace q17 := eq_true q17) | ((with_reducible refine gate_builtin (b := .append) (xs := #[.tmp 25, .tmp 28]) rfl ?_); at_builtin; refine Kd.R_append_rows (Kd.int .i64) w.heap.size rfl (.tmp 25) (.tmp 28) 24 3 (.int .i64 0) 8 rfl Tryz.underlying24 info3 rfl (by decide) (by omega) v539 y538 y541 _ _ _ (fun k_ => some k_ ≠ (.slice Ao14 x5_1.length co14 : Value).ownBlock) (fun _ => False) rfl rfl ?aO ?aR (fun _ _ h => h) (fun _ h => h.elim) ?aF (Below.refl _ _) ?aS ?aL ?_; (case aR => exact qe8c_ HR544.out); (case aF => exact (fun k_ hk => Kd.fresh' (Kd.R_lt (q9d5_ HO_5.out)) k_ hk)); (case aO => exact (q9d5_ HO540.out)); (case aS => exact (keep_size (w := w) (g := g) (row := none) q1d6_)); (case aL => have := LMc11.out; omega); intro v546 w18 ho hb hg hat; rw [← Ny545.out] at ho; have n0_ := Aside0.mk (Kd.R_after (ok := (fun _ => True)) (q9d5_ HO_5.out) hg hat); have n1_ := Aside0.mk (IsS42.grown (qe02_ HI0.out) hg (IsS42.own_ne HI0.out HO540.out (by decide))); have n2_ := Aside0.mk (below_weaken (qb05_ HI0.out) HL.out hb); have n3_ := Aside0.mk (KeepBut.trans q1d6_ (KeepBut.of_grown hg g) (Kd.R_base2 HO540.out)); have n4_ := Aside0.mk ((show Kd.C (Kd.int .i64) w18 Ao14 y531.length y531 from q088_ HO_5.out)); have n5_ := Aside0.mk ((show Kd.C (Kd.int .i64) w18 A17 y541.length y541 from by rw [Ny541.out, KA17.out]; exact Kd.C_drop (m := (t528 : Int).toNat) (c := co14) ((Kd.R_reads' (Kd.R_after (ok := (fun _ => True)) (q9d5_ HO_5.out) hg hat)).2.2) KL17.out ((Kd.R_reads' (Kd.R_after (ok := (fun _ => True)) (q9d5_ HO_5.out) hg hat)).2.1))); have n6_ := Aside0.mk (ho); replace HO_5 := n0_; replace HI0 := n1_; replace HB := n2_; replace HK := n3_; replace HR534 := n4_; replace HR544 := n5_; have HO547 := n6_; clear n0_ n1_ n2_ n3_ n4_ n5_ n6_; clear ho hb hg hat))
        go_roundg k1
        case measure => have := HK1.out; omega
        case rel => exact ⟨(y545), (wrap64 (x6_1 + 1)), (t529), (t530), qc8f_, H', ⟨q1d0_ HK1.out⟩, ⟨q7d9_ HO547.out⟩, ⟨qe02_ HI0.out⟩, ⟨q1d6_⟩, ⟨qb05_ HI0.out⟩⟩
       ·
        rw [if_neg c11] at H
        exact absurd H (by simp)
      ·
       rw [if_neg c8] at H
       exact absurd H (by simp)
     ·
      rw [if_neg c6] at H
      exact absurd H (by simp)
    ·
     rw [if_neg c5] at H
     exact absurd H (by simp)
   ·
    rw [if_neg c3] at H
    have c3b0 := decide_eq_false c3
    clear c3
    have HC19 := Aside0.mk H
    clear H
    go_upto_region 8 with (fail)
    go_cut [36] (fun v36 wc => ∃ (kq : Nat) (x36_18 : Bool) (x1001_18 : Int) (x1002_18 : Int), v36 = .bool x36_18 ∧ Aside0 (spec_l1Cur_outcome.j1 kq a1 x5_1 x36_18 s0_0 x1001_18 x1002_18 = some (r1, r2, r3)) ∧ Aside0 (kq ≤ k1) ∧ Aside0 (Kd.R (Kd.int .i64) 3 wc w.heap.size (fun _ => True) u5 x5_1) ∧ Aside0 (IsS42 w0 wc g s0_0 x1001_18 x1002_18) ∧ Aside0 (KeepBut w wc g none) ∧ Aside0 (Below w0.heap.size w0 wc))
    case first =>
     have H := HC19.out
     clear HC19
     by_cases c20 : (x5_1.length : Int) > 0
     ·
      rw [if_pos c20] at H
      have c20b0 := decide_eq_true c20
      have c20b1 : decide (0 < x5_1.length) = true := decide_eq_true (by omega)
      clear c20
      (first | rw [c20b0] | (simp only [i64_w, i32_w]; rw [c20b0]) | skip)
      obtain ⟨⟨t548, t549, t550⟩, A21, H⟩ := ob_ H
      dsimp only at H
      have H' := Aside0.mk H
      clear H
      obtain ⟨Ao22, co22, eo22⟩ := Kd.R_slice HO_5.out
      subst eo22
      go_wp2_with (first | (go_at_call 46; (with_reducible refine (spec_l1Cur_one.calls g s0_0 x1001_1 x1002_1 20 t548 t549 t550 w0 _ ?s1 ?s2 A21.out).mono ?_); (case s1 => exact qe02_ HI0.out); (case s2 => exact qb05_ HI0.out); rintro e w23 ⟨rfl, hi, hb, hk⟩; replace HO_5 := Aside0.mk (Kd.R_mono (Kd.R_keep (IsS42.apart (show IsS42 w0 _ g s0_0 x1001_1 x1002_1 from qe02_ HI0.out) (q9d5_ HO_5.out) (by decide)) hk (fun _ h => h.2)) (fun _ h => h.1)); replace HK := Aside0.mk (KeepBut.trans q1d6_ hk (.inl rfl)); replace HB := Aside0.mk (hb); replace HI0 := Aside0.mk (hi); clear hb hk hi))
      go_meet
      case rel => exact ⟨_, (t548), (t549), (t550), qc8f_, H', ⟨by have := HK1.out; first | omega | exact Nat.le_refl _⟩, ⟨q9d5_ HO_5.out⟩, ⟨qe02_ HI0.out⟩, ⟨q1d6_⟩, ⟨qb05_ HI0.out⟩⟩
     ·
      rw [if_neg c20] at H
      have c20b0 := decide_eq_false c20
      have c20b1 : decide (0 < x5_1.length) = false := decide_eq_false (by omega)
      clear c20
      (first | rw [c20b0] | (simp only [i64_w, i32_w]; rw [c20b0]) | skip)
      have H' := Aside0.mk H
      clear H
      obtain ⟨Ao24, co24, eo24⟩ := Kd.R_slice HO_5.out
      subst eo24
      go_wp2
      go_meet
      case rel => exact ⟨_, (false), (x1001_1), (x1002_1), qc8f_, H', ⟨by have := HK1.out; first | omega | exact Nat.le_refl _⟩, ⟨q9d5_ HO_5.out⟩, ⟨qe02_ HI0.out⟩, ⟨q1d6_⟩, ⟨qb05_ HI0.out⟩⟩
    case rest =>
     clear HC19; try clear c1; try clear q1; try clear c2; try clear p2; try clear c3; try clear c3b0; try clear c4; try clear c5; try clear c5b0; try clear c5b1; try clear c6; try clear c6b0; try clear c6b1; try clear p6; try clear c8; try clear c9; try clear c9b0; try clear c10; try clear c10b0; try clear c11; try clear q13; try clear c17; try clear q17; try clear c20; try clear c20b0; try clear c20b1; try clear p2; try clear q017; try clear q13; try clear q17
     obtain ⟨kq, x36_18, x1001_18, x1002_18, rfl, HA, HJ18, HO_5, HI0, HK, HB⟩ := hcut
     cases kq with
     | zero => exact absurd HA.out (by simp [spec_l1Cur_outcome.j1])
     | succ kj18 =>
      have H := HA.out
      clear HA
      simp only [spec_l1Cur_outcome.j1] at H
      by_cases c25 : x36_18 = true
      ·
       subst c25
       rw [if_pos rfl] at H
       obtain ⟨⟨t551, t552, t553⟩, A26, H⟩ := ob_ H
       dsimp only at H
       obtain ⟨y554, hy554⟩ : ∃ y_ : List Int, y_ = (([(-1), 0, a1] : List Int)) := ⟨_, rfl⟩
       replace H : ((spec_l1Cur_among.f s0_0 t552 t553 y554).bind fun bt557 => (if 0 ≤ t551 then (if t551 < (x5_1.length : Int) then (some ((x5_1.set (t551 : Int).toNat bt557.1), bt557.2.1, bt557.2.2)) else (none)) else (none))) = some (r1, r2, r3) := by first | (rw [hy554]; with_reducible exact H) | (have H2_ := (Option.bind_some _ _).symm.trans H; rw [hy554]; with_reducible exact H2_) | (have H2_ := (Option.bind_some _ _).symm.trans H; with_reducible exact H2_) | with_reducible exact H | (rw [hy554]; exact H) | exact H
       have Ny554 := Aside0.mk hy554
       clear hy554
       obtain ⟨⟨t557, t558, t559⟩, A27, H⟩ := ob_ H
       dsimp only at H
       by_cases c28 : 0 ≤ t551
       ·
        rw [if_pos c28] at H
        have c28b0 := decide_eq_true c28
        clear c28
        by_cases c29 : t551 < (x5_1.length : Int)
        ·
         rw [if_pos c29] at H
         have c29b0 := decide_eq_true c29
         clear c29
         obtain ⟨y560, hy560⟩ : ∃ y_ : List Int, y_ = (x5_1.set (t551 : Int).toNat t557) := ⟨_, rfl⟩
         replace H : (some (y560, t558, t559)) = some (r1, r2, r3) := by first | (rw [hy560]; with_reducible exact H) | (have H2_ := (Option.bind_some _ _).symm.trans H; rw [hy560]; with_reducible exact H2_) | (have H2_ := (Option.bind_some _ _).symm.trans H; with_reducible exact H2_) | with_reducible exact H | (rw [hy560]; exact H) | exact H
         have Ny560 := Aside0.mk hy560
         clear hy560
         simp only [Option.some.injEq, Prod.mk.injEq] at H
         obtain ⟨rfl, rfl, rfl⟩ := H
         obtain ⟨Ao31, co31, eo31⟩ := Kd.R_slice HO_5.out
         subst eo31
         go_wp2_with (first | ((with_reducible refine gate_callee (f := 48) rfl ?_); refine gl_ 41 Tryz.func48 #[.pointer (some ⟨g, 0, none⟩), .int .i64 (x5_1.length : Int)] ?_; (with_reducible refine (spec_l1Cur_pick.calls g s0_0 x1001_18 x1002_18 (x5_1.length : Int) t551 t552 t553 w0 _ ?s1 ?s2 A26.out).mono ?_); (case s1 => exact qe02_ HI0.out); (case s2 => exact qb05_ HI0.out); rintro e w32 ⟨rfl, hi, hb, hk⟩; refine ⟨_, rfl, ?_⟩; replace HO_5 := Aside0.mk (Kd.R_mono (Kd.R_keep (IsS42.apart (show IsS42 w0 _ g s0_0 x1001_18 x1002_18 from qe02_ HI0.out) (q9d5_ HO_5.out) (by decide)) hk (fun _ h => h.2)) (fun _ h => h.1)); replace HK := Aside0.mk (KeepBut.trans q1d6_ hk (.inl rfl)); replace HB := Aside0.mk (hb); replace HI0 := Aside0.mk (hi); clear hb hk hi) | ((with_reducible refine gate_dst (N := 44) rfl ?_); refine Kd.R_lit (Kd.int .i64) _ 3 ?hg (N := 44) ?hd (xs := ([(-1), 0, a1] : List Int)) (inner := [.int .i64 (-1), .int .i64 0, .int .i64 a1]) (ok := fun _ => True) (okp := fun _ => True) ?hr ?hp (fun _ hk => hk) trivial (Below.refl _ _) (Nat.le_refl _) (by simp) ?_; (case hd => rfl); (case hg => rfl); (case hr => exact qba7_); (case hp => exact (Reps.one (show Kd.M (Kd.int .i64) _ _ _ (-1) [.int .i64 (-1)] from rfl) (Reps.one (show Kd.M (Kd.int .i64) _ _ _ 0 [.int .i64 0] from rfl) (Reps.one (show Kd.M (Kd.int .i64) _ _ _ a1 [.int .i64 a1] from rfl) (Reps.none _ _))))); intro v555 w33 ho34 hb hg_ hnew_; clear hg_ hnew_; (first | rw [← Ny554.out] at ho34 | (simp only [Int.reduceToNat] at ho34; rw [← Ny554.out] at ho34)); have n0_ := Aside0.mk (Kd.R_elder' (q9d5_ HO_5.out) (Kd.R_base ho34) hb); have n1_ := Aside0.mk (Kd.R_lower (Kd.R_new' ho34 (Kd.R_lt (q9d5_ HO_5.out))) (keep_size (w := w) (g := g) (row := none) q1d6_)); have n2_ := Aside0.mk (IsS42.below (qe02_ HI0.out) hb); have n3_ := Aside0.mk (KeepBut.trans q1d6_ (KeepBut.of_below hb g none) (.inl rfl)); have n4_ := Aside0.mk (below_step (qb05_ HI0.out) hb); replace HO_5 := n0_; have HO556 := n1_; replace HI0 := n2_; replace HK := n3_; replace HB := n4_; clear n0_ n1_ n2_ n3_ n4_; clear hb ho34; obtain ⟨Ao35, co35, eo35⟩ := Kd.R_slice HO556.out; subst eo35) | ((with_reducible refine gate_callee (f := 69) rfl ?_); refine gl_ 45 Tryz.func69 #[.pointer (some ⟨g, 0, none⟩), .slice Ao35 y554.length co35] ?_; (with_reducible refine (spec_l1Cur_among.calls g s0_0 t552 t553 _ _ y554 t557 t558 t559 w0 _ ?s1 ?s2 ?s3 ?s4 ?s5 A27.out).mono ?_); (case s1 => exact qe02_ HI0.out); (case s2 => exact qb05_ HI0.out); (case s3 => exact q5a8_ HO556.out); (case s4 => exact (Kd.R_reads' HO556.out).2.1); (case s5 => exact far_slice (IsS42.own_ne HI0.out HO556.out (by decide))); rintro e w36 ⟨rfl, hi, hb, hk⟩; refine ⟨_, rfl, ?_⟩; replace HO_5 := Aside0.mk (Kd.R_mono (Kd.R_keep (IsS42.apart (show IsS42 w0 _ g s0_0 t552 t553 from qe02_ HI0.out) (q9d5_ HO_5.out) (by decide)) hk (fun _ h => h.2)) (fun _ h => h.1)); replace HO556 := Aside0.mk (Kd.R_mono (Kd.R_keep (IsS42.apart (show IsS42 w0 _ g s0_0 t552 t553 from qe02_ HI0.out) (q9d5_ HO556.out) (by decide)) hk (fun _ h => h.2)) (fun _ h => h.1)); replace HK := Aside0.mk (KeepBut.trans q1d6_ hk (.inl rfl)); replace HB := Aside0.mk (hb); replace HI0 := Aside0.mk (hi); clear hb hk hi; have p30 : 0 ≤ (t551 : Int) := of_decide_eq_true qe84_; have q30 : (t551 : Int) < ((x5_1.length : Int) : Int) := of_decide_eq_true qe84_; obtain ⟨go30, co30, eo30, gb30, gl30, cl30, HG30⟩ := Kd.R_form HO_5.out (by omega); (first | cases eo30 | (injection eo30 with ea_ en_ ec_; (first | subst ea_ | (injection ea_ with ea_; subst ea_)); subst ec_; clear en_)); have GB30 := Aside0.mk gb30; have GG30 := Aside0.mk HG30; clear gb30 gl30 HG30; obtain ⟨hx30_0, hf30_0⟩ := Kd.R_celln 0 HO_5.out (t551 : Int) p30 q30; replace p30 := eq_true p30; replace q30 := eq_true q30; have n_ := Aside0.mk (Kd.R_mono (ok' := (fun k_ => some k_ ≠ (.slice Ao35 y554.length co35 : Value).ownBlock)) HO_5.out (fun k_ hk => hk.2)); clear HO_5; have HO_5 := n_; clear n_; obtain ⟨hy37_, hz37_⟩ := Kd.R_celln 0 HO_5.out (t551 : Int) (of_decide_eq_true qe84_) (of_decide_eq_true qe84_); have HP37 := Kd.R_putg HO_5.out (t551 : Int) t557) | ((with_reducible refine gate_store (t := 3) (p := 46) rfl ?_); refine store_event (t := 3) (p := 46) (v := ?vo_w38) (w1 := (w36.setCell ⟨go30, (t551 : Int).toNat, none⟩ (.int .i64 t557))) ?hg ?ho ?hn ?hr ?_; (case ho => rfl); (case hg => rfl); (case hn => rfl); (case hr => exact qba7_); intro w38 hw; have hg : w36.grownBy w38 (some go30) := (by rw [hw]; exact HP37.2); have hp_ : Kd.R (Kd.int .i64) 3 w38 w.heap.size (fun k_ => some k_ ≠ (.slice Ao35 y554.length co35 : Value).ownBlock) (.slice (some ⟨go30, 0, none⟩) x5_1.length co31) y560 := (by rw [hw, Ny560.out]; exact HP37.1); clear HP37; have n0_ := Aside0.mk (hp_); have n1_ := Aside0.mk (IsS42.grown (qe02_ HI0.out) hg (IsS42.own_ne HI0.out HO_5.out (by decide))); have n2_ := Aside0.mk (Kd.R_after (v := (.slice (some ⟨go30, 0, none⟩) x5_1.length co31)) (v1 := (.slice (some ⟨go30, 0, none⟩) x5_1.length co31)) (ok := (fun _ => True)) (q9d5_ HO556.out) hg (.inl rfl)); have n3_ := Aside0.mk ((by rw [hw]; exact below_set (HB.out) (Nat.le_trans HL.out GB30.out) : Below w0.heap.size w0 w38)); have n4_ := Aside0.mk (KeepBut.trans q1d6_ (KeepBut.of_grown hg g) (Kd.R_base2 HO_5.out)); replace HO_5 := n0_; replace HI0 := n1_; replace HO556 := n2_; replace HB := n3_; replace HK := n4_; clear n0_ n1_ n2_ n3_ n4_; clear hg hw hp_))
         go_ret
         exact ⟨_, qce7_, q7d9_ HO_5.out, qe02_ HI0.out, qb05_ HI0.out, q1d6_⟩
        ·
         rw [if_neg c29] at H
         exact absurd H (by simp)
       ·
        rw [if_neg c28] at H
        exact absurd H (by simp)
      ·
       replace c25 := Bool.eq_false_iff.mpr c25
       subst c25
       rw [if_neg nf_] at H
       simp only [Option.some.injEq, Prod.mk.injEq] at H
       obtain ⟨rfl, rfl, rfl⟩ := H
       go_wp2
       go_ret
       exact ⟨_, qce7_, q9d5_ HO_5.out, qe02_ HI0.out, qb05_ HI0.out, q1d6_⟩

/-! ### spec_DrawReorderCars: function 17 -/
def spec_DrawReorderCars.f (k : Nat) (l0 : List Int) : Option (List Int × List Int) := (spec_l1Cur_favourites.f k l0 0 0).bind fun bt562 => ((spec_l1Cur_one.f l0 bt562.2.2.1 bt562.2.2.2 12).bind fun bt568 => (if bt568.1 = true then ((spec_l1Cur_pick.f l0 bt568.2.1 bt568.2.2 6).bind fun bt571 => ((spec_l1Cur_outcome.f k l0 bt571.2.1 bt571.2.2 bt571.1).bind fun bt574 => (some (bt562.1, bt574.1)))) else ((spec_l1Cur_outcome.f k l0 bt568.2.1 bt568.2.2 (bt562.1.length : Int)).bind fun bt579 => (some (bt562.1, bt579.1)))))
theorem spec_DrawReorderCars.mono : ∀ a0 k, LeO (spec_DrawReorderCars.f k a0) (spec_DrawReorderCars.f (k + 1) a0) := by
 intro a0 k
 unfold spec_DrawReorderCars.f
 repeat' (with_reducible first | exact spec_l1Cur_favourites.mono _ _ _ _ | exact spec_l1Cur_outcome.mono _ _ _ _ _ | exact LeO.refl _ | exact LeO.none _ | refine LeO.ite ?_ ?_ | refine LeO.bind ?_ (fun _ => ?_))
theorem spec_DrawReorderCars.calls (k : Nat) (A0 : Option Addr) (c0 : Nat) (l0 : List Int) (r1 : List Int) (r2 : List Int) (w : World) (hr0 : Kd.C (Kd.int .u8) w A0 l0.length l0) (hc0 : l0.length ≤ c0) (h : spec_DrawReorderCars.f k l0 = some (r1, r2)) :
  Calls Tryz.prog 17 #[.slice A0 l0.length c0] w fun e w' => ∃ v0_ v1_ : Value, e = .returned (.tuple #[v0_, v1_]) ∧ Kd.R (Kd.int .i64) 3 w' w.heap.size (fun k_ => some k_ ≠ (v1_ : Value).ownBlock) v0_ r1 ∧ Kd.R (Kd.int .i64) 3 w' w.heap.size (fun k_ => some k_ ≠ (v0_ : Value).ownBlock) v1_ r2 ∧ Below w.heap.size w w' := by
 have hu42 := Tryz.underlying42
 have HR0 := Aside0.mk hr0
 have HC0 := Aside0.mk hc0
 clear hr0 hc0
 have HB := Aside0.mk (Below.refl w.heap.size w)
 unfold spec_DrawReorderCars.f at h
 have H := h; clear h
 obtain ⟨⟨t562, t565, t566, t567⟩, A2, H⟩ := ob_ H
 dsimp only at H
 obtain ⟨⟨t568, t569, t570⟩, A3, H⟩ := ob_ H
 dsimp only at H
 by_cases c4 : t568 = true
 ·
  subst c4
  rw [if_pos rfl] at H
  obtain ⟨⟨t571, t572, t573⟩, A5, H⟩ := ob_ H
  dsimp only at H
  obtain ⟨⟨t574, t577, t578⟩, A6, H⟩ := ob_ H
  dsimp only at H
  simp only [Option.some.injEq, Prod.mk.injEq] at H
  obtain ⟨rfl, rfl⟩ := H
  go_enter Tryz.func17, Tryz.ntmps17
  go_wp2_with (first | ((with_reducible refine gate_dst (N := 9) rfl ?_); refine box_event ?hg (N := 9) ?hd (cs := #[.slice A0 l0.length c0, .int .i64 0, .int .u64 0]) (t := 42) ?hr ?_; (case hd => rfl); (case hg => rfl); (case hr => exact qba7_); intro gb561 hg w7 hbox hb; have n0_ := Aside0.mk (below_step q0c4_ hb); have n1_ := Aside0.mk (hbox); have n2_ := Aside0.mk ((by rw [hg]; exact (below_size q0c4_) : w.heap.size ≤ gb561)); have n3_ := Aside0.mk ((by rw [hg]; exact (below_size q0c4_) : w.heap.size ≤ gb561)); have n4_ := Aside0.mk ((show IsS42 w w7 gb561 l0 0 0 from ⟨_, _, hbox, (by rw [hg]; exact (below_size q0c4_) : w.heap.size ≤ gb561), HR0.out⟩)); replace HB := n0_; have BK561 := n1_; have GW561 := n2_; have GE561 := n3_; have HI561 := n4_; clear n0_ n1_ n2_ n3_ n4_; clear hb hbox hg) | ((with_reducible refine gate_callee (f := 45) rfl ?_); refine gl_ 12 Tryz.func45 #[.pointer (some ⟨gb561, 0, none⟩)] ?_; (with_reducible refine (spec_l1Cur_favourites.calls k gb561 l0 0 0 t562 t565 t566 t567 w _ ?s1 ?s2 A2.out).mono ?_); (case s1 => exact qe02_ HI561.out); (case s2 => exact qb05_ HI561.out); rintro e w8 ⟨v563, rfl, ho0, hi, hb, hk⟩; refine ⟨_, rfl, ?_⟩; have HO564 := Aside0.mk (Kd.R_lower ho0 (below_size (qb05_ HI561.out))); replace HB := Aside0.mk (hb); replace HI561 := Aside0.mk (hi); clear hb hk hi ho0) | ((with_reducible refine gate_callee (f := 46) rfl ?_); refine gl_ 16 Tryz.func46 #[.pointer (some ⟨gb561, 0, none⟩), .int .i64 12] ?_; (with_reducible refine (spec_l1Cur_one.calls gb561 l0 t566 t567 12 true t569 t570 w _ ?s1 ?s2 A3.out).mono ?_); (case s1 => exact qe02_ HI561.out); (case s2 => exact qb05_ HI561.out); rintro e w9 ⟨rfl, hi, hb, hk⟩; refine ⟨_, rfl, ?_⟩; replace HO564 := Aside0.mk (Kd.R_mono (Kd.R_keep (IsS42.apart (show IsS42 w _ gb561 l0 t566 t567 from qe02_ HI561.out) (q9d5_ HO564.out) (by decide)) hk (fun _ h => h.2)) (fun _ h => h.1)); replace HB := Aside0.mk (hb); replace HI561 := Aside0.mk (hi); clear hb hk hi) | ((with_reducible refine gate_callee (f := 48) rfl ?_); refine gl_ 20 Tryz.func48 #[.pointer (some ⟨gb561, 0, none⟩), .int .i64 6] ?_; (with_reducible refine (spec_l1Cur_pick.calls gb561 l0 t569 t570 6 t571 t572 t573 w _ ?s1 ?s2 A5.out).mono ?_); (case s1 => exact qe02_ HI561.out); (case s2 => exact qb05_ HI561.out); rintro e w10 ⟨rfl, hi, hb, hk⟩; refine ⟨_, rfl, ?_⟩; replace HO564 := Aside0.mk (Kd.R_mono (Kd.R_keep (IsS42.apart (show IsS42 w _ gb561 l0 t569 t570 from qe02_ HI561.out) (q9d5_ HO564.out) (by decide)) hk (fun _ h => h.2)) (fun _ h => h.1)); replace HB := Aside0.mk (hb); replace HI561 := Aside0.mk (hi); clear hb hk hi) | ((with_reducible refine gate_callee (f := 47) rfl ?_); refine gl_ 21 Tryz.func47 #[.pointer (some ⟨gb561, 0, none⟩), .int .i64 t571] ?_; (with_reducible refine (spec_l1Cur_outcome.calls k gb561 l0 t572 t573 t571 t574 t577 t578 w _ ?s1 ?s2 A6.out).mono ?_); (case s1 => exact qe02_ HI561.out); (case s2 => exact qb05_ HI561.out); rintro e w11 ⟨v575, rfl, ho0, hi, hb, hk⟩; refine ⟨_, rfl, ?_⟩; have n0_ := Aside0.mk (Kd.R_mono (Kd.R_told (Kd.R_oldK (IsS42.apart (show IsS42 w _ gb561 l0 t572 t573 from qe02_ HI561.out) (q9d5_ HO564.out) (by decide)) hk) (Kd.R_base ho0)) (fun _ h_ => h_.1)); have n1_ := Aside0.mk (Kd.R_lower (Kd.R_new' ho0 (Kd.R_lt (q9d5_ HO564.out))) (below_size (qb05_ HI561.out))); have n2_ := Aside0.mk (hb); have n3_ := Aside0.mk (hi); replace HO564 := n0_; have HO576 := n1_; replace HB := n2_; replace HI561 := n3_; clear n0_ n1_ n2_ n3_; clear hb hk hi ho0))
  go_ret2
  exact ⟨_, _, qce7_, qe0f_ HO564.out, qe0f_ HO576.out, qb05_ HI561.out⟩
 ·
  replace c4 := Bool.eq_false_iff.mpr c4
  subst c4
  rw [if_neg nf_] at H
  obtain ⟨⟨t579, t582, t583⟩, A12, H⟩ := ob_ H
  dsimp only at H
  simp only [Option.some.injEq, Prod.mk.injEq] at H
  obtain ⟨rfl, rfl⟩ := H
  go_enter Tryz.func17, Tryz.ntmps17
  go_wp2_with (first | ((with_reducible refine gate_dst (N := 9) rfl ?_); refine box_event ?hg (N := 9) ?hd (cs := #[.slice A0 l0.length c0, .int .i64 0, .int .u64 0]) (t := 42) ?hr ?_; (case hd => rfl); (case hg => rfl); (case hr => exact qba7_); intro gb561 hg w13 hbox hb; have n0_ := Aside0.mk (below_step q0c4_ hb); have n1_ := Aside0.mk (hbox); have n2_ := Aside0.mk ((by rw [hg]; exact (below_size q0c4_) : w.heap.size ≤ gb561)); have n3_ := Aside0.mk ((by rw [hg]; exact (below_size q0c4_) : w.heap.size ≤ gb561)); have n4_ := Aside0.mk ((show IsS42 w w13 gb561 l0 0 0 from ⟨_, _, hbox, (by rw [hg]; exact (below_size q0c4_) : w.heap.size ≤ gb561), HR0.out⟩)); replace HB := n0_; have BK561 := n1_; have GW561 := n2_; have GE561 := n3_; have HI561 := n4_; clear n0_ n1_ n2_ n3_ n4_; clear hb hbox hg) | ((with_reducible refine gate_callee (f := 45) rfl ?_); refine gl_ 12 Tryz.func45 #[.pointer (some ⟨gb561, 0, none⟩)] ?_; (with_reducible refine (spec_l1Cur_favourites.calls k gb561 l0 0 0 t562 t565 t566 t567 w _ ?s1 ?s2 A2.out).mono ?_); (case s1 => exact qe02_ HI561.out); (case s2 => exact qb05_ HI561.out); rintro e w14 ⟨v563, rfl, ho0, hi, hb, hk⟩; refine ⟨_, rfl, ?_⟩; have HO564 := Aside0.mk (Kd.R_lower ho0 (below_size (qb05_ HI561.out))); replace HB := Aside0.mk (hb); replace HI561 := Aside0.mk (hi); clear hb hk hi ho0) | ((with_reducible refine gate_callee (f := 46) rfl ?_); refine gl_ 16 Tryz.func46 #[.pointer (some ⟨gb561, 0, none⟩), .int .i64 12] ?_; (with_reducible refine (spec_l1Cur_one.calls gb561 l0 t566 t567 12 false t569 t570 w _ ?s1 ?s2 A3.out).mono ?_); (case s1 => exact qe02_ HI561.out); (case s2 => exact qb05_ HI561.out); rintro e w15 ⟨rfl, hi, hb, hk⟩; refine ⟨_, rfl, ?_⟩; replace HO564 := Aside0.mk (Kd.R_mono (Kd.R_keep (IsS42.apart (show IsS42 w _ gb561 l0 t566 t567 from qe02_ HI561.out) (q9d5_ HO564.out) (by decide)) hk (fun _ h => h.2)) (fun _ h => h.1)); replace HB := Aside0.mk (hb); replace HI561 := Aside0.mk (hi); clear hb hk hi; obtain ⟨Ao16, co16, eo16⟩ := Kd.R_slice HO564.out; subst eo16) | ((with_reducible refine gate_callee (f := 47) rfl ?_); refine gl_ 26 Tryz.func47 #[.pointer (some ⟨gb561, 0, none⟩), .int .i64 (t562.length : Int)] ?_; (with_reducible refine (spec_l1Cur_outcome.calls k gb561 l0 t569 t570 (t562.length : Int) t579 t582 t583 w _ ?s1 ?s2 A12.out).mono ?_); (case s1 => exact qe02_ HI561.out); (case s2 => exact qb05_ HI561.out); rintro e w17 ⟨v580, rfl, ho0, hi, hb, hk⟩; refine ⟨_, rfl, ?_⟩; have n0_ := Aside0.mk (Kd.R_mono (Kd.R_told (Kd.R_oldK (IsS42.apart (show IsS42 w _ gb561 l0 t569 t570 from qe02_ HI561.out) (q9d5_ HO564.out) (by decide)) hk) (Kd.R_base ho0)) (fun _ h_ => h_.1)); have n1_ := Aside0.mk (Kd.R_lower (Kd.R_new' ho0 (Kd.R_lt (q9d5_ HO564.out))) (below_size (qb05_ HI561.out))); have n2_ := Aside0.mk (hb); have n3_ := Aside0.mk (hi); replace HO564 := n0_; have HO581 := n1_; replace HB := n2_; replace HI561 := n3_; clear n0_ n1_ n2_ n3_; clear hb hk hi ho0))
  go_ret2
  exact ⟨_, _, qce7_, qe0f_ HO564.out, qe0f_ HO581.out, qb05_ HI561.out⟩

/-! ### impl_isOrder: function 50 -/
def impl_isOrder.l0 : Nat → List Int → List Int → Int → Int → Option (Bool)
 | 0, _, _, _, _ => none
 | k + 1, x0, x6, x7, x8 => if x8 < x7 then (if 0 ≤ x8 then (if x8 < (x6.length : Int) then (if (rd x6 x8) = x8 then (impl_isOrder.l0 k x0 x6 x7 (wrap64 (x8 + 1))) else (some false)) else (none)) else (none)) else (some (decide ((x0.length : Int) ≤ 8)))
def impl_isOrder.f (k : Nat) (l0 : List Int) : Option (Bool) := (impl_sorted.f l0).bind fun t584 => (impl_isOrder.l0 k l0 t584 (t584.length : Int) 0)
theorem impl_isOrder.mono_l : ∀ k, (∀ y0 y1 y2 y3, LeO (impl_isOrder.l0 k y0 y1 y2 y3) (impl_isOrder.l0 (k + 1) y0 y1 y2 y3))
 | 0 => fun _ _ _ _ r h => by simp [impl_isOrder.l0] at h
 | k + 1 => by
  have ih0 := impl_isOrder.mono_l k
  ·
   intro y0 y1 y2 y3
   unfold impl_isOrder.l0
   repeat' (with_reducible first | exact ih0 _ _ _ _ | exact LeO.refl _ | exact LeO.none _ | refine LeO.ite ?_ ?_ | refine LeO.bind ?_ (fun _ => ?_))
theorem impl_isOrder.mono : ∀ a0 k, LeO (impl_isOrder.f k a0) (impl_isOrder.f (k + 1) a0) := by
 intro a0 k
 have ih0 := impl_isOrder.mono_l k
 unfold impl_isOrder.f
 repeat' (with_reducible first | exact ih0 _ _ _ _ | exact LeO.refl _ | exact LeO.none _ | refine LeO.ite ?_ ?_ | refine LeO.bind ?_ (fun _ => ?_))
theorem impl_isOrder.calls (k : Nat) (A0 : Option Addr) (c0 : Nat) (l0 : List Int) (r : Bool) (w : World) (hr0 : Kd.C (Kd.int .i64) w A0 l0.length l0) (hc0 : l0.length ≤ c0) (h : impl_isOrder.f k l0 = some r) :
  Calls Tryz.prog 50 #[.slice A0 l0.length c0] w fun e w' => e = .returned (.bool r) ∧ Below w.heap.size w w' := by
 have HR0 := Aside0.mk hr0
 have HC0 := Aside0.mk hc0
 clear hr0 hc0
 have HB := Aside0.mk (Below.refl w.heap.size w)
 unfold impl_isOrder.f at h
 have H := h; clear h
 obtain ⟨t584, A2, H⟩ := ob_ H
 have H' := Aside0.mk H
 clear H
 go_enter Tryz.func50, Tryz.ntmps50
 go_wp2_with (first | ((with_reducible refine gate_callee (f := 41) rfl ?_); refine gl_ 6 Tryz.func41 #[.slice A0 l0.length c0] ?_; (with_reducible refine (impl_sorted.calls _ _ l0 t584 _ ?s1 ?s2 A2.out).mono ?_); (case s1 => exact q201_ HR0.out); (case s2 => exact HC0.out); rintro e w3 ⟨v585, rfl, ho0, hb⟩; refine ⟨_, rfl, ?_⟩; have HO586 := Aside0.mk (Kd.R_lower ho0 (below_size q0c4_)); replace HB := Aside0.mk (below_step q0c4_ hb); clear hb ho0; obtain ⟨Ao4, co4, eo4⟩ := Kd.R_slice HO586.out; subst eo4))
 go_loopg [8] k (fun kq v8 w' => ∃ (x8_1 : Int), v8 = .int .i64 x8_1 ∧ Aside0 (impl_isOrder.l0 kq l0 t584 (t584.length : Int) x8_1 = some r) ∧ Aside0 (kq ≤ k) ∧ Aside0 (Kd.R (Kd.int .i64) 3 w' w.heap.size (fun _ => True) (.slice Ao4 t584.length co4) t584) ∧ Aside0 (Below w.heap.size w w'))
 case atStart => exact ⟨(0), qc8f_, H', ⟨Nat.le_refl _⟩, ⟨q9d5_ HO586.out⟩, ⟨q0c4_⟩⟩
 case round =>
  clear H'; try clear p2; try clear c4
  obtain ⟨x8_1, rfl, HA, HK1, HO_6, HB⟩ := hrel
  cases gk with
  | zero => exact absurd HA.out (by simp [impl_isOrder.l0])
  | succ k1 =>
   have H := HA.out
   clear HA
   simp only [impl_isOrder.l0] at H
   by_cases c5 : x8_1 < (t584.length : Int)
   ·
    rw [if_pos c5] at H
    have c5b0 := decide_eq_true c5
    clear c5
    by_cases c6 : 0 ≤ x8_1
    ·
     rw [if_pos c6] at H
     have c6b0 := decide_eq_true c6
     clear c6
     by_cases c7 : x8_1 < (t584.length : Int)
     ·
      rw [if_pos c7] at H
      have c7b0 := decide_eq_true c7
      clear c7
      by_cases c8 : (rd t584 x8_1) = x8_1
      ·
       rw [if_pos c8] at H
       have c8b0 := beq_iff_eq.mpr c8
       have c8b1 := bne_eq_false_iff_eq.mpr c8
       clear c8
       have H' := Aside0.mk H
       clear H
       have p587 : 0 ≤ (x8_1 : Int) := of_decide_eq_true qe84_
       have q587 : x8_1 < (t584.length : Int) := of_decide_eq_true qe84_
       obtain ⟨ad587, e587, hx587_0⟩ := Kd.at_int (Kd.R_reads' HO_6.out).2.2 x8_1 p587 q587
       cases e587
       replace p587 := eq_true p587
       replace q587 := eq_true q587
       go_wp2
       go_roundg k1
       case measure => have := HK1.out; omega
       case rel => exact ⟨(wrap64 (x8_1 + 1)), qc8f_, H', ⟨q1d0_ HK1.out⟩, ⟨q9d5_ HO_6.out⟩, ⟨q0c4_⟩⟩
      ·
       rw [if_neg c8] at H
       have c8b0 := beq_eq_false_iff_ne.mpr c8
       have c8b1 := bne_iff_ne.mpr c8
       obtain rfl := Option.some.inj H
       have p587 : 0 ≤ (x8_1 : Int) := of_decide_eq_true qe84_
       have q587 : x8_1 < (t584.length : Int) := of_decide_eq_true qe84_
       obtain ⟨ad587, e587, hx587_0⟩ := Kd.at_int (Kd.R_reads' HO_6.out).2.2 x8_1 p587 q587
       cases e587
       replace p587 := eq_true p587
       replace q587 := eq_true q587
       go_wp2
       go_ret
       exact ⟨qce7_, q0c4_⟩
     ·
      rw [if_neg c7] at H
      exact absurd H (by simp)
    ·
     rw [if_neg c6] at H
     exact absurd H (by simp)
   ·
    rw [if_neg c5] at H
    have c5b0 := decide_eq_false c5
    clear c5
    obtain rfl := Option.some.inj H
    go_wp2
    go_ret
    exact ⟨qce7_, q0c4_⟩

/-! ### impl_ReorderCars: function 18 -/
def impl_ReorderCars.f (k : Nat) (l0 : List Int) (l1 : List Int) : Option (List Int × Bool) := (impl_AreFavourites.f l0 12).bind fun t588 => (if t588 = true then ((impl_isOrder.f k l1).bind fun t589 => (if t589 = true then (if (l1.length : Int) = (l0.length : Int) then ((impl_reordered.f k l0 l1).bind fun t590 => (some (t590, true))) else (some (([] : List Int), false))) else (some (([] : List Int), false)))) else (some (([] : List Int), false)))
theorem impl_ReorderCars.mono : ∀ a0 a1 k, LeO (impl_ReorderCars.f k a0 a1) (impl_ReorderCars.f (k + 1) a0 a1) := by
 intro a0 a1 k
 unfold impl_ReorderCars.f
 repeat' (with_reducible first | exact impl_isOrder.mono _ _ | exact impl_reordered.mono _ _ _ | exact LeO.refl _ | exact LeO.none _ | refine LeO.ite ?_ ?_ | refine LeO.bind ?_ (fun _ => ?_))
theorem impl_ReorderCars.calls (k : Nat) (A0 : Option Addr) (c0 : Nat) (l0 : List Int) (A1 : Option Addr) (c1 : Nat) (l1 : List Int) (r1 : List Int) (r2 : Bool) (w : World) (hr0 : Kd.C (Kd.int .i64) w A0 l0.length l0) (hc0 : l0.length ≤ c0) (hr1 : Kd.C (Kd.int .i64) w A1 l1.length l1) (hc1 : l1.length ≤ c1) (h : impl_ReorderCars.f k l0 l1 = some (r1, r2)) :
  Calls Tryz.prog 18 #[.slice A0 l0.length c0, .slice A1 l1.length c1] w fun e w' => ∃ v0_ : Value, e = .returned (.tuple #[v0_, .bool r2]) ∧ Kd.R (Kd.int .i64) 3 w' w.heap.size (fun _ => True) v0_ r1 ∧ Below w.heap.size w w' := by
 have HR0 := Aside0.mk hr0
 have HC0 := Aside0.mk hc0
 clear hr0 hc0
 have HR1 := Aside0.mk hr1
 have HC1 := Aside0.mk hc1
 clear hr1 hc1
 have HB := Aside0.mk (Below.refl w.heap.size w)
 unfold impl_ReorderCars.f at h
 have H := h; clear h
 obtain ⟨t588, A3, H⟩ := ob_ H
 by_cases c4 : t588 = true
 ·
  subst c4
  rw [if_pos rfl] at H
  obtain ⟨t589, A5, H⟩ := ob_ H
  by_cases c6 : t589 = true
  ·
   subst c6
   rw [if_pos rfl] at H
   by_cases c7 : (l1.length : Int) = (l0.length : Int)
   ·
    rw [if_pos c7] at H
    have c7b0 := beq_iff_eq.mpr c7
    have c7b1 := bne_eq_false_iff_eq.mpr c7
    have c7b2 : (l1.length == l0.length) = true := by first | simpa using c7 | (simp at c7 ⊢; omega)
    clear c7
    obtain ⟨t590, A8, H⟩ := ob_ H
    simp only [Option.some.injEq, Prod.mk.injEq] at H
    obtain ⟨rfl, rfl⟩ := H
    go_enter Tryz.func18, Tryz.ntmps18
    go_wp2_with (first | ((with_reducible refine gate_callee (f := 49) rfl ?_); refine gl_ 7 Tryz.func49 #[.slice A0 l0.length c0, .int .i64 12] ?_; (with_reducible refine (impl_AreFavourites.calls _ _ l0 12 true _ ?s1 ?s2 A3.out).mono ?_); (case s1 => exact q201_ HR0.out); (case s2 => exact HC0.out); rintro e w9 ⟨rfl, hb⟩; refine ⟨_, rfl, ?_⟩; replace HB := Aside0.mk (below_step q0c4_ hb); clear hb) | (go_at_call 50; (with_reducible refine (impl_isOrder.calls k _ _ l1 true _ ?s1 ?s2 A5.out).mono ?_); (case s1 => exact q02f_ HR1.out); (case s2 => exact HC1.out); rintro e w10 ⟨rfl, hb⟩; replace HB := Aside0.mk (below_step q0c4_ hb); clear hb) | ((with_reducible refine gate_callee (f := 29) rfl ?_); refine gl_ 23 Tryz.func29 #[.slice A0 l0.length c0, .slice A1 l1.length c1] ?_; (with_reducible refine (impl_reordered.calls k _ _ l0 _ _ l1 t590 _ ?s1 ?s2 ?s3 ?s4 A8.out).mono ?_); (case s1 => exact q02f_ HR0.out); (case s2 => exact HC0.out); (case s3 => exact q02f_ HR1.out); (case s4 => exact HC1.out); rintro e w11 ⟨v591, rfl, ho0, hb⟩; refine ⟨_, rfl, ?_⟩; have HO592 := Aside0.mk (Kd.R_lower ho0 (below_size q0c4_)); replace HB := Aside0.mk (below_step q0c4_ hb); clear hb ho0))
    go_ret2
    exact ⟨_, qce7_, q9d5_ HO592.out, q0c4_⟩
   ·
    rw [if_neg c7] at H
    have c7b0 := beq_eq_false_iff_ne.mpr c7
    have c7b1 := bne_iff_ne.mpr c7
    have c7b2 : (l1.length == l0.length) = false := by first | simpa using c7 | (simp at c7 ⊢; omega)
    simp only [Option.some.injEq, Prod.mk.injEq] at H
    obtain ⟨rfl, rfl⟩ := H
    go_enter Tryz.func18, Tryz.ntmps18
    go_wp2_with (first | ((with_reducible refine gate_callee (f := 49) rfl ?_); refine gl_ 7 Tryz.func49 #[.slice A0 l0.length c0, .int .i64 12] ?_; (with_reducible refine (impl_AreFavourites.calls _ _ l0 12 true _ ?s1 ?s2 A3.out).mono ?_); (case s1 => exact q201_ HR0.out); (case s2 => exact HC0.out); rintro e w12 ⟨rfl, hb⟩; refine ⟨_, rfl, ?_⟩; replace HB := Aside0.mk (below_step q0c4_ hb); clear hb) | (go_at_call 50; (with_reducible refine (impl_isOrder.calls k _ _ l1 true _ ?s1 ?s2 A5.out).mono ?_); (case s1 => exact q02f_ HR1.out); (case s2 => exact HC1.out); rintro e w13 ⟨rfl, hb⟩; replace HB := Aside0.mk (below_step q0c4_ hb); clear hb))
    go_ret2
    exact ⟨_, qce7_, qf62_, q0c4_⟩
  ·
   replace c6 := Bool.eq_false_iff.mpr c6
   subst c6
   rw [if_neg nf_] at H
   simp only [Option.some.injEq, Prod.mk.injEq] at H
   obtain ⟨rfl, rfl⟩ := H
   go_enter Tryz.func18, Tryz.ntmps18
   go_wp2_with (first | ((with_reducible refine gate_callee (f := 49) rfl ?_); refine gl_ 7 Tryz.func49 #[.slice A0 l0.length c0, .int .i64 12] ?_; (with_reducible refine (impl_AreFavourites.calls _ _ l0 12 true _ ?s1 ?s2 A3.out).mono ?_); (case s1 => exact q201_ HR0.out); (case s2 => exact HC0.out); rintro e w14 ⟨rfl, hb⟩; refine ⟨_, rfl, ?_⟩; replace HB := Aside0.mk (below_step q0c4_ hb); clear hb) | (go_at_call 50; (with_reducible refine (impl_isOrder.calls k _ _ l1 false _ ?s1 ?s2 A5.out).mono ?_); (case s1 => exact q02f_ HR1.out); (case s2 => exact HC1.out); rintro e w15 ⟨rfl, hb⟩; replace HB := Aside0.mk (below_step q0c4_ hb); clear hb))
   go_ret2
   exact ⟨_, qce7_, qf62_, q0c4_⟩
 ·
  replace c4 := Bool.eq_false_iff.mpr c4
  subst c4
  rw [if_neg nf_] at H
  simp only [Option.some.injEq, Prod.mk.injEq] at H
  obtain ⟨rfl, rfl⟩ := H
  go_enter Tryz.func18, Tryz.ntmps18
  go_wp2_with (first | ((with_reducible refine gate_callee (f := 49) rfl ?_); refine gl_ 7 Tryz.func49 #[.slice A0 l0.length c0, .int .i64 12] ?_; (with_reducible refine (impl_AreFavourites.calls _ _ l0 12 false _ ?s1 ?s2 A3.out).mono ?_); (case s1 => exact q201_ HR0.out); (case s2 => exact HC0.out); rintro e w16 ⟨rfl, hb⟩; refine ⟨_, rfl, ?_⟩; replace HB := Aside0.mk (below_step q0c4_ hb); clear hb))
  go_ret2
  exact ⟨_, qce7_, qf62_, q0c4_⟩

/-! ### spec_paOutcome: function 51 -/
mutual
def spec_paOutcome.j0 : Nat → List Int → Bool → Option (Bool)
 | 0, _, _ => none
 | k + 1, x0, x15 => if x15 = true then (some false) else (spec_paOutcome.l0 k x0 x0 (x0.length : Int) 0)
def spec_paOutcome.l0 : Nat → List Int → List Int → Int → Int → Option (Bool)
 | 0, _, _, _, _ => none
 | k + 1, x0, x16, x17, x18 => if x18 < x17 then (if 0 ≤ x18 then (if x18 < (x16.length : Int) then (if x18 ≤ (x0.length : Int) then ((spec_l1Has.f k (x0.take (x18 : Int).toNat) (rd x16 x18)).bind fun t596 => (if t596 = true then (some false) else (spec_paOutcome.l0 k x0 x16 x17 (wrap64 (x18 + 1))))) else (none)) else (none)) else (none)) else (some true)
end
def spec_paOutcome.f (k : Nat) (l0 : List Int) : Option (Bool) := if (l0.length : Int) > 8 then (spec_paOutcome.j0 k l0 true) else ((spec_l1All.f k l0 0 (wrap64 ((l0.length : Int) - 1))).bind fun t593 => (spec_paOutcome.j0 k l0 (!t593)))
theorem spec_paOutcome.mono_l : ∀ k, (∀ y0 y1, LeO (spec_paOutcome.j0 k y0 y1) (spec_paOutcome.j0 (k + 1) y0 y1)) ∧ (∀ y0 y1 y2 y3, LeO (spec_paOutcome.l0 k y0 y1 y2 y3) (spec_paOutcome.l0 (k + 1) y0 y1 y2 y3))
 | 0 => ⟨fun _ _ r h => by simp [spec_paOutcome.j0] at h, fun _ _ _ _ r h => by simp [spec_paOutcome.l0] at h⟩
 | k + 1 => by
  obtain ⟨ih0, ih1⟩ := spec_paOutcome.mono_l k
  refine ⟨?_, ?_⟩
  ·
   intro y0 y1
   unfold spec_paOutcome.j0
   repeat' (with_reducible first | exact ih0 _ _ | exact ih1 _ _ _ _ | exact spec_l1All.mono _ _ _ _ | exact spec_l1Has.mono _ _ _ | exact LeO.refl _ | exact LeO.none _ | refine LeO.ite ?_ ?_ | refine LeO.bind ?_ (fun _ => ?_))
  ·
   intro y0 y1 y2 y3
   unfold spec_paOutcome.l0
   repeat' (with_reducible first | exact ih0 _ _ | exact ih1 _ _ _ _ | exact spec_l1All.mono _ _ _ _ | exact spec_l1Has.mono _ _ _ | exact LeO.refl _ | exact LeO.none _ | refine LeO.ite ?_ ?_ | refine LeO.bind ?_ (fun _ => ?_))
theorem spec_paOutcome.mono : ∀ a0 k, LeO (spec_paOutcome.f k a0) (spec_paOutcome.f (k + 1) a0) := by
 intro a0 k
 obtain ⟨ih0, ih1⟩ := spec_paOutcome.mono_l k
 unfold spec_paOutcome.f
 repeat' (with_reducible first | exact ih0 _ _ | exact ih1 _ _ _ _ | exact spec_l1All.mono _ _ _ _ | exact spec_l1Has.mono _ _ _ | exact LeO.refl _ | exact LeO.none _ | refine LeO.ite ?_ ?_ | refine LeO.bind ?_ (fun _ => ?_))
theorem spec_paOutcome.calls (k : Nat) (A0 : Option Addr) (c0 : Nat) (l0 : List Int) (r : Bool) (w : World) (hr0 : Kd.C (Kd.int .i64) w A0 l0.length l0) (hc0 : l0.length ≤ c0) (h : spec_paOutcome.f k l0 = some r) :
  Calls Tryz.prog 51 #[.slice A0 l0.length c0] w fun e w' => e = .returned (.bool r) ∧ Drawn0 w w' := by
 have HR0 := Aside0.mk hr0
 have HC0 := Aside0.mk hc0
 clear hr0 hc0
 unfold spec_paOutcome.f at h
 have H := h; clear h
 have HC2 := Aside0.mk H
 clear H
 go_enter Tryz.func51, Tryz.ntmps51
 go_upto_region 1 with (fail)
 go_cut [15] (fun v15 wc => ∃ (kq : Nat) (x15_1 : Bool), v15 = .bool x15_1 ∧ Aside0 (spec_paOutcome.j0 kq l0 x15_1 = some r) ∧ Aside0 (kq ≤ k) ∧ Drawn0 w wc)
 case first =>
  have H := HC2.out
  clear HC2
  by_cases c3 : (l0.length : Int) > 8
  ·
   rw [if_pos c3] at H
   have c3b0 := decide_eq_true c3
   have c3b1 : decide (8 < l0.length) = true := decide_eq_true (by omega)
   clear c3
   (first | rw [c3b0] | (simp only [i64_w, i32_w]; rw [c3b0]) | skip)
   have H' := Aside0.mk H
   clear H
   go_wp2
   go_meet
   case rel => exact ⟨_, (true), qc8f_, H', ⟨q821_⟩, qffa_⟩
  ·
   rw [if_neg c3] at H
   have c3b0 := decide_eq_false c3
   have c3b1 : decide (8 < l0.length) = false := decide_eq_false (by omega)
   clear c3
   (first | rw [c3b0] | (simp only [i64_w, i32_w]; rw [c3b0]) | skip)
   obtain ⟨t593, A4, H⟩ := ob_ H
   have H' := Aside0.mk H
   clear H
   go_wp2_with (first | (go_at_call 60; (with_reducible refine (spec_l1All.calls k _ _ l0 0 (wrap64 ((l0.length : Int) - 1)) t593 _ ?s1 ?s2 A4.out).mono ?_); (case s1 => exact q201_ HR0.out); (case s2 => exact HC0.out); rintro e w' ⟨rfl, ⟨nd, rfl⟩⟩))
   go_meet
   case rel => exact ⟨_, (!t593), qc8f_, H', ⟨q821_⟩, qffa_⟩
 case rest =>
  clear HC2; try clear p2; try clear c3; try clear c3b0; try clear c3b1
  obtain ⟨kq, x15_1, rfl, HA, HJ1, ⟨mc1, rfl⟩⟩ := hcut
  cases kq with
  | zero => exact absurd HA.out (by simp [spec_paOutcome.j0])
  | succ kj1 =>
   have H := HA.out
   clear HA
   simp only [spec_paOutcome.j0] at H
   by_cases c5 : x15_1 = true
   ·
    subst c5
    rw [if_pos rfl] at H
    obtain rfl := Option.some.inj H
    go_wp2
    go_ret
    exact ⟨qc8f_, qffa_⟩
   ·
    replace c5 := Bool.eq_false_iff.mpr c5
    subst c5
    rw [if_neg nf_] at H
    have H' := Aside0.mk H
    clear H
    go_wp2
    go_loopg [18] kj1 (fun kq v18 w' => ∃ (x18_2 : Int), v18 = .int .i64 x18_2 ∧ Aside0 (spec_paOutcome.l0 kq l0 l0 (l0.length : Int) x18_2 = some r) ∧ Aside0 (kq ≤ kj1) ∧ Drawn0 w w')
    case atStart => exact ⟨(0), qc8f_, H', ⟨Nat.le_refl _⟩, qffa_⟩
    case round =>
     clear H'; try clear c1; try clear p2; try clear c3; try clear c3b0; try clear c3b1; try clear c5; try clear p2
     obtain ⟨x18_2, rfl, HA, HK2, ⟨m2, rfl⟩⟩ := hrel
     cases gk with
     | zero => exact absurd HA.out (by simp [spec_paOutcome.l0])
     | succ k2 =>
      have H := HA.out
      clear HA
      simp only [spec_paOutcome.l0] at H
      by_cases c6 : x18_2 < (l0.length : Int)
      ·
       rw [if_pos c6] at H
       have c6b0 := decide_eq_true c6
       clear c6
       by_cases c7 : 0 ≤ x18_2
       ·
        rw [if_pos c7] at H
        have c7b0 := decide_eq_true c7
        clear c7
        by_cases c8 : x18_2 < (l0.length : Int)
        ·
         rw [if_pos c8] at H
         have c8b0 := decide_eq_true c8
         clear c8
         have c9b0 := eq_true (of_decide_eq_true qe84_ : 0 ≤ x18_2)
         by_cases c10 : x18_2 ≤ (l0.length : Int)
         ·
          rw [if_pos c10] at H
          have c10b0 := eq_true c10
          have c10b1 := decide_eq_true c10
          clear c10
          obtain ⟨t596, A11, H⟩ := ob_ H
          by_cases c12 : t596 = true
          ·
           subst c12
           rw [if_pos rfl] at H
           obtain rfl := Option.some.inj H
           have p594 : 0 ≤ (x18_2 : Int) := of_decide_eq_true qe84_
           have q594 : x18_2 < (l0.length : Int) := of_decide_eq_true qe84_
           obtain ⟨ad594, e594, hx594_0⟩ := Kd.at_int HR0.out x18_2 p594 q594
           cases e594
           replace p594 := eq_true p594
           replace q594 := eq_true q594
           obtain ⟨i013, hi013, _, hsz13, _⟩ := info_parts info3
           obtain ⟨hcut13, hA13, hC13⟩ := print_take_of (P := Tryz.prog) (Value.int .i64) 0 24 3 .i64 Tryz.underlying24 hi013 hsz13 (some ad594) c0 l0 x18_2 (of_decide_eq_true qe84_) (of_decide_eq_true qe84_) HC0.out
           have HR595 := Aside0.mk (Kd.C_of_reads (h1 := fun _ => rfl) (hA13 _ (Kd.reads_of_C HR0.out)))
           have HC595 := Aside0.mk hC13
           clear hA13 hC13 hi013 hsz13
           go_wp2_with (first | ((with_reducible refine gate_callee (f := 61) rfl ?_); refine goesL_ (some 27) rfl rfl Tryz.func61 (by kernel_rfl) rfl #[.slice (some ad594) (l0.take (x18_2 : Int).toNat).length c0, .int .i64 (rd l0 x18_2)] rfl q8a0_ ?_; (with_reducible refine (spec_l1Has.calls k2 _ _ (l0.take (x18_2 : Int).toNat) (rd l0 x18_2) true _ ?s1 ?s2 A11.out).mono ?_); (case s1 => exact q201_ HR595.out); (case s2 => exact HC595.out); rintro e w' ⟨rfl, ⟨nd, rfl⟩⟩; refine ⟨_, rfl, ?_⟩))
           go_ret
           exact ⟨qc8f_, qffa_⟩
          ·
           replace c12 := Bool.eq_false_iff.mpr c12
           subst c12
           rw [if_neg nf_] at H
           have H' := Aside0.mk H
           clear H
           have p594 : 0 ≤ (x18_2 : Int) := of_decide_eq_true qe84_
           have q594 : x18_2 < (l0.length : Int) := of_decide_eq_true qe84_
           obtain ⟨ad594, e594, hx594_0⟩ := Kd.at_int HR0.out x18_2 p594 q594
           cases e594
           replace p594 := eq_true p594
           replace q594 := eq_true q594
           obtain ⟨i014, hi014, _, hsz14, _⟩ := info_parts info3
           obtain ⟨hcut14, hA14, hC14⟩ := print_take_of (P := Tryz.prog) (Value.int .i64) 0 24 3 .i64 Tryz.underlying24 hi014 hsz14 (some ad594) c0 l0 x18_2 (of_decide_eq_true qe84_) (of_decide_eq_true qe84_) HC0.out
           have HR595 := Aside0.mk (Kd.C_of_reads (h1 := fun _ => rfl) (hA14 _ (Kd.reads_of_C HR0.out)))
           have HC595 := Aside0.mk hC14
           clear hA14 hC14 hi014 hsz14
           go_wp2_with (first | ((with_reducible refine gate_callee (f := 61) rfl ?_); refine goesL_ (some 27) rfl rfl Tryz.func61 (by kernel_rfl) rfl #[.slice (some ad594) (l0.take (x18_2 : Int).toNat).length c0, .int .i64 (rd l0 x18_2)] rfl q8a0_ ?_; (with_reducible refine (spec_l1Has.calls k2 _ _ (l0.take (x18_2 : Int).toNat) (rd l0 x18_2) false _ ?s1 ?s2 A11.out).mono ?_); (case s1 => exact q201_ HR595.out); (case s2 => exact HC595.out); rintro e w' ⟨rfl, ⟨nd, rfl⟩⟩; refine ⟨_, rfl, ?_⟩))
           go_roundg k2
           case measure => have := HJ1.out; have := HK2.out; omega
           case rel => exact ⟨(wrap64 (x18_2 + 1)), qc8f_, H', ⟨q37b_ HJ1.out HK2.out⟩, qffa_⟩
         ·
          rw [if_neg c10] at H
          exact absurd H (by simp)
        ·
         rw [if_neg c8] at H
         exact absurd H (by simp)
       ·
        rw [if_neg c7] at H
        exact absurd H (by simp)
      ·
       rw [if_neg c6] at H
       have c6b0 := decide_eq_false c6
       clear c6
       obtain rfl := Option.some.inj H
       go_wp2
       go_ret
       exact ⟨qc8f_, qffa_⟩

/-! ### spec_ReorderCars: function 19 -/
def spec_ReorderCars.f (k : Nat) (l0 : List Int) (l1 : List Int) : Option (List Int × Bool) := (spec_paGood.f k l0 12).bind fun t597 => (if t597 = true then (if (l1.length : Int) = (l0.length : Int) then ((spec_paOutcome.f k l1).bind fun t598 => (if t598 = true then ((spec_vaOrder.f k l0 l1).bind fun t599 => (some (t599, true))) else (some (([] : List Int), false)))) else (some (([] : List Int), false))) else (some (([] : List Int), false)))
theorem spec_ReorderCars.mono : ∀ a0 a1 k, LeO (spec_ReorderCars.f k a0 a1) (spec_ReorderCars.f (k + 1) a0 a1) := by
 intro a0 a1 k
 unfold spec_ReorderCars.f
 repeat' (with_reducible first | exact spec_paGood.mono _ _ _ | exact spec_paOutcome.mono _ _ | exact spec_vaOrder.mono _ _ _ | exact LeO.refl _ | exact LeO.none _ | refine LeO.ite ?_ ?_ | refine LeO.bind ?_ (fun _ => ?_))
theorem spec_ReorderCars.calls (k : Nat) (A0 : Option Addr) (c0 : Nat) (l0 : List Int) (A1 : Option Addr) (c1 : Nat) (l1 : List Int) (r1 : List Int) (r2 : Bool) (w : World) (hr0 : Kd.C (Kd.int .i64) w A0 l0.length l0) (hc0 : l0.length ≤ c0) (hr1 : Kd.C (Kd.int .i64) w A1 l1.length l1) (hc1 : l1.length ≤ c1) (h : spec_ReorderCars.f k l0 l1 = some (r1, r2)) :
  Calls Tryz.prog 19 #[.slice A0 l0.length c0, .slice A1 l1.length c1] w fun e w' => ∃ v0_ : Value, e = .returned (.tuple #[v0_, .bool r2]) ∧ Kd.R (Kd.int .i64) 3 w' w.heap.size (fun _ => True) v0_ r1 ∧ Below w.heap.size w w' := by
 have HR0 := Aside0.mk hr0
 have HC0 := Aside0.mk hc0
 clear hr0 hc0
 have HR1 := Aside0.mk hr1
 have HC1 := Aside0.mk hc1
 clear hr1 hc1
 have HB := Aside0.mk (Below.refl w.heap.size w)
 unfold spec_ReorderCars.f at h
 have H := h; clear h
 obtain ⟨t597, A3, H⟩ := ob_ H
 by_cases c4 : t597 = true
 ·
  subst c4
  rw [if_pos rfl] at H
  by_cases c5 : (l1.length : Int) = (l0.length : Int)
  ·
   rw [if_pos c5] at H
   have c5b0 := beq_iff_eq.mpr c5
   have c5b1 := bne_eq_false_iff_eq.mpr c5
   have c5b2 : (l1.length == l0.length) = true := by first | simpa using c5 | (simp at c5 ⊢; omega)
   clear c5
   obtain ⟨t598, A6, H⟩ := ob_ H
   by_cases c7 : t598 = true
   ·
    subst c7
    rw [if_pos rfl] at H
    obtain ⟨t599, A8, H⟩ := ob_ H
    simp only [Option.some.injEq, Prod.mk.injEq] at H
    obtain ⟨rfl, rfl⟩ := H
    go_enter Tryz.func19, Tryz.ntmps19
    go_wp2_with (first | ((with_reducible refine gate_callee (f := 31) rfl ?_); refine gl_ 7 Tryz.func31 #[.slice A0 l0.length c0, .int .i64 12] ?_; (with_reducible refine (spec_paGood.calls k _ _ l0 12 true _ ?s1 ?s2 A3.out).mono ?_); (case s1 => exact q201_ HR0.out); (case s2 => exact HC0.out); rintro e w' ⟨rfl, ⟨nd, rfl⟩⟩; refine ⟨_, rfl, ?_⟩) | (go_at_call 51; (with_reducible refine (spec_paOutcome.calls k _ _ l1 true _ ?s1 ?s2 A6.out).mono ?_); (case s1 => exact q201_ HR1.out); (case s2 => exact HC1.out); rintro e w' ⟨rfl, ⟨nd, rfl⟩⟩) | ((with_reducible refine gate_callee (f := 34) rfl ?_); refine gl_ 23 Tryz.func34 #[.slice A0 l0.length c0, .slice A1 l1.length c1] ?_; (with_reducible refine (spec_vaOrder.calls k _ _ l0 _ _ l1 t599 _ ?s1 ?s2 ?s3 ?s4 A8.out).mono ?_); (case s1 => exact q201_ HR0.out); (case s2 => exact HC0.out); (case s3 => exact q201_ HR1.out); (case s4 => exact HC1.out); rintro e w9 ⟨v600, rfl, ho0, hb⟩; refine ⟨_, rfl, ?_⟩; have HO601 := Aside0.mk (Kd.R_lower ho0 (below_size q0c4_)); replace HB := Aside0.mk (below_step q0c4_ hb); clear hb ho0))
    go_ret2
    exact ⟨_, qce7_, q9d5_ HO601.out, q0c4_⟩
   ·
    replace c7 := Bool.eq_false_iff.mpr c7
    subst c7
    rw [if_neg nf_] at H
    simp only [Option.some.injEq, Prod.mk.injEq] at H
    obtain ⟨rfl, rfl⟩ := H
    go_enter Tryz.func19, Tryz.ntmps19
    go_wp2_with (first | ((with_reducible refine gate_callee (f := 31) rfl ?_); refine gl_ 7 Tryz.func31 #[.slice A0 l0.length c0, .int .i64 12] ?_; (with_reducible refine (spec_paGood.calls k _ _ l0 12 true _ ?s1 ?s2 A3.out).mono ?_); (case s1 => exact q201_ HR0.out); (case s2 => exact HC0.out); rintro e w' ⟨rfl, ⟨nd, rfl⟩⟩; refine ⟨_, rfl, ?_⟩) | (go_at_call 51; (with_reducible refine (spec_paOutcome.calls k _ _ l1 false _ ?s1 ?s2 A6.out).mono ?_); (case s1 => exact q201_ HR1.out); (case s2 => exact HC1.out); rintro e w' ⟨rfl, ⟨nd, rfl⟩⟩))
    go_ret2
    exact ⟨_, qce7_, qf62_, q0c4_⟩
  ·
   rw [if_neg c5] at H
   have c5b0 := beq_eq_false_iff_ne.mpr c5
   have c5b1 := bne_iff_ne.mpr c5
   have c5b2 : (l1.length == l0.length) = false := by first | simpa using c5 | (simp at c5 ⊢; omega)
   simp only [Option.some.injEq, Prod.mk.injEq] at H
   obtain ⟨rfl, rfl⟩ := H
   go_enter Tryz.func19, Tryz.ntmps19
   go_wp2_with (first | ((with_reducible refine gate_callee (f := 31) rfl ?_); refine gl_ 7 Tryz.func31 #[.slice A0 l0.length c0, .int .i64 12] ?_; (with_reducible refine (spec_paGood.calls k _ _ l0 12 true _ ?s1 ?s2 A3.out).mono ?_); (case s1 => exact q201_ HR0.out); (case s2 => exact HC0.out); rintro e w' ⟨rfl, ⟨nd, rfl⟩⟩; refine ⟨_, rfl, ?_⟩))
   go_ret2
   exact ⟨_, qce7_, qf62_, q0c4_⟩
 ·
  replace c4 := Bool.eq_false_iff.mpr c4
  subst c4
  rw [if_neg nf_] at H
  simp only [Option.some.injEq, Prod.mk.injEq] at H
  obtain ⟨rfl, rfl⟩ := H
  go_enter Tryz.func19, Tryz.ntmps19
  go_wp2_with (first | ((with_reducible refine gate_callee (f := 31) rfl ?_); refine gl_ 7 Tryz.func31 #[.slice A0 l0.length c0, .int .i64 12] ?_; (with_reducible refine (spec_paGood.calls k _ _ l0 12 false _ ?s1 ?s2 A3.out).mono ?_); (case s1 => exact q201_ HR0.out); (case s2 => exact HC0.out); rintro e w' ⟨rfl, ⟨nd, rfl⟩⟩; refine ⟨_, rfl, ?_⟩))
  go_ret2
  exact ⟨_, qce7_, qf62_, q0c4_⟩

end Go.Proofs.YtflgalpfbjhdlaaGreat.PAll
