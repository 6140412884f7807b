-- written by a program of this session (wip/gen/xpatch.py over the translation); Lean checks it
import Derived.Test.YtdhfildgjmkgaaaPAllx0
namespace Go.Proofs.Ytdhfildgjmkgaaa.PAll
open Go.RowKit Go.Proofs.Ytdhfildgjmkgaaa.Hand Go.Proofs.YtdhfildgjmkgaaaW.PrintWords Go.Proofs.YtdhfildgjmkgaaaW.PrintLast Go.Proofs.YtdhfildgjmkgaaaW.PrintMore
attribute [local go_sem] max2_int min2_int max_two min_two max_three min_three max_four min_four   -- for this text's walks alone
set_option maxHeartbeats 8000000
set_option maxRecDepth 100000
set_option linter.unusedVariables false
set_option linter.unusedSimpArgs false

/-! ### laws_toIntS: function 19 -/
def laws_toIntS.l0 : Nat → List Int → List Int → Int → Option (List Int)
 | 0, _, _, _ => none
 | k + 1, x0, x3, x4 => if x4 < (x0.length : Int) then (if 0 ≤ x4 then (if x4 < (x3.length : Int) then (laws_toIntS.l0 k x0 (x3.set (x4 : Int).toNat (rd x0 x4)) (wrap64 (x4 + 1))) else (none)) else (none)) else (some x3)
def laws_toIntS.f (k : Nat) (l0 : List Int) : Option (List Int) := if 0 ≤ (l0.length : Int) then (if ((l0.length : Int) : Int).toNat ≤ 35184372088832 then (laws_toIntS.l0 k l0 (List.replicate ((l0.length : Int) : Int).toNat 0) 0) else (none)) else (none)
theorem laws_toIntS.mono_l : ∀ k, (∀ y0 y1 y2, LeO (laws_toIntS.l0 k y0 y1 y2) (laws_toIntS.l0 (k + 1) y0 y1 y2))
 | 0 => fun _ _ _ r h => by simp [laws_toIntS.l0] at h
 | k + 1 => by
  have ih0 := laws_toIntS.mono_l k
  ·
   intro y0 y1 y2
   unfold laws_toIntS.l0
   repeat' (with_reducible first | exact ih0 _ _ _ | exact LeO.refl _ | exact LeO.none _ | refine LeO.ite ?_ ?_ | refine LeO.bind ?_ (fun _ => ?_))
theorem laws_toIntS.mono : ∀ a0 k, LeO (laws_toIntS.f k a0) (laws_toIntS.f (k + 1) a0) := by
 intro a0 k
 have ih0 := laws_toIntS.mono_l k
 unfold laws_toIntS.f
 repeat' (with_reducible first | exact ih0 _ _ _ | exact LeO.refl _ | exact LeO.none _ | refine LeO.ite ?_ ?_ | refine LeO.bind ?_ (fun _ => ?_))
theorem laws_toIntS.calls (k : Nat) (A0 : Option Addr) (c0 : Nat) (l0 : List Int) (r : List Int) (w : World) (hr0 : Kd.C (Kd.int .i64) w A0 l0.length l0) (hc0 : l0.length ≤ c0) (h : laws_toIntS.f k l0 = some r) :
  Calls Try.prog 19 #[.slice A0 l0.length c0] w fun e w' => ∃ v0_ : Value, e = .returned (v0_) ∧ Kd.R (Kd.int .i64) 3 w' w.heap.size (fun _ => True) v0_ r ∧ Below w.heap.size w w' := by
 have HR0 := Aside0.mk hr0
 have HC0 := Aside0.mk hc0
 clear hr0 hc0
 have HB := Aside0.mk (Below.refl w.heap.size w)
 unfold laws_toIntS.f at h
 have H := h; clear h
 by_cases c2 : 0 ≤ (l0.length : Int)
 ·
  rw [if_pos c2] at H
  have c2b0 := eq_true c2
  have c2b1 := decide_eq_true c2
  clear c2
  by_cases c3 : ((l0.length : Int) : Int).toNat ≤ 35184372088832
  ·
   rw [if_pos c3] at H
   have c3b0 := eq_true c3
   have c3b1 := decide_eq_true c3
   clear c3
   obtain ⟨y223, hy223⟩ : ∃ y_ : List Int, y_ = (List.replicate ((l0.length : Int) : Int).toNat 0) := ⟨_, rfl⟩
   replace H : (laws_toIntS.l0 k l0 y223 0) = some r := by first | (rw [hy223]; with_reducible exact H) | (have H2_ := (Option.bind_some _ _).symm.trans H; rw [hy223]; with_reducible exact H2_) | (have H2_ := (Option.bind_some _ _).symm.trans H; with_reducible exact H2_) | with_reducible exact H | (rw [hy223]; exact H) | exact H
   have Ny223 := Aside0.mk hy223
   clear hy223
   have H' := Aside0.mk H
   clear H
   go_enter Try.func19, Try.ntmps19
   go_wp2_with (first | ((with_reducible refine gate_dst (N := 7) rfl ?_); refine Kd.R_make (Kd.int .i64) _ 3 rfl (N := 7) rfl 24 _ _ rfl (l0.length : Int) rfl rfl Try.underlying24 (.int .i64 0) 8 info3 rfl (by decide) (by omega) 0 (ok := fun _ => True) (okp := fun _ => True) rfl (fun _ hk => hk) trivial (of_decide_eq_true qe84_) (Nat.le_trans (Nat.mul_le_mul_right _ (of_decide_eq_true qe84_ : (l0.length : Int).toNat ≤ 35184372088832)) (by omega)) (Below.refl _ _) (Nat.le_refl _) ?_; intro v224 w4 ho5 hb hg_ hnew_; clear hg_ hnew_; (first | rw [← Ny223.out] at ho5 | (simp only [Int.reduceToNat] at ho5; rw [← Ny223.out] at ho5)); have HO225 := Aside0.mk (Kd.R_lower ho5 (below_size q0c4_)); replace HB := Aside0.mk (below_step q0c4_ hb); clear hb ho5))
   go_loopg [4] k (fun kq v4 w' => ∃ (x3_1 : List Int) (x4_1 : Int), v4 = .int .i64 x4_1 ∧ Aside0 (laws_toIntS.l0 kq l0 x3_1 x4_1 = some r) ∧ Aside0 (kq ≤ k) ∧ Aside0 (Kd.R (Kd.int .i64) 3 w' w.heap.size (fun _ => True) v224 x3_1) ∧ Aside0 (Below w.heap.size w w'))
   case atStart => exact ⟨(y223), (0), qc8f_, H', ⟨Nat.le_refl _⟩, ⟨q9d5_ HO225.out⟩, ⟨q0c4_⟩⟩
   case round =>
    clear H'; try clear c1; try clear c2; try clear c2b0; try clear c2b1; try clear p2; try clear c3; try clear c3b0; try clear c3b1
    obtain ⟨x3_1, x4_1, rfl, HA, HK1, HO_3, HB⟩ := hrel
    cases gk with
    | zero => exact absurd HA.out (by simp [laws_toIntS.l0])
    | succ k1 =>
     have H := HA.out
     clear HA
     simp only [laws_toIntS.l0] at H
     by_cases c6 : x4_1 < (l0.length : Int)
     ·
      rw [if_pos c6] at H
      have c6b0 := decide_eq_true c6
      clear c6
      by_cases c7 : 0 ≤ x4_1
      ·
       rw [if_pos c7] at H
       have c7b0 := decide_eq_true c7
       clear c7
       by_cases c8 : x4_1 < (x3_1.length : Int)
       ·
        rw [if_pos c8] at H
        have c8b0 := decide_eq_true c8
        clear c8
        obtain ⟨y227, hy227⟩ : ∃ y_ : List Int, y_ = (x3_1.set (x4_1 : Int).toNat (rd l0 x4_1)) := ⟨_, rfl⟩
        replace H : (laws_toIntS.l0 k1 l0 y227 (wrap64 (x4_1 + 1))) = some r := by first | (rw [hy227]; with_reducible exact H) | (have H2_ := (Option.bind_some _ _).symm.trans H; rw [hy227]; with_reducible exact H2_) | (have H2_ := (Option.bind_some _ _).symm.trans H; with_reducible exact H2_) | with_reducible exact H | (rw [hy227]; exact H) | exact H
        have Ny227 := Aside0.mk hy227
        clear hy227
        have H' := Aside0.mk H
        clear H
        have p226 : 0 ≤ (x4_1 : Int) := of_decide_eq_true qe84_
        have q226 : x4_1 < (l0.length : Int) := of_decide_eq_true qe84_
        obtain ⟨ad226, e226, hx226_0⟩ := Kd.at_int HR0.out x4_1 p226 q226
        cases e226
        (try (replace hx226_0 := (HB.out.cell (World.block_lt_of_cell? w _ hx226_0)).trans hx226_0))
        replace p226 := eq_true p226
        replace q226 := eq_true q226
        have p9 : 0 ≤ (x4_1 : Int) := of_decide_eq_true qe84_
        have q9 : (x4_1 : Int) < ((x3_1.length : Int) : Int) := of_decide_eq_true qe84_
        obtain ⟨go9, co9, eo9, gb9, gl9, cl9, HG9⟩ := Kd.R_form HO_3.out (by omega)
        (first | cases eo9 | (injection eo9 with ea_ en_ ec_; (first | subst ea_ | (injection ea_ with ea_; subst ea_)); subst ec_; clear en_))
        have GB9 := Aside0.mk gb9
        have GG9 := Aside0.mk HG9
        clear gb9 gl9 HG9
        obtain ⟨hx9_0, hf9_0⟩ := Kd.R_celln 0 HO_3.out (x4_1 : Int) p9 q9
        replace p9 := eq_true p9
        replace q9 := eq_true q9
        have HP10 := Kd.R_putg HO_3.out (x4_1 : Int) (rd l0 x4_1)
        go_wp2_with (first | ((with_reducible refine gate_store (t := 3) (p := 20) rfl ?_); refine store_event (t := 3) (p := 20) (v := ?vo_w11) (w1 := (wr.setCell ⟨go9, (x4_1 : Int).toNat, none⟩ (.int .i64 (rd l0 x4_1)))) ?hg ?ho ?hn ?hr ?_; (case ho => rfl); (case hg => rfl); (case hn => rfl); (case hr => exact qfba_); intro w11 hw; have hg : wr.grownBy w11 (some go9) := (by rw [hw]; exact HP10.2); have hp_ : Kd.R (Kd.int .i64) 3 w11 w.heap.size (fun _ => True) (.slice (some ⟨go9, 0, none⟩) x3_1.length co9) y227 := (by rw [hw, Ny227.out]; exact HP10.1); clear HP10; replace HO_3 := Aside0.mk (hp_); replace HB := Aside0.mk ((by rw [hw]; exact below_set (HB.out) GB9.out : Below w.heap.size w w11)); clear hg hw hp_))
        go_roundg k1
        case measure => have := HK1.out; omega
        case rel => exact ⟨(y227), (wrap64 (x4_1 + 1)), qc8f_, H', ⟨by have := HK1.out; omega⟩, ⟨q9d5_ HO_3.out⟩, ⟨q0c4_⟩⟩
       ·
        rw [if_neg c8] at H
        exact absurd H (by simp)
      ·
       rw [if_neg c7] at H
       exact absurd H (by simp)
     ·
      rw [if_neg c6] at H
      have c6b0 := decide_eq_false c6
      clear c6
      obtain rfl := Option.some.inj H
      go_wp2
      go_ret
      exact ⟨_, qce7_, q9d5_ HO_3.out, q0c4_⟩
  ·
   rw [if_neg c3] at H
   exact absurd H (by simp)
 ·
  rw [if_neg c2] at H
  exact absurd H (by simp)

/-! ### laws_toIntSS: function 6 -/
def laws_toIntSS.l0 : Nat → List (List Int) → List (List Int) → Int → Option ((List (List Int)))
 | 0, _, _, _ => none
 | k + 1, x0, x3, x4 => if x4 < (x0.length : Int) then (if 0 ≤ x4 then ((laws_toIntS.f k (rd_L1 x0 x4)).bind fun t232 => (if x4 < (x3.length : Int) then (laws_toIntSS.l0 k x0 (x3.set (x4 : Int).toNat t232) (wrap64 (x4 + 1))) else (none))) else (none)) else (some x3)
def laws_toIntSS.f (k : Nat) (l0 : List (List Int)) : Option ((List (List Int))) := if 0 ≤ (l0.length : Int) then (if ((l0.length : Int) : Int).toNat ≤ 11728124029610 then (laws_toIntSS.l0 k l0 (List.replicate ((l0.length : Int) : Int).toNat []) 0) else (none)) else (none)
theorem laws_toIntSS.mono_l : ∀ k, (∀ y0 y1 y2, LeO (laws_toIntSS.l0 k y0 y1 y2) (laws_toIntSS.l0 (k + 1) y0 y1 y2))
 | 0 => fun _ _ _ r h => by simp [laws_toIntSS.l0] at h
 | k + 1 => by
  have ih0 := laws_toIntSS.mono_l k
  ·
   intro y0 y1 y2
   unfold laws_toIntSS.l0
   repeat' (with_reducible first | exact ih0 _ _ _ | exact laws_toIntS.mono _ _ | exact LeO.refl _ | exact LeO.none _ | refine LeO.ite ?_ ?_ | refine LeO.bind ?_ (fun _ => ?_))
theorem laws_toIntSS.mono : ∀ a0 k, LeO (laws_toIntSS.f k a0) (laws_toIntSS.f (k + 1) a0) := by
 intro a0 k
 have ih0 := laws_toIntSS.mono_l k
 unfold laws_toIntSS.f
 repeat' (with_reducible first | exact ih0 _ _ _ | exact laws_toIntS.mono _ _ | exact LeO.refl _ | exact LeO.none _ | refine LeO.ite ?_ ?_ | refine LeO.bind ?_ (fun _ => ?_))
theorem laws_toIntSS.calls (k : Nat) (A0 : Option Addr) (c0 : Nat) (l0 : List (List Int)) (r : List (List Int)) (w : World) (hr0 : Kd.C (Kd.slice 3 (Kd.int .i64)) w A0 l0.length l0) (hc0 : l0.length ≤ c0) (h : laws_toIntSS.f k l0 = some r) :
  Calls Try.prog 6 #[.slice A0 l0.length c0] w fun e w' => ∃ v0_ : Value, e = .returned (v0_) ∧ Kd.S (Kd.slice 3 (Kd.int .i64)) 24 w' w.heap.size (fun _ => True) v0_ r ∧ Below w.heap.size w w' := by
 have HR0 := Aside0.mk hr0
 have HC0 := Aside0.mk hc0
 clear hr0 hc0
 have HB := Aside0.mk (Below.refl w.heap.size w)
 unfold laws_toIntSS.f at h
 have H := h; clear h
 by_cases c2 : 0 ≤ (l0.length : Int)
 ·
  rw [if_pos c2] at H
  have c2b0 := eq_true c2
  have c2b1 := decide_eq_true c2
  clear c2
  by_cases c3 : ((l0.length : Int) : Int).toNat ≤ 11728124029610
  ·
   rw [if_pos c3] at H
   have c3b0 := eq_true c3
   have c3b1 := decide_eq_true c3
   clear c3
   obtain ⟨y228, hy228⟩ : ∃ y_ : List (List Int), y_ = (List.replicate ((l0.length : Int) : Int).toNat []) := ⟨_, rfl⟩
   replace H : (laws_toIntSS.l0 k l0 y228 0) = some r := by first | (rw [hy228]; with_reducible exact H) | (have H2_ := (Option.bind_some _ _).symm.trans H; rw [hy228]; with_reducible exact H2_) | (have H2_ := (Option.bind_some _ _).symm.trans H; with_reducible exact H2_) | with_reducible exact H | (rw [hy228]; exact H) | exact H
   have Ny228 := Aside0.mk hy228
   clear hy228
   have H' := Aside0.mk H
   clear H
   go_enter Try.func6, Try.ntmps6
   go_wp2_with (first | ((with_reducible refine gate_dst (N := 7) rfl ?_); refine Kd.S_make (Kd.slice 3 (Kd.int .i64)) _ 24 rfl (N := 7) rfl 22 _ _ rfl (l0.length : Int) rfl rfl Try.underlying22 (.slice none 0 0) 24 info24 rfl (by decide) (by omega) [] (ok := fun _ => True) (okp := fun _ => True) ⟨_, rfl, Kd.R_nil _ _ _ _ _⟩ (fun _ hk => hk) trivial (of_decide_eq_true qe84_) (Nat.le_trans (Nat.mul_le_mul_right _ (of_decide_eq_true qe84_ : (l0.length : Int).toNat ≤ 11728124029610)) (by omega)) (Below.refl _ _) (Nat.le_refl _) ?_; intro v229 w4 ho5 hb hg_ hnew_; clear hg_ hnew_; (first | rw [← Ny228.out] at ho5 | (simp only [Int.reduceToNat] at ho5; rw [← Ny228.out] at ho5)); have HO230 := Aside0.mk (Kd.S_lower ho5 (below_size q0c4_)); replace HB := Aside0.mk (below_step q0c4_ hb); clear hb ho5))
   go_loopg [4] k (fun kq v4 w' => ∃ (x3_1 : List (List Int)) (x4_1 : Int), v4 = .int .i64 x4_1 ∧ Aside0 (laws_toIntSS.l0 kq l0 x3_1 x4_1 = some r) ∧ Aside0 (kq ≤ k) ∧ Aside0 (Kd.S (Kd.slice 3 (Kd.int .i64)) 24 w' w.heap.size (fun _ => True) v229 x3_1) ∧ Aside0 (Below w.heap.size w w'))
   case atStart => exact ⟨(y228), (0), qc8f_, H', ⟨Nat.le_refl _⟩, ⟨qd7e_ HO230.out⟩, ⟨q0c4_⟩⟩
   case round =>
    clear H'; try clear c2; try clear c2b0; try clear c2b1; try clear p2; try clear c3; try clear c3b0; try clear c3b1
    obtain ⟨x3_1, x4_1, rfl, HA, HK1, HO_3, HB⟩ := hrel
    cases gk with
    | zero => exact absurd HA.out (by simp [laws_toIntSS.l0])
    | succ k1 =>
     have H := HA.out
     clear HA
     simp only [laws_toIntSS.l0] at H
     by_cases c6 : x4_1 < (l0.length : Int)
     ·
      rw [if_pos c6] at H
      have c6b0 := decide_eq_true c6
      clear c6
      by_cases c7 : 0 ≤ x4_1
      ·
       rw [if_pos c7] at H
       have c7b0 := decide_eq_true c7
       clear c7
       obtain ⟨t232, A8, H⟩ := ob_ H
       by_cases c9 : x4_1 < (x3_1.length : Int)
       ·
        rw [if_pos c9] at H
        have c9b0 := decide_eq_true c9
        clear c9
        obtain ⟨y235, hy235⟩ : ∃ y_ : List (List Int), y_ = (x3_1.set (x4_1 : Int).toNat t232) := ⟨_, rfl⟩
        replace H : (laws_toIntSS.l0 k1 l0 y235 (wrap64 (x4_1 + 1))) = some r := by first | (rw [hy235]; with_reducible exact H) | (have H2_ := (Option.bind_some _ _).symm.trans H; rw [hy235]; with_reducible exact H2_) | (have H2_ := (Option.bind_some _ _).symm.trans H; with_reducible exact H2_) | with_reducible exact H | (rw [hy235]; exact H) | exact H
        have Ny235 := Aside0.mk hy235
        clear hy235
        have H' := Aside0.mk H
        clear H
        have p231 : 0 ≤ (x4_1 : Int) := of_decide_eq_true qe84_
        have q231 : x4_1 < (l0.length : Int) := of_decide_eq_true qe84_
        obtain ⟨ad231, A231_0, c231_0, e231, hx231_0, hl231_0, hi231_0⟩ := at_L1 HR0.out x4_1 p231 q231
        cases e231
        (try (replace hx231_0 := (HB.out.cell (World.block_lt_of_cell? w _ hx231_0)).trans hx231_0))
        have HR231_0 := Aside0.mk hi231_0
        have HC231_0 := Aside0.mk hl231_0
        clear hi231_0 hl231_0
        replace p231 := eq_true p231
        replace q231 := eq_true q231
        go_wp2_with (first | ((with_reducible refine gate_callee (f := 19) rfl ?_); refine gl_ 20 Try.func19 #[.slice A231_0 (rd_L1 l0 x4_1).length c231_0] ?_; (with_reducible refine (laws_toIntS.calls k1 _ _ (rd_L1 l0 x4_1) t232 _ ?s1 ?s2 A8.out).mono ?_); (case s1 => exact qe02_ HR231_0.out); (case s2 => exact HC231_0.out); rintro e w11 ⟨v233, rfl, ho0, hb⟩; refine ⟨_, rfl, ?_⟩; replace HO_3 := Aside0.mk (Kd.S_elder' (qd7e_ HO_3.out) (Kd.R_base ho0) hb); have HO234 := Aside0.mk (Kd.R_lower ho0 (below_size q0c4_)); replace HB := Aside0.mk (below_step q0c4_ hb); clear hb ho0; have p10 : 0 ≤ (x4_1 : Int) := of_decide_eq_true qe84_; have q10 : (x4_1 : Int) < ((x3_1.length : Int) : Int) := of_decide_eq_true qe84_; obtain ⟨go10, co10, eo10, gb10, gl10, cl10, HG10⟩ := Kd.S_form HO_3.out (by omega); (first | cases eo10 | (injection eo10 with ea_ en_ ec_; (first | subst ea_ | (injection ea_ with ea_; subst ea_)); subst ec_; clear en_)); have GB10 := Aside0.mk gb10; have GG10 := Aside0.mk HG10; clear gb10 gl10 HG10; obtain ⟨_, ce10, hcl10, hM10, hcc10, hfr10, _, _⟩ := Kd.S_elem HO_3.out [] (x4_1 : Int) p10 q10; obtain ⟨ve10_0, rfl, ge10_0⟩ := hM10; have hx10_0 := hcc10 0 _ rfl; have hf10_0 := hfr10 0; (try simp only [show ((Kd.slice 3 (Kd.int .i64))).sz = 1 from rfl, Nat.mul_one, Nat.add_zero] at hx10_0); (try simp only [show ((Kd.slice 3 (Kd.int .i64))).sz = 1 from rfl, Nat.mul_one, Nat.add_zero] at hf10_0); (try clear hcl10); (try clear hcc10); (try clear hfr10); (try clear hM10); replace p10 := eq_true p10; replace q10 := eq_true q10; (try (have n_ := Aside0.mk (Kd.S_mono (ok' := (fun k_ => some k_ ≠ (v233 : Value).ownBlock)) HO_3.out (fun k_ hk => hk.2)); clear HO_3; have HO_3 := n_; clear n_)); have HX12 := Aside0.mk (show Kd.S (Kd.slice 3 (Kd.int .i64)) 24 w11 w.heap.size (fun k_ => ((fun _ => True)) k_ ∧ ¬ ((fun k_ => some k_ = (v233 : Value).ownBlock)) k_) (.slice (some ⟨go10, 0, none⟩) x3_1.length co10) x3_1 from (by (with_reducible repeat (first | apply Kd.S_alloc | apply Kd.S_drewN | apply Kd.S_drew)); exact Kd.S_mono HO_3.out (fun k_ hk => ⟨trivial, fun e_ => hk e_⟩))); obtain ⟨oki12, ce12, hcl12, hM12, hcc12, hfr12, hoki12, hH12⟩ := Kd.S_elem HX12.out [] (x4_1 : Int) (of_decide_eq_true qe84_) (by have h_ : (x4_1 : Int) < ((x3_1.length : Int) : Int) := of_decide_eq_true qe84_; first | exact h_ | (have e_ := (Kd.S_reads' HO_3.out).1; omega) | simpa using h_); obtain ⟨ve12_0, rfl, ge12_0⟩ := hM12; have HP12 := Kd.S_seg hH12 (of_decide_eq_true qe84_) (by have h_ : (x4_1 : Int) < ((x3_1.length : Int) : Int) := of_decide_eq_true qe84_; first | exact h_ | (have e_ := (Kd.S_reads' HO_3.out).1; omega) | simpa using h_) (seg := [v233]) (j := 0) (show 1 ≤ 1 from by decide) (x' := t232) (Kd.M_row (Kd.R_mono (Kd.R_tight rfl (Kd.R_mono (ok' := fun k_ => ((fun _ => True)) k_ ∧ k_ ≠ go10) (Kd.R_apart' (HO234.out) (Kd.S_typed HO_3.out) (by decide)) (fun k_ hk => ⟨trivial, fun e_ => (hk.2) (by rw [e_]; rfl)⟩))) (fun _ h_ => Or.inr (h_)))) (fun _ hk => hk) (fun k_ hk_ => ((Kd.R_mono (ok' := fun k_ => ((fun _ => True)) k_ ∧ k_ ≠ go10) (Kd.R_apart' (HO234.out) (Kd.S_typed HO_3.out) (by decide)) (fun k_ hk => ⟨trivial, fun e_ => (hk.2) (by rw [e_]; rfl)⟩))).1 k_ hk_.symm); have hx12_0 := hcc12 0 _ rfl; (try simp only [show ((Kd.slice 3 (Kd.int .i64))).sz = 1 from rfl, Nat.mul_one, Nat.add_zero] at hx12_0); have hf12_0 := hfr12 0; (try simp only [show ((Kd.slice 3 (Kd.int .i64))).sz = 1 from rfl, Nat.mul_one, Nat.add_zero] at hf12_0); (try clear hcl12); (try clear hcc12); (try clear hfr12); (try clear hM12); (try clear hoki12); (try clear hH12); (try simp only [show ((Kd.slice 3 (Kd.int .i64))).sz = 1 from rfl, Nat.mul_one, Nat.add_zero] at HP12)) | ((with_reducible refine gate_store (t := 24) (p := 21) rfl ?_); refine store_event (t := 24) (p := 21) (v := ?vo_w13) (w1 := (w11.setCell ⟨go10, (x4_1 : Int).toNat, none⟩ (v233))) ?hg ?ho ?hn ?hr ?_; (case ho => rfl); (case hg => rfl); (case hn => rfl); (case hr => obtain ⟨_, _, rfl⟩ := Kd.R_slice HO234.out; exact qfba_); intro w13 hw; have hg : w11.grownBy w13 (some go10) := (by rw [hw]; exact HP12.2); have hp_ : Kd.S (Kd.slice 3 (Kd.int .i64)) 24 w13 w.heap.size (fun _ => True) (.slice (some ⟨go10, 0, none⟩) x3_1.length co10) y235 := (by rw [hw, Ny235.out]; exact HP12.1); clear HP12; have n0_ := Aside0.mk (hp_); have n1_ := Aside0.mk ((by rw [hw]; exact below_set (HB.out) GB10.out : Below w.heap.size w w13)); replace HO_3 := n0_; replace HB := n1_; clear n0_ n1_; clear hg hw hp_))
        go_roundg k1
        case measure => have := HK1.out; omega
        case rel => exact ⟨(y235), (wrap64 (x4_1 + 1)), qc8f_, H', ⟨by have := HK1.out; omega⟩, ⟨qd7e_ HO_3.out⟩, ⟨q0c4_⟩⟩
       ·
        rw [if_neg c9] at H
        exact absurd H (by simp)
      ·
       rw [if_neg c7] at H
       exact absurd H (by simp)
     ·
      rw [if_neg c6] at H
      have c6b0 := decide_eq_false c6
      clear c6
      obtain rfl := Option.some.inj H
      go_wp2
      go_ret
      exact ⟨_, qce7_, qd7e_ HO_3.out, q0c4_⟩
  ·
   rw [if_neg c3] at H
   exact absurd H (by simp)
 ·
  rw [if_neg c2] at H
  exact absurd H (by simp)

/-! ### impl_isOrder: function 21 -/
def impl_isOrder.l0 : Nat → List Int → List Int → Int → Int → Option (Bool)
 | 0, _, _, _, _ => none
 | k + 1, x0, x6, x7, x8 => if x8 < x7 then (if 0 ≤ x8 then (if x8 < (x6.length : Int) then (if (rd x6 x8) = x8 then (impl_isOrder.l0 k x0 x6 x7 (wrap64 (x8 + 1))) else (some false)) else (none)) else (none)) else (some (decide ((x0.length : Int) ≤ 8)))
def impl_isOrder.f (k : Nat) (l0 : List Int) : Option (Bool) := (impl_sorted.f l0).bind fun t238 => (impl_isOrder.l0 k l0 t238 (t238.length : Int) 0)
theorem impl_isOrder.mono_l : ∀ k, (∀ y0 y1 y2 y3, LeO (impl_isOrder.l0 k y0 y1 y2 y3) (impl_isOrder.l0 (k + 1) y0 y1 y2 y3))
 | 0 => fun _ _ _ _ r h => by simp [impl_isOrder.l0] at h
 | k + 1 => by
  have ih0 := impl_isOrder.mono_l k
  ·
   intro y0 y1 y2 y3
   unfold impl_isOrder.l0
   repeat' (with_reducible first | exact ih0 _ _ _ _ | exact LeO.refl _ | exact LeO.none _ | refine LeO.ite ?_ ?_ | refine LeO.bind ?_ (fun _ => ?_))
theorem impl_isOrder.mono : ∀ a0 k, LeO (impl_isOrder.f k a0) (impl_isOrder.f (k + 1) a0) := by
 intro a0 k
 have ih0 := impl_isOrder.mono_l k
 unfold impl_isOrder.f
 repeat' (with_reducible first | exact ih0 _ _ _ _ | exact LeO.refl _ | exact LeO.none _ | refine LeO.ite ?_ ?_ | refine LeO.bind ?_ (fun _ => ?_))
theorem impl_isOrder.calls (k : Nat) (A0 : Option Addr) (c0 : Nat) (l0 : List Int) (r : Bool) (w : World) (hr0 : Kd.C (Kd.int .i64) w A0 l0.length l0) (hc0 : l0.length ≤ c0) (h : impl_isOrder.f k l0 = some r) :
  Calls Try.prog 21 #[.slice A0 l0.length c0] w fun e w' => e = .returned (.bool r) ∧ Below w.heap.size w w' := by
 have HR0 := Aside0.mk hr0
 have HC0 := Aside0.mk hc0
 clear hr0 hc0
 have HB := Aside0.mk (Below.refl w.heap.size w)
 unfold impl_isOrder.f at h
 have H := h; clear h
 obtain ⟨t238, A2, H⟩ := ob_ H
 have H' := Aside0.mk H
 clear H
 go_enter Try.func21, Try.ntmps21
 go_wp2_with (first | ((with_reducible refine gate_callee (f := 29) rfl ?_); refine gl_ 6 Try.func29 #[.slice A0 l0.length c0] ?_; (with_reducible refine (impl_sorted.calls _ _ l0 t238 _ ?s1 ?s2 A2.out).mono ?_); (case s1 => exact q201_ HR0.out); (case s2 => exact HC0.out); rintro e w3 ⟨v239, rfl, ho0, hb⟩; refine ⟨_, rfl, ?_⟩; have HO240 := Aside0.mk (Kd.R_lower ho0 (below_size q0c4_)); replace HB := Aside0.mk (below_step q0c4_ hb); clear hb ho0; obtain ⟨Ao4, co4, eo4⟩ := Kd.R_slice HO240.out; subst eo4))
 go_loopg [8] k (fun kq v8 w' => ∃ (x8_1 : Int), v8 = .int .i64 x8_1 ∧ Aside0 (impl_isOrder.l0 kq l0 t238 (t238.length : Int) x8_1 = some r) ∧ Aside0 (kq ≤ k) ∧ Aside0 (Kd.R (Kd.int .i64) 3 w' w.heap.size (fun _ => True) (.slice Ao4 t238.length co4) t238) ∧ Aside0 (Below w.heap.size w w'))
 case atStart => exact ⟨(0), qc8f_, H', ⟨Nat.le_refl _⟩, ⟨q9d5_ HO240.out⟩, ⟨q0c4_⟩⟩
 case round =>
  clear H'; try clear c2; try clear p2
  obtain ⟨x8_1, rfl, HA, HK1, HO_6, HB⟩ := hrel
  cases gk with
  | zero => exact absurd HA.out (by simp [impl_isOrder.l0])
  | succ k1 =>
   have H := HA.out
   clear HA
   simp only [impl_isOrder.l0] at H
   by_cases c5 : x8_1 < (t238.length : Int)
   ·
    rw [if_pos c5] at H
    have c5b0 := decide_eq_true c5
    clear c5
    by_cases c6 : 0 ≤ x8_1
    ·
     rw [if_pos c6] at H
     have c6b0 := decide_eq_true c6
     clear c6
     by_cases c7 : x8_1 < (t238.length : Int)
     ·
      rw [if_pos c7] at H
      have c7b0 := decide_eq_true c7
      clear c7
      by_cases c8 : (rd t238 x8_1) = x8_1
      ·
       rw [if_pos c8] at H
       have c8b0 := beq_iff_eq.mpr c8
       have c8b1 := bne_eq_false_iff_eq.mpr c8
       clear c8
       have H' := Aside0.mk H
       clear H
       have p241 : 0 ≤ (x8_1 : Int) := of_decide_eq_true qe84_
       have q241 : x8_1 < (t238.length : Int) := of_decide_eq_true qe84_
       obtain ⟨ad241, e241, hx241_0⟩ := Kd.at_int (Kd.R_reads' HO_6.out).2.2 x8_1 p241 q241
       cases e241
       replace p241 := eq_true p241
       replace q241 := eq_true q241
       go_wp2
       go_roundg k1
       case measure => have := HK1.out; omega
       case rel => exact ⟨(wrap64 (x8_1 + 1)), qc8f_, H', ⟨by have := HK1.out; omega⟩, ⟨q9d5_ HO_6.out⟩, ⟨q0c4_⟩⟩
      ·
       rw [if_neg c8] at H
       have c8b0 := beq_eq_false_iff_ne.mpr c8
       have c8b1 := bne_iff_ne.mpr c8
       obtain rfl := Option.some.inj H
       have p241 : 0 ≤ (x8_1 : Int) := of_decide_eq_true qe84_
       have q241 : x8_1 < (t238.length : Int) := of_decide_eq_true qe84_
       obtain ⟨ad241, e241, hx241_0⟩ := Kd.at_int (Kd.R_reads' HO_6.out).2.2 x8_1 p241 q241
       cases e241
       replace p241 := eq_true p241
       replace q241 := eq_true q241
       go_wp2
       go_ret
       exact ⟨qce7_, q0c4_⟩
     ·
      rw [if_neg c7] at H
      exact absurd H (by simp)
    ·
     rw [if_neg c6] at H
     exact absurd H (by simp)
   ·
    rw [if_neg c5] at H
    have c5b0 := decide_eq_false c5
    clear c5
    obtain rfl := Option.some.inj H
    go_wp2
    go_ret
    exact ⟨qce7_, q0c4_⟩

/-! ### impl_areCars: function 39 -/
def impl_areCars.f (l0 : List Int) : Option (Bool) := if (l0.length : Int) ≤ 8 then ((impl_areBetween.f l0 0 99).bind fun t242 => (some t242)) else (some false)
theorem impl_areCars.calls (A0 : Option Addr) (c0 : Nat) (l0 : List Int) (r : Bool) (w : World) (hr0 : Kd.C (Kd.int .i64) w A0 l0.length l0) (hc0 : l0.length ≤ c0) (h : impl_areCars.f l0 = some r) :
  Calls Try.prog 39 #[.slice A0 l0.length c0] w fun e w' => e = .returned (.bool r) ∧ Below w.heap.size w w' := by
 have HR0 := Aside0.mk hr0
 have HC0 := Aside0.mk hc0
 clear hr0 hc0
 have HB := Aside0.mk (Below.refl w.heap.size w)
 unfold impl_areCars.f at h
 have H := h; clear h
 by_cases c2 : (l0.length : Int) ≤ 8
 ·
  rw [if_pos c2] at H
  have c2b0 := decide_eq_true c2
  have c2b1 : decide (l0.length ≤ 8) = true := decide_eq_true (by omega)
  clear c2
  obtain ⟨t242, A3, H⟩ := ob_ H
  obtain rfl := Option.some.inj H
  go_enter Try.func39, Try.ntmps39
  go_wp2_with (first | (go_at_call 47; (with_reducible refine (impl_areBetween.calls _ _ l0 0 99 t242 _ ?s1 ?s2 A3.out).mono ?_); (case s1 => exact q201_ HR0.out); (case s2 => exact HC0.out); rintro e w4 ⟨rfl, hb⟩; replace HB := Aside0.mk (below_step q0c4_ hb); clear hb))
  go_ret
  exact ⟨qce7_, q0c4_⟩
 ·
  rw [if_neg c2] at H
  have c2b0 := decide_eq_false c2
  have c2b1 : decide (l0.length ≤ 8) = false := decide_eq_false (by omega)
  clear c2
  obtain rfl := Option.some.inj H
  go_enter Try.func39, Try.ntmps39
  go_wp2
  go_ret
  exact ⟨qce7_, q0c4_⟩

/-! ### impl_drive: function 40 -/
mutual
def impl_drive.l0 : Nat → Int → List Bool → List Int → List Int → Int → Int → Option (List Int × Bool)
 | 0, _, _, _, _, _, _ => none
 | k + 1, x1, x6, x7, x13, x14, x15 => if x15 < x14 then (if 0 ≤ x15 then (if x15 < (x13.length : Int) then (impl_drive.l1 k x1 x6 x7 (rd x13 x15) x13 x14 x15) else (none)) else (none)) else (some (x7, true))
def impl_drive.l1 : Nat → Int → List Bool → List Int → Int → List Int → Int → Int → Option (List Int × Bool)
 | 0, _, _, _, _, _, _, _ => none
 | k + 1, x1, x6, x7, x9, x13, x14, x15 => if x9 < x1 then (if 0 ≤ x9 then (if x9 < (x6.length : Int) then (if rdOf false x6 x9 = true then (impl_drive.l1 k x1 x6 x7 (wrap64 (x9 + 1)) x13 x14 x15) else (if x9 ≥ x1 then (some (([] : List Int), false)) else (if x7.length < 17592186044416 then (impl_drive.l0 k x1 (x6.set (x9 : Int).toNat true) (x7 ++ [x9]) x13 x14 (wrap64 (x15 + 1))) else (none)))) else (none)) else (none)) else (if x9 ≥ x1 then (some (([] : List Int), false)) else (if 0 ≤ x9 then (if x9 < (x6.length : Int) then (if x7.length < 17592186044416 then (impl_drive.l0 k x1 (x6.set (x9 : Int).toNat true) (x7 ++ [x9]) x13 x14 (wrap64 (x15 + 1))) else (none)) else (none)) else (none)))
end
def impl_drive.f (k : Nat) (l0 : List Int) (a1 : Int) : Option (List Int × Bool) := if 0 ≤ a1 then (if (a1 : Int).toNat ≤ 281474976710656 then (impl_drive.l0 k a1 (List.replicate (a1 : Int).toNat false) (([] : List Int)) l0 (l0.length : Int) 0) else (none)) else (none)
theorem impl_drive.mono_l : ∀ k, (∀ y0 y1 y2 y3 y4 y5, LeO (impl_drive.l0 k y0 y1 y2 y3 y4 y5) (impl_drive.l0 (k + 1) y0 y1 y2 y3 y4 y5)) ∧ (∀ y0 y1 y2 y3 y4 y5 y6, LeO (impl_drive.l1 k y0 y1 y2 y3 y4 y5 y6) (impl_drive.l1 (k + 1) y0 y1 y2 y3 y4 y5 y6))
 | 0 => ⟨fun _ _ _ _ _ _ r h => by simp [impl_drive.l0] at h, fun _ _ _ _ _ _ _ r h => by simp [impl_drive.l1] at h⟩
 | k + 1 => by
  obtain ⟨ih0, ih1⟩ := impl_drive.mono_l k
  refine ⟨?_, ?_⟩
  ·
   intro y0 y1 y2 y3 y4 y5
   unfold impl_drive.l0
   repeat' (with_reducible first | exact ih0 _ _ _ _ _ _ | exact ih1 _ _ _ _ _ _ _ | exact LeO.refl _ | exact LeO.none _ | refine LeO.ite ?_ ?_ | refine LeO.bind ?_ (fun _ => ?_))
  ·
   intro y0 y1 y2 y3 y4 y5 y6
   unfold impl_drive.l1
   repeat' (with_reducible first | exact ih0 _ _ _ _ _ _ | exact ih1 _ _ _ _ _ _ _ | exact LeO.refl _ | exact LeO.none _ | refine LeO.ite ?_ ?_ | refine LeO.bind ?_ (fun _ => ?_))
theorem impl_drive.mono : ∀ a0 a1 k, LeO (impl_drive.f k a0 a1) (impl_drive.f (k + 1) a0 a1) := by
 intro a0 a1 k
 obtain ⟨ih0, ih1⟩ := impl_drive.mono_l k
 unfold impl_drive.f
 repeat' (with_reducible first | exact ih0 _ _ _ _ _ _ | exact ih1 _ _ _ _ _ _ _ | exact LeO.refl _ | exact LeO.none _ | refine LeO.ite ?_ ?_ | refine LeO.bind ?_ (fun _ => ?_))
theorem impl_drive.calls (k : Nat) (A0 : Option Addr) (c0 : Nat) (l0 : List Int) (a1 : Int) (r1 : List Int) (r2 : Bool) (w : World) (hr0 : Kd.C (Kd.int .i64) w A0 l0.length l0) (hc0 : l0.length ≤ c0) (h : impl_drive.f k l0 a1 = some (r1, r2)) :
  Calls Try.prog 40 #[.slice A0 l0.length c0, .int .i64 a1] w fun e w' => ∃ v0_ : Value, e = .returned (.tuple #[v0_, .bool r2]) ∧ Kd.R (Kd.int .i64) 3 w' w.heap.size (fun _ => True) v0_ r1 ∧ Below w.heap.size w w' := by
 have HR0 := Aside0.mk hr0
 have HC0 := Aside0.mk hc0
 clear hr0 hc0
 have HB := Aside0.mk (Below.refl w.heap.size w)
 unfold impl_drive.f at h
 have H := h; clear h
 by_cases c3 : 0 ≤ a1
 ·
  rw [if_pos c3] at H
  have c3b0 := eq_true c3
  have c3b1 := decide_eq_true c3
  clear c3
  by_cases c4 : (a1 : Int).toNat ≤ 281474976710656
  ·
   rw [if_pos c4] at H
   have c4b0 := eq_true c4
   have c4b1 := decide_eq_true c4
   clear c4
   obtain ⟨y243, hy243⟩ : ∃ y_ : List Bool, y_ = (List.replicate (a1 : Int).toNat false) := ⟨_, rfl⟩
   replace H : (impl_drive.l0 k a1 y243 (([] : List Int)) l0 (l0.length : Int) 0) = some (r1, r2) := by first | (rw [hy243]; with_reducible exact H) | (have H2_ := (Option.bind_some _ _).symm.trans H; rw [hy243]; with_reducible exact H2_) | (have H2_ := (Option.bind_some _ _).symm.trans H; with_reducible exact H2_) | with_reducible exact H | (rw [hy243]; exact H) | exact H
   have Ny243 := Aside0.mk hy243
   clear hy243
   obtain ⟨y246, hy246⟩ : ∃ y_ : List Int, y_ = (([] : List Int)) := ⟨_, rfl⟩
   replace H : (impl_drive.l0 k a1 y243 y246 l0 (l0.length : Int) 0) = some (r1, r2) := by first | (rw [hy246]; with_reducible exact H) | (have H2_ := (Option.bind_some _ _).symm.trans H; rw [hy246]; with_reducible exact H2_) | (have H2_ := (Option.bind_some _ _).symm.trans H; with_reducible exact H2_) | with_reducible exact H | (rw [hy246]; exact H) | exact H
   have Ny246 := Aside0.mk hy246
   clear hy246
   have H' := Aside0.mk H
   clear H
   go_enter Try.func40, Try.ntmps40
   go_wp2_with (first | ((with_reducible refine gate_dst (N := 11) rfl ?_); refine Kd.R_make Kd.bool _ 4 rfl (N := 11) rfl 51 _ _ rfl a1 rfl rfl Try.underlying51 (.bool false) 1 info4 rfl (by decide) (by omega) false (ok := fun _ => True) (okp := fun _ => True) rfl (fun _ hk => hk) trivial (of_decide_eq_true qe84_) (Nat.le_trans (Nat.mul_le_mul_right _ (of_decide_eq_true qe84_ : a1.toNat ≤ 281474976710656)) (by omega)) (Below.refl _ _) (Nat.le_refl _) ?_; intro v244 w5 ho6 hb hg_ hnew_; clear hg_ hnew_; (first | rw [← Ny243.out] at ho6 | (simp only [Int.reduceToNat] at ho6; rw [← Ny243.out] at ho6)); have HO245 := Aside0.mk (Kd.R_lower ho6 (below_size q0c4_)); replace HB := Aside0.mk (below_step q0c4_ hb); clear hb ho6) | ((with_reducible refine gate_dst (N := 12) rfl ?_); refine Kd.R_lit (Kd.int .i64) _ 3 ?hg (N := 12) ?hd (xs := ([] : List Int)) (inner := []) (ok := fun _ => True) (okp := fun _ => True) ?hr ?hp (fun _ hk => hk) trivial (Below.refl _ _) (Nat.le_refl _) (by simp) ?_; (case hd => rfl); (case hg => rfl); (case hr => exact qfba_); (case hp => exact (Reps.none _ _)); intro v247 w7 ho8 hb hg_ hnew_; clear hg_ hnew_; (first | rw [← Ny246.out] at ho8 | (simp only [Int.reduceToNat] at ho8; rw [← Ny246.out] at ho8)); replace HO245 := Aside0.mk (Kd.R_below (q9d5_ HO245.out) hb); have HO248 := Aside0.mk (Kd.R_lower ho8 (below_size q0c4_)); replace HB := Aside0.mk (below_step q0c4_ hb); clear hb ho8))
   go_loopg [7, 15] k (fun kq v7 v15 w' => ∃ (x6_1 : List Bool) (x7_1 : List Int) (x15_1 : Int), v15 = .int .i64 x15_1 ∧ Aside0 (impl_drive.l0 kq a1 x6_1 x7_1 l0 (l0.length : Int) x15_1 = some (r1, r2)) ∧ Aside0 (kq ≤ k) ∧ Aside0 (Kd.R Kd.bool 4 w' w.heap.size (fun _ => True) v244 x6_1) ∧ Aside0 (Kd.R (Kd.int .i64) 3 w' w.heap.size (fun _ => True) v7 x7_1) ∧ Aside0 (Below w.heap.size w w'))
   case atStart => exact ⟨(y243), (y246), (0), qc8f_, H', ⟨Nat.le_refl _⟩, ⟨q9d5_ HO245.out⟩, ⟨q9d5_ HO248.out⟩, ⟨q0c4_⟩⟩
   case round =>
    clear H'; try clear p2; try clear c3; try clear c3b0; try clear c3b1; try clear c4; try clear c4b0; try clear c4b1
    obtain ⟨x6_1, x7_1, x15_1, rfl, HA, HK1, HO_6, HO_7, HB⟩ := hrel
    cases gk with
    | zero => exact absurd HA.out (by simp [impl_drive.l0])
    | succ k1 =>
     have H := HA.out
     clear HA
     simp only [impl_drive.l0] at H
     by_cases c9 : x15_1 < (l0.length : Int)
     ·
      rw [if_pos c9] at H
      have c9b0 := decide_eq_true c9
      clear c9
      by_cases c10 : 0 ≤ x15_1
      ·
       rw [if_pos c10] at H
       have c10b0 := decide_eq_true c10
       clear c10
       by_cases c11 : x15_1 < (l0.length : Int)
       ·
        rw [if_pos c11] at H
        have c11b0 := decide_eq_true c11
        clear c11
        have H' := Aside0.mk H
        clear H
        have p249 : 0 ≤ (x15_1 : Int) := of_decide_eq_true qe84_
        have q249 : x15_1 < (l0.length : Int) := of_decide_eq_true qe84_
        obtain ⟨ad249, e249, hx249_0⟩ := Kd.at_int HR0.out x15_1 p249 q249
        cases e249
        (try (replace hx249_0 := (HB.out.cell (World.block_lt_of_cell? w _ hx249_0)).trans hx249_0))
        replace p249 := eq_true p249
        replace q249 := eq_true q249
        go_wp2
        go_loopg [9] k1 (fun kq v9 w' => ∃ (x9_2 : Int), v9 = .int .i64 x9_2 ∧ Aside0 (impl_drive.l1 kq a1 x6_1 x7_1 x9_2 l0 (l0.length : Int) x15_1 = some (r1, r2)) ∧ Aside0 (kq ≤ k1) ∧ Aside0 (Kd.R Kd.bool 4 w' w.heap.size (fun _ => True) v244 x6_1) ∧ Aside0 (Kd.R (Kd.int .i64) 3 w' w.heap.size (fun _ => True) u7 x7_1) ∧ Aside0 (Below w.heap.size w w'))
        case atStart => exact ⟨(rd l0 x15_1), qc8f_, H', ⟨Nat.le_refl _⟩, ⟨q9d5_ HO_6.out⟩, ⟨q9d5_ HO_7.out⟩, ⟨q0c4_⟩⟩
        case round =>
         clear H'; try clear c1; try clear p2; try clear q2; try clear hx2; try clear c3; try clear c3b0; try clear c3b1; try clear c4; try clear c4b0; try clear c4b1; try clear c9; try clear c9b0; try clear c10; try clear c10b0; try clear c11; try clear c11b0; try clear hx249_0; try clear p2; try clear p249; try clear q249
         obtain ⟨x9_2, rfl, HA, HK2, HO_6, HO_7, HB⟩ := hrel
         cases gk with
         | zero => exact absurd HA.out (by simp [impl_drive.l1])
         | succ k2 =>
          have H := HA.out
          clear HA
          simp only [impl_drive.l1] at H
          by_cases c12 : x9_2 < a1
          ·
           rw [if_pos c12] at H
           have c12b0 := decide_eq_true c12
           clear c12
           by_cases c13 : 0 ≤ x9_2
           ·
            rw [if_pos c13] at H
            have c13b0 := decide_eq_true c13
            clear c13
            by_cases c14 : x9_2 < (x6_1.length : Int)
            ·
             rw [if_pos c14] at H
             have c14b0 := decide_eq_true c14
             clear c14
             obtain ⟨bq15, hbq15⟩ : ∃ b_ : Bool, b_ = (rdOf false x6_1 x9_2) := ⟨_, rfl⟩
             replace H : (if bq15 = true then (impl_drive.l1 k2 a1 x6_1 x7_1 (wrap64 (x9_2 + 1)) l0 (l0.length : Int) x15_1) else (if x9_2 ≥ a1 then (some (([] : List Int), false)) else (if x7_1.length < 17592186044416 then (impl_drive.l0 k2 a1 (x6_1.set (x9_2 : Int).toNat true) (x7_1 ++ [x9_2]) l0 (l0.length : Int) (wrap64 (x15_1 + 1))) else (none)))) = some (r1, r2) := by rw [← hbq15] at H; exact H
             have Nbq15 := Aside0.mk hbq15
             clear hbq15
             by_cases c16 : bq15 = true
             ·
              subst c16
              rw [if_pos rfl] at H
              have H' := Aside0.mk H
              clear H
              obtain ⟨Ao17, co17, eo17⟩ := Kd.R_slice HO_6.out
              subst eo17
              have p250 : 0 ≤ (x9_2 : Int) := of_decide_eq_true qe84_
              have q250 : x9_2 < (x6_1.length : Int) := of_decide_eq_true qe84_
              obtain ⟨ad250, e250, hx250_0⟩ := Kd.at_bool (Kd.R_reads' HO_6.out).2.2 x9_2 p250 q250
              (try rw [← Nbq15.out] at hx250_0)
              cases e250
              replace p250 := eq_true p250
              replace q250 := eq_true q250
              go_wp2
              go_roundg k2
              case measure => have := HK1.out; have := HK2.out; omega
              case rel => exact ⟨(wrap64 (x9_2 + 1)), qc8f_, H', ⟨q37b_ HK1.out HK2.out⟩, ⟨q9d5_ HO_6.out⟩, ⟨q9d5_ HO_7.out⟩, ⟨q0c4_⟩⟩
             ·
              replace c16 := Bool.eq_false_iff.mpr c16
              subst c16
              rw [if_neg nf_] at H
              by_cases c18 : x9_2 ≥ a1
              ·
               rw [if_pos c18] at H
               have c18b0 := decide_eq_true c18
               clear c18
               simp only [Option.some.injEq, Prod.mk.injEq] at H
               obtain ⟨rfl, rfl⟩ := H
               obtain ⟨Ao19, co19, eo19⟩ := Kd.R_slice HO_6.out
               subst eo19
               have p250 : 0 ≤ (x9_2 : Int) := of_decide_eq_true qe84_
               have q250 : x9_2 < (x6_1.length : Int) := of_decide_eq_true qe84_
               obtain ⟨ad250, e250, hx250_0⟩ := Kd.at_bool (Kd.R_reads' HO_6.out).2.2 x9_2 p250 q250
               (try rw [← Nbq15.out] at hx250_0)
               cases e250
               replace p250 := eq_true p250
               replace q250 := eq_true q250
               go_wp2
               go_ret2
               exact ⟨_, qce7_, qf62_, q0c4_⟩
              ·
               rw [if_neg c18] at H
               have c18b0 := decide_eq_false c18
               clear c18
               obtain ⟨y251, hy251⟩ : ∃ y_ : List Bool, y_ = (x6_1.set (x9_2 : Int).toNat true) := ⟨_, rfl⟩
               replace H : (if x7_1.length < 17592186044416 then (impl_drive.l0 k2 a1 y251 (x7_1 ++ [x9_2]) l0 (l0.length : Int) (wrap64 (x15_1 + 1))) else (none)) = some (r1, r2) := by first | (rw [hy251]; with_reducible exact H) | (have H2_ := (Option.bind_some _ _).symm.trans H; rw [hy251]; with_reducible exact H2_) | (have H2_ := (Option.bind_some _ _).symm.trans H; with_reducible exact H2_) | with_reducible exact H | (rw [hy251]; exact H) | exact H
               have Ny251 := Aside0.mk hy251
               clear hy251
               by_cases c21 : x7_1.length < 17592186044416
               ·
                rw [if_pos c21] at H
                have LMc21 := Aside0.mk c21
                clear c21
                obtain ⟨y252, hy252⟩ : ∃ y_ : List Int, y_ = (x7_1 ++ [x9_2]) := ⟨_, rfl⟩
                replace H : (impl_drive.l0 k2 a1 y251 y252 l0 (l0.length : Int) (wrap64 (x15_1 + 1))) = some (r1, r2) := by first | (rw [hy252]; with_reducible exact H) | (have H2_ := (Option.bind_some _ _).symm.trans H; rw [hy252]; with_reducible exact H2_) | (have H2_ := (Option.bind_some _ _).symm.trans H; with_reducible exact H2_) | with_reducible exact H | (rw [hy252]; exact H) | exact H
                have Ny252 := Aside0.mk hy252
                clear hy252
                have H' := Aside0.mk H
                clear H
                obtain ⟨Ao22, co22, eo22⟩ := Kd.R_slice HO_6.out
                subst eo22
                have p250 : 0 ≤ (x9_2 : Int) := of_decide_eq_true qe84_
                have q250 : x9_2 < (x6_1.length : Int) := of_decide_eq_true qe84_
                obtain ⟨ad250, e250, hx250_0⟩ := Kd.at_bool (Kd.R_reads' HO_6.out).2.2 x9_2 p250 q250
                (try rw [← Nbq15.out] at hx250_0)
                cases e250
                replace p250 := eq_true p250
                replace q250 := eq_true q250
                have p20 : 0 ≤ (x9_2 : Int) := of_decide_eq_true qe84_
                have q20 : (x9_2 : Int) < ((x6_1.length : Int) : Int) := of_decide_eq_true qe84_
                obtain ⟨go20, co20, eo20, gb20, gl20, cl20, HG20⟩ := Kd.R_form HO_6.out (by omega)
                (first | cases eo20 | (injection eo20 with ea_ en_ ec_; (first | subst ea_ | (injection ea_ with ea_; subst ea_)); subst ec_; clear en_))
                have GB20 := Aside0.mk gb20
                have GG20 := Aside0.mk HG20
                clear gb20 gl20 HG20
                (first | simp only [add_plain] at hx250_0 | skip)
                obtain ⟨hx20_0, hf20_0⟩ := Kd.R_celln false HO_6.out (x9_2 : Int) p20 q20
                replace p20 := eq_true p20
                replace q20 := eq_true q20
                have HP23 := Kd.R_putg HO_6.out (x9_2 : Int) true
                go_wp2_with (first | ((with_reducible refine gate_store (t := 4) (p := 35) rfl ?_); refine store_event (t := 4) (p := 35) (v := ?vo_w24) (w1 := (wr.setCell ⟨go20, (x9_2 : Int).toNat, none⟩ (.bool true))) ?hg ?ho ?hn ?hr ?_; (case ho => rfl); (case hg => rfl); (case hn => rfl); (case hr => exact qfba_); intro w24 hw; have hg : wr.grownBy w24 (some go20) := (by rw [hw]; exact HP23.2); have hp_ : Kd.R Kd.bool 4 w24 w.heap.size (fun _ => True) (.slice (some ⟨go20, 0, none⟩) x6_1.length co22) y251 := (by rw [hw, Ny251.out]; exact HP23.1); clear HP23; have n0_ := Aside0.mk (hp_); have n1_ := Aside0.mk (Kd.R_over' (v := (.slice (some ⟨go20, 0, none⟩) x6_1.length co22)) (q9d5_ HO_7.out) (Kd.R_typed HO_6.out) (by decide) hg); have n2_ := Aside0.mk ((by rw [hw]; exact below_set (HB.out) GB20.out : Below w.heap.size w w24)); replace HO_6 := n0_; replace HO_7 := n1_; replace HB := n2_; clear n0_ n1_ n2_; clear hg hw hp_) | ((with_reducible refine gate_builtin (b := .append) (xs := #[.tmp 36, .tmp 38]) rfl ?_); at_builtin; refine Kd.R_append (Kd.int .i64) (w0 := w) w.heap.size rfl (.tmp 36) (.tmp 38) 24 3 (.int .i64 0) 8 rfl Try.underlying24 info3 rfl (by decide) (by omega) u7 x7_1 x9_2 [.int .i64 x9_2] (fun _ => True) (fun _ => False) rfl rfl ?aP (fun _ hk => hk.elim) ?aF ?aO ?aB ?aS ?aL ?_; (case aP => exact rfl); (case aB => exact q0c4_); (case aF => exact (fun _ _ => trivial)); (case aO => exact (q9d5_ HO_7.out)); (case aS => exact (below_size q0c4_)); (case aL => have := LMc21.out; omega); intro v253 w25 ho hb hg hat; rw [← Ny252.out] at ho; have n0_ := Aside0.mk (Kd.R_over' (q9d5_ HO_6.out) (Kd.R_typed (q9d5_ HO_7.out)) (by decide) hg); have n1_ := Aside0.mk (hb); have n2_ := Aside0.mk (ho); replace HO_6 := n0_; replace HB := n1_; have HO254 := n2_; clear n0_ n1_ n2_; clear ho hb hg hat))
                go_roundg k2
                case measure => have := HK1.out; have := HK2.out; omega
                case rel => exact ⟨(y251), (y252), (wrap64 (x15_1 + 1)), qc8f_, H', ⟨q37b_ HK1.out HK2.out⟩, ⟨q9d5_ HO_6.out⟩, ⟨q9d5_ HO254.out⟩, ⟨q0c4_⟩⟩
               ·
                rw [if_neg c21] at H
                exact absurd H (by simp)
            ·
             rw [if_neg c14] at H
             exact absurd H (by simp)
           ·
            rw [if_neg c13] at H
            exact absurd H (by simp)
          ·
           rw [if_neg c12] at H
           have c12b0 := decide_eq_false c12
           clear c12
           by_cases c26 : x9_2 ≥ a1
           ·
            rw [if_pos c26] at H
            have c26b0 := decide_eq_true c26
            clear c26
            simp only [Option.some.injEq, Prod.mk.injEq] at H
            obtain ⟨rfl, rfl⟩ := H
            go_wp2
            go_ret2
            exact ⟨_, qce7_, qf62_, q0c4_⟩
           ·
            rw [if_neg c26] at H
            have c26b0 := decide_eq_false c26
            clear c26
            by_cases c27 : 0 ≤ x9_2
            ·
             rw [if_pos c27] at H
             have c27b0 := decide_eq_true c27
             clear c27
             by_cases c28 : x9_2 < (x6_1.length : Int)
             ·
              rw [if_pos c28] at H
              have c28b0 := decide_eq_true c28
              clear c28
              obtain ⟨y255, hy255⟩ : ∃ y_ : List Bool, y_ = (x6_1.set (x9_2 : Int).toNat true) := ⟨_, rfl⟩
              replace H : (if x7_1.length < 17592186044416 then (impl_drive.l0 k2 a1 y255 (x7_1 ++ [x9_2]) l0 (l0.length : Int) (wrap64 (x15_1 + 1))) else (none)) = some (r1, r2) := by first | (rw [hy255]; with_reducible exact H) | (have H2_ := (Option.bind_some _ _).symm.trans H; rw [hy255]; with_reducible exact H2_) | (have H2_ := (Option.bind_some _ _).symm.trans H; with_reducible exact H2_) | with_reducible exact H | (rw [hy255]; exact H) | exact H
              have Ny255 := Aside0.mk hy255
              clear hy255
              by_cases c30 : x7_1.length < 17592186044416
              ·
               rw [if_pos c30] at H
               have LMc30 := Aside0.mk c30
               clear c30
               obtain ⟨y256, hy256⟩ : ∃ y_ : List Int, y_ = (x7_1 ++ [x9_2]) := ⟨_, rfl⟩
               replace H : (impl_drive.l0 k2 a1 y255 y256 l0 (l0.length : Int) (wrap64 (x15_1 + 1))) = some (r1, r2) := by first | (rw [hy256]; with_reducible exact H) | (have H2_ := (Option.bind_some _ _).symm.trans H; rw [hy256]; with_reducible exact H2_) | (have H2_ := (Option.bind_some _ _).symm.trans H; with_reducible exact H2_) | with_reducible exact H | (rw [hy256]; exact H) | exact H
               have Ny256 := Aside0.mk hy256
               clear hy256
               have H' := Aside0.mk H
               clear H
               have p29 : 0 ≤ (x9_2 : Int) := of_decide_eq_true qe84_
               have q29 : (x9_2 : Int) < ((x6_1.length : Int) : Int) := of_decide_eq_true qe84_
               obtain ⟨go29, co29, eo29, gb29, gl29, cl29, HG29⟩ := Kd.R_form HO_6.out (by omega)
               (first | cases eo29 | (injection eo29 with ea_ en_ ec_; (first | subst ea_ | (injection ea_ with ea_; subst ea_)); subst ec_; clear en_))
               have GB29 := Aside0.mk gb29
               have GG29 := Aside0.mk HG29
               clear gb29 gl29 HG29
               obtain ⟨hx29_0, hf29_0⟩ := Kd.R_celln false HO_6.out (x9_2 : Int) p29 q29
               replace p29 := eq_true p29
               replace q29 := eq_true q29
               have HP31 := Kd.R_putg HO_6.out (x9_2 : Int) true
               go_wp2_with (first | ((with_reducible refine gate_store (t := 4) (p := 35) rfl ?_); refine store_event (t := 4) (p := 35) (v := ?vo_w32) (w1 := (wr.setCell ⟨go29, (x9_2 : Int).toNat, none⟩ (.bool true))) ?hg ?ho ?hn ?hr ?_; (case ho => rfl); (case hg => rfl); (case hn => rfl); (case hr => exact qfba_); intro w32 hw; have hg : wr.grownBy w32 (some go29) := (by rw [hw]; exact HP31.2); have hp_ : Kd.R Kd.bool 4 w32 w.heap.size (fun _ => True) (.slice (some ⟨go29, 0, none⟩) x6_1.length co29) y255 := (by rw [hw, Ny255.out]; exact HP31.1); clear HP31; have n0_ := Aside0.mk (hp_); have n1_ := Aside0.mk (Kd.R_over' (v := (.slice (some ⟨go29, 0, none⟩) x6_1.length co29)) (q9d5_ HO_7.out) (Kd.R_typed HO_6.out) (by decide) hg); have n2_ := Aside0.mk ((by rw [hw]; exact below_set (HB.out) GB29.out : Below w.heap.size w w32)); replace HO_6 := n0_; replace HO_7 := n1_; replace HB := n2_; clear n0_ n1_ n2_; clear hg hw hp_) | ((with_reducible refine gate_builtin (b := .append) (xs := #[.tmp 36, .tmp 38]) rfl ?_); at_builtin; refine Kd.R_append (Kd.int .i64) (w0 := w) w.heap.size rfl (.tmp 36) (.tmp 38) 24 3 (.int .i64 0) 8 rfl Try.underlying24 info3 rfl (by decide) (by omega) u7 x7_1 x9_2 [.int .i64 x9_2] (fun _ => True) (fun _ => False) rfl rfl ?aP (fun _ hk => hk.elim) ?aF ?aO ?aB ?aS ?aL ?_; (case aP => exact rfl); (case aB => exact q0c4_); (case aF => exact (fun _ _ => trivial)); (case aO => exact (q9d5_ HO_7.out)); (case aS => exact (below_size q0c4_)); (case aL => have := LMc30.out; omega); intro v257 w33 ho hb hg hat; rw [← Ny256.out] at ho; have n0_ := Aside0.mk (Kd.R_over' (q9d5_ HO_6.out) (Kd.R_typed (q9d5_ HO_7.out)) (by decide) hg); have n1_ := Aside0.mk (hb); have n2_ := Aside0.mk (ho); replace HO_6 := n0_; replace HB := n1_; have HO258 := n2_; clear n0_ n1_ n2_; clear ho hb hg hat))
               go_roundg k2
               case measure => have := HK1.out; have := HK2.out; omega
               case rel => exact ⟨(y255), (y256), (wrap64 (x15_1 + 1)), qc8f_, H', ⟨q37b_ HK1.out HK2.out⟩, ⟨q9d5_ HO_6.out⟩, ⟨q9d5_ HO258.out⟩, ⟨q0c4_⟩⟩
              ·
               rw [if_neg c30] at H
               exact absurd H (by simp)
             ·
              rw [if_neg c28] at H
              exact absurd H (by simp)
            ·
             rw [if_neg c27] at H
             exact absurd H (by simp)
       ·
        rw [if_neg c11] at H
        exact absurd H (by simp)
      ·
       rw [if_neg c10] at H
       exact absurd H (by simp)
     ·
      rw [if_neg c9] at H
      have c9b0 := decide_eq_false c9
      clear c9
      simp only [Option.some.injEq, Prod.mk.injEq] at H
      obtain ⟨rfl, rfl⟩ := H
      go_wp2
      go_ret2
      exact ⟨_, qce7_, q9d5_ HO_7.out, q0c4_⟩
  ·
   rw [if_neg c4] at H
   exact absurd H (by simp)
 ·
  rw [if_neg c3] at H
  exact absurd H (by simp)

/-! ### impl_isParking: function 30 -/
def impl_isParking.f (k : Nat) (l0 : List Int) : Option (Bool) := (impl_areCars.f l0).bind fun t259 => (if t259 = true then ((impl_drive.f k l0 (l0.length : Int)).bind fun bt260 => (some bt260.2)) else (some false))
theorem impl_isParking.mono : ∀ a0 k, LeO (impl_isParking.f k a0) (impl_isParking.f (k + 1) a0) := by
 intro a0 k
 unfold impl_isParking.f
 repeat' (with_reducible first | exact impl_drive.mono _ _ _ | exact LeO.refl _ | exact LeO.none _ | refine LeO.ite ?_ ?_ | refine LeO.bind ?_ (fun _ => ?_))
theorem impl_isParking.calls (k : Nat) (A0 : Option Addr) (c0 : Nat) (l0 : List Int) (r : Bool) (w : World) (hr0 : Kd.C (Kd.int .i64) w A0 l0.length l0) (hc0 : l0.length ≤ c0) (h : impl_isParking.f k l0 = some r) :
  Calls Try.prog 30 #[.slice A0 l0.length c0] w fun e w' => e = .returned (.bool r) ∧ Below w.heap.size w w' := by
 have HR0 := Aside0.mk hr0
 have HC0 := Aside0.mk hc0
 clear hr0 hc0
 have HB := Aside0.mk (Below.refl w.heap.size w)
 unfold impl_isParking.f at h
 have H := h; clear h
 obtain ⟨t259, A2, H⟩ := ob_ H
 by_cases c3 : t259 = true
 ·
  subst c3
  rw [if_pos rfl] at H
  obtain ⟨⟨t260, t261⟩, A4, H⟩ := ob_ H
  dsimp only at H
  obtain rfl := Option.some.inj H
  go_enter Try.func30, Try.ntmps30
  go_wp2_with (first | ((with_reducible refine gate_callee (f := 39) rfl ?_); refine gl_ 6 Try.func39 #[.slice A0 l0.length c0] ?_; (with_reducible refine (impl_areCars.calls _ _ l0 true _ ?s1 ?s2 A2.out).mono ?_); (case s1 => exact q201_ HR0.out); (case s2 => exact HC0.out); rintro e w5 ⟨rfl, hb⟩; refine ⟨_, rfl, ?_⟩; replace HB := Aside0.mk (below_step q0c4_ hb); clear hb) | ((with_reducible refine gate_callee (f := 40) rfl ?_); refine gl_ 12 Try.func40 #[.slice A0 l0.length c0, .int .i64 (l0.length : Int)] ?_; (with_reducible refine (impl_drive.calls k _ _ l0 (l0.length : Int) t260 t261 _ ?s1 ?s2 A4.out).mono ?_); (case s1 => exact qe02_ HR0.out); (case s2 => exact HC0.out); rintro e w6 ⟨v262, rfl, ho0, hb⟩; refine ⟨_, rfl, ?_⟩; have HO263 := Aside0.mk (Kd.R_lower ho0 (below_size q0c4_)); replace HB := Aside0.mk (below_step q0c4_ hb); clear hb ho0))
  go_ret
  exact ⟨qce7_, q0c4_⟩
 ·
  replace c3 := Bool.eq_false_iff.mpr c3
  subst c3
  rw [if_neg nf_] at H
  obtain rfl := Option.some.inj H
  go_enter Try.func30, Try.ntmps30
  go_wp2_with (first | ((with_reducible refine gate_callee (f := 39) rfl ?_); refine gl_ 6 Try.func39 #[.slice A0 l0.length c0] ?_; (with_reducible refine (impl_areCars.calls _ _ l0 false _ ?s1 ?s2 A2.out).mono ?_); (case s1 => exact q201_ HR0.out); (case s2 => exact HC0.out); rintro e w7 ⟨rfl, hb⟩; refine ⟨_, rfl, ?_⟩; replace HB := Aside0.mk (below_step q0c4_ hb); clear hb))
  go_ret
  exact ⟨qce7_, q0c4_⟩

/-! ### impl_between: function 57 -/
def impl_between.f (a0 : Int) (a1 : Int) (a2 : Int) : Option (Bool) := if a0 ≥ a1 then (some (decide (a0 ≤ a2))) else (some false)
theorem impl_between.calls (a0 : Int) (a1 : Int) (a2 : Int) (r : Bool) (w : World) (h : impl_between.f a0 a1 a2 = some r) :
  Calls Try.prog 57 #[.int .i64 a0, .int .i64 a1, .int .i64 a2] w fun e w' => e = .returned (.bool r) ∧ Drawn0 w w' := by
 unfold impl_between.f at h
 have H := h; clear h
 by_cases c4 : a0 ≥ a1
 ·
  rw [if_pos c4] at H
  have c4b0 := decide_eq_true c4
  clear c4
  obtain rfl := Option.some.inj H
  go_enter Try.func57, Try.ntmps57
  go_wp2
  go_ret
  exact ⟨qc8f_, qffa_⟩
 ·
  rw [if_neg c4] at H
  have c4b0 := decide_eq_false c4
  clear c4
  obtain rfl := Option.some.inj H
  go_enter Try.func57, Try.ntmps57
  go_wp2
  go_ret
  exact ⟨qc8f_, qffa_⟩

/-! ### impl_AreFavourites: function 72 -/
def impl_AreFavourites.f (l0 : List Int) (a1 : Int) : Option (Bool) := (impl_between.f a1 1 12).bind fun t264 => (if t264 = true then (if (l0.length : Int) ≤ 8 then ((impl_areBetween.f l0 0 (wrap64 (a1 - 1))).bind fun t265 => (some t265)) else (some false)) else (some false))
theorem impl_AreFavourites.calls (A0 : Option Addr) (c0 : Nat) (l0 : List Int) (a1 : Int) (r : Bool) (w : World) (hr0 : Kd.C (Kd.int .i64) w A0 l0.length l0) (hc0 : l0.length ≤ c0) (h : impl_AreFavourites.f l0 a1 = some r) :
  Calls Try.prog 72 #[.slice A0 l0.length c0, .int .i64 a1] w fun e w' => e = .returned (.bool r) ∧ Below w.heap.size w w' := by
 have HR0 := Aside0.mk hr0
 have HC0 := Aside0.mk hc0
 clear hr0 hc0
 have HB := Aside0.mk (Below.refl w.heap.size w)
 unfold impl_AreFavourites.f at h
 have H := h; clear h
 obtain ⟨t264, A3, H⟩ := ob_ H
 by_cases c4 : t264 = true
 ·
  subst c4
  rw [if_pos rfl] at H
  by_cases c5 : (l0.length : Int) ≤ 8
  ·
   rw [if_pos c5] at H
   have c5b0 := decide_eq_true c5
   have c5b1 : decide (l0.length ≤ 8) = true := decide_eq_true (by omega)
   clear c5
   obtain ⟨t265, A6, H⟩ := ob_ H
   obtain rfl := Option.some.inj H
   go_enter Try.func72, Try.ntmps72
   go_wp2_with (first | ((with_reducible refine gate_callee (f := 57) rfl ?_); refine gl_ 6 Try.func57 #[.int .i64 a1, .int .i64 1, .int .i64 12] ?_; (with_reducible refine (impl_between.calls a1 1 12 true _ A3.out).mono ?_); rintro e w' ⟨rfl, ⟨nd, rfl⟩⟩; refine ⟨_, rfl, ?_⟩) | (go_at_call 47; (with_reducible refine (impl_areBetween.calls _ _ l0 0 (wrap64 (a1 - 1)) t265 _ ?s1 ?s2 A6.out).mono ?_); (case s1 => exact q201_ HR0.out); (case s2 => exact HC0.out); rintro e w7 ⟨rfl, hb⟩; replace HB := Aside0.mk (below_step q0c4_ hb); clear hb))
   go_ret
   exact ⟨qce7_, q0c4_⟩
  ·
   rw [if_neg c5] at H
   have c5b0 := decide_eq_false c5
   have c5b1 : decide (l0.length ≤ 8) = false := decide_eq_false (by omega)
   clear c5
   obtain rfl := Option.some.inj H
   go_enter Try.func72, Try.ntmps72
   go_wp2_with (first | ((with_reducible refine gate_callee (f := 57) rfl ?_); refine gl_ 6 Try.func57 #[.int .i64 a1, .int .i64 1, .int .i64 12] ?_; (with_reducible refine (impl_between.calls a1 1 12 true _ A3.out).mono ?_); rintro e w' ⟨rfl, ⟨nd, rfl⟩⟩; refine ⟨_, rfl, ?_⟩))
   go_ret
   exact ⟨qce7_, q0c4_⟩
 ·
  replace c4 := Bool.eq_false_iff.mpr c4
  subst c4
  rw [if_neg nf_] at H
  obtain rfl := Option.some.inj H
  go_enter Try.func72, Try.ntmps72
  go_wp2_with (first | ((with_reducible refine gate_callee (f := 57) rfl ?_); refine gl_ 6 Try.func57 #[.int .i64 a1, .int .i64 1, .int .i64 12] ?_; (with_reducible refine (impl_between.calls a1 1 12 false _ A3.out).mono ?_); rintro e w' ⟨rfl, ⟨nd, rfl⟩⟩; refine ⟨_, rfl, ?_⟩))
  go_ret
  exact ⟨qce7_, q0c4_⟩

/-! ### impl_DriveCars: function 58 -/
def impl_DriveCars.f (k : Nat) (l0 : List Int) (a1 : Int) : Option (List Int × Bool) := (impl_AreFavourites.f l0 a1).bind fun t266 => (if t266 = true then ((impl_drive.f k l0 a1).bind fun bt267 => (some (bt267.1, bt267.2))) else (some (([] : List Int), false)))
theorem impl_DriveCars.mono : ∀ a0 a1 k, LeO (impl_DriveCars.f k a0 a1) (impl_DriveCars.f (k + 1) a0 a1) := by
 intro a0 a1 k
 unfold impl_DriveCars.f
 repeat' (with_reducible first | exact impl_drive.mono _ _ _ | exact LeO.refl _ | exact LeO.none _ | refine LeO.ite ?_ ?_ | refine LeO.bind ?_ (fun _ => ?_))
theorem impl_DriveCars.calls (k : Nat) (A0 : Option Addr) (c0 : Nat) (l0 : List Int) (a1 : Int) (r1 : List Int) (r2 : Bool) (w : World) (hr0 : Kd.C (Kd.int .i64) w A0 l0.length l0) (hc0 : l0.length ≤ c0) (h : impl_DriveCars.f k l0 a1 = some (r1, r2)) :
  Calls Try.prog 58 #[.slice A0 l0.length c0, .int .i64 a1] w fun e w' => ∃ v0_ : Value, e = .returned (.tuple #[v0_, .bool r2]) ∧ Kd.R (Kd.int .i64) 3 w' w.heap.size (fun _ => True) v0_ r1 ∧ Below w.heap.size w w' := by
 have HR0 := Aside0.mk hr0
 have HC0 := Aside0.mk hc0
 clear hr0 hc0
 have HB := Aside0.mk (Below.refl w.heap.size w)
 unfold impl_DriveCars.f at h
 have H := h; clear h
 obtain ⟨t266, A3, H⟩ := ob_ H
 by_cases c4 : t266 = true
 ·
  subst c4
  rw [if_pos rfl] at H
  obtain ⟨⟨t267, t268⟩, A5, H⟩ := ob_ H
  dsimp only at H
  simp only [Option.some.injEq, Prod.mk.injEq] at H
  obtain ⟨rfl, rfl⟩ := H
  go_enter Try.func58, Try.ntmps58
  go_wp2_with (first | ((with_reducible refine gate_callee (f := 72) rfl ?_); refine gl_ 8 Try.func72 #[.slice A0 l0.length c0, .int .i64 a1] ?_; (with_reducible refine (impl_AreFavourites.calls _ _ l0 a1 true _ ?s1 ?s2 A3.out).mono ?_); (case s1 => exact q201_ HR0.out); (case s2 => exact HC0.out); rintro e w6 ⟨rfl, hb⟩; refine ⟨_, rfl, ?_⟩; replace HB := Aside0.mk (below_step q0c4_ hb); clear hb) | ((with_reducible refine gate_callee (f := 40) rfl ?_); refine gl_ 12 Try.func40 #[.slice A0 l0.length c0, .int .i64 a1] ?_; (with_reducible refine (impl_drive.calls k _ _ l0 a1 t267 t268 _ ?s1 ?s2 A5.out).mono ?_); (case s1 => exact qe02_ HR0.out); (case s2 => exact HC0.out); rintro e w7 ⟨v269, rfl, ho0, hb⟩; refine ⟨_, rfl, ?_⟩; have HO270 := Aside0.mk (Kd.R_lower ho0 (below_size q0c4_)); replace HB := Aside0.mk (below_step q0c4_ hb); clear hb ho0))
  go_ret2
  exact ⟨_, qce7_, q9d5_ HO270.out, q0c4_⟩
 ·
  replace c4 := Bool.eq_false_iff.mpr c4
  subst c4
  rw [if_neg nf_] at H
  simp only [Option.some.injEq, Prod.mk.injEq] at H
  obtain ⟨rfl, rfl⟩ := H
  go_enter Try.func58, Try.ntmps58
  go_wp2_with (first | ((with_reducible refine gate_callee (f := 72) rfl ?_); refine gl_ 8 Try.func72 #[.slice A0 l0.length c0, .int .i64 a1] ?_; (with_reducible refine (impl_AreFavourites.calls _ _ l0 a1 false _ ?s1 ?s2 A3.out).mono ?_); (case s1 => exact q201_ HR0.out); (case s2 => exact HC0.out); rintro e w8 ⟨rfl, hb⟩; refine ⟨_, rfl, ?_⟩; replace HB := Aside0.mk (below_step q0c4_ hb); clear hb))
  go_ret2
  exact ⟨_, qce7_, qf62_, q0c4_⟩

/-! ### impl_DistancesOf: function 48 -/
def impl_DistancesOf.l0 : Nat → List Int → List Int → Bool → Int → Int → Option (List Int × Bool)
 | 0, _, _, _, _, _ => none
 | k + 1, x0, x6, x7, x16, x17 => if x17 < x16 then (if 0 ≤ x17 then (if x17 < (x6.length : Int) then (if x17 < (x0.length : Int) then (impl_DistancesOf.l0 k x0 (x6.set (x17 : Int).toNat (wrap64 ((rd x6 x17) - (rd x0 x17)))) x7 x16 (wrap64 (x17 + 1))) else (none)) else (none)) else (none)) else (some (x6, x7))
def impl_DistancesOf.f (k : Nat) (l0 : List Int) (a1 : Int) : Option (List Int × Bool) := (impl_DriveCars.f k l0 a1).bind fun bt271 => (impl_DistancesOf.l0 k l0 bt271.1 bt271.2 (bt271.1.length : Int) 0)
theorem impl_DistancesOf.mono_l : ∀ k, (∀ y0 y1 y2 y3 y4, LeO (impl_DistancesOf.l0 k y0 y1 y2 y3 y4) (impl_DistancesOf.l0 (k + 1) y0 y1 y2 y3 y4))
 | 0 => fun _ _ _ _ _ r h => by simp [impl_DistancesOf.l0] at h
 | k + 1 => by
  have ih0 := impl_DistancesOf.mono_l k
  ·
   intro y0 y1 y2 y3 y4
   unfold impl_DistancesOf.l0
   repeat' (with_reducible first | exact ih0 _ _ _ _ _ | exact impl_DriveCars.mono _ _ _ | exact LeO.refl _ | exact LeO.none _ | refine LeO.ite ?_ ?_ | refine LeO.bind ?_ (fun _ => ?_))
theorem impl_DistancesOf.mono : ∀ a0 a1 k, LeO (impl_DistancesOf.f k a0 a1) (impl_DistancesOf.f (k + 1) a0 a1) := by
 intro a0 a1 k
 have ih0 := impl_DistancesOf.mono_l k
 unfold impl_DistancesOf.f
 repeat' (with_reducible first | exact ih0 _ _ _ _ _ | exact impl_DriveCars.mono _ _ _ | exact LeO.refl _ | exact LeO.none _ | refine LeO.ite ?_ ?_ | refine LeO.bind ?_ (fun _ => ?_))
def impl_DistancesOf.T5 : Bool × List (List Nat × List Nat) := (true, [([], []), ([], []), ([0, 1], [0, 1]), ([2], [2]), ([], []), ([], []), ([4, 5], [4, 5]), ([6], [6]), ([3, 7], [3, 7]), ([0, 1, 0, 1, 2, 3, 4, 5, 6, 7, 8], [0, 1]), ([9, 8, 0, 1, 2, 3, 4, 5, 6, 7, 8], [8, 9])])
def impl_DistancesOf.B5 : List Nat := [0, 0, 3, 7, 0, 0, 48, 112, 255, 511, 1023]
theorem impl_DistancesOf.tab5 : rtab .any (opsOf Try.f48 5) = impl_DistancesOf.T5 := by kernel_rfl
theorem impl_DistancesOf.bits5 : waitsOk impl_DistancesOf.T5.2 impl_DistancesOf.B5 = true := by kernel_rfl
theorem impl_DistancesOf.calls (k : Nat) (A0 : Option Addr) (c0 : Nat) (l0 : List Int) (a1 : Int) (r1 : List Int) (r2 : Bool) (w : World) (hr0 : Kd.C (Kd.int .i64) w A0 l0.length l0) (hc0 : l0.length ≤ c0) (h : impl_DistancesOf.f k l0 a1 = some (r1, r2)) :
  Calls Try.prog 48 #[.slice A0 l0.length c0, .int .i64 a1] w fun e w' => ∃ v0_ : Value, e = .returned (.tuple #[v0_, .bool r2]) ∧ Kd.R (Kd.int .i64) 3 w' w.heap.size (fun _ => True) v0_ r1 ∧ Below w.heap.size w w' := by
 have HR0 := Aside0.mk hr0
 have HC0 := Aside0.mk hc0
 clear hr0 hc0
 have HB := Aside0.mk (Below.refl w.heap.size w)
 unfold impl_DistancesOf.f at h
 have H := h; clear h
 obtain ⟨⟨t271, t272⟩, A3, H⟩ := ob_ H
 dsimp only at H
 have H' := Aside0.mk H
 clear H
 go_enter Try.func48, Try.ntmps48
 go_wp2_with (first | ((with_reducible refine gate_callee (f := 58) rfl ?_); refine gl_ 12 Try.func58 #[.slice A0 l0.length c0, .int .i64 a1] ?_; (with_reducible refine (impl_DriveCars.calls k _ _ l0 a1 t271 t272 _ ?s1 ?s2 A3.out).mono ?_); (case s1 => exact q201_ HR0.out); (case s2 => exact HC0.out); rintro e w4 ⟨v273, rfl, ho0, hb⟩; refine ⟨_, rfl, ?_⟩; have HO274 := Aside0.mk (Kd.R_lower ho0 (below_size q0c4_)); replace HB := Aside0.mk (below_step q0c4_ hb); clear hb ho0; obtain ⟨Ao5, co5, eo5⟩ := Kd.R_slice HO274.out; subst eo5))
 go_loopg [17] k (fun kq v17 w' => ∃ (x6_1 : List Int) (x17_1 : Int), v17 = .int .i64 x17_1 ∧ Aside0 (impl_DistancesOf.l0 kq l0 x6_1 t272 (t271.length : Int) x17_1 = some (r1, r2)) ∧ Aside0 (kq ≤ k) ∧ Aside0 (Kd.R (Kd.int .i64) 3 w' w.heap.size (fun _ => True) (.slice Ao5 t271.length co5) x6_1) ∧ Aside0 (Below w.heap.size w w'))
 case atStart => exact ⟨(t271), (0), qc8f_, H', ⟨Nat.le_refl _⟩, ⟨q9d5_ HO274.out⟩, ⟨q0c4_⟩⟩
 case round =>
  clear H'; try clear p2; try clear c4; try clear c5
  obtain ⟨x6_1, x17_1, rfl, HA, HK1, HO_6, HB⟩ := hrel
  have hl6_1 := (Kd.R_reads' HO_6.out).1
  rw [hl6_1] at HO_6
  (try simp only [hl6_1])
  cases gk with
  | zero => exact absurd HA.out (by simp [impl_DistancesOf.l0])
  | succ k1 =>
   have H := HA.out
   clear HA
   simp only [impl_DistancesOf.l0] at H
   by_cases c6 : x17_1 < (t271.length : Int)
   ·
    rw [if_pos c6] at H
    have c6b0 := decide_eq_true c6
    (try simp only [hl6_1] at c6b0)
    clear c6
    by_cases c7 : 0 ≤ x17_1
    ·
     rw [if_pos c7] at H
     have c7b0 := decide_eq_true c7
     clear c7
     by_cases c8 : x17_1 < (x6_1.length : Int)
     ·
      rw [if_pos c8] at H
      have c8b0 := decide_eq_true c8
      (try simp only [hl6_1] at c8b0)
      clear c8
      by_cases c9 : x17_1 < (l0.length : Int)
      ·
       rw [if_pos c9] at H
       have c9b0 := decide_eq_true c9
       (try simp only [hl6_1] at c9b0)
       clear c9
       obtain ⟨y277, hy277⟩ : ∃ y_ : List Int, y_ = (x6_1.set (x17_1 : Int).toNat (wrap64 ((rd x6_1 x17_1) - (rd l0 x17_1)))) := ⟨_, rfl⟩
       replace H : (impl_DistancesOf.l0 k1 l0 y277 t272 (t271.length : Int) (wrap64 (x17_1 + 1))) = some (r1, r2) := by first | (rw [hy277]; with_reducible exact H) | (have H2_ := (Option.bind_some _ _).symm.trans H; rw [hy277]; with_reducible exact H2_) | (have H2_ := (Option.bind_some _ _).symm.trans H; with_reducible exact H2_) | with_reducible exact H | (rw [hy277]; exact H) | exact H
       have Ny277 := Aside0.mk hy277
       clear hy277
       have H' := Aside0.mk H
       clear H
       try go_wp2
       have n0_ := Aside0.mk (Kd.R_drew HO_6.out)
       have n1_ := Aside0.mk (below_drew1 HB.out)
       clear HO_6 HB; have HO_6 := n0_; have HB := n1_; clear n0_ n1_
       have p275 : 0 ≤ (x17_1 : Int) := of_decide_eq_true qe84_
       have q275 : x17_1 < (x6_1.length : Int) := of_decide_eq_true qe84_
       obtain ⟨ad275, e275, hx275_0⟩ := Kd.at_int (Kd.R_reads' HO_6.out).2.2 x17_1 p275 q275
       cases e275
       replace p275 := eq_true p275
       replace q275 := eq_true q275
       have p276 : 0 ≤ (x17_1 : Int) := of_decide_eq_true qe84_
       have q276 : x17_1 < (l0.length : Int) := of_decide_eq_true qe84_
       obtain ⟨ad276, e276, hx276_0⟩ := Kd.at_int HR0.out x17_1 p276 q276
       have hw276_0 := hx276_0
       cases e276
       (try (replace hx276_0 := (HB.out.cell (World.block_lt_of_cell? w _ hx276_0)).trans hx276_0))
       replace p276 := eq_true p276
       replace q276 := eq_true q276
       have p10 : 0 ≤ (x17_1 : Int) := of_decide_eq_true qe84_
       have q10 : (x17_1 : Int) < ((x6_1.length : Int) : Int) := of_decide_eq_true qe84_
       obtain ⟨go10, co10, eo10, gb10, gl10, cl10, HG10⟩ := Kd.R_form HO_6.out (by omega)
       (first | cases eo10 | (injection eo10 with ea_ en_ ec_; (first | subst ea_ | (injection ea_ with ea_; subst ea_)); subst ec_; clear en_))
       have GB10 := Aside0.mk gb10
       have GG10 := Aside0.mk HG10
       clear gb10 gl10 HG10
       (first | simp only [add_plain] at hx275_0 | skip)
       obtain ⟨hx10_0, hf10_0⟩ := Kd.R_celln 0 HO_6.out (x17_1 : Int) p10 q10
       replace p10 := eq_true p10
       replace q10 := eq_true q10
       have HP12 := Kd.R_putn HO_6.out (x17_1 : Int) (wrap64 ((rd x6_1 x17_1) - (rd l0 x17_1)))
       rw [← Ny277.out] at HP12
       have HQ12 := Aside0.mk HP12
       clear HP12
       refine start_ (n := 11) (S := fun w' => w'.cell? ⟨go10, (x17_1).toNat, none⟩ = some (.int .i64 (rd x6_1 x17_1)) ∧ w'.cell? (ad276.add (x17_1).toNat) = some (.int .i64 (rd l0 x17_1))) (ds := [10]) #[false, false, false, false, false, false, false, false, false, false, false] (by kernel_rfl) rfl rfl ⟨hx275_0, ((HB.out.cell (World.block_lt_of_cell? w _ hw276_0)).trans hw276_0)⟩ (fun hHeld => ?_); refine with_tabW impl_DistancesOf.tab5 impl_DistancesOf.bits5 (fun HT_ HW_ => ?_)
       generalize wr.drew = w11 at HO_6 HB GG10 HQ12 hf10_0 hx10_0 hx275_0 hx276_0 hHeld ⊢
       refine pure_ (i := 0) (N := some 20) (v := ?_) (a' := ?_) #[true, false, false, false, false, false, false, false, false, false, false] rfl rfl (any_of HT_.out (by kernel_rfl)) (fun _ _ _ h => h) (Or.inl ⟨by rfl, ?_⟩) ?_ ?_
       rotate_left
       ·
        intro w'
        go_simp
        with_reducible rfl
       rotate_left
       ·
        simp only [Act.put, List.setIfInBounds_toArray, List.set_cons_zero, List.set_cons_succ, i64_w, i32_w]
        rfl
       refine pure_ (i := 1) (N := some 21) (v := ?_) (a' := ?_) #[true, true, false, false, false, false, false, false, false, false, false] rfl rfl (any_of HT_.out (by kernel_rfl)) (fun _ _ _ h => h) (Or.inl ⟨by rfl, ?_⟩) ?_ ?_
       rotate_left
       ·
        intro w'
        go_simp
        with_reducible rfl
       rotate_left
       ·
        simp only [Act.put, List.setIfInBounds_toArray, List.set_cons_zero, List.set_cons_succ, i64_w, i32_w]
        rfl
       refine pure_ (i := 2) (N := some 22) (v := ?_) (a' := ?_) #[true, true, true, false, false, false, false, false, false, false, false] rfl rfl (any_of HT_.out (by kernel_rfl)) (fun _ _ _ h => h) (Or.inl ⟨by rfl, ?_⟩) ?_ ?_
       rotate_left
       ·
        intro w'
        go_simp
        with_reducible rfl
       rotate_left
       ·
        simp only [Act.put, List.setIfInBounds_toArray, List.set_cons_zero, List.set_cons_succ, i64_w, i32_w]
        rfl
       refine pure_ (i := 4) (N := some 24) (v := ?_) (a' := ?_) #[true, true, true, false, true, false, false, false, false, false, false] rfl rfl (any_of HT_.out (by kernel_rfl)) (fun _ _ _ h => h) (Or.inl ⟨by rfl, ?_⟩) ?_ ?_
       rotate_left
       ·
        intro w'
        go_simp
        with_reducible rfl
       rotate_left
       ·
        simp only [Act.put, List.setIfInBounds_toArray, List.set_cons_zero, List.set_cons_succ, i64_w, i32_w]
        rfl
       refine pure_ (i := 5) (N := some 25) (v := ?_) (a' := ?_) #[true, true, true, false, true, true, false, false, false, false, false] rfl rfl (any_of HT_.out (by kernel_rfl)) (fun _ _ _ h => h) (Or.inl ⟨by rfl, ?_⟩) ?_ ?_
       rotate_left
       ·
        intro w'
        go_simp
        with_reducible rfl
       rotate_left
       ·
        simp only [Act.put, List.setIfInBounds_toArray, List.set_cons_zero, List.set_cons_succ, i64_w, i32_w]
        rfl
       refine pure_ (i := 6) (N := some 26) (v := ?_) (a' := ?_) #[true, true, true, false, true, true, true, false, false, false, false] rfl rfl (any_of HT_.out (by kernel_rfl)) (fun _ _ _ h => h) (Or.inl ⟨by rfl, ?_⟩) ?_ ?_
       rotate_left
       ·
        intro w'
        go_simp
        with_reducible rfl
       rotate_left
       ·
        simp only [Act.put, List.setIfInBounds_toArray, List.set_cons_zero, List.set_cons_succ, i64_w, i32_w]
        rfl
       refine take_ (i := 3) (N := some 23) (v := ?_) (a' := ?_) #[true, true, true, true, true, true, true, false, false, false, false] rfl rfl (take_ofW HT_.out HW_.out (by kernel_rfl)) (fun _ _ _ h => h) (Or.inl ⟨by rfl, ?_⟩) hHeld ?_ ?_
       rotate_left
       ·
        rintro w' ⟨s0, s1⟩
        go_simp
        with_reducible rfl
       rotate_left
       ·
        simp only [Act.put, List.setIfInBounds_toArray, List.set_cons_zero, List.set_cons_succ, i64_w, i32_w]
        rfl
       refine take_ (i := 7) (N := some 27) (v := ?_) (a' := ?_) #[true, true, true, true, true, true, true, true, false, false, false] rfl rfl (take_ofW HT_.out HW_.out (by kernel_rfl)) (fun _ _ _ h => h) (Or.inl ⟨by rfl, ?_⟩) hHeld ?_ ?_
       rotate_left
       ·
        rintro w' ⟨s0, s1⟩
        go_simp
        with_reducible rfl
       rotate_left
       ·
        simp only [Act.put, List.setIfInBounds_toArray, List.set_cons_zero, List.set_cons_succ, i64_w, i32_w]
        rfl
       refine pure_ (i := 8) (N := some 28) (v := ?_) (a' := ?_) #[true, true, true, true, true, true, true, true, true, false, false] rfl rfl (any_of HT_.out (by kernel_rfl)) (fun _ _ _ h => h) (Or.inl ⟨by rfl, ?_⟩) ?_ ?_
       rotate_left
       ·
        intro w'
        go_simp
        with_reducible rfl
       rotate_left
       ·
        simp only [Act.put, List.setIfInBounds_toArray, List.set_cons_zero, List.set_cons_succ, i64_w, i32_w]
        rfl
       refine pure_ (i := 9) (N := some 29) (v := ?_) (a' := ?_) #[true, true, true, true, true, true, true, true, true, true, false] rfl rfl (any_of HT_.out (by kernel_rfl)) (fun _ _ _ h => h) (Or.inl ⟨by rfl, ?_⟩) ?_ ?_
       rotate_left
       ·
        intro w'
        go_simp
        with_reducible rfl
       rotate_left
       ·
        simp only [Act.put, List.setIfInBounds_toArray, List.set_cons_zero, List.set_cons_succ, i64_w, i32_w]
        rfl
       refine last_ (i := 10) (N := none) #[true, true, true, true, true, true, true, true, true, true, true] rfl rfl (one_of HT_.out (by kernel_rfl)) (by decide) (fun K hK => ?_)
       refine skip_ (w1 := ?_) (by rfl) rfl ?_ ?_
       rotate_left
       ·
        go_simp
        rfl
       refine hK.out _ _ ?_
       clear hK K
       refine done_ (done_of HT_.out (by kernel_rfl)) ?_
       try go_wp2
       (try simp only [← hl6_1])
       go_roundg k1
       case measure => have := HK1.out; omega
       case rel => exact ⟨(y277), (wrap64 (x17_1 + 1)), qc8f_, H', ⟨by have := HK1.out; omega⟩, ⟨by (try simp only [hl6_1]); (with_reducible repeat (first | apply Kd.R_alloc | apply Kd.R_drewN | apply Kd.R_drew)); exact HQ12.out⟩, ⟨by repeat (first | (with_reducible first | exact HB.out | apply below_alloc | apply pw_below_drewN | apply below_drew1 | refine below_set ?_ GB10.out) | exact HB.out)⟩⟩
      ·
       rw [if_neg c9] at H
       exact absurd H (by simp)
     ·
      rw [if_neg c8] at H
      exact absurd H (by simp)
    ·
     rw [if_neg c7] at H
     exact absurd H (by simp)
   ·
    rw [if_neg c6] at H
    have c6b0 := decide_eq_false c6
    (try simp only [hl6_1] at c6b0)
    clear c6
    simp only [Option.some.injEq, Prod.mk.injEq] at H
    obtain ⟨rfl, rfl⟩ := H
    go_wp2
    go_ret2
    exact ⟨_, qce7_, q9d5_ HO_6.out, q0c4_⟩

/-! ### slices_Max_int_int: function 49 -/
def slices_Max_int_int.l0 : Nat → List Int → Int → Int → Option (Int)
 | 0, _, _, _ => none
 | k + 1, x0, x3, x4 => if x4 < (x0.length : Int) then (if 0 ≤ x4 then (slices_Max_int_int.l0 k x0 (mx x3 (rd x0 x4)) (wrap64 (x4 + 1))) else (none)) else (some x3)
def slices_Max_int_int.f (k : Nat) (l0 : List Int) : Option (Int) := if (l0.length : Int) < 1 then (none) else (if 0 < (l0.length : Int) then (slices_Max_int_int.l0 k l0 (rd l0 0) 1) else (none))
theorem slices_Max_int_int.mono_l : ∀ k, (∀ y0 y1 y2, LeO (slices_Max_int_int.l0 k y0 y1 y2) (slices_Max_int_int.l0 (k + 1) y0 y1 y2))
 | 0 => fun _ _ _ r h => by simp [slices_Max_int_int.l0] at h
 | k + 1 => by
  have ih0 := slices_Max_int_int.mono_l k
  ·
   intro y0 y1 y2
   unfold slices_Max_int_int.l0
   repeat' (with_reducible first | exact ih0 _ _ _ | exact LeO.refl _ | exact LeO.none _ | refine LeO.ite ?_ ?_ | refine LeO.bind ?_ (fun _ => ?_))
theorem slices_Max_int_int.mono : ∀ a0 k, LeO (slices_Max_int_int.f k a0) (slices_Max_int_int.f (k + 1) a0) := by
 intro a0 k
 have ih0 := slices_Max_int_int.mono_l k
 unfold slices_Max_int_int.f
 repeat' (with_reducible first | exact ih0 _ _ _ | exact LeO.refl _ | exact LeO.none _ | refine LeO.ite ?_ ?_ | refine LeO.bind ?_ (fun _ => ?_))
theorem slices_Max_int_int.calls (k : Nat) (A0 : Option Addr) (c0 : Nat) (l0 : List Int) (r : Int) (w : World) (hr0 : Kd.C (Kd.int .i64) w A0 l0.length l0) (hc0 : l0.length ≤ c0) (h : slices_Max_int_int.f k l0 = some r) :
  Calls Try.prog 49 #[.slice A0 l0.length c0] w fun e w' => e = .returned (.int .i64 r) ∧ Below w.heap.size w w' := by
 have HR0 := Aside0.mk hr0
 have HC0 := Aside0.mk hc0
 clear hr0 hc0
 have HB := Aside0.mk (Below.refl w.heap.size w)
 unfold slices_Max_int_int.f at h
 have H := h; clear h
 by_cases c2 : (l0.length : Int) < 1
 ·
  rw [if_pos c2] at H
  exact absurd H (by simp)
 ·
  rw [if_neg c2] at H
  have c2b0 := decide_eq_false c2
  have c2b1 : decide (l0.length < 1) = false := decide_eq_false (by omega)
  clear c2
  by_cases c3 : 0 < (l0.length : Int)
  ·
   rw [if_pos c3] at H
   have c3b0 := decide_eq_true c3
   have c3b1 : decide (0 < l0.length) = true := decide_eq_true (by omega)
   clear c3
   have H' := Aside0.mk H
   clear H
   have p278 : 0 ≤ (0 : Int) := (by omega)
   have q278 : 0 < (l0.length : Int) := of_decide_eq_true qe84_
   obtain ⟨ad278, e278, hx278_0⟩ := Kd.at_int HR0.out 0 p278 q278
   cases e278
   have qi278 : (0 < l0.length) = True := eq_true (by omega)
   (try rw [show ((0 : Int)).toNat = 0 from rfl] at hx278_0)
   (try rw [Addr.add_zero'] at hx278_0)
   replace p278 := eq_true p278
   replace q278 := eq_true q278
   go_enter Try.func49, Try.ntmps49
   go_wp2
   go_loopg [3, 4] k (fun kq v3 v4 w' => ∃ (x3_1 : Int) (x4_1 : Int), v3 = .int .i64 x3_1 ∧ v4 = .int .i64 x4_1 ∧ Aside0 (slices_Max_int_int.l0 kq l0 x3_1 x4_1 = some r) ∧ Aside0 (kq ≤ k) ∧ Aside0 (Below w.heap.size w w'))
   case atStart => exact ⟨(rd l0 0), (1), qc8f_, qc8f_, H', ⟨Nat.le_refl _⟩, ⟨q0c4_⟩⟩
   case round =>
    clear H'; try clear c2; try clear c2b0; try clear c2b1; try clear p2; try clear q2; try clear hx2; try clear qi2; try clear c3; try clear c3b0; try clear c3b1; try clear hx278_0; try clear p278; try clear q278
    obtain ⟨x3_1, x4_1, rfl, rfl, HA, HK1, HB⟩ := hrel
    cases gk with
    | zero => exact absurd HA.out (by simp [slices_Max_int_int.l0])
    | succ k1 =>
     have H := HA.out
     clear HA
     simp only [slices_Max_int_int.l0] at H
     by_cases c4 : x4_1 < (l0.length : Int)
     ·
      rw [if_pos c4] at H
      have c4b0 := decide_eq_true c4
      clear c4
      by_cases c5 : 0 ≤ x4_1
      ·
       rw [if_pos c5] at H
       have c5b0 := decide_eq_true c5
       clear c5
       obtain ⟨ji6, hji6⟩ : ∃ j_ : Int, (mx x3_1 (rd l0 x4_1)) = j_ := ⟨_, rfl⟩
       replace H : (slices_Max_int_int.l0 k1 l0 ji6 (wrap64 (x4_1 + 1))) = some r := by first | (rw [hji6] at H; exact H) | (simp only [hji6] at H ⊢; exact H)
       have hji6_ : (if x3_1 < (rd l0 x4_1) then (rd l0 x4_1) else x3_1) = ji6 := hji6
       have H' := Aside0.mk H
       clear H
       have p279 : 0 ≤ (x4_1 : Int) := of_decide_eq_true qe84_
       have q279 : x4_1 < (l0.length : Int) := of_decide_eq_true qe84_
       obtain ⟨ad279, e279, hx279_0⟩ := Kd.at_int HR0.out x4_1 p279 q279
       obtain rfl : ad278 = ad279 := (by injection e279)
       (try (replace hx279_0 := (HB.out.cell (World.block_lt_of_cell? w _ hx279_0)).trans hx279_0))
       replace p279 := eq_true p279
       replace q279 := eq_true q279
       go_wp2
       go_roundg k1
       case measure => have := HK1.out; omega
       case rel => exact ⟨(ji6), (wrap64 (x4_1 + 1)), (by first | rfl | (simp; done) | (simp only [← hji6] <;> (first | rfl | simp)) | (simp [*]; done)), qc8f_, H', ⟨by have := HK1.out; omega⟩, ⟨q0c4_⟩⟩
      ·
       rw [if_neg c5] at H
       exact absurd H (by simp)
     ·
      rw [if_neg c4] at H
      have c4b0 := decide_eq_false c4
      clear c4
      obtain rfl := Option.some.inj H
      go_wp2
      go_ret
      exact ⟨qce7_, q0c4_⟩
  ·
   rw [if_neg c3] at H
   exact absurd H (by simp)

/-! ### impl_greatest: function 41 -/
def impl_greatest.f (k : Nat) (l0 : List Int) (a1 : Int) : Option (Int) := (impl_DistancesOf.f k l0 a1).bind fun bt280 => (if bt280.1.length < 17592186044416 then ((slices_Max_int_int.f k (bt280.1 ++ [0])).bind fun t287 => (some t287)) else (none))
theorem impl_greatest.mono : ∀ a0 a1 k, LeO (impl_greatest.f k a0 a1) (impl_greatest.f (k + 1) a0 a1) := by
 intro a0 a1 k
 unfold impl_greatest.f
 repeat' (with_reducible first | exact impl_DistancesOf.mono _ _ _ | exact slices_Max_int_int.mono _ _ | exact LeO.refl _ | exact LeO.none _ | refine LeO.ite ?_ ?_ | refine LeO.bind ?_ (fun _ => ?_))
theorem impl_greatest.calls (k : Nat) (A0 : Option Addr) (c0 : Nat) (l0 : List Int) (a1 : Int) (r : Int) (w : World) (hr0 : Kd.C (Kd.int .i64) w A0 l0.length l0) (hc0 : l0.length ≤ c0) (h : impl_greatest.f k l0 a1 = some r) :
  Calls Try.prog 41 #[.slice A0 l0.length c0, .int .i64 a1] w fun e w' => e = .returned (.int .i64 r) ∧ Below w.heap.size w w' := by
 have HR0 := Aside0.mk hr0
 have HC0 := Aside0.mk hc0
 clear hr0 hc0
 have HB := Aside0.mk (Below.refl w.heap.size w)
 unfold impl_greatest.f at h
 have H := h; clear h
 obtain ⟨⟨t280, t281⟩, A3, H⟩ := ob_ H
 dsimp only at H
 by_cases c4 : t280.length < 17592186044416
 ·
  rw [if_pos c4] at H
  have LMc4 := Aside0.mk c4
  clear c4
  obtain ⟨y284, hy284⟩ : ∃ y_ : List Int, y_ = (t280 ++ [0]) := ⟨_, rfl⟩
  replace H : ((slices_Max_int_int.f k y284).bind fun t287 => (some t287)) = some r := by first | (rw [hy284]; with_reducible exact H) | (have H2_ := (Option.bind_some _ _).symm.trans H; rw [hy284]; with_reducible exact H2_) | (have H2_ := (Option.bind_some _ _).symm.trans H; with_reducible exact H2_) | with_reducible exact H | (rw [hy284]; exact H) | exact H
  have Ny284 := Aside0.mk hy284
  clear hy284
  obtain ⟨t287, A5, H⟩ := ob_ H
  obtain rfl := Option.some.inj H
  go_enter Try.func41, Try.ntmps41
  go_wp2_with (first | ((with_reducible refine gate_callee (f := 48) rfl ?_); refine gl_ 10 Try.func48 #[.slice A0 l0.length c0, .int .i64 a1] ?_; (with_reducible refine (impl_DistancesOf.calls k _ _ l0 a1 t280 t281 _ ?s1 ?s2 A3.out).mono ?_); (case s1 => exact q201_ HR0.out); (case s2 => exact HC0.out); rintro e w6 ⟨v282, rfl, ho0, hb⟩; refine ⟨_, rfl, ?_⟩; have HO283 := Aside0.mk (Kd.R_lower ho0 (below_size q0c4_)); replace HB := Aside0.mk (below_step q0c4_ hb); clear hb ho0) | ((with_reducible refine gate_builtin (b := .append) (xs := #[.tmp 13, .tmp 14]) rfl ?_); at_builtin; refine Kd.R_append (Kd.int .i64) (w0 := w) w.heap.size rfl (.tmp 13) (.tmp 14) 24 3 (.int .i64 0) 8 rfl Try.underlying24 info3 rfl (by decide) (by omega) v282 t280 0 [.int .i64 0] (fun _ => True) (fun _ => False) rfl rfl ?aP (fun _ hk => hk.elim) ?aF ?aO ?aB ?aS ?aL ?_; (case aP => exact rfl); (case aB => exact q0c4_); (case aF => exact (fun _ _ => trivial)); (case aO => exact (q9d5_ HO283.out)); (case aS => exact (below_size q0c4_)); (case aL => have := LMc4.out; omega); intro v285 w7 ho hb hg hat; rw [← Ny284.out] at ho; have n0_ := Aside0.mk (hb); have n1_ := Aside0.mk (ho); replace HB := n0_; have HO286 := n1_; clear n0_ n1_; clear ho hb hg hat; obtain ⟨Ao8, co8, eo8⟩ := Kd.R_slice HO286.out; subst eo8) | ((with_reducible refine gate_callee (f := 49) rfl ?_); refine gl_ 16 Try.func49 #[.slice Ao8 y284.length co8] ?_; (with_reducible refine (slices_Max_int_int.calls k _ _ y284 t287 _ ?s1 ?s2 A5.out).mono ?_); (case s1 => exact q5a8_ HO286.out); (case s2 => exact (Kd.R_reads' HO286.out).2.1); rintro e w9 ⟨rfl, hb⟩; refine ⟨_, rfl, ?_⟩; replace HO286 := Aside0.mk (Kd.R_below (q9d5_ HO286.out) hb); replace HB := Aside0.mk (below_step q0c4_ hb); clear hb))
  go_ret
  exact ⟨qce7_, q0c4_⟩
 ·
  rw [if_neg c4] at H
  exact absurd H (by simp)

/-! ### impl_isUnit: function 31 -/
def impl_isUnit.f (k : Nat) (l0 : List Int) (a1 : Int) : Option (Bool) := if (l0.length : Int) = 0 then (some true) else ((impl_greatest.f k l0 (l0.length : Int)).bind fun t288 => (some (decide (t288 ≤ a1))))
theorem impl_isUnit.mono : ∀ a0 a1 k, LeO (impl_isUnit.f k a0 a1) (impl_isUnit.f (k + 1) a0 a1) := by
 intro a0 a1 k
 unfold impl_isUnit.f
 repeat' (with_reducible first | exact impl_greatest.mono _ _ _ | exact LeO.refl _ | exact LeO.none _ | refine LeO.ite ?_ ?_ | refine LeO.bind ?_ (fun _ => ?_))
theorem impl_isUnit.calls (k : Nat) (A0 : Option Addr) (c0 : Nat) (l0 : List Int) (a1 : Int) (r : Bool) (w : World) (hr0 : Kd.C (Kd.int .i64) w A0 l0.length l0) (hc0 : l0.length ≤ c0) (h : impl_isUnit.f k l0 a1 = some r) :
  Calls Try.prog 31 #[.slice A0 l0.length c0, .int .i64 a1] w fun e w' => e = .returned (.bool r) ∧ Below w.heap.size w w' := by
 have HR0 := Aside0.mk hr0
 have HC0 := Aside0.mk hc0
 clear hr0 hc0
 have HB := Aside0.mk (Below.refl w.heap.size w)
 unfold impl_isUnit.f at h
 have H := h; clear h
 by_cases c3 : (l0.length : Int) = 0
 ·
  rw [if_pos c3] at H
  have c3b0 := beq_iff_eq.mpr c3
  have c3b1 := bne_eq_false_iff_eq.mpr c3
  clear c3
  obtain rfl := Option.some.inj H
  go_enter Try.func31, Try.ntmps31
  go_wp2
  go_ret
  exact ⟨qce7_, q0c4_⟩
 ·
  rw [if_neg c3] at H
  have c3b0 := beq_eq_false_iff_ne.mpr c3
  have c3b1 := bne_iff_ne.mpr c3
  have c3b2 : ¬ (l0 = []) := fun h_ => c3 (by rw [h_]; rfl)
  obtain ⟨t288, A4, H⟩ := ob_ H
  obtain rfl := Option.some.inj H
  go_enter Try.func31, Try.ntmps31
  go_wp2_with (first | (go_at_call 41; (with_reducible refine (impl_greatest.calls k _ _ l0 (l0.length : Int) t288 _ ?s1 ?s2 A4.out).mono ?_); (case s1 => exact q201_ HR0.out); (case s2 => exact HC0.out); rintro e w5 ⟨rfl, hb⟩; replace HB := Aside0.mk (below_step q0c4_ hb); clear hb))
  go_ret
  exact ⟨qce7_, q0c4_⟩

end Go.Proofs.Ytdhfildgjmkgaaa.PAll
