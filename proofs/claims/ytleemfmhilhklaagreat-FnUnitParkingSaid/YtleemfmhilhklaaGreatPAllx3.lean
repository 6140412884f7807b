-- written by a program of this session (wip/gen/xpatch.py over the translation); Lean checks it
import Derived.Test.YtleemfmhilhklaaGreatPAllx0
import Derived.Test.YtleemfmhilhklaaGreatPAllx1
import Derived.Test.YtleemfmhilhklaaGreatPAllx2
namespace Go.Proofs.YtleemfmhilhklaaGreat.PAll
open Go.RowKit Go.Proofs.YtleemfmhilhklaaGreat.Hand Go.Proofs.YtleemfmhilhklaaGreatW.PrintWords Go.Proofs.YtleemfmhilhklaaGreatW.PrintLast Go.Proofs.YtleemfmhilhklaaGreatW.PrintMore
attribute [local go_sem] max2_int min2_int max_two min_two max_three min_three max_four min_four   -- for this text's walks alone
set_option maxHeartbeats 8000000
set_option maxRecDepth 100000
set_option linter.unusedVariables false
set_option linter.unusedSimpArgs false

/-! ### slices_Max_int_int: function 62 -/
def slices_Max_int_int.l0 : Nat → List Int → Int → Int → Option (Int)
 | 0, _, _, _ => none
 | k + 1, x0, x3, x4 => if x4 < (x0.length : Int) then (if 0 ≤ x4 then (slices_Max_int_int.l0 k x0 (mx x3 (rd x0 x4)) (wrap64 (x4 + 1))) else (none)) else (some x3)
def slices_Max_int_int.f (k : Nat) (l0 : List Int) : Option (Int) := if (l0.length : Int) < 1 then (none) else (if 0 < (l0.length : Int) then (slices_Max_int_int.l0 k l0 (rd l0 0) 1) else (none))
theorem slices_Max_int_int.mono_l : ∀ k, (∀ y0 y1 y2, LeO (slices_Max_int_int.l0 k y0 y1 y2) (slices_Max_int_int.l0 (k + 1) y0 y1 y2))
 | 0 => fun _ _ _ r h => by simp [slices_Max_int_int.l0] at h
 | k + 1 => by
  have ih0 := slices_Max_int_int.mono_l k
  ·
   intro y0 y1 y2
   unfold slices_Max_int_int.l0
   repeat' (with_reducible first | exact ih0 _ _ _ | exact LeO.refl _ | exact LeO.none _ | refine LeO.ite ?_ ?_ | refine LeO.bind ?_ (fun _ => ?_))
theorem slices_Max_int_int.mono : ∀ a0 k, LeO (slices_Max_int_int.f k a0) (slices_Max_int_int.f (k + 1) a0) := by
 intro a0 k
 have ih0 := slices_Max_int_int.mono_l k
 unfold slices_Max_int_int.f
 repeat' (with_reducible first | exact ih0 _ _ _ | exact LeO.refl _ | exact LeO.none _ | refine LeO.ite ?_ ?_ | refine LeO.bind ?_ (fun _ => ?_))
theorem slices_Max_int_int.calls (k : Nat) (A0 : Option Addr) (c0 : Nat) (l0 : List Int) (r : Int) (w : World) (hr0 : Kd.C (Kd.int .i64) w A0 l0.length l0) (hc0 : l0.length ≤ c0) (h : slices_Max_int_int.f k l0 = some r) :
  Calls Tryz.prog 62 #[.slice A0 l0.length c0] w fun e w' => e = .returned (.int .i64 r) ∧ Below w.heap.size w w' := by
 have HR0 := Aside0.mk hr0
 have HC0 := Aside0.mk hc0
 clear hr0 hc0
 have HB := Aside0.mk (Below.refl w.heap.size w)
 unfold slices_Max_int_int.f at h
 have H := h; clear h
 by_cases c2 : (l0.length : Int) < 1
 ·
  rw [if_pos c2] at H
  exact absurd H (by simp)
 ·
  rw [if_neg c2] at H
  have c2b0 := decide_eq_false c2
  have c2b1 : decide (l0.length < 1) = false := decide_eq_false (by omega)
  clear c2
  by_cases c3 : 0 < (l0.length : Int)
  ·
   rw [if_pos c3] at H
   have c3b0 := decide_eq_true c3
   have c3b1 : decide (0 < l0.length) = true := decide_eq_true (by omega)
   clear c3
   have H' := Aside0.mk H
   clear H
   have p281 : 0 ≤ (0 : Int) := (by omega)
   have q281 : 0 < (l0.length : Int) := of_decide_eq_true qe84_
   obtain ⟨ad281, e281, hx281_0⟩ := Kd.at_int HR0.out 0 p281 q281
   cases e281
   have qi281 : (0 < l0.length) = True := eq_true (by omega)
   (try rw [show ((0 : Int)).toNat = 0 from rfl] at hx281_0)
   (try rw [Addr.add_zero'] at hx281_0)
   replace p281 := eq_true p281
   replace q281 := eq_true q281
   go_enter Tryz.func62, Tryz.ntmps62
   go_wp2
   go_loopg [3, 4] k (fun kq v3 v4 w' => ∃ (x3_1 : Int) (x4_1 : Int), v3 = .int .i64 x3_1 ∧ v4 = .int .i64 x4_1 ∧ Aside0 (slices_Max_int_int.l0 kq l0 x3_1 x4_1 = some r) ∧ Aside0 (kq ≤ k) ∧ Aside0 (Below w.heap.size w w'))
   case atStart => exact ⟨(rd l0 0), (1), qc8f_, qc8f_, H', ⟨Nat.le_refl _⟩, ⟨q0c4_⟩⟩
   case round =>
    clear H'; try clear c2; try clear c2b0; try clear c2b1; try clear p2; try clear q2; try clear hx2; try clear qi2; try clear c3; try clear c3b0; try clear c3b1; try clear hx281_0; try clear p281; try clear q281
    obtain ⟨x3_1, x4_1, rfl, rfl, HA, HK1, HB⟩ := hrel
    cases gk with
    | zero => exact absurd HA.out (by simp [slices_Max_int_int.l0])
    | succ k1 =>
     have H := HA.out
     clear HA
     simp only [slices_Max_int_int.l0] at H
     by_cases c4 : x4_1 < (l0.length : Int)
     ·
      rw [if_pos c4] at H
      have c4b0 := decide_eq_true c4
      clear c4
      by_cases c5 : 0 ≤ x4_1
      ·
       rw [if_pos c5] at H
       have c5b0 := decide_eq_true c5
       clear c5
       obtain ⟨ji6, hji6⟩ : ∃ j_ : Int, (mx x3_1 (rd l0 x4_1)) = j_ := ⟨_, rfl⟩
       replace H : (slices_Max_int_int.l0 k1 l0 ji6 (wrap64 (x4_1 + 1))) = some r := by first | (rw [hji6] at H; exact H) | (simp only [hji6] at H ⊢; exact H)
       have hji6_ : (if x3_1 < (rd l0 x4_1) then (rd l0 x4_1) else x3_1) = ji6 := hji6
       have H' := Aside0.mk H
       clear H
       have p282 : 0 ≤ (x4_1 : Int) := of_decide_eq_true qe84_
       have q282 : x4_1 < (l0.length : Int) := of_decide_eq_true qe84_
       obtain ⟨ad282, e282, hx282_0⟩ := Kd.at_int HR0.out x4_1 p282 q282
       obtain rfl : ad281 = ad282 := (by injection e282)
       (try (replace hx282_0 := (HB.out.cell (World.block_lt_of_cell? w _ hx282_0)).trans hx282_0))
       replace p282 := eq_true p282
       replace q282 := eq_true q282
       go_wp2
       go_roundg k1
       case measure => have := HK1.out; omega
       case rel => exact ⟨(ji6), (wrap64 (x4_1 + 1)), (by first | rfl | (simp; done) | (simp only [← hji6] <;> (first | rfl | simp)) | (simp [*]; done)), qc8f_, H', ⟨q1d0_ HK1.out⟩, ⟨q0c4_⟩⟩
      ·
       rw [if_neg c5] at H
       exact absurd H (by simp)
     ·
      rw [if_neg c4] at H
      have c4b0 := decide_eq_false c4
      clear c4
      obtain rfl := Option.some.inj H
      go_wp2
      go_ret
      exact ⟨qce7_, q0c4_⟩
  ·
   rw [if_neg c3] at H
   exact absurd H (by simp)

/-! ### impl_greatest: function 49 -/
def impl_greatest.f (k : Nat) (l0 : List Int) (a1 : Int) : Option (Int) := (impl_DistancesOf.f k l0 a1).bind fun bt283 => (if bt283.1.length < 17592186044416 then ((slices_Max_int_int.f k (bt283.1 ++ [0])).bind fun t290 => (some t290)) else (none))
theorem impl_greatest.mono : ∀ a0 a1 k, LeO (impl_greatest.f k a0 a1) (impl_greatest.f (k + 1) a0 a1) := by
 intro a0 a1 k
 unfold impl_greatest.f
 repeat' (with_reducible first | exact impl_DistancesOf.mono _ _ _ | exact slices_Max_int_int.mono _ _ | exact LeO.refl _ | exact LeO.none _ | refine LeO.ite ?_ ?_ | refine LeO.bind ?_ (fun _ => ?_))
theorem impl_greatest.calls (k : Nat) (A0 : Option Addr) (c0 : Nat) (l0 : List Int) (a1 : Int) (r : Int) (w : World) (hr0 : Kd.C (Kd.int .i64) w A0 l0.length l0) (hc0 : l0.length ≤ c0) (h : impl_greatest.f k l0 a1 = some r) :
  Calls Tryz.prog 49 #[.slice A0 l0.length c0, .int .i64 a1] w fun e w' => e = .returned (.int .i64 r) ∧ Below w.heap.size w w' := by
 have HR0 := Aside0.mk hr0
 have HC0 := Aside0.mk hc0
 clear hr0 hc0
 have HB := Aside0.mk (Below.refl w.heap.size w)
 unfold impl_greatest.f at h
 have H := h; clear h
 obtain ⟨⟨t283, t284⟩, A3, H⟩ := ob_ H
 dsimp only at H
 by_cases c4 : t283.length < 17592186044416
 ·
  rw [if_pos c4] at H
  have LMc4 := Aside0.mk c4
  clear c4
  obtain ⟨y287, hy287⟩ : ∃ y_ : List Int, y_ = (t283 ++ [0]) := ⟨_, rfl⟩
  replace H : ((slices_Max_int_int.f k y287).bind fun t290 => (some t290)) = some r := by first | (rw [hy287]; with_reducible exact H) | (have H2_ := (Option.bind_some _ _).symm.trans H; rw [hy287]; with_reducible exact H2_) | (have H2_ := (Option.bind_some _ _).symm.trans H; with_reducible exact H2_) | with_reducible exact H | (rw [hy287]; exact H) | exact H
  have Ny287 := Aside0.mk hy287
  clear hy287
  obtain ⟨t290, A5, H⟩ := ob_ H
  obtain rfl := Option.some.inj H
  go_enter Tryz.func49, Tryz.ntmps49
  go_wp2_with (first | ((with_reducible refine gate_callee (f := 61) rfl ?_); refine gl_ 10 Tryz.func61 #[.slice A0 l0.length c0, .int .i64 a1] ?_; (with_reducible refine (impl_DistancesOf.calls k _ _ l0 a1 t283 t284 _ ?s1 ?s2 A3.out).mono ?_); (case s1 => exact q201_ HR0.out); (case s2 => exact HC0.out); rintro e w6 ⟨v285, rfl, ho0, hb⟩; refine ⟨_, rfl, ?_⟩; have HO286 := Aside0.mk (Kd.R_lower ho0 (below_size q0c4_)); replace HB := Aside0.mk (below_step q0c4_ hb); clear hb ho0) | ((with_reducible refine gate_builtin (b := .append) (xs := #[.tmp 13, .tmp 14]) rfl ?_); at_builtin; refine Kd.R_append (Kd.int .i64) (w0 := w) w.heap.size rfl (.tmp 13) (.tmp 14) 24 3 (.int .i64 0) 8 rfl Tryz.underlying24 info3 rfl (by decide) (by omega) v285 t283 0 [.int .i64 0] (fun _ => True) (fun _ => False) rfl rfl ?aP (fun _ hk => hk.elim) ?aF ?aO ?aB ?aS ?aL ?_; (case aP => exact rfl); (case aB => exact q0c4_); (case aF => exact (fun _ _ => trivial)); (case aO => exact (q9d5_ HO286.out)); (case aS => exact (below_size q0c4_)); (case aL => have := LMc4.out; omega); intro v288 w7 ho hb hg hat; rw [← Ny287.out] at ho; have n0_ := Aside0.mk (hb); have n1_ := Aside0.mk (ho); replace HB := n0_; have HO289 := n1_; clear n0_ n1_; clear ho hb hg hat; obtain ⟨Ao8, co8, eo8⟩ := Kd.R_slice HO289.out; subst eo8) | ((with_reducible refine gate_callee (f := 62) rfl ?_); refine gl_ 16 Tryz.func62 #[.slice Ao8 y287.length co8] ?_; (with_reducible refine (slices_Max_int_int.calls k _ _ y287 t290 _ ?s1 ?s2 A5.out).mono ?_); (case s1 => exact q5a8_ HO289.out); (case s2 => exact (Kd.R_reads' HO289.out).2.1); rintro e w9 ⟨rfl, hb⟩; refine ⟨_, rfl, ?_⟩; replace HO289 := Aside0.mk (Kd.R_below (q9d5_ HO289.out) hb); replace HB := Aside0.mk (below_step q0c4_ hb); clear hb))
  go_ret
  exact ⟨qce7_, q0c4_⟩
 ·
  rw [if_neg c4] at H
  exact absurd H (by simp)

/-! ### impl_isUnit: function 22 -/
def impl_isUnit.f (k : Nat) (l0 : List Int) (a1 : Int) : Option (Bool) := if (l0.length : Int) = 0 then (some true) else ((impl_greatest.f k l0 (l0.length : Int)).bind fun t291 => (some (decide (t291 ≤ a1))))
theorem impl_isUnit.mono : ∀ a0 a1 k, LeO (impl_isUnit.f k a0 a1) (impl_isUnit.f (k + 1) a0 a1) := by
 intro a0 a1 k
 unfold impl_isUnit.f
 repeat' (with_reducible first | exact impl_greatest.mono _ _ _ | exact LeO.refl _ | exact LeO.none _ | refine LeO.ite ?_ ?_ | refine LeO.bind ?_ (fun _ => ?_))
theorem impl_isUnit.calls (k : Nat) (A0 : Option Addr) (c0 : Nat) (l0 : List Int) (a1 : Int) (r : Bool) (w : World) (hr0 : Kd.C (Kd.int .i64) w A0 l0.length l0) (hc0 : l0.length ≤ c0) (h : impl_isUnit.f k l0 a1 = some r) :
  Calls Tryz.prog 22 #[.slice A0 l0.length c0, .int .i64 a1] w fun e w' => e = .returned (.bool r) ∧ Below w.heap.size w w' := by
 have HR0 := Aside0.mk hr0
 have HC0 := Aside0.mk hc0
 clear hr0 hc0
 have HB := Aside0.mk (Below.refl w.heap.size w)
 unfold impl_isUnit.f at h
 have H := h; clear h
 by_cases c3 : (l0.length : Int) = 0
 ·
  rw [if_pos c3] at H
  have c3b0 := beq_iff_eq.mpr c3
  have c3b1 := bne_eq_false_iff_eq.mpr c3
  clear c3
  obtain rfl := Option.some.inj H
  go_enter Tryz.func22, Tryz.ntmps22
  go_wp2
  go_ret
  exact ⟨qce7_, q0c4_⟩
 ·
  rw [if_neg c3] at H
  have c3b0 := beq_eq_false_iff_ne.mpr c3
  have c3b1 := bne_iff_ne.mpr c3
  have c3b2 : ¬ (l0 = []) := fun h_ => c3 (by rw [h_]; rfl)
  obtain ⟨t291, A4, H⟩ := ob_ H
  obtain rfl := Option.some.inj H
  go_enter Tryz.func22, Tryz.ntmps22
  go_wp2_with (first | (go_at_call 49; (with_reducible refine (impl_greatest.calls k _ _ l0 (l0.length : Int) t291 _ ?s1 ?s2 A4.out).mono ?_); (case s1 => exact q201_ HR0.out); (case s2 => exact HC0.out); rintro e w5 ⟨rfl, hb⟩; replace HB := Aside0.mk (below_step q0c4_ hb); clear hb))
  go_ret
  exact ⟨qce7_, q0c4_⟩

/-! ### impl_blocks: function 23 -/
def impl_blocks.l0 : Nat → List Int → List (List Int) → List Int → Int → Int → Option ((List (List Int)))
 | 0, _, _, _, _, _ => none
 | k + 1, x0, x3, x8, x9, x10 => if x10 < x9 then (if 0 ≤ x10 then (if x10 < (x8.length : Int) then (if 0 ≤ (rd x8 x10) then (if (rd x8 x10) < (x0.length : Int) then (if (rd x0 (rd x8 x10)) = x10 then (if x3.length < 5864062014805 then ((some (x3 ++ [[]] : List (List Int))).bind fun y300 => (if 0 ≤ (wrap64 ((y300.length : Int) - 1)) then (if (wrap64 ((y300.length : Int) - 1)) < (y300.length : Int) then (if (rd_L3 y300 (wrap64 ((y300.length : Int) - 1))).length < 17592186044416 then (impl_blocks.l0 k x0 (y300.set ((wrap64 ((y300.length : Int) - 1)) : Int).toNat ((rd_L3 y300 (wrap64 ((y300.length : Int) - 1))) ++ [rd x8 x10])) x8 x9 (wrap64 (x10 + 1))) else (none)) else (none)) else (none))) else (none)) else (if 0 ≤ (wrap64 ((x3.length : Int) - 1)) then (if (wrap64 ((x3.length : Int) - 1)) < (x3.length : Int) then (if (rd_L3 x3 (wrap64 ((x3.length : Int) - 1))).length < 17592186044416 then (impl_blocks.l0 k x0 (x3.set ((wrap64 ((x3.length : Int) - 1)) : Int).toNat ((rd_L3 x3 (wrap64 ((x3.length : Int) - 1))) ++ [rd x8 x10])) x8 x9 (wrap64 (x10 + 1))) else (none)) else (none)) else (none))) else (none)) else (none)) else (none)) else (none)) else (some x3)
def impl_blocks.f (k : Nat) (l0 : List Int) : Option ((List (List Int))) := (impl_fair.f l0).bind fun t295 => (impl_blocks.l0 k l0 (([] : List (List Int))) t295 (t295.length : Int) 0)
theorem impl_blocks.mono_l : ∀ k, (∀ y0 y1 y2 y3 y4, LeO (impl_blocks.l0 k y0 y1 y2 y3 y4) (impl_blocks.l0 (k + 1) y0 y1 y2 y3 y4))
 | 0 => fun _ _ _ _ _ r h => by simp [impl_blocks.l0] at h
 | k + 1 => by
  have ih0 := impl_blocks.mono_l k
  ·
   intro y0 y1 y2 y3 y4
   unfold impl_blocks.l0
   repeat' (with_reducible first | exact ih0 _ _ _ _ _ | exact LeO.refl _ | exact LeO.none _ | refine LeO.ite ?_ ?_ | refine LeO.bind ?_ (fun _ => ?_))
theorem impl_blocks.mono : ∀ a0 k, LeO (impl_blocks.f k a0) (impl_blocks.f (k + 1) a0) := by
 intro a0 k
 have ih0 := impl_blocks.mono_l k
 unfold impl_blocks.f
 repeat' (with_reducible first | exact ih0 _ _ _ _ _ | exact LeO.refl _ | exact LeO.none _ | refine LeO.ite ?_ ?_ | refine LeO.bind ?_ (fun _ => ?_))
theorem impl_blocks.calls (k : Nat) (A0 : Option Addr) (c0 : Nat) (l0 : List Int) (r : List (List Int)) (w : World) (hr0 : Kd.C (Kd.int .i64) w A0 l0.length l0) (hc0 : l0.length ≤ c0) (h : impl_blocks.f k l0 = some r) :
  Calls Tryz.prog 23 #[.slice A0 l0.length c0] w fun e w' => ∃ v0_ : Value, e = .returned (v0_) ∧ Kd.S (Kd.slice 3 (Kd.int .i64)) 24 w' w.heap.size (fun _ => True) v0_ r ∧ Below w.heap.size w w' := by
 have HR0 := Aside0.mk hr0
 have HC0 := Aside0.mk hc0
 clear hr0 hc0
 have HB := Aside0.mk (Below.refl w.heap.size w)
 unfold impl_blocks.f at h
 have H := h; clear h
 obtain ⟨y292, hy292⟩ : ∃ y_ : List (List Int), y_ = (([] : List (List Int))) := ⟨_, rfl⟩
 replace H : ((impl_fair.f l0).bind fun t295 => (impl_blocks.l0 k l0 y292 t295 (t295.length : Int) 0)) = some r := by first | (rw [hy292]; with_reducible exact H) | (have H2_ := (Option.bind_some _ _).symm.trans H; rw [hy292]; with_reducible exact H2_) | (have H2_ := (Option.bind_some _ _).symm.trans H; with_reducible exact H2_) | with_reducible exact H | (rw [hy292]; exact H) | exact H
 have Ny292 := Aside0.mk hy292
 clear hy292
 obtain ⟨t295, A2, H⟩ := ob_ H
 have H' := Aside0.mk H
 clear H
 go_enter Tryz.func23, Tryz.ntmps23
 go_wp2_with (first | ((with_reducible refine gate_dst (N := 6) rfl ?_); refine Kd.S_lit (Kd.slice 3 (Kd.int .i64)) _ 24 ?hg (N := 6) ?hd (xs := ([] : List (List Int))) (inner := []) (ok := fun _ => True) (okp := fun _ => True) ?hr ?hp (fun _ hk => hk) trivial (Below.refl _ _) (Nat.le_refl _) (by simp) ?_; (case hd => rfl); (case hg => rfl); (case hr => exact qba7_); (case hp => exact (Reps.none _ _)); intro v293 w3 ho4 hb hg_ hnew_; clear hg_ hnew_; (first | rw [← Ny292.out] at ho4 | (simp only [Int.reduceToNat] at ho4; rw [← Ny292.out] at ho4)); have HO294 := Aside0.mk (Kd.S_lower ho4 (below_size q0c4_)); replace HB := Aside0.mk (below_step q0c4_ hb); clear hb ho4) | ((with_reducible refine gate_callee (f := 50) rfl ?_); refine gl_ 8 Tryz.func50 #[.slice A0 l0.length c0] ?_; (with_reducible refine (impl_fair.calls _ _ l0 t295 _ ?s1 ?s2 A2.out).mono ?_); (case s1 => exact qe02_ HR0.out); (case s2 => exact HC0.out); rintro e w5 ⟨v296, rfl, ho0, hb⟩; refine ⟨_, rfl, ?_⟩; replace HO294 := Aside0.mk (Kd.S_elder' (qd7e_ HO294.out) (Kd.R_base ho0) hb); have HO297 := Aside0.mk (Kd.R_lower ho0 (below_size q0c4_)); replace HB := Aside0.mk (below_step q0c4_ hb); clear hb ho0; obtain ⟨Ao6, co6, eo6⟩ := Kd.R_slice HO297.out; subst eo6))
 go_loopg [3, 10] k (fun kq v3 v10 w' => ∃ (x3_1 : List (List Int)) (x10_1 : Int), v10 = .int .i64 x10_1 ∧ Aside0 (impl_blocks.l0 kq l0 x3_1 t295 (t295.length : Int) x10_1 = some r) ∧ Aside0 (kq ≤ k) ∧ Aside0 (Kd.S (Kd.slice 3 (Kd.int .i64)) 24 w' w.heap.size (fun k_ => some k_ ≠ ((.slice Ao6 t295.length co6) : Value).ownBlock) v3 x3_1) ∧ Aside0 (Kd.R (Kd.int .i64) 3 w' w.heap.size (fun _ => True) (.slice Ao6 t295.length co6) t295) ∧ Aside0 (Below w.heap.size w w'))
 case atStart => exact ⟨(y292), (0), qc8f_, H', ⟨Nat.le_refl _⟩, ⟨by (with_reducible repeat (first | apply Kd.S_alloc | apply Kd.S_drewN | apply Kd.S_drew)); exact Kd.S_mono HO294.out (fun _ hk => hk.2)⟩, ⟨q9d5_ HO297.out⟩, ⟨q0c4_⟩⟩
 case round =>
  clear H'; try clear c2; try clear p2; try clear c5
  obtain ⟨x3_1, x10_1, rfl, HA, HK1, HO_3, HO_8, HB⟩ := hrel
  cases gk with
  | zero => exact absurd HA.out (by simp [impl_blocks.l0])
  | succ k1 =>
   have H := HA.out
   clear HA
   simp only [impl_blocks.l0] at H
   by_cases c7 : x10_1 < (t295.length : Int)
   ·
    rw [if_pos c7] at H
    have c7b0 := decide_eq_true c7
    clear c7
    by_cases c8 : 0 ≤ x10_1
    ·
     rw [if_pos c8] at H
     have c8b0 := decide_eq_true c8
     clear c8
     by_cases c9 : x10_1 < (t295.length : Int)
     ·
      rw [if_pos c9] at H
      have c9b0 := decide_eq_true c9
      clear c9
      by_cases c10 : 0 ≤ (rd t295 x10_1)
      ·
       rw [if_pos c10] at H
       have c10b0 := decide_eq_true c10
       clear c10
       by_cases c11 : (rd t295 x10_1) < (l0.length : Int)
       ·
        rw [if_pos c11] at H
        have c11b0 := decide_eq_true c11
        clear c11
        by_cases c12 : (rd l0 (rd t295 x10_1)) = x10_1
        ·
         rw [if_pos c12] at H
         have c12b0 := beq_iff_eq.mpr c12
         have c12b1 := bne_eq_false_iff_eq.mpr c12
         clear c12
         by_cases c13 : x3_1.length < 5864062014805
         ·
          rw [if_pos c13] at H
          have LMc13 := Aside0.mk c13
          clear c13
          obtain ⟨y300, hy300⟩ : ∃ y_ : List (List Int), y_ = (x3_1 ++ [[]]) := ⟨_, rfl⟩
          replace H : (if 0 ≤ (wrap64 ((y300.length : Int) - 1)) then (if (wrap64 ((y300.length : Int) - 1)) < (y300.length : Int) then (if (rd_L3 y300 (wrap64 ((y300.length : Int) - 1))).length < 17592186044416 then (impl_blocks.l0 k1 l0 (y300.set ((wrap64 ((y300.length : Int) - 1)) : Int).toNat ((rd_L3 y300 (wrap64 ((y300.length : Int) - 1))) ++ [rd t295 x10_1])) t295 (t295.length : Int) (wrap64 (x10_1 + 1))) else (none)) else (none)) else (none)) = some r := by first | (rw [hy300]; with_reducible exact H) | (have H2_ := (Option.bind_some _ _).symm.trans H; rw [hy300]; with_reducible exact H2_) | (have H2_ := (Option.bind_some _ _).symm.trans H; with_reducible exact H2_) | with_reducible exact H | (rw [hy300]; exact H) | exact H
          have Ny300 := Aside0.mk hy300
          clear hy300
          obtain ⟨ji14, hji14⟩ : ∃ j_ : Int, (wrap64 ((y300.length : Int) - 1)) = j_ := ⟨_, rfl⟩
          replace H : (if 0 ≤ (ji14) then (if (ji14) < (y300.length : Int) then (if (rd_L3 y300 (ji14)).length < 17592186044416 then (impl_blocks.l0 k1 l0 (y300.set ((ji14) : Int).toNat ((rd_L3 y300 (ji14)) ++ [rd t295 x10_1])) t295 (t295.length : Int) (wrap64 (x10_1 + 1))) else (none)) else (none)) else (none)) = some r := by first | (rw [hji14] at H; exact H) | (simp only [hji14] at H ⊢; exact H)
          have hji14w : (IntKind.i64.wrap ((y300.length : Int) - 1)) = ji14 := (i64_w _).trans hji14
          by_cases c15 : 0 ≤ (ji14)
          ·
           rw [if_pos c15] at H
           have c15b0 := decide_eq_true c15
           clear c15
           by_cases c16 : (ji14) < (y300.length : Int)
           ·
            rw [if_pos c16] at H
            have c16b0 := decide_eq_true c16
            clear c16
            by_cases c17 : (rd_L3 y300 (ji14)).length < 17592186044416
            ·
             rw [if_pos c17] at H
             have LMc17 := Aside0.mk c17
             clear c17
             obtain ⟨y304, hy304⟩ : ∃ y_ : List Int, y_ = ((rd_L3 y300 (ji14)) ++ [rd t295 x10_1]) := ⟨_, rfl⟩
             replace H : (impl_blocks.l0 k1 l0 (y300.set ((ji14) : Int).toNat y304) t295 (t295.length : Int) (wrap64 (x10_1 + 1))) = some r := by first | (rw [hy304]; with_reducible exact H) | (have H2_ := (Option.bind_some _ _).symm.trans H; rw [hy304]; with_reducible exact H2_) | (have H2_ := (Option.bind_some _ _).symm.trans H; with_reducible exact H2_) | with_reducible exact H | (rw [hy304]; exact H) | exact H
             have Ny304 := Aside0.mk hy304
             clear hy304
             obtain ⟨y307, hy307⟩ : ∃ y_ : List (List Int), y_ = (y300.set ((ji14) : Int).toNat y304) := ⟨_, rfl⟩
             replace H : (impl_blocks.l0 k1 l0 y307 t295 (t295.length : Int) (wrap64 (x10_1 + 1))) = some r := by first | (rw [hy307]; with_reducible exact H) | (have H2_ := (Option.bind_some _ _).symm.trans H; rw [hy307]; with_reducible exact H2_) | (have H2_ := (Option.bind_some _ _).symm.trans H; with_reducible exact H2_) | with_reducible exact H | (rw [hy307]; exact H) | exact H
             have Ny307 := Aside0.mk hy307
             clear hy307
             have H' := Aside0.mk H
             clear H
             have p298 : 0 ≤ (x10_1 : Int) := of_decide_eq_true qe84_
             have q298 : x10_1 < (t295.length : Int) := of_decide_eq_true qe84_
             obtain ⟨ad298, e298, hx298_0⟩ := Kd.at_int (Kd.R_reads' HO_8.out).2.2 x10_1 p298 q298
             cases e298
             replace p298 := eq_true p298
             replace q298 := eq_true q298
             have p299 : 0 ≤ ((rd t295 x10_1) : Int) := of_decide_eq_true qe84_
             have q299 : (rd t295 x10_1) < (l0.length : Int) := of_decide_eq_true qe84_
             obtain ⟨ad299, e299, hx299_0⟩ := Kd.at_int HR0.out (rd t295 x10_1) p299 q299
             cases e299
             (try (replace hx299_0 := (HB.out.cell (World.block_lt_of_cell? w _ hx299_0)).trans hx299_0))
             replace p299 := eq_true p299
             replace q299 := eq_true q299
             go_wp2_with (first | ((with_reducible refine gate_builtin (b := .append) (xs := #[.tmp 21, .tmp 22]) rfl ?_); at_builtin; refine Kd.S_append (Kd.slice 3 (Kd.int .i64)) (w0 := w) w.heap.size rfl (.tmp 21) (.tmp 22) 26 24 (.slice none 0 0) 24 rfl Tryz.underlying26 info24 rfl (by decide) (by omega) u3 x3_1 [] [.slice none 0 0] (fun k_ => some k_ ≠ (.slice (some ad298) t295.length co6 : Value).ownBlock) (fun _ => False) rfl rfl ?aP (fun _ hk => hk.elim) ?aF ?aO ?aB ?aS ?aL ?_; (case aP => exact ⟨_, rfl, Kd.R_nil _ _ _ _ _⟩); (case aB => exact q0c4_); (case aF => exact (fun k_ hk => Kd.fresh' (Kd.R_lt (q9d5_ HO_8.out)) k_ hk)); (case aO => exact (q607_ HO_3.out)); (case aS => exact (below_size q0c4_)); (case aL => have := LMc13.out; omega); intro v301 w19 ho hb hg hat; rw [← Ny300.out] at ho; have n0_ := Aside0.mk (Kd.R_over' (q9d5_ HO_8.out) (Kd.S_typed (qd7e_ HO_3.out)) (by decide) hg); have n1_ := Aside0.mk (hb); have n2_ := Aside0.mk (ho); replace HO_8 := n0_; replace HB := n1_; have HO302 := n2_; clear n0_ n1_ n2_; clear ho hb hg hat; obtain ⟨Ao20, co20, eo20⟩ := Kd.S_slice HO302.out; subst eo20; have p303 : 0 ≤ ((ji14) : Int) := of_decide_eq_true qe84_; have q303 : (ji14) < (y300.length : Int) := of_decide_eq_true qe84_; obtain ⟨ad303, A303_0, c303_0, e303, hx303_0, hl303_0, hi303_0⟩ := at_L3 (Kd.S_reads' HO302.out).2.2 (ji14) p303 q303; cases e303; obtain ⟨ce303, hce303, hMe303, hcc303⟩ := Kd.S_get HO302.out [] (ji14) p303 (by first | exact q303 | exact of_decide_eq_true qe84_ | (have e_ := (Kd.S_reads' HO302.out).1; omega)); obtain ⟨ve303_0, rfl, ge303_0⟩ := hMe303; have hv303_0 := hcc303 0 _ rfl; rw [Nat.add_zero, show ((Kd.slice 3 (Kd.int .i64))).sz = 1 from rfl, Nat.mul_one] at hv303_0; replace hv303_0 := Option.some.inj (hv303_0.symm.trans hx303_0); rw [hv303_0] at ge303_0; have HL303_0 := Aside0.mk (show Kd.R (Kd.int .i64) 3 _ _ _ _ (rd_L3 y300 (ji14)) from ge303_0); clear hv303_0 ge303_0; have HX303_0 := Aside0.mk hx303_0; clear hcc303 hce303; have HR303_0 := Aside0.mk hi303_0; have HC303_0 := Aside0.mk hl303_0; clear hi303_0 hl303_0; replace p303 := eq_true p303; replace q303 := eq_true q303; obtain ⟨go21, co21, eo21, gb21, gl21, cl21, HG21⟩ := Kd.S_form HO302.out (by have h_ : ((ji14) : Int) < ((y300.length : Int) : Int) := of_decide_eq_true qe84_; have h2_ : 0 ≤ ((ji14) : Int) := (of_decide_eq_true qe84_); omega); (first | cases eo21 | (injection eo21 with ea_ en_ ec_; (first | subst ea_ | (injection ea_ with ea_; subst ea_)); subst ec_; clear en_)); have GB21 := Aside0.mk gb21; have GG21 := Aside0.mk HG21; clear gb21 gl21 HG21; (first | simp only [add_plain] at hx303_0 | skip); obtain ⟨oki21, ce21, hcl21, hM21, hcc21, _, _, hH21⟩ := Kd.S_elem HO302.out [] ((ji14) : Int) (of_decide_eq_true qe84_) (by have h_ : ((ji14) : Int) < ((y300.length : Int) : Int) := of_decide_eq_true qe84_; first | exact h_ | (have e_ := (Kd.S_reads' HO302.out).1; omega) | simpa using h_); obtain ⟨ve21_0, rfl, ge21_0⟩ := hM21; have hv21 := hcc21 0 _ rfl; have hX21 := HX303_0.out; (try simp only [add_plain] at hX21); (try simp only [Nat.add_zero] at hv21); (try rw [show ((Kd.slice 3 (Kd.int .i64))).sz = 1 from rfl, Nat.mul_one] at hv21); replace hv21 := Option.some.inj (hv21.symm.trans hX21); subst hv21; clear hX21 hcc21 hcl21; have UU21 := Aside0.mk (show Kd.R (Kd.int .i64) 3 _ w.heap.size oki21 (.slice A303_0 (rd_L3 y300 (ji14)).length c303_0) (rd_L3 y300 (ji14)) from ge21_0); have HH21 := Aside0.mk hH21; have HN21 := Aside0.mk (Kd.S_reads' HO302.out).1; clear hH21 ge21_0) | ((with_reducible refine gate_builtin (b := .append) (xs := #[.tmp 33, .tmp 35]) rfl ?_); at_builtin; refine Kd.R_append (Kd.int .i64) (w0 := w) w.heap.size rfl (.tmp 33) (.tmp 35) 24 3 (.int .i64 0) 8 rfl Tryz.underlying24 info3 rfl (by decide) (by omega) (.slice A303_0 (rd_L3 y300 (ji14)).length c303_0) (rd_L3 y300 (ji14)) (rd t295 x10_1) [.int .i64 (rd t295 x10_1)] (fun k_ => oki21 k_ ∨ ((fun k_ => some k_ ≠ (.slice (some ad298) t295.length co6 : Value).ownBlock)) k_ ∧ w19.heap.size ≤ k_) (fun _ => False) rfl rfl ?aP (fun _ hk => hk.elim) ?aF ?aO ?aB ?aS ?aL ?_; (case aP => exact rfl); (case aB => exact q0c4_); (case aF => exact (fun k_ hk => .inr ⟨Kd.fresh' (Kd.R_lt (q9d5_ HO_8.out)) k_ hk, hk⟩)); (case aO => exact (by (with_reducible repeat (first | apply Kd.R_alloc | apply Kd.R_drewN | apply Kd.R_drew)); exact Kd.R_mono UU21.out (fun _ hk => .inl hk))); (case aS => exact (below_size q0c4_)); (case aL => have := LMc17.out; omega); intro v305 w22 ho hb hg hat; rw [← Ny304.out] at ho; have n0_ := Aside0.mk (Kd.R_grown2 (q9d5_ HO_8.out) rfl hg (fun k_ e_ => (HL303_0.out.1 k_ e_).1)); have n1_ := Aside0.mk (hb); have n2_ := Aside0.mk (Kd.H_grown (Kd.H_widen (q912_ HH21.out)) hg (fun k_ e_ => .inl (UU21.out.1 k_ e_))); have n3_ := Aside0.mk (ho); replace HO_8 := n0_; replace HB := n1_; replace HH21 := n2_; have HO306 := n3_; clear n0_ n1_ n2_ n3_; clear ho hb hg hat; have p18 : 0 ≤ ((ji14) : Int) := of_decide_eq_true qe84_; have q18 : ((ji14) : Int) < ((y300.length : Int) : Int) := of_decide_eq_true qe84_; replace p18 := eq_true p18; replace q18 := eq_true q18; obtain ⟨Ao25, co25, eo25⟩ := Kd.R_slice HO306.out; subst eo25; obtain ⟨_, _, hraw23, _, _, hcc23, _⟩ := Kd.H_raw HH21.out (of_decide_eq_true qe84_) (by have h_ : ((ji14) : Int) < ((y300.length : Int) : Int) := of_decide_eq_true qe84_; first | exact h_ | (have e_ := (HN21.out); omega) | simpa using h_); obtain ⟨_, hfr23⟩ := Kd.H_at HH21.out (of_decide_eq_true qe84_) (by have h_ : ((ji14) : Int) < ((y300.length : Int) : Int) := of_decide_eq_true qe84_; first | exact h_ | (have e_ := (HN21.out); omega) | simpa using h_); have hx23_0 := hcc23 0 _ rfl; have hf23_0 := hfr23 0; (try simp only [Nat.add_zero] at hx23_0 hf23_0); (try rw [show ((Kd.slice 3 (Kd.int .i64))).sz = 1 from rfl, Nat.mul_one] at hx23_0); (try rw [show ((Kd.slice 3 (Kd.int .i64))).sz = 1 from rfl, Nat.mul_one] at hf23_0); have HP23 := Kd.S_seg0 HH21.out (of_decide_eq_true qe84_) (by have h_ : ((ji14) : Int) < ((y300.length : Int) : Int) := of_decide_eq_true qe84_; first | exact h_ | (have e_ := (HN21.out); omega) | simpa using h_) (seg := [.slice Ao25 y304.length co25]) (j := 0) (show 1 ≤ 1 from by decide) (x' := y304) (Kd.M_row HO306.out) (fun _ hk => hk); (try simp only [show ((Kd.slice 3 (Kd.int .i64))).sz = 1 from rfl, Nat.mul_one, Nat.add_zero] at HP23); clear hcc23 hfr23) | ((with_reducible refine gate_store (t := 24) (p := 37) rfl ?_); refine store_event (t := 24) (p := 37) (v := ?vo_w24) (w1 := (w22.setCell ⟨go21, ((ji14) : Int).toNat, none⟩ (.slice Ao25 y304.length co25))) ?hg ?ho ?hn ?hr ?_; (case ho => rfl); (case hg => rfl); (case hn => rfl); (case hr => exact qba7_); intro w24 hw; have hg : w22.grownBy w24 (some go21) := (by rw [hw]; exact HP23.2); have hp_ : Kd.S (Kd.slice 3 (Kd.int .i64)) 24 w24 w.heap.size (fun k_ => some k_ ≠ (.slice (some ad298) t295.length co6 : Value).ownBlock) (.slice (some ⟨go21, 0, none⟩) y300.length co20) y307 := (by rw [hw, Ny307.out]; exact HP23.1); clear HP23; have n0_ := Aside0.mk (Kd.R_over' (v := (.slice (some ⟨go21, 0, none⟩) y300.length co20)) (q9d5_ HO_8.out) (Kd.R_typed hraw23) (by decide) hg); have n1_ := Aside0.mk ((by rw [hw]; exact below_set HB.out GB21.out : Below w.heap.size w w24)); have n2_ := Aside0.mk (hp_); replace HO_8 := n0_; replace HB := n1_; have HO302 := n2_; clear n0_ n1_ n2_; clear hg hw hp_ hraw23))
             go_roundg k1
             case measure => have := HK1.out; omega
             case rel => exact ⟨(y307), (wrap64 (x10_1 + 1)), qc8f_, H', ⟨q1d0_ HK1.out⟩, ⟨qd7e_ HO302.out⟩, ⟨q9d5_ HO_8.out⟩, ⟨q0c4_⟩⟩
            ·
             rw [if_neg c17] at H
             exact absurd H (by simp)
           ·
            rw [if_neg c16] at H
            exact absurd H (by simp)
          ·
           rw [if_neg c15] at H
           exact absurd H (by simp)
         ·
          rw [if_neg c13] at H
          exact absurd H (by simp)
        ·
         rw [if_neg c12] at H
         have c12b0 := beq_eq_false_iff_ne.mpr c12
         have c12b1 := bne_iff_ne.mpr c12
         obtain ⟨ji26, hji26⟩ : ∃ j_ : Int, (wrap64 ((x3_1.length : Int) - 1)) = j_ := ⟨_, rfl⟩
         replace H : (if 0 ≤ (ji26) then (if (ji26) < (x3_1.length : Int) then (if (rd_L3 x3_1 (ji26)).length < 17592186044416 then (impl_blocks.l0 k1 l0 (x3_1.set ((ji26) : Int).toNat ((rd_L3 x3_1 (ji26)) ++ [rd t295 x10_1])) t295 (t295.length : Int) (wrap64 (x10_1 + 1))) else (none)) else (none)) else (none)) = some r := by first | (rw [hji26] at H; exact H) | (simp only [hji26] at H ⊢; exact H)
         have hji26w : (IntKind.i64.wrap ((x3_1.length : Int) - 1)) = ji26 := (i64_w _).trans hji26
         by_cases c27 : 0 ≤ (ji26)
         ·
          rw [if_pos c27] at H
          have c27b0 := decide_eq_true c27
          clear c27
          by_cases c28 : (ji26) < (x3_1.length : Int)
          ·
           rw [if_pos c28] at H
           have c28b0 := decide_eq_true c28
           clear c28
           by_cases c29 : (rd_L3 x3_1 (ji26)).length < 17592186044416
           ·
            rw [if_pos c29] at H
            have LMc29 := Aside0.mk c29
            clear c29
            obtain ⟨y309, hy309⟩ : ∃ y_ : List Int, y_ = ((rd_L3 x3_1 (ji26)) ++ [rd t295 x10_1]) := ⟨_, rfl⟩
            replace H : (impl_blocks.l0 k1 l0 (x3_1.set ((ji26) : Int).toNat y309) t295 (t295.length : Int) (wrap64 (x10_1 + 1))) = some r := by first | (rw [hy309]; with_reducible exact H) | (have H2_ := (Option.bind_some _ _).symm.trans H; rw [hy309]; with_reducible exact H2_) | (have H2_ := (Option.bind_some _ _).symm.trans H; with_reducible exact H2_) | with_reducible exact H | (rw [hy309]; exact H) | exact H
            have Ny309 := Aside0.mk hy309
            clear hy309
            obtain ⟨y312, hy312⟩ : ∃ y_ : List (List Int), y_ = (x3_1.set ((ji26) : Int).toNat y309) := ⟨_, rfl⟩
            replace H : (impl_blocks.l0 k1 l0 y312 t295 (t295.length : Int) (wrap64 (x10_1 + 1))) = some r := by first | (rw [hy312]; with_reducible exact H) | (have H2_ := (Option.bind_some _ _).symm.trans H; rw [hy312]; with_reducible exact H2_) | (have H2_ := (Option.bind_some _ _).symm.trans H; with_reducible exact H2_) | with_reducible exact H | (rw [hy312]; exact H) | exact H
            have Ny312 := Aside0.mk hy312
            clear hy312
            have H' := Aside0.mk H
            clear H
            have p298 : 0 ≤ (x10_1 : Int) := of_decide_eq_true qe84_
            have q298 : x10_1 < (t295.length : Int) := of_decide_eq_true qe84_
            obtain ⟨ad298, e298, hx298_0⟩ := Kd.at_int (Kd.R_reads' HO_8.out).2.2 x10_1 p298 q298
            cases e298
            replace p298 := eq_true p298
            replace q298 := eq_true q298
            have p299 : 0 ≤ ((rd t295 x10_1) : Int) := of_decide_eq_true qe84_
            have q299 : (rd t295 x10_1) < (l0.length : Int) := of_decide_eq_true qe84_
            obtain ⟨ad299, e299, hx299_0⟩ := Kd.at_int HR0.out (rd t295 x10_1) p299 q299
            cases e299
            (try (replace hx299_0 := (HB.out.cell (World.block_lt_of_cell? w _ hx299_0)).trans hx299_0))
            replace p299 := eq_true p299
            replace q299 := eq_true q299
            obtain ⟨Ao31, co31, eo31⟩ := Kd.S_slice HO_3.out
            subst eo31
            have p308 : 0 ≤ ((ji26) : Int) := of_decide_eq_true qe84_
            have q308 : (ji26) < (x3_1.length : Int) := of_decide_eq_true qe84_
            obtain ⟨ad308, A308_0, c308_0, e308, hx308_0, hl308_0, hi308_0⟩ := at_L3 (Kd.S_reads' HO_3.out).2.2 (ji26) p308 q308
            cases e308
            obtain ⟨ce308, hce308, hMe308, hcc308⟩ := Kd.S_get HO_3.out [] (ji26) p308 (by first | exact q308 | exact of_decide_eq_true qe84_ | (have e_ := (Kd.S_reads' HO_3.out).1; omega))
            obtain ⟨ve308_0, rfl, ge308_0⟩ := hMe308
            have hv308_0 := hcc308 0 _ rfl
            rw [Nat.add_zero, show ((Kd.slice 3 (Kd.int .i64))).sz = 1 from rfl, Nat.mul_one] at hv308_0
            replace hv308_0 := Option.some.inj (hv308_0.symm.trans hx308_0)
            rw [hv308_0] at ge308_0
            have HL308_0 := Aside0.mk (show Kd.R (Kd.int .i64) 3 _ _ _ _ (rd_L3 x3_1 (ji26)) from ge308_0)
            clear hv308_0 ge308_0
            have HX308_0 := Aside0.mk hx308_0
            clear hcc308 hce308
            have HR308_0 := Aside0.mk hi308_0
            have HC308_0 := Aside0.mk hl308_0
            clear hi308_0 hl308_0
            replace p308 := eq_true p308
            replace q308 := eq_true q308
            obtain ⟨go32, co32, eo32, gb32, gl32, cl32, HG32⟩ := Kd.S_form HO_3.out (by have h_ : ((ji26) : Int) < ((x3_1.length : Int) : Int) := of_decide_eq_true qe84_; have h2_ : 0 ≤ ((ji26) : Int) := (of_decide_eq_true qe84_); omega)
            (first | cases eo32 | (injection eo32 with ea_ en_ ec_; (first | subst ea_ | (injection ea_ with ea_; subst ea_)); subst ec_; clear en_))
            have GB32 := Aside0.mk gb32
            have GG32 := Aside0.mk HG32
            clear gb32 gl32 HG32
            (first | simp only [add_plain] at hx308_0 | skip)
            obtain ⟨oki32, ce32, hcl32, hM32, hcc32, _, _, hH32⟩ := Kd.S_elem HO_3.out [] ((ji26) : Int) (of_decide_eq_true qe84_) (by have h_ : ((ji26) : Int) < ((x3_1.length : Int) : Int) := of_decide_eq_true qe84_; first | exact h_ | (have e_ := (Kd.S_reads' HO_3.out).1; omega) | simpa using h_)
            obtain ⟨ve32_0, rfl, ge32_0⟩ := hM32
            have hv32 := hcc32 0 _ rfl
            have hX32 := HX308_0.out
            (try simp only [add_plain] at hX32)
            (try simp only [Nat.add_zero] at hv32)
            (try rw [show ((Kd.slice 3 (Kd.int .i64))).sz = 1 from rfl, Nat.mul_one] at hv32)
            replace hv32 := Option.some.inj (hv32.symm.trans hX32)
            subst hv32
            clear hX32 hcc32 hcl32
            have UU32 := Aside0.mk (show Kd.R (Kd.int .i64) 3 _ w.heap.size oki32 (.slice A308_0 (rd_L3 x3_1 (ji26)).length c308_0) (rd_L3 x3_1 (ji26)) from ge32_0)
            have HH32 := Aside0.mk hH32
            have HN32 := Aside0.mk (Kd.S_reads' HO_3.out).1
            clear hH32 ge32_0
            go_wp2_with (first | ((with_reducible refine gate_builtin (b := .append) (xs := #[.tmp 33, .tmp 35]) rfl ?_); at_builtin; refine Kd.R_append (Kd.int .i64) (w0 := w) w.heap.size rfl (.tmp 33) (.tmp 35) 24 3 (.int .i64 0) 8 rfl Tryz.underlying24 info3 rfl (by decide) (by omega) (.slice A308_0 (rd_L3 x3_1 (ji26)).length c308_0) (rd_L3 x3_1 (ji26)) (rd t295 x10_1) [.int .i64 (rd t295 x10_1)] (fun k_ => oki32 k_ ∨ ((fun k_ => some k_ ≠ (.slice (some ad298) t295.length co6 : Value).ownBlock)) k_ ∧ wr.heap.size ≤ k_) (fun _ => False) rfl rfl ?aP (fun _ hk => hk.elim) ?aF ?aO ?aB ?aS ?aL ?_; (case aP => exact rfl); (case aB => exact q0c4_); (case aF => exact (fun k_ hk => .inr ⟨Kd.fresh' (Kd.R_lt (q9d5_ HO_8.out)) k_ hk, hk⟩)); (case aO => exact (by (with_reducible repeat (first | apply Kd.R_alloc | apply Kd.R_drewN | apply Kd.R_drew)); exact Kd.R_mono UU32.out (fun _ hk => .inl hk))); (case aS => exact (below_size q0c4_)); (case aL => have := LMc29.out; omega); intro v310 w33 ho hb hg hat; rw [← Ny309.out] at ho; have n0_ := Aside0.mk (Kd.R_grown2 (q9d5_ HO_8.out) rfl hg (fun k_ e_ => (HL308_0.out.1 k_ e_).1)); have n1_ := Aside0.mk (hb); have n2_ := Aside0.mk (Kd.H_grown (Kd.H_widen (q912_ HH32.out)) hg (fun k_ e_ => .inl (UU32.out.1 k_ e_))); have n3_ := Aside0.mk (ho); replace HO_8 := n0_; replace HB := n1_; replace HH32 := n2_; have HO311 := n3_; clear n0_ n1_ n2_ n3_; clear ho hb hg hat; have p30 : 0 ≤ ((ji26) : Int) := of_decide_eq_true qe84_; have q30 : ((ji26) : Int) < ((x3_1.length : Int) : Int) := of_decide_eq_true qe84_; replace p30 := eq_true p30; replace q30 := eq_true q30; obtain ⟨Ao36, co36, eo36⟩ := Kd.R_slice HO311.out; subst eo36; obtain ⟨_, _, hraw34, _, _, hcc34, _⟩ := Kd.H_raw HH32.out (of_decide_eq_true qe84_) (by have h_ : ((ji26) : Int) < ((x3_1.length : Int) : Int) := of_decide_eq_true qe84_; first | exact h_ | (have e_ := (HN32.out); omega) | simpa using h_); obtain ⟨_, hfr34⟩ := Kd.H_at HH32.out (of_decide_eq_true qe84_) (by have h_ : ((ji26) : Int) < ((x3_1.length : Int) : Int) := of_decide_eq_true qe84_; first | exact h_ | (have e_ := (HN32.out); omega) | simpa using h_); have hx34_0 := hcc34 0 _ rfl; have hf34_0 := hfr34 0; (try simp only [Nat.add_zero] at hx34_0 hf34_0); (try rw [show ((Kd.slice 3 (Kd.int .i64))).sz = 1 from rfl, Nat.mul_one] at hx34_0); (try rw [show ((Kd.slice 3 (Kd.int .i64))).sz = 1 from rfl, Nat.mul_one] at hf34_0); have HP34 := Kd.S_seg0 HH32.out (of_decide_eq_true qe84_) (by have h_ : ((ji26) : Int) < ((x3_1.length : Int) : Int) := of_decide_eq_true qe84_; first | exact h_ | (have e_ := (HN32.out); omega) | simpa using h_) (seg := [.slice Ao36 y309.length co36]) (j := 0) (show 1 ≤ 1 from by decide) (x' := y309) (Kd.M_row HO311.out) (fun _ hk => hk); (try simp only [show ((Kd.slice 3 (Kd.int .i64))).sz = 1 from rfl, Nat.mul_one, Nat.add_zero] at HP34); clear hcc34 hfr34) | ((with_reducible refine gate_store (t := 24) (p := 37) rfl ?_); refine store_event (t := 24) (p := 37) (v := ?vo_w35) (w1 := (w33.setCell ⟨go32, ((ji26) : Int).toNat, none⟩ (.slice Ao36 y309.length co36))) ?hg ?ho ?hn ?hr ?_; (case ho => rfl); (case hg => rfl); (case hn => rfl); (case hr => exact qba7_); intro w35 hw; have hg : w33.grownBy w35 (some go32) := (by rw [hw]; exact HP34.2); have hp_ : Kd.S (Kd.slice 3 (Kd.int .i64)) 24 w35 w.heap.size (fun k_ => some k_ ≠ (.slice (some ad298) t295.length co6 : Value).ownBlock) (.slice (some ⟨go32, 0, none⟩) x3_1.length co31) y312 := (by rw [hw, Ny312.out]; exact HP34.1); clear HP34; have n0_ := Aside0.mk (Kd.R_over' (v := (.slice (some ⟨go32, 0, none⟩) x3_1.length co31)) (q9d5_ HO_8.out) (Kd.R_typed hraw34) (by decide) hg); have n1_ := Aside0.mk ((by rw [hw]; exact below_set HB.out GB32.out : Below w.heap.size w w35)); have n2_ := Aside0.mk (hp_); replace HO_8 := n0_; replace HB := n1_; have HO_3 := n2_; clear n0_ n1_ n2_; clear hg hw hp_ hraw34))
            go_roundg k1
            case measure => have := HK1.out; omega
            case rel => exact ⟨(y312), (wrap64 (x10_1 + 1)), qc8f_, H', ⟨q1d0_ HK1.out⟩, ⟨qd7e_ HO_3.out⟩, ⟨q9d5_ HO_8.out⟩, ⟨q0c4_⟩⟩
           ·
            rw [if_neg c29] at H
            exact absurd H (by simp)
          ·
           rw [if_neg c28] at H
           exact absurd H (by simp)
         ·
          rw [if_neg c27] at H
          exact absurd H (by simp)
       ·
        rw [if_neg c11] at H
        exact absurd H (by simp)
      ·
       rw [if_neg c10] at H
       exact absurd H (by simp)
     ·
      rw [if_neg c9] at H
      exact absurd H (by simp)
    ·
     rw [if_neg c8] at H
     exact absurd H (by simp)
   ·
    rw [if_neg c7] at H
    have c7b0 := decide_eq_false c7
    clear c7
    obtain rfl := Option.some.inj H
    go_wp2
    go_ret
    exact ⟨_, qce7_, qcd3_ HO_3.out, q0c4_⟩

/-! ### impl_UnitBlocks: function 6 -/
def impl_UnitBlocks.f (k : Nat) (l0 : List Int) : Option ((List (List Int)) × Bool) := (impl_isParking.f k l0).bind fun t313 => (if t313 = true then ((impl_isUnit.f k l0 1).bind fun t314 => (if t314 = true then ((impl_blocks.f k l0).bind fun t315 => (some (t315, true))) else (some (([] : List (List Int)), false)))) else (some (([] : List (List Int)), false)))
theorem impl_UnitBlocks.mono : ∀ a0 k, LeO (impl_UnitBlocks.f k a0) (impl_UnitBlocks.f (k + 1) a0) := by
 intro a0 k
 unfold impl_UnitBlocks.f
 repeat' (with_reducible first | exact impl_blocks.mono _ _ | exact impl_isParking.mono _ _ | exact impl_isUnit.mono _ _ _ | exact LeO.refl _ | exact LeO.none _ | refine LeO.ite ?_ ?_ | refine LeO.bind ?_ (fun _ => ?_))
theorem impl_UnitBlocks.calls (k : Nat) (A0 : Option Addr) (c0 : Nat) (l0 : List Int) (r1 : List (List Int)) (r2 : Bool) (w : World) (hr0 : Kd.C (Kd.int .i64) w A0 l0.length l0) (hc0 : l0.length ≤ c0) (h : impl_UnitBlocks.f k l0 = some (r1, r2)) :
  Calls Tryz.prog 6 #[.slice A0 l0.length c0] w fun e w' => ∃ v0_ : Value, e = .returned (.tuple #[v0_, .bool r2]) ∧ Kd.S (Kd.slice 3 (Kd.int .i64)) 24 w' w.heap.size (fun _ => True) v0_ r1 ∧ Below w.heap.size w w' := by
 have HR0 := Aside0.mk hr0
 have HC0 := Aside0.mk hc0
 clear hr0 hc0
 have HB := Aside0.mk (Below.refl w.heap.size w)
 unfold impl_UnitBlocks.f at h
 have H := h; clear h
 obtain ⟨t313, A2, H⟩ := ob_ H
 by_cases c3 : t313 = true
 ·
  subst c3
  rw [if_pos rfl] at H
  obtain ⟨t314, A4, H⟩ := ob_ H
  by_cases c5 : t314 = true
  ·
   subst c5
   rw [if_pos rfl] at H
   obtain ⟨t315, A6, H⟩ := ob_ H
   simp only [Option.some.injEq, Prod.mk.injEq] at H
   obtain ⟨rfl, rfl⟩ := H
   go_enter Tryz.func6, Tryz.ntmps6
   go_wp2_with (first | ((with_reducible refine gate_callee (f := 21) rfl ?_); refine gl_ 5 Tryz.func21 #[.slice A0 l0.length c0] ?_; (with_reducible refine (impl_isParking.calls k _ _ l0 true _ ?s1 ?s2 A2.out).mono ?_); (case s1 => exact q201_ HR0.out); (case s2 => exact HC0.out); rintro e w7 ⟨rfl, hb⟩; refine ⟨_, rfl, ?_⟩; replace HB := Aside0.mk (below_step q0c4_ hb); clear hb) | (go_at_call 22; (with_reducible refine (impl_isUnit.calls k _ _ l0 1 true _ ?s1 ?s2 A4.out).mono ?_); (case s1 => exact qe02_ HR0.out); (case s2 => exact HC0.out); rintro e w8 ⟨rfl, hb⟩; replace HB := Aside0.mk (below_step q0c4_ hb); clear hb) | ((with_reducible refine gate_callee (f := 23) rfl ?_); refine gl_ 13 Tryz.func23 #[.slice A0 l0.length c0] ?_; (with_reducible refine (impl_blocks.calls k _ _ l0 t315 _ ?s1 ?s2 A6.out).mono ?_); (case s1 => exact qe02_ HR0.out); (case s2 => exact HC0.out); rintro e w9 ⟨v316, rfl, ho0, hb⟩; refine ⟨_, rfl, ?_⟩; have HO317 := Aside0.mk (Kd.S_lower ho0 (below_size q0c4_)); replace HB := Aside0.mk (below_step q0c4_ hb); clear hb ho0))
   go_ret2
   exact ⟨_, qce7_, qd7e_ HO317.out, q0c4_⟩
  ·
   replace c5 := Bool.eq_false_iff.mpr c5
   subst c5
   rw [if_neg nf_] at H
   simp only [Option.some.injEq, Prod.mk.injEq] at H
   obtain ⟨rfl, rfl⟩ := H
   go_enter Tryz.func6, Tryz.ntmps6
   go_wp2_with (first | ((with_reducible refine gate_callee (f := 21) rfl ?_); refine gl_ 5 Tryz.func21 #[.slice A0 l0.length c0] ?_; (with_reducible refine (impl_isParking.calls k _ _ l0 true _ ?s1 ?s2 A2.out).mono ?_); (case s1 => exact q201_ HR0.out); (case s2 => exact HC0.out); rintro e w10 ⟨rfl, hb⟩; refine ⟨_, rfl, ?_⟩; replace HB := Aside0.mk (below_step q0c4_ hb); clear hb) | (go_at_call 22; (with_reducible refine (impl_isUnit.calls k _ _ l0 1 false _ ?s1 ?s2 A4.out).mono ?_); (case s1 => exact qe02_ HR0.out); (case s2 => exact HC0.out); rintro e w11 ⟨rfl, hb⟩; replace HB := Aside0.mk (below_step q0c4_ hb); clear hb))
   go_ret2
   exact ⟨_, qce7_, qc14_, q0c4_⟩
 ·
  replace c3 := Bool.eq_false_iff.mpr c3
  subst c3
  rw [if_neg nf_] at H
  simp only [Option.some.injEq, Prod.mk.injEq] at H
  obtain ⟨rfl, rfl⟩ := H
  go_enter Tryz.func6, Tryz.ntmps6
  go_wp2_with (first | ((with_reducible refine gate_callee (f := 21) rfl ?_); refine gl_ 5 Tryz.func21 #[.slice A0 l0.length c0] ?_; (with_reducible refine (impl_isParking.calls k _ _ l0 false _ ?s1 ?s2 A2.out).mono ?_); (case s1 => exact q201_ HR0.out); (case s2 => exact HC0.out); rintro e w12 ⟨rfl, hb⟩; refine ⟨_, rfl, ?_⟩; replace HB := Aside0.mk (below_step q0c4_ hb); clear hb))
  go_ret2
  exact ⟨_, qce7_, qc14_, q0c4_⟩

/-! ### spec_paDrive: function 65 -/
mutual
def spec_paDrive.l0 : Nat → Int → List Int → List Int → Int → Int → Option (List Int)
 | 0, _, _, _, _, _ => none
 | k + 1, x1, x5, x8, x9, x10 => if x10 < x9 then (if 0 ≤ x10 then (if x10 < (x8.length : Int) then (spec_paDrive.l1 k x1 x5 (rd x8 x10) x8 x9 x10) else (none)) else (none)) else (some x5)
def spec_paDrive.l1 : Nat → Int → List Int → Int → List Int → Int → Int → Option (List Int)
 | 0, _, _, _, _, _, _ => none
 | k + 1, x1, x5, x7, x8, x9, x10 => if x7 < x1 then ((spec_l1Has.f k x5 x7).bind fun t319 => (if t319 = true then (spec_paDrive.l1 k x1 x5 (wrap64 (x7 + 1)) x8 x9 x10) else (if x7 ≥ x1 then (if x5.length < 17592186044416 then (spec_paDrive.l0 k x1 (x5 ++ [(-1)]) x8 x9 (wrap64 (x10 + 1))) else (none)) else (if x5.length < 17592186044416 then (spec_paDrive.l0 k x1 (x5 ++ [x7]) x8 x9 (wrap64 (x10 + 1))) else (none))))) else (if x7 ≥ x1 then (if x5.length < 17592186044416 then (spec_paDrive.l0 k x1 (x5 ++ [(-1)]) x8 x9 (wrap64 (x10 + 1))) else (none)) else (if x5.length < 17592186044416 then (spec_paDrive.l0 k x1 (x5 ++ [x7]) x8 x9 (wrap64 (x10 + 1))) else (none)))
end
def spec_paDrive.f (k : Nat) (l0 : List Int) (a1 : Int) : Option (List Int) := spec_paDrive.l0 k a1 ([] : List Int) l0 (l0.length : Int) 0
theorem spec_paDrive.mono_l : ∀ k, (∀ y0 y1 y2 y3 y4, LeO (spec_paDrive.l0 k y0 y1 y2 y3 y4) (spec_paDrive.l0 (k + 1) y0 y1 y2 y3 y4)) ∧ (∀ y0 y1 y2 y3 y4 y5, LeO (spec_paDrive.l1 k y0 y1 y2 y3 y4 y5) (spec_paDrive.l1 (k + 1) y0 y1 y2 y3 y4 y5))
 | 0 => ⟨fun _ _ _ _ _ r h => by simp [spec_paDrive.l0] at h, fun _ _ _ _ _ _ r h => by simp [spec_paDrive.l1] at h⟩
 | k + 1 => by
  obtain ⟨ih0, ih1⟩ := spec_paDrive.mono_l k
  refine ⟨?_, ?_⟩
  ·
   intro y0 y1 y2 y3 y4
   unfold spec_paDrive.l0
   repeat' (with_reducible first | exact ih0 _ _ _ _ _ | exact ih1 _ _ _ _ _ _ | exact spec_l1Has.mono _ _ _ | exact LeO.refl _ | exact LeO.none _ | refine LeO.ite ?_ ?_ | refine LeO.bind ?_ (fun _ => ?_))
  ·
   intro y0 y1 y2 y3 y4 y5
   unfold spec_paDrive.l1
   repeat' (with_reducible first | exact ih0 _ _ _ _ _ | exact ih1 _ _ _ _ _ _ | exact spec_l1Has.mono _ _ _ | exact LeO.refl _ | exact LeO.none _ | refine LeO.ite ?_ ?_ | refine LeO.bind ?_ (fun _ => ?_))
theorem spec_paDrive.mono : ∀ a0 a1 k, LeO (spec_paDrive.f k a0 a1) (spec_paDrive.f (k + 1) a0 a1) := by
 intro a0 a1 k
 obtain ⟨ih0, ih1⟩ := spec_paDrive.mono_l k
 unfold spec_paDrive.f
 repeat' (with_reducible first | exact ih0 _ _ _ _ _ | exact ih1 _ _ _ _ _ _ | exact spec_l1Has.mono _ _ _ | exact LeO.refl _ | exact LeO.none _ | refine LeO.ite ?_ ?_ | refine LeO.bind ?_ (fun _ => ?_))
theorem spec_paDrive.calls (k : Nat) (A0 : Option Addr) (c0 : Nat) (l0 : List Int) (a1 : Int) (r : List Int) (w : World) (hr0 : Kd.C (Kd.int .i64) w A0 l0.length l0) (hc0 : l0.length ≤ c0) (h : spec_paDrive.f k l0 a1 = some r) :
  Calls Tryz.prog 65 #[.slice A0 l0.length c0, .int .i64 a1] w fun e w' => ∃ v0_ : Value, e = .returned (v0_) ∧ Kd.R (Kd.int .i64) 3 w' w.heap.size (fun _ => True) v0_ r ∧ Below w.heap.size w w' := by
 have HR0 := Aside0.mk hr0
 have HC0 := Aside0.mk hc0
 clear hr0 hc0
 have HB := Aside0.mk (Below.refl w.heap.size w)
 unfold spec_paDrive.f at h
 have H := h; clear h
 have H' := Aside0.mk H
 clear H
 go_enter Tryz.func65, Tryz.ntmps65
 go_wp2
 go_loopg [5, 10] k (fun kq v5 v10 w' => ∃ (x5_1 : List Int) (x10_1 : Int), v10 = .int .i64 x10_1 ∧ Aside0 (spec_paDrive.l0 kq a1 x5_1 l0 (l0.length : Int) x10_1 = some r) ∧ Aside0 (kq ≤ k) ∧ Aside0 (Kd.R (Kd.int .i64) 3 w' w.heap.size (fun _ => True) v5 x5_1) ∧ Aside0 (Below w.heap.size w w'))
 case atStart => exact ⟨(([] : List Int)), (0), qc8f_, H', ⟨Nat.le_refl _⟩, ⟨qf62_⟩, ⟨q0c4_⟩⟩
 case round =>
  clear H'; try clear p2
  obtain ⟨x5_1, x10_1, rfl, HA, HK1, HO_5, HB⟩ := hrel
  cases gk with
  | zero => exact absurd HA.out (by simp [spec_paDrive.l0])
  | succ k1 =>
   have H := HA.out
   clear HA
   simp only [spec_paDrive.l0] at H
   by_cases c3 : x10_1 < (l0.length : Int)
   ·
    rw [if_pos c3] at H
    have c3b0 := decide_eq_true c3
    clear c3
    by_cases c4 : 0 ≤ x10_1
    ·
     rw [if_pos c4] at H
     have c4b0 := decide_eq_true c4
     clear c4
     by_cases c5 : x10_1 < (l0.length : Int)
     ·
      rw [if_pos c5] at H
      have c5b0 := decide_eq_true c5
      clear c5
      have H' := Aside0.mk H
      clear H
      have p318 : 0 ≤ (x10_1 : Int) := of_decide_eq_true qe84_
      have q318 : x10_1 < (l0.length : Int) := of_decide_eq_true qe84_
      obtain ⟨ad318, e318, hx318_0⟩ := Kd.at_int HR0.out x10_1 p318 q318
      cases e318
      (try (replace hx318_0 := (HB.out.cell (World.block_lt_of_cell? w _ hx318_0)).trans hx318_0))
      replace p318 := eq_true p318
      replace q318 := eq_true q318
      go_wp2
      go_loopg [7] k1 (fun kq v7 w' => ∃ (x7_2 : Int), v7 = .int .i64 x7_2 ∧ Aside0 (spec_paDrive.l1 kq a1 x5_1 x7_2 l0 (l0.length : Int) x10_1 = some r) ∧ Aside0 (kq ≤ k1) ∧ Aside0 (Kd.R (Kd.int .i64) 3 w' w.heap.size (fun _ => True) u5 x5_1) ∧ Aside0 (Below w.heap.size w w'))
      case atStart => exact ⟨(rd l0 x10_1), qc8f_, H', ⟨Nat.le_refl _⟩, ⟨q9d5_ HO_5.out⟩, ⟨q0c4_⟩⟩
      case round =>
       clear H'; try clear p2; try clear c3; try clear c3b0; try clear p3; try clear q3; try clear hx3; try clear c4; try clear c4b0; try clear c5; try clear c5b0; try clear hx318_0; try clear p2; try clear p318; try clear q318
       obtain ⟨x7_2, rfl, HA, HK2, HO_5, HB⟩ := hrel
       cases gk with
       | zero => exact absurd HA.out (by simp [spec_paDrive.l1])
       | succ k2 =>
        have H := HA.out
        clear HA
        simp only [spec_paDrive.l1] at H
        by_cases c6 : x7_2 < a1
        ·
         rw [if_pos c6] at H
         have c6b0 := decide_eq_true c6
         clear c6
         obtain ⟨t319, A7, H⟩ := ob_ H
         by_cases c8 : t319 = true
         ·
          subst c8
          rw [if_pos rfl] at H
          have H' := Aside0.mk H
          clear H
          obtain ⟨Ao9, co9, eo9⟩ := Kd.R_slice HO_5.out
          subst eo9
          go_wp2_with (first | (go_at_call 36; (with_reducible refine (spec_l1Has.calls k2 _ _ x5_1 x7_2 true _ ?s1 ?s2 A7.out).mono ?_); (case s1 => exact q5a8_ HO_5.out); (case s2 => exact (Kd.R_reads' HO_5.out).2.1); rintro e w' ⟨rfl, ⟨nd, rfl⟩⟩))
          go_roundg k2
          case measure => have := HK1.out; have := HK2.out; omega
          case rel => exact ⟨(wrap64 (x7_2 + 1)), qc8f_, H', ⟨q37b_ HK1.out HK2.out⟩, ⟨q9d5_ HO_5.out⟩, ⟨q0c4_⟩⟩
         ·
          replace c8 := Bool.eq_false_iff.mpr c8
          subst c8
          rw [if_neg nf_] at H
          by_cases c10 : x7_2 ≥ a1
          ·
           rw [if_pos c10] at H
           have c10b0 := decide_eq_true c10
           clear c10
           by_cases c11 : x5_1.length < 17592186044416
           ·
            rw [if_pos c11] at H
            have LMc11 := Aside0.mk c11
            clear c11
            obtain ⟨y320, hy320⟩ : ∃ y_ : List Int, y_ = (x5_1 ++ [(-1)]) := ⟨_, rfl⟩
            replace H : (spec_paDrive.l0 k2 a1 y320 l0 (l0.length : Int) (wrap64 (x10_1 + 1))) = some r := by first | (rw [hy320]; with_reducible exact H) | (have H2_ := (Option.bind_some _ _).symm.trans H; rw [hy320]; with_reducible exact H2_) | (have H2_ := (Option.bind_some _ _).symm.trans H; with_reducible exact H2_) | with_reducible exact H | (rw [hy320]; exact H) | exact H
            have Ny320 := Aside0.mk hy320
            clear hy320
            have H' := Aside0.mk H
            clear H
            obtain ⟨Ao12, co12, eo12⟩ := Kd.R_slice HO_5.out
            subst eo12
            go_wp2_with (first | (go_at_call 36; (with_reducible refine (spec_l1Has.calls k2 _ _ x5_1 x7_2 false _ ?s1 ?s2 A7.out).mono ?_); (case s1 => exact q5a8_ HO_5.out); (case s2 => exact (Kd.R_reads' HO_5.out).2.1); rintro e w' ⟨rfl, ⟨nd, rfl⟩⟩) | ((with_reducible refine gate_builtin (b := .append) (xs := #[.tmp 27, .tmp 29]) rfl ?_); at_builtin; refine Kd.R_append (Kd.int .i64) (w0 := w) w.heap.size rfl (.tmp 27) (.tmp 29) 24 3 (.int .i64 0) 8 rfl Tryz.underlying24 info3 rfl (by decide) (by omega) (.slice Ao12 x5_1.length co12) x5_1 (-1) [.int .i64 (-1)] (fun _ => True) (fun _ => False) rfl rfl ?aP (fun _ hk => hk.elim) ?aF ?aO ?aB ?aS ?aL ?_; (case aP => exact rfl); (case aB => exact q0c4_); (case aF => exact (fun _ _ => trivial)); (case aO => exact (q9d5_ HO_5.out)); (case aS => exact (below_size q0c4_)); (case aL => have := LMc11.out; omega); intro v321 w13 ho hb hg hat; rw [← Ny320.out] at ho; have n0_ := Aside0.mk (hb); have n1_ := Aside0.mk (ho); replace HB := n0_; have HO322 := n1_; clear n0_ n1_; clear ho hb hg hat))
            go_roundg k2
            case measure => have := HK1.out; have := HK2.out; omega
            case rel => exact ⟨(y320), (wrap64 (x10_1 + 1)), qc8f_, H', ⟨q37b_ HK1.out HK2.out⟩, ⟨q9d5_ HO322.out⟩, ⟨q0c4_⟩⟩
           ·
            rw [if_neg c11] at H
            exact absurd H (by simp)
          ·
           rw [if_neg c10] at H
           have c10b0 := decide_eq_false c10
           clear c10
           by_cases c14 : x5_1.length < 17592186044416
           ·
            rw [if_pos c14] at H
            have LMc14 := Aside0.mk c14
            clear c14
            obtain ⟨y323, hy323⟩ : ∃ y_ : List Int, y_ = (x5_1 ++ [x7_2]) := ⟨_, rfl⟩
            replace H : (spec_paDrive.l0 k2 a1 y323 l0 (l0.length : Int) (wrap64 (x10_1 + 1))) = some r := by first | (rw [hy323]; with_reducible exact H) | (have H2_ := (Option.bind_some _ _).symm.trans H; rw [hy323]; with_reducible exact H2_) | (have H2_ := (Option.bind_some _ _).symm.trans H; with_reducible exact H2_) | with_reducible exact H | (rw [hy323]; exact H) | exact H
            have Ny323 := Aside0.mk hy323
            clear hy323
            have H' := Aside0.mk H
            clear H
            obtain ⟨Ao15, co15, eo15⟩ := Kd.R_slice HO_5.out
            subst eo15
            go_wp2_with (first | (go_at_call 36; (with_reducible refine (spec_l1Has.calls k2 _ _ x5_1 x7_2 false _ ?s1 ?s2 A7.out).mono ?_); (case s1 => exact q5a8_ HO_5.out); (case s2 => exact (Kd.R_reads' HO_5.out).2.1); rintro e w' ⟨rfl, ⟨nd, rfl⟩⟩) | ((with_reducible refine gate_builtin (b := .append) (xs := #[.tmp 27, .tmp 29]) rfl ?_); at_builtin; refine Kd.R_append (Kd.int .i64) (w0 := w) w.heap.size rfl (.tmp 27) (.tmp 29) 24 3 (.int .i64 0) 8 rfl Tryz.underlying24 info3 rfl (by decide) (by omega) (.slice Ao15 x5_1.length co15) x5_1 x7_2 [.int .i64 x7_2] (fun _ => True) (fun _ => False) rfl rfl ?aP (fun _ hk => hk.elim) ?aF ?aO ?aB ?aS ?aL ?_; (case aP => exact rfl); (case aB => exact q0c4_); (case aF => exact (fun _ _ => trivial)); (case aO => exact (q9d5_ HO_5.out)); (case aS => exact (below_size q0c4_)); (case aL => have := LMc14.out; omega); intro v324 w16 ho hb hg hat; rw [← Ny323.out] at ho; have n0_ := Aside0.mk (hb); have n1_ := Aside0.mk (ho); replace HB := n0_; have HO325 := n1_; clear n0_ n1_; clear ho hb hg hat))
            go_roundg k2
            case measure => have := HK1.out; have := HK2.out; omega
            case rel => exact ⟨(y323), (wrap64 (x10_1 + 1)), qc8f_, H', ⟨q37b_ HK1.out HK2.out⟩, ⟨q9d5_ HO325.out⟩, ⟨q0c4_⟩⟩
           ·
            rw [if_neg c14] at H
            exact absurd H (by simp)
        ·
         rw [if_neg c6] at H
         have c6b0 := decide_eq_false c6
         clear c6
         by_cases c17 : x7_2 ≥ a1
         ·
          rw [if_pos c17] at H
          have c17b0 := decide_eq_true c17
          clear c17
          by_cases c18 : x5_1.length < 17592186044416
          ·
           rw [if_pos c18] at H
           have LMc18 := Aside0.mk c18
           clear c18
           obtain ⟨y326, hy326⟩ : ∃ y_ : List Int, y_ = (x5_1 ++ [(-1)]) := ⟨_, rfl⟩
           replace H : (spec_paDrive.l0 k2 a1 y326 l0 (l0.length : Int) (wrap64 (x10_1 + 1))) = some r := by first | (rw [hy326]; with_reducible exact H) | (have H2_ := (Option.bind_some _ _).symm.trans H; rw [hy326]; with_reducible exact H2_) | (have H2_ := (Option.bind_some _ _).symm.trans H; with_reducible exact H2_) | with_reducible exact H | (rw [hy326]; exact H) | exact H
           have Ny326 := Aside0.mk hy326
           clear hy326
           have H' := Aside0.mk H
           clear H
           go_wp2_with (first | ((with_reducible refine gate_builtin (b := .append) (xs := #[.tmp 27, .tmp 29]) rfl ?_); at_builtin; refine Kd.R_append (Kd.int .i64) (w0 := w) w.heap.size rfl (.tmp 27) (.tmp 29) 24 3 (.int .i64 0) 8 rfl Tryz.underlying24 info3 rfl (by decide) (by omega) u5 x5_1 (-1) [.int .i64 (-1)] (fun _ => True) (fun _ => False) rfl rfl ?aP (fun _ hk => hk.elim) ?aF ?aO ?aB ?aS ?aL ?_; (case aP => exact rfl); (case aB => exact q0c4_); (case aF => exact (fun _ _ => trivial)); (case aO => exact (q9d5_ HO_5.out)); (case aS => exact (below_size q0c4_)); (case aL => have := LMc18.out; omega); intro v327 w19 ho hb hg hat; rw [← Ny326.out] at ho; have n0_ := Aside0.mk (hb); have n1_ := Aside0.mk (ho); replace HB := n0_; have HO328 := n1_; clear n0_ n1_; clear ho hb hg hat))
           go_roundg k2
           case measure => have := HK1.out; have := HK2.out; omega
           case rel => exact ⟨(y326), (wrap64 (x10_1 + 1)), qc8f_, H', ⟨q37b_ HK1.out HK2.out⟩, ⟨q9d5_ HO328.out⟩, ⟨q0c4_⟩⟩
          ·
           rw [if_neg c18] at H
           exact absurd H (by simp)
         ·
          rw [if_neg c17] at H
          have c17b0 := decide_eq_false c17
          clear c17
          by_cases c20 : x5_1.length < 17592186044416
          ·
           rw [if_pos c20] at H
           have LMc20 := Aside0.mk c20
           clear c20
           obtain ⟨y329, hy329⟩ : ∃ y_ : List Int, y_ = (x5_1 ++ [x7_2]) := ⟨_, rfl⟩
           replace H : (spec_paDrive.l0 k2 a1 y329 l0 (l0.length : Int) (wrap64 (x10_1 + 1))) = some r := by first | (rw [hy329]; with_reducible exact H) | (have H2_ := (Option.bind_some _ _).symm.trans H; rw [hy329]; with_reducible exact H2_) | (have H2_ := (Option.bind_some _ _).symm.trans H; with_reducible exact H2_) | with_reducible exact H | (rw [hy329]; exact H) | exact H
           have Ny329 := Aside0.mk hy329
           clear hy329
           have H' := Aside0.mk H
           clear H
           go_wp2_with (first | ((with_reducible refine gate_builtin (b := .append) (xs := #[.tmp 27, .tmp 29]) rfl ?_); at_builtin; refine Kd.R_append (Kd.int .i64) (w0 := w) w.heap.size rfl (.tmp 27) (.tmp 29) 24 3 (.int .i64 0) 8 rfl Tryz.underlying24 info3 rfl (by decide) (by omega) u5 x5_1 x7_2 [.int .i64 x7_2] (fun _ => True) (fun _ => False) rfl rfl ?aP (fun _ hk => hk.elim) ?aF ?aO ?aB ?aS ?aL ?_; (case aP => exact rfl); (case aB => exact q0c4_); (case aF => exact (fun _ _ => trivial)); (case aO => exact (q9d5_ HO_5.out)); (case aS => exact (below_size q0c4_)); (case aL => have := LMc20.out; omega); intro v330 w21 ho hb hg hat; rw [← Ny329.out] at ho; have n0_ := Aside0.mk (hb); have n1_ := Aside0.mk (ho); replace HB := n0_; have HO331 := n1_; clear n0_ n1_; clear ho hb hg hat))
           go_roundg k2
           case measure => have := HK1.out; have := HK2.out; omega
           case rel => exact ⟨(y329), (wrap64 (x10_1 + 1)), qc8f_, H', ⟨q37b_ HK1.out HK2.out⟩, ⟨q9d5_ HO331.out⟩, ⟨q0c4_⟩⟩
          ·
           rw [if_neg c20] at H
           exact absurd H (by simp)
     ·
      rw [if_neg c5] at H
      exact absurd H (by simp)
    ·
     rw [if_neg c4] at H
     exact absurd H (by simp)
   ·
    rw [if_neg c3] at H
    have c3b0 := decide_eq_false c3
    clear c3
    obtain rfl := Option.some.inj H
    go_wp2
    go_ret
    exact ⟨_, qce7_, q9d5_ HO_5.out, q0c4_⟩

/-! ### spec_paAll: function 52 -/
def spec_paAll.f (k : Nat) (l0 : List Int) (a1 : Int) : Option (Bool) := (spec_paDrive.f k l0 a1).bind fun t332 => ((spec_l1Has.f k t332 (-1)).bind fun t335 => (some (!t335)))
theorem spec_paAll.mono : ∀ a0 a1 k, LeO (spec_paAll.f k a0 a1) (spec_paAll.f (k + 1) a0 a1) := by
 intro a0 a1 k
 unfold spec_paAll.f
 repeat' (with_reducible first | exact spec_l1Has.mono _ _ _ | exact spec_paDrive.mono _ _ _ | exact LeO.refl _ | exact LeO.none _ | refine LeO.ite ?_ ?_ | refine LeO.bind ?_ (fun _ => ?_))
theorem spec_paAll.calls (k : Nat) (A0 : Option Addr) (c0 : Nat) (l0 : List Int) (a1 : Int) (r : Bool) (w : World) (hr0 : Kd.C (Kd.int .i64) w A0 l0.length l0) (hc0 : l0.length ≤ c0) (h : spec_paAll.f k l0 a1 = some r) :
  Calls Tryz.prog 52 #[.slice A0 l0.length c0, .int .i64 a1] w fun e w' => e = .returned (.bool r) ∧ Below w.heap.size w w' := by
 have HR0 := Aside0.mk hr0
 have HC0 := Aside0.mk hc0
 clear hr0 hc0
 have HB := Aside0.mk (Below.refl w.heap.size w)
 unfold spec_paAll.f at h
 have H := h; clear h
 obtain ⟨t332, A3, H⟩ := ob_ H
 obtain ⟨t335, A4, H⟩ := ob_ H
 obtain rfl := Option.some.inj H
 go_enter Tryz.func52, Tryz.ntmps52
 go_wp2_with (first | ((with_reducible refine gate_callee (f := 65) rfl ?_); refine gl_ 7 Tryz.func65 #[.slice A0 l0.length c0, .int .i64 a1] ?_; (with_reducible refine (spec_paDrive.calls k _ _ l0 a1 t332 _ ?s1 ?s2 A3.out).mono ?_); (case s1 => exact q201_ HR0.out); (case s2 => exact HC0.out); rintro e w5 ⟨v333, rfl, ho0, hb⟩; refine ⟨_, rfl, ?_⟩; have HO334 := Aside0.mk (Kd.R_lower ho0 (below_size q0c4_)); replace HB := Aside0.mk (below_step q0c4_ hb); clear hb ho0; obtain ⟨Ao6, co6, eo6⟩ := Kd.R_slice HO334.out; subst eo6) | ((with_reducible refine gate_callee (f := 36) rfl ?_); refine gl_ 8 Tryz.func36 #[.slice Ao6 t332.length co6, .int .i64 (-1)] ?_; (with_reducible refine (spec_l1Has.calls k _ _ t332 (-1) t335 _ ?s1 ?s2 A4.out).mono ?_); (case s1 => exact q5a8_ HO334.out); (case s2 => exact (Kd.R_reads' HO334.out).2.1); rintro e w' ⟨rfl, ⟨nd, rfl⟩⟩; refine ⟨_, rfl, ?_⟩))
 go_ret
 exact ⟨qce7_, q0c4_⟩

/-! ### spec_paParking: function 24 -/
def spec_paParking.f (k : Nat) (l0 : List Int) : Option (Bool) := if (l0.length : Int) ≤ 8 then ((spec_l1All.f k l0 0 (wrap64 ((l0.length : Int) - 1))).bind fun t336 => (if t336 = true then ((spec_paAll.f k l0 (l0.length : Int)).bind fun t337 => (some t337)) else (some false))) else (some false)
theorem spec_paParking.mono : ∀ a0 k, LeO (spec_paParking.f k a0) (spec_paParking.f (k + 1) a0) := by
 intro a0 k
 unfold spec_paParking.f
 repeat' (with_reducible first | exact spec_l1All.mono _ _ _ _ | exact spec_paAll.mono _ _ _ | exact LeO.refl _ | exact LeO.none _ | refine LeO.ite ?_ ?_ | refine LeO.bind ?_ (fun _ => ?_))
theorem spec_paParking.calls (k : Nat) (A0 : Option Addr) (c0 : Nat) (l0 : List Int) (r : Bool) (w : World) (hr0 : Kd.C (Kd.int .i64) w A0 l0.length l0) (hc0 : l0.length ≤ c0) (h : spec_paParking.f k l0 = some r) :
  Calls Tryz.prog 24 #[.slice A0 l0.length c0] w fun e w' => e = .returned (.bool r) ∧ Below w.heap.size w w' := by
 have HR0 := Aside0.mk hr0
 have HC0 := Aside0.mk hc0
 clear hr0 hc0
 have HB := Aside0.mk (Below.refl w.heap.size w)
 unfold spec_paParking.f at h
 have H := h; clear h
 by_cases c2 : (l0.length : Int) ≤ 8
 ·
  rw [if_pos c2] at H
  have c2b0 := decide_eq_true c2
  have c2b1 : decide (l0.length ≤ 8) = true := decide_eq_true (by omega)
  clear c2
  obtain ⟨t336, A3, H⟩ := ob_ H
  by_cases c4 : t336 = true
  ·
   subst c4
   rw [if_pos rfl] at H
   obtain ⟨t337, A5, H⟩ := ob_ H
   obtain rfl := Option.some.inj H
   go_enter Tryz.func24, Tryz.ntmps24
   go_wp2_with (first | (go_at_call 51; (with_reducible refine (spec_l1All.calls k _ _ l0 0 (wrap64 ((l0.length : Int) - 1)) true _ ?s1 ?s2 A3.out).mono ?_); (case s1 => exact q201_ HR0.out); (case s2 => exact HC0.out); rintro e w' ⟨rfl, ⟨nd, rfl⟩⟩) | (go_at_call 52; (with_reducible refine (spec_paAll.calls k _ _ l0 (l0.length : Int) t337 _ ?s1 ?s2 A5.out).mono ?_); (case s1 => exact q201_ HR0.out); (case s2 => exact HC0.out); rintro e w6 ⟨rfl, hb⟩; replace HB := Aside0.mk (below_step q0c4_ hb); clear hb))
   go_ret
   exact ⟨qce7_, q0c4_⟩
  ·
   replace c4 := Bool.eq_false_iff.mpr c4
   subst c4
   rw [if_neg nf_] at H
   obtain rfl := Option.some.inj H
   go_enter Tryz.func24, Tryz.ntmps24
   go_wp2_with (first | (go_at_call 51; (with_reducible refine (spec_l1All.calls k _ _ l0 0 (wrap64 ((l0.length : Int) - 1)) false _ ?s1 ?s2 A3.out).mono ?_); (case s1 => exact q201_ HR0.out); (case s2 => exact HC0.out); rintro e w' ⟨rfl, ⟨nd, rfl⟩⟩))
   go_ret
   exact ⟨qce7_, q0c4_⟩
 ·
  rw [if_neg c2] at H
  have c2b0 := decide_eq_false c2
  have c2b1 : decide (l0.length ≤ 8) = false := decide_eq_false (by omega)
  clear c2
  obtain rfl := Option.some.inj H
  go_enter Tryz.func24, Tryz.ntmps24
  go_wp2
  go_ret
  exact ⟨qce7_, q0c4_⟩

/-! ### spec_paDistances: function 53 -/
def spec_paDistances.l0 : Nat → List Int → List Int → List Int → Int → Int → Option (List Int)
 | 0, _, _, _, _, _ => none
 | k + 1, x0, x5, x10, x11, x12 => if x12 < x11 then (if 0 ≤ x12 then (if x12 < (x10.length : Int) then (if x12 < (x0.length : Int) then (if x5.length < 17592186044416 then (spec_paDistances.l0 k x0 (x5 ++ [wrap64 ((rd x10 x12) - (rd x0 x12))]) x10 x11 (wrap64 (x12 + 1))) else (none)) else (none)) else (none)) else (none)) else (some x5)
def spec_paDistances.f (k : Nat) (l0 : List Int) (a1 : Int) : Option (List Int) := (spec_paDrive.f k l0 a1).bind fun t338 => (spec_paDistances.l0 k l0 ([] : List Int) t338 (t338.length : Int) 0)
theorem spec_paDistances.mono_l : ∀ k, (∀ y0 y1 y2 y3 y4, LeO (spec_paDistances.l0 k y0 y1 y2 y3 y4) (spec_paDistances.l0 (k + 1) y0 y1 y2 y3 y4))
 | 0 => fun _ _ _ _ _ r h => by simp [spec_paDistances.l0] at h
 | k + 1 => by
  have ih0 := spec_paDistances.mono_l k
  ·
   intro y0 y1 y2 y3 y4
   unfold spec_paDistances.l0
   repeat' (with_reducible first | exact ih0 _ _ _ _ _ | exact spec_paDrive.mono _ _ _ | exact LeO.refl _ | exact LeO.none _ | refine LeO.ite ?_ ?_ | refine LeO.bind ?_ (fun _ => ?_))
theorem spec_paDistances.mono : ∀ a0 a1 k, LeO (spec_paDistances.f k a0 a1) (spec_paDistances.f (k + 1) a0 a1) := by
 intro a0 a1 k
 have ih0 := spec_paDistances.mono_l k
 unfold spec_paDistances.f
 repeat' (with_reducible first | exact ih0 _ _ _ _ _ | exact spec_paDrive.mono _ _ _ | exact LeO.refl _ | exact LeO.none _ | refine LeO.ite ?_ ?_ | refine LeO.bind ?_ (fun _ => ?_))
theorem spec_paDistances.calls (k : Nat) (A0 : Option Addr) (c0 : Nat) (l0 : List Int) (a1 : Int) (r : List Int) (w : World) (hr0 : Kd.C (Kd.int .i64) w A0 l0.length l0) (hc0 : l0.length ≤ c0) (h : spec_paDistances.f k l0 a1 = some r) :
  Calls Tryz.prog 53 #[.slice A0 l0.length c0, .int .i64 a1] w fun e w' => ∃ v0_ : Value, e = .returned (v0_) ∧ Kd.R (Kd.int .i64) 3 w' w.heap.size (fun _ => True) v0_ r ∧ Below w.heap.size w w' := by
 have HR0 := Aside0.mk hr0
 have HC0 := Aside0.mk hc0
 clear hr0 hc0
 have HB := Aside0.mk (Below.refl w.heap.size w)
 unfold spec_paDistances.f at h
 have H := h; clear h
 obtain ⟨t338, A3, H⟩ := ob_ H
 have H' := Aside0.mk H
 clear H
 go_enter Tryz.func53, Tryz.ntmps53
 go_wp2_with (first | ((with_reducible refine gate_callee (f := 65) rfl ?_); refine gl_ 10 Tryz.func65 #[.slice A0 l0.length c0, .int .i64 a1] ?_; (with_reducible refine (spec_paDrive.calls k _ _ l0 a1 t338 _ ?s1 ?s2 A3.out).mono ?_); (case s1 => exact q201_ HR0.out); (case s2 => exact HC0.out); rintro e w4 ⟨v339, rfl, ho0, hb⟩; refine ⟨_, rfl, ?_⟩; have HO340 := Aside0.mk (Kd.R_lower ho0 (below_size q0c4_)); replace HB := Aside0.mk (below_step q0c4_ hb); clear hb ho0; obtain ⟨Ao5, co5, eo5⟩ := Kd.R_slice HO340.out; subst eo5))
 go_loopg [5, 12] k (fun kq v5 v12 w' => ∃ (x5_1 : List Int) (x12_1 : Int), v12 = .int .i64 x12_1 ∧ Aside0 (spec_paDistances.l0 kq l0 x5_1 t338 (t338.length : Int) x12_1 = some r) ∧ Aside0 (kq ≤ k) ∧ Aside0 (Kd.R (Kd.int .i64) 3 w' w.heap.size (fun k_ => some k_ ≠ ((.slice Ao5 t338.length co5) : Value).ownBlock) v5 x5_1) ∧ Aside0 (Kd.R (Kd.int .i64) 3 w' w.heap.size (fun k_ => some k_ ≠ (v5 : Value).ownBlock) (.slice Ao5 t338.length co5) t338) ∧ Aside0 (Below w.heap.size w w'))
 case atStart => exact ⟨(([] : List Int)), (0), qc8f_, H', ⟨Nat.le_refl _⟩, ⟨qf62_⟩, ⟨by (with_reducible repeat (first | apply Kd.R_alloc | apply Kd.R_drewN | apply Kd.R_drew)); exact Kd.R_mono HO340.out (fun _ hk => (by simp [Value.ownBlock]))⟩, ⟨q0c4_⟩⟩
 case round =>
  clear H'; try clear p2; try clear c5
  obtain ⟨x5_1, x12_1, rfl, HA, HK1, HO_5, HO_10, HB⟩ := hrel
  cases gk with
  | zero => exact absurd HA.out (by simp [spec_paDistances.l0])
  | succ k1 =>
   have H := HA.out
   clear HA
   simp only [spec_paDistances.l0] at H
   by_cases c6 : x12_1 < (t338.length : Int)
   ·
    rw [if_pos c6] at H
    have c6b0 := decide_eq_true c6
    clear c6
    by_cases c7 : 0 ≤ x12_1
    ·
     rw [if_pos c7] at H
     have c7b0 := decide_eq_true c7
     clear c7
     by_cases c8 : x12_1 < (t338.length : Int)
     ·
      rw [if_pos c8] at H
      have c8b0 := decide_eq_true c8
      clear c8
      by_cases c9 : x12_1 < (l0.length : Int)
      ·
       rw [if_pos c9] at H
       have c9b0 := decide_eq_true c9
       clear c9
       by_cases c10 : x5_1.length < 17592186044416
       ·
        rw [if_pos c10] at H
        have LMc10 := Aside0.mk c10
        clear c10
        obtain ⟨y343, hy343⟩ : ∃ y_ : List Int, y_ = (x5_1 ++ [wrap64 ((rd t338 x12_1) - (rd l0 x12_1))]) := ⟨_, rfl⟩
        replace H : (spec_paDistances.l0 k1 l0 y343 t338 (t338.length : Int) (wrap64 (x12_1 + 1))) = some r := by first | (rw [hy343]; with_reducible exact H) | (have H2_ := (Option.bind_some _ _).symm.trans H; rw [hy343]; with_reducible exact H2_) | (have H2_ := (Option.bind_some _ _).symm.trans H; with_reducible exact H2_) | with_reducible exact H | (rw [hy343]; exact H) | exact H
        have Ny343 := Aside0.mk hy343
        clear hy343
        have H' := Aside0.mk H
        clear H
        have p341 : 0 ≤ (x12_1 : Int) := of_decide_eq_true qe84_
        have q341 : x12_1 < (t338.length : Int) := of_decide_eq_true qe84_
        obtain ⟨ad341, e341, hx341_0⟩ := Kd.at_int (Kd.R_reads' HO_10.out).2.2 x12_1 p341 q341
        cases e341
        replace p341 := eq_true p341
        replace q341 := eq_true q341
        have p342 : 0 ≤ (x12_1 : Int) := of_decide_eq_true qe84_
        have q342 : x12_1 < (l0.length : Int) := of_decide_eq_true qe84_
        obtain ⟨ad342, e342, hx342_0⟩ := Kd.at_int HR0.out x12_1 p342 q342
        cases e342
        (try (replace hx342_0 := (HB.out.cell (World.block_lt_of_cell? w _ hx342_0)).trans hx342_0))
        replace p342 := eq_true p342
        replace q342 := eq_true q342
        go_wp2_with (first | ((with_reducible refine gate_builtin (b := .append) (xs := #[.tmp 17, .tmp 24]) rfl ?_); at_builtin; refine Kd.R_append (Kd.int .i64) (w0 := w) w.heap.size rfl (.tmp 17) (.tmp 24) 24 3 (.int .i64 0) 8 rfl Tryz.underlying24 info3 rfl (by decide) (by omega) u5 x5_1 (wrap64 ((rd t338 x12_1) - (rd l0 x12_1))) [.int .i64 (wrap64 ((rd t338 x12_1) - (rd l0 x12_1)))] (fun k_ => some k_ ≠ (.slice (some ad341) t338.length co5 : Value).ownBlock) (fun _ => False) rfl rfl ?aP (fun _ hk => hk.elim) ?aF ?aO ?aB ?aS ?aL ?_; (case aP => exact rfl); (case aB => exact q0c4_); (case aF => exact (fun k_ hk => Kd.fresh' (Kd.R_lt (q9d5_ HO_10.out)) k_ hk)); (case aO => exact (q9d5_ HO_5.out)); (case aS => exact (below_size q0c4_)); (case aL => have := LMc10.out; omega); intro v344 w11 ho hb hg hat; rw [← Ny343.out] at ho; have n0_ := Aside0.mk (Kd.R_after (ok := (fun _ => True)) (q0ef_ HO_10.out) hg hat); have n1_ := Aside0.mk (hb); have n2_ := Aside0.mk (ho); replace HO_10 := n0_; replace HB := n1_; have HO345 := n2_; clear n0_ n1_ n2_; clear ho hb hg hat))
        go_roundg k1
        case measure => have := HK1.out; omega
        case rel => exact ⟨(y343), (wrap64 (x12_1 + 1)), qc8f_, H', ⟨q1d0_ HK1.out⟩, ⟨q9d5_ HO345.out⟩, ⟨qe0f_ HO_10.out⟩, ⟨q0c4_⟩⟩
       ·
        rw [if_neg c10] at H
        exact absurd H (by simp)
      ·
       rw [if_neg c9] at H
       exact absurd H (by simp)
     ·
      rw [if_neg c8] at H
      exact absurd H (by simp)
    ·
     rw [if_neg c7] at H
     exact absurd H (by simp)
   ·
    rw [if_neg c6] at H
    have c6b0 := decide_eq_false c6
    clear c6
    obtain rfl := Option.some.inj H
    go_wp2
    go_ret
    exact ⟨_, qce7_, q7d9_ HO_5.out, q0c4_⟩

/-! ### spec_vaUnit: function 25 -/
def spec_vaUnit.f (k : Nat) (l0 : List Int) (a1 : Int) : Option (Bool) := (spec_paDistances.f k l0 (l0.length : Int)).bind fun t346 => ((spec_l1All.f k t346 0 a1).bind fun t349 => (some t349))
theorem spec_vaUnit.mono : ∀ a0 a1 k, LeO (spec_vaUnit.f k a0 a1) (spec_vaUnit.f (k + 1) a0 a1) := by
 intro a0 a1 k
 unfold spec_vaUnit.f
 repeat' (with_reducible first | exact spec_l1All.mono _ _ _ _ | exact spec_paDistances.mono _ _ _ | exact LeO.refl _ | exact LeO.none _ | refine LeO.ite ?_ ?_ | refine LeO.bind ?_ (fun _ => ?_))
theorem spec_vaUnit.calls (k : Nat) (A0 : Option Addr) (c0 : Nat) (l0 : List Int) (a1 : Int) (r : Bool) (w : World) (hr0 : Kd.C (Kd.int .i64) w A0 l0.length l0) (hc0 : l0.length ≤ c0) (h : spec_vaUnit.f k l0 a1 = some r) :
  Calls Tryz.prog 25 #[.slice A0 l0.length c0, .int .i64 a1] w fun e w' => e = .returned (.bool r) ∧ Below w.heap.size w w' := by
 have HR0 := Aside0.mk hr0
 have HC0 := Aside0.mk hc0
 clear hr0 hc0
 have HB := Aside0.mk (Below.refl w.heap.size w)
 unfold spec_vaUnit.f at h
 have H := h; clear h
 obtain ⟨t346, A3, H⟩ := ob_ H
 obtain ⟨t349, A4, H⟩ := ob_ H
 obtain rfl := Option.some.inj H
 go_enter Tryz.func25, Tryz.ntmps25
 go_wp2_with (first | ((with_reducible refine gate_callee (f := 53) rfl ?_); refine gl_ 8 Tryz.func53 #[.slice A0 l0.length c0, .int .i64 (l0.length : Int)] ?_; (with_reducible refine (spec_paDistances.calls k _ _ l0 (l0.length : Int) t346 _ ?s1 ?s2 A3.out).mono ?_); (case s1 => exact q201_ HR0.out); (case s2 => exact HC0.out); rintro e w5 ⟨v347, rfl, ho0, hb⟩; refine ⟨_, rfl, ?_⟩; have HO348 := Aside0.mk (Kd.R_lower ho0 (below_size q0c4_)); replace HB := Aside0.mk (below_step q0c4_ hb); clear hb ho0; obtain ⟨Ao6, co6, eo6⟩ := Kd.R_slice HO348.out; subst eo6) | ((with_reducible refine gate_callee (f := 51) rfl ?_); refine gl_ 10 Tryz.func51 #[.slice Ao6 t346.length co6, .int .i64 0, .int .i64 a1] ?_; (with_reducible refine (spec_l1All.calls k _ _ t346 0 a1 t349 _ ?s1 ?s2 A4.out).mono ?_); (case s1 => exact q5a8_ HO348.out); (case s2 => exact (Kd.R_reads' HO348.out).2.1); rintro e w' ⟨rfl, ⟨nd, rfl⟩⟩; refine ⟨_, rfl, ?_⟩))
 go_ret
 exact ⟨qce7_, q0c4_⟩

/-! ### spec_vaFair: function 26 -/
mutual
def spec_vaFair.l0 : Nat → List Int → List Int → List Int → Int → Int → Option (List Int)
 | 0, _, _, _, _, _ => none
 | k + 1, x0, x3, x8, x9, x10 => if x10 < x9 then (if 0 ≤ x10 then (if x10 < (x8.length : Int) then (spec_vaFair.l1 k x0 x3 x10 (rd x8 x10) 0 x8 x9 x10) else (none)) else (none)) else (some x3)
def spec_vaFair.l1 : Nat → List Int → List Int → Int → Int → Int → List Int → Int → Int → Option (List Int)
 | 0, _, _, _, _, _, _, _, _ => none
 | k + 1, x0, x3, x4, x5, x6, x8, x9, x10 => if x6 < (x3.length : Int) then (if 0 ≤ x6 then (if 0 ≤ (rd x3 x6) then (if (rd x3 x6) < (x0.length : Int) then (if (rd x0 (rd x3 x6)) ≤ x5 then (spec_vaFair.l1 k x0 x3 x4 x5 (wrap64 (x6 + 1)) x8 x9 x10) else (if x6 ≤ (x3.length : Int) then ((spec_l1Own.f (x3.take (x6 : Int).toNat)).bind fun t357 => (if t357.length < 17592186044416 then ((some (t357 ++ [x4] : List Int)).bind fun y360 => ((some (x3.drop (x6 : Int).toNat : List Int)).bind fun y363 => (if y360.length + y363.length < 17592186044416 then (spec_vaFair.l0 k x0 (y360 ++ y363) x8 x9 (wrap64 (x10 + 1))) else (none)))) else (none))) else (none))) else (none)) else (none)) else (none)) else (if 0 ≤ x6 then (if x6 ≤ (x3.length : Int) then ((spec_l1Own.f (x3.take (x6 : Int).toNat)).bind fun t374 => (if t374.length < 17592186044416 then ((some (t374 ++ [x4] : List Int)).bind fun y377 => ((some (x3.drop (x6 : Int).toNat : List Int)).bind fun y380 => (if y377.length + y380.length < 17592186044416 then (spec_vaFair.l0 k x0 (y377 ++ y380) x8 x9 (wrap64 (x10 + 1))) else (none)))) else (none))) else (none)) else (none))
end
def spec_vaFair.f (k : Nat) (l0 : List Int) : Option (List Int) := spec_vaFair.l0 k l0 ([] : List Int) l0 (l0.length : Int) 0
theorem spec_vaFair.mono_l : ∀ k, (∀ y0 y1 y2 y3 y4, LeO (spec_vaFair.l0 k y0 y1 y2 y3 y4) (spec_vaFair.l0 (k + 1) y0 y1 y2 y3 y4)) ∧ (∀ y0 y1 y2 y3 y4 y5 y6 y7, LeO (spec_vaFair.l1 k y0 y1 y2 y3 y4 y5 y6 y7) (spec_vaFair.l1 (k + 1) y0 y1 y2 y3 y4 y5 y6 y7))
 | 0 => ⟨fun _ _ _ _ _ r h => by simp [spec_vaFair.l0] at h, fun _ _ _ _ _ _ _ _ r h => by simp [spec_vaFair.l1] at h⟩
 | k + 1 => by
  obtain ⟨ih0, ih1⟩ := spec_vaFair.mono_l k
  refine ⟨?_, ?_⟩
  ·
   intro y0 y1 y2 y3 y4
   unfold spec_vaFair.l0
   repeat' (with_reducible first | exact ih0 _ _ _ _ _ | exact ih1 _ _ _ _ _ _ _ _ | exact LeO.refl _ | exact LeO.none _ | refine LeO.ite ?_ ?_ | refine LeO.bind ?_ (fun _ => ?_))
  ·
   intro y0 y1 y2 y3 y4 y5 y6 y7
   unfold spec_vaFair.l1
   repeat' (with_reducible first | exact ih0 _ _ _ _ _ | exact ih1 _ _ _ _ _ _ _ _ | exact LeO.refl _ | exact LeO.none _ | refine LeO.ite ?_ ?_ | refine LeO.bind ?_ (fun _ => ?_))
theorem spec_vaFair.mono : ∀ a0 k, LeO (spec_vaFair.f k a0) (spec_vaFair.f (k + 1) a0) := by
 intro a0 k
 obtain ⟨ih0, ih1⟩ := spec_vaFair.mono_l k
 unfold spec_vaFair.f
 repeat' (with_reducible first | exact ih0 _ _ _ _ _ | exact ih1 _ _ _ _ _ _ _ _ | exact LeO.refl _ | exact LeO.none _ | refine LeO.ite ?_ ?_ | refine LeO.bind ?_ (fun _ => ?_))
theorem spec_vaFair.calls (k : Nat) (A0 : Option Addr) (c0 : Nat) (l0 : List Int) (r : List Int) (w : World) (hr0 : Kd.C (Kd.int .i64) w A0 l0.length l0) (hc0 : l0.length ≤ c0) (h : spec_vaFair.f k l0 = some r) :
  Calls Tryz.prog 26 #[.slice A0 l0.length c0] w fun e w' => ∃ v0_ : Value, e = .returned (v0_) ∧ Kd.R (Kd.int .i64) 3 w' w.heap.size (fun _ => True) v0_ r ∧ Below w.heap.size w w' := by
 have HR0 := Aside0.mk hr0
 have HC0 := Aside0.mk hc0
 clear hr0 hc0
 have HB := Aside0.mk (Below.refl w.heap.size w)
 unfold spec_vaFair.f at h
 have H := h; clear h
 have H' := Aside0.mk H
 clear H
 go_enter Tryz.func26, Tryz.ntmps26
 go_wp2
 go_loopg [3, 10] k (fun kq v3 v10 w' => ∃ (x3_1 : List Int) (x10_1 : Int), v10 = .int .i64 x10_1 ∧ Aside0 (spec_vaFair.l0 kq l0 x3_1 l0 (l0.length : Int) x10_1 = some r) ∧ Aside0 (kq ≤ k) ∧ Aside0 (Kd.R (Kd.int .i64) 3 w' w.heap.size (fun _ => True) v3 x3_1) ∧ Aside0 (Below w.heap.size w w'))
 case atStart => exact ⟨(([] : List Int)), (0), qc8f_, H', ⟨Nat.le_refl _⟩, ⟨qf62_⟩, ⟨q0c4_⟩⟩
 case round =>
  clear H'
  obtain ⟨x3_1, x10_1, rfl, HA, HK1, HO_3, HB⟩ := hrel
  cases gk with
  | zero => exact absurd HA.out (by simp [spec_vaFair.l0])
  | succ k1 =>
   have H := HA.out
   clear HA
   simp only [spec_vaFair.l0] at H
   by_cases c2 : x10_1 < (l0.length : Int)
   ·
    rw [if_pos c2] at H
    have c2b0 := decide_eq_true c2
    clear c2
    by_cases c3 : 0 ≤ x10_1
    ·
     rw [if_pos c3] at H
     have c3b0 := decide_eq_true c3
     clear c3
     by_cases c4 : x10_1 < (l0.length : Int)
     ·
      rw [if_pos c4] at H
      have c4b0 := decide_eq_true c4
      clear c4
      have H' := Aside0.mk H
      clear H
      have p350 : 0 ≤ (x10_1 : Int) := of_decide_eq_true qe84_
      have q350 : x10_1 < (l0.length : Int) := of_decide_eq_true qe84_
      obtain ⟨ad350, e350, hx350_0⟩ := Kd.at_int HR0.out x10_1 p350 q350
      cases e350
      (try (replace hx350_0 := (HB.out.cell (World.block_lt_of_cell? w _ hx350_0)).trans hx350_0))
      replace p350 := eq_true p350
      replace q350 := eq_true q350
      go_wp2
      go_loopg [6] k1 (fun kq v6 w' => ∃ (x6_2 : Int), v6 = .int .i64 x6_2 ∧ Aside0 (spec_vaFair.l1 kq l0 x3_1 x10_1 (rd l0 x10_1) x6_2 l0 (l0.length : Int) x10_1 = some r) ∧ Aside0 (kq ≤ k1) ∧ Aside0 (Kd.R (Kd.int .i64) 3 w' w.heap.size (fun _ => True) u3 x3_1) ∧ Aside0 (Below w.heap.size w w'))
      case atStart => exact ⟨(0), qc8f_, H', ⟨Nat.le_refl _⟩, ⟨q9d5_ HO_3.out⟩, ⟨q0c4_⟩⟩
      case round =>
       clear H'; try clear c2; try clear c2b0; try clear p2; try clear c3; try clear c3b0; try clear p3; try clear q3; try clear hx3; try clear c4; try clear c4b0; try clear hx350_0; try clear p350; try clear q350
       obtain ⟨x6_2, rfl, HA, HK2, HO_3, HB⟩ := hrel
       cases gk with
       | zero => exact absurd HA.out (by simp [spec_vaFair.l1])
       | succ k2 =>
        have H := HA.out
        clear HA
        simp only [spec_vaFair.l1] at H
        by_cases c5 : x6_2 < (x3_1.length : Int)
        ·
         rw [if_pos c5] at H
         have c5b0 := decide_eq_true c5
         clear c5
         by_cases c6 : 0 ≤ x6_2
         ·
          rw [if_pos c6] at H
          have c6b0 := decide_eq_true c6
          clear c6
          by_cases c7 : 0 ≤ (rd x3_1 x6_2)
          ·
           rw [if_pos c7] at H
           have c7b0 := decide_eq_true c7
           clear c7
           by_cases c8 : (rd x3_1 x6_2) < (l0.length : Int)
           ·
            rw [if_pos c8] at H
            have c8b0 := decide_eq_true c8
            clear c8
            by_cases c9 : (rd l0 (rd x3_1 x6_2)) ≤ (rd l0 x10_1)
            ·
             rw [if_pos c9] at H
             have c9b0 := decide_eq_true c9
             clear c9
             have H' := Aside0.mk H
             clear H
             obtain ⟨Ao10, co10, eo10⟩ := Kd.R_slice HO_3.out
             subst eo10
             have p351 : 0 ≤ (x6_2 : Int) := of_decide_eq_true qe84_
             have q351 : x6_2 < (x3_1.length : Int) := of_decide_eq_true qe84_
             obtain ⟨ad351, e351, hx351_0⟩ := Kd.at_int (Kd.R_reads' HO_3.out).2.2 x6_2 p351 q351
             cases e351
             replace p351 := eq_true p351
             replace q351 := eq_true q351
             have p352 : 0 ≤ ((rd x3_1 x6_2) : Int) := of_decide_eq_true qe84_
             have q352 : (rd x3_1 x6_2) < (l0.length : Int) := of_decide_eq_true qe84_
             obtain ⟨ad352, e352, hx352_0⟩ := Kd.at_int HR0.out (rd x3_1 x6_2) p352 q352
             obtain rfl : ad350 = ad352 := (by injection e352)
             (try (replace hx352_0 := (HB.out.cell (World.block_lt_of_cell? w _ hx352_0)).trans hx352_0))
             replace p352 := eq_true p352
             replace q352 := eq_true q352
             go_wp2
             go_roundg k2
             case measure => have := HK1.out; have := HK2.out; omega
             case rel => exact ⟨(wrap64 (x6_2 + 1)), qc8f_, H', ⟨q37b_ HK1.out HK2.out⟩, ⟨q9d5_ HO_3.out⟩, ⟨q0c4_⟩⟩
            ·
             rw [if_neg c9] at H
             have c9b0 := decide_eq_false c9
             clear c9
             have c11b0 := eq_true (of_decide_eq_true qe84_ : 0 ≤ x6_2)
             by_cases c12 : x6_2 ≤ (x3_1.length : Int)
             ·
              rw [if_pos c12] at H
              have c12b0 := eq_true c12
              have c12b1 := decide_eq_true c12
              clear c12
              obtain ⟨y353, hy353⟩ : ∃ y_ : List Int, y_ = (x3_1.take (x6_2 : Int).toNat) := ⟨_, rfl⟩
              replace H : ((spec_l1Own.f y353).bind fun t357 => (if t357.length < 17592186044416 then ((some (t357 ++ [x10_1] : List Int)).bind fun y360 => ((some (x3_1.drop (x6_2 : Int).toNat : List Int)).bind fun y363 => (if y360.length + y363.length < 17592186044416 then (spec_vaFair.l0 k2 l0 (y360 ++ y363) l0 (l0.length : Int) (wrap64 (x10_1 + 1))) else (none)))) else (none))) = some r := by first | (rw [hy353]; with_reducible exact H) | (have H2_ := (Option.bind_some _ _).symm.trans H; rw [hy353]; with_reducible exact H2_) | (have H2_ := (Option.bind_some _ _).symm.trans H; with_reducible exact H2_) | with_reducible exact H | (rw [hy353]; exact H) | exact H
              have Ny353 := Aside0.mk hy353
              clear hy353
              obtain ⟨t357, A13, H⟩ := ob_ H
              by_cases c14 : t357.length < 17592186044416
              ·
               rw [if_pos c14] at H
               have LMc14 := Aside0.mk c14
               clear c14
               obtain ⟨y360, hy360⟩ : ∃ y_ : List Int, y_ = (t357 ++ [x10_1]) := ⟨_, rfl⟩
               replace H : ((some (x3_1.drop (x6_2 : Int).toNat : List Int)).bind fun y363 => (if y360.length + y363.length < 17592186044416 then (spec_vaFair.l0 k2 l0 (y360 ++ y363) l0 (l0.length : Int) (wrap64 (x10_1 + 1))) else (none))) = some r := by first | (rw [hy360]; with_reducible exact H) | (have H2_ := (Option.bind_some _ _).symm.trans H; rw [hy360]; with_reducible exact H2_) | (have H2_ := (Option.bind_some _ _).symm.trans H; with_reducible exact H2_) | with_reducible exact H | (rw [hy360]; exact H) | exact H
               have Ny360 := Aside0.mk hy360
               clear hy360
               have c15b0 := eq_true (of_decide_eq_true qe84_ : 0 ≤ x6_2)
               have c16b0 := eq_true (of_decide_eq_true qe84_ : x6_2 ≤ (x3_1.length : Int))
               obtain ⟨y363, hy363⟩ : ∃ y_ : List Int, y_ = (x3_1.drop (x6_2 : Int).toNat) := ⟨_, rfl⟩
               replace H : (if y360.length + y363.length < 17592186044416 then (spec_vaFair.l0 k2 l0 (y360 ++ y363) l0 (l0.length : Int) (wrap64 (x10_1 + 1))) else (none)) = some r := by first | (rw [hy363]; with_reducible exact H) | (have H2_ := (Option.bind_some _ _).symm.trans H; rw [hy363]; with_reducible exact H2_) | (have H2_ := (Option.bind_some _ _).symm.trans H; with_reducible exact H2_) | with_reducible exact H | (rw [hy363]; exact H) | exact H
               have Ny363 := Aside0.mk hy363
               clear hy363
               by_cases c17 : y360.length + y363.length < 17592186044416
               ·
                rw [if_pos c17] at H
                have LMc17 := Aside0.mk c17
                clear c17
                obtain ⟨y367, hy367⟩ : ∃ y_ : List Int, y_ = (y360 ++ y363) := ⟨_, rfl⟩
                replace H : (spec_vaFair.l0 k2 l0 y367 l0 (l0.length : Int) (wrap64 (x10_1 + 1))) = some r := by first | (rw [hy367]; with_reducible exact H) | (have H2_ := (Option.bind_some _ _).symm.trans H; rw [hy367]; with_reducible exact H2_) | (have H2_ := (Option.bind_some _ _).symm.trans H; with_reducible exact H2_) | with_reducible exact H | (rw [hy367]; exact H) | exact H
                have Ny367 := Aside0.mk hy367
                clear hy367
                have H' := Aside0.mk H
                clear H
                obtain ⟨Ao18, co18, eo18⟩ := Kd.R_slice HO_3.out
                subst eo18
                have p351 : 0 ≤ (x6_2 : Int) := of_decide_eq_true qe84_
                have q351 : x6_2 < (x3_1.length : Int) := of_decide_eq_true qe84_
                obtain ⟨ad351, e351, hx351_0⟩ := Kd.at_int (Kd.R_reads' HO_3.out).2.2 x6_2 p351 q351
                cases e351
                replace p351 := eq_true p351
                replace q351 := eq_true q351
                have p352 : 0 ≤ ((rd x3_1 x6_2) : Int) := of_decide_eq_true qe84_
                have q352 : (rd x3_1 x6_2) < (l0.length : Int) := of_decide_eq_true qe84_
                obtain ⟨ad352, e352, hx352_0⟩ := Kd.at_int HR0.out (rd x3_1 x6_2) p352 q352
                obtain rfl : ad350 = ad352 := (by injection e352)
                (try (replace hx352_0 := (HB.out.cell (World.block_lt_of_cell? w _ hx352_0)).trans hx352_0))
                replace p352 := eq_true p352
                replace q352 := eq_true q352
                have q19 : (x6_2 : Int) ≤ ((x3_1.length : Int) : Int) := of_decide_eq_true qe84_
                obtain ⟨i019, hi019, _, hsz19, _⟩ := info_parts info3
                have hroom19 : x3_1.length ≤ co18 := (Kd.R_reads' HO_3.out).2.1
                have hC19 : Kd.C (Kd.int .i64) _ (some ad351) x3_1.length x3_1 := (Kd.R_reads' HO_3.out).2.2
                have hcut19 := cut_to (P := Tryz.prog) 24 3 .i64 Tryz.underlying24 hi019 (some ad351) x3_1.length co18 x6_2 (of_decide_eq_true qe84_) q19 hroom19
                have hr19 := Kd.C_take (m := (x6_2 : Int).toNat) hC19 (by omega)
                have hy19 : y353.length = (x6_2 : Int).toNat := (by rw [Ny353.out, List.length_take]; omega)
                rw [← Ny353.out] at hr19
                rw [← hy19] at hcut19
                have HR356 := Aside0.mk hr19
                have HC356 := Aside0.mk (show y353.length ≤ co18 from by omega)
                clear hr19 hC19 hroom19 hi019 hsz19
                have KY19 := Aside0.mk hy19
                clear hy19
                have KL19 := Aside0.mk (show (x6_2 : Int).toNat ≤ x3_1.length from by omega)
                replace q19 := eq_true q19
                go_wp2_with (first | ((with_reducible refine gate_callee (f := 54) rfl ?_); refine gl_ 35 Tryz.func54 #[.slice (some ad351) y353.length co18] ?_; (with_reducible refine (spec_l1Own.calls _ _ y353 t357 _ ?s1 ?s2 A13.out).mono ?_); (case s1 => exact qe8c_ HR356.out); (case s2 => exact HC356.out); rintro e w20 ⟨v358, rfl, ho0, hb⟩; refine ⟨_, rfl, ?_⟩; have n0_ := Aside0.mk (Kd.R_elder' (q9d5_ HO_3.out) (Kd.R_base ho0) hb); have n1_ := Aside0.mk (Kd.R_lower (Kd.R_new' ho0 (Kd.R_lt (q9d5_ HO_3.out))) (below_size q0c4_)); have n2_ := Aside0.mk (Kd.C_below (q75a_ HR356.out) hb); have n3_ := Aside0.mk (below_step q0c4_ hb); replace HO_3 := n0_; have HO359 := n1_; replace HR356 := n2_; replace HB := n3_; clear n0_ n1_ n2_ n3_; clear hb ho0) | ((with_reducible refine gate_builtin (b := .append) (xs := #[.tmp 35, .tmp 37]) rfl ?_); at_builtin; refine Kd.R_append (Kd.int .i64) (w0 := w) w.heap.size rfl (.tmp 35) (.tmp 37) 24 3 (.int .i64 0) 8 rfl Tryz.underlying24 info3 rfl (by decide) (by omega) v358 t357 x10_1 [.int .i64 x10_1] (fun k_ => some k_ ≠ (.slice (some ad351) x3_1.length co18 : Value).ownBlock) (fun _ => False) rfl rfl ?aP (fun _ hk => hk.elim) ?aF ?aO ?aB ?aS ?aL ?_; (case aP => exact rfl); (case aB => exact q0c4_); (case aF => exact (fun k_ hk => Kd.fresh' (Kd.R_lt (q9d5_ HO_3.out)) k_ hk)); (case aO => exact (qe0f_ HO359.out)); (case aS => exact (below_size q0c4_)); (case aL => have := LMc14.out; omega); intro v361 w21 ho hb hg hat; rw [← Ny360.out] at ho; have n0_ := Aside0.mk (Kd.R_after (ok := (fun _ => True)) (q9d5_ HO_3.out) hg hat); have n1_ := Aside0.mk (hb); have n2_ := Aside0.mk ((show Kd.C (Kd.int .i64) w21 (some ad351) y353.length y353 from q603_ HO_3.out)); have n3_ := Aside0.mk (ho); replace HO_3 := n0_; replace HB := n1_; replace HR356 := n2_; have HO362 := n3_; clear n0_ n1_ n2_ n3_; clear ho hb hg hat; have q22 : (x6_2 : Int) ≤ ((x3_1.length : Int) : Int) := of_decide_eq_true qe84_; obtain ⟨i022, hi022, _, hsz22, _⟩ := info_parts info3; have hroom22 : x3_1.length ≤ co18 := (Kd.R_reads' HO_3.out).2.1; have hC22 : Kd.C (Kd.int .i64) _ (some ad351) x3_1.length x3_1 := (Kd.R_reads' HO_3.out).2.2; have q022 : (0 : Int) ≤ (x6_2 : Int) := of_decide_eq_true qe84_; have hcut22 := cut_from (P := Tryz.prog) 24 3 .i64 Tryz.underlying24 hi022 1 hsz22 (some ad351) x3_1.length co18 x6_2 q022 q22; have hr22 := Kd.C_drop (m := (x6_2 : Int).toNat) (c := co18) hC22 (by omega) hroom22; obtain ⟨A22, hA22⟩ : ∃ A1, A1 = (if co18 = (x6_2 : Int).toNat then (some ad351) else ((some ad351) : Option Addr).map (·.add ((x6_2 : Int).toNat * 1))) := ⟨_, rfl⟩; obtain ⟨c22, hc22⟩ : ∃ c1, c1 = co18 - (x6_2 : Int).toNat := ⟨_, rfl⟩; have hy22 : y363.length = x3_1.length - (x6_2 : Int).toNat := (by rw [Ny363.out, List.length_drop] <;> omega); rw [show (x3_1).drop (x6_2 : Int).toNat = y363 from Ny363.out.symm] at hr22; replace hr22 : Kd.C (Kd.int .i64) _ A22 y363.length y363 := (by rw [hA22]; exact hr22); rw [← hy22, ← hA22, ← hc22] at hcut22; have HR366 := Aside0.mk hr22; have HC366 := Aside0.mk (show y363.length ≤ c22 from by rw [hy22, hc22]; exact Nat.sub_le_sub_right hroom22 _); clear hr22 hC22 hroom22 hi022 hsz22 hc22; have KY22 := Aside0.mk hy22; have KA22 := Aside0.mk hA22; clear hy22 hA22; have KL22 := Aside0.mk (show (x6_2 : Int).toNat ≤ x3_1.length from by omega); replace q22 := eq_true q22) | ((with_reducible refine gate_builtin (b := .append) (xs := #[.tmp 39, .tmp 42]) rfl ?_); at_builtin; refine Kd.R_append_rows (Kd.int .i64) (w0 := w) w.heap.size rfl (.tmp 39) (.tmp 42) 24 3 (.int .i64 0) 8 rfl Tryz.underlying24 info3 rfl (by decide) (by omega) v361 y360 y363 _ _ _ (fun k_ => some k_ ≠ (.slice (some ad351) x3_1.length co18 : Value).ownBlock) (fun _ => False) rfl rfl ?aO ?aR (fun _ _ h => h) (fun _ h => h.elim) ?aF ?aB ?aS ?aL ?_; (case aR => exact qe8c_ HR366.out); (case aB => exact q0c4_); (case aF => exact (fun k_ hk => Kd.fresh' (Kd.R_lt (q9d5_ HO_3.out)) k_ hk)); (case aO => exact (q9d5_ HO362.out)); (case aS => exact (below_size q0c4_)); (case aL => have := LMc17.out; omega); intro v368 w23 ho hb hg hat; rw [← Ny367.out] at ho; have n0_ := Aside0.mk (Kd.R_after (ok := (fun _ => True)) (q9d5_ HO_3.out) hg hat); have n1_ := Aside0.mk (hb); have n2_ := Aside0.mk ((show Kd.C (Kd.int .i64) w23 (some ad351) y353.length y353 from q603_ HO_3.out)); have n3_ := Aside0.mk ((show Kd.C (Kd.int .i64) w23 A22 y363.length y363 from by rw [Ny363.out, KA22.out]; exact Kd.C_drop (m := (x6_2 : Int).toNat) (c := co18) ((Kd.R_reads' (Kd.R_after (ok := (fun _ => True)) (q9d5_ HO_3.out) hg hat)).2.2) KL22.out ((Kd.R_reads' (Kd.R_after (ok := (fun _ => True)) (q9d5_ HO_3.out) hg hat)).2.1))); have n4_ := Aside0.mk (ho); replace HO_3 := n0_; replace HB := n1_; replace HR356 := n2_; replace HR366 := n3_; have HO369 := n4_; clear n0_ n1_ n2_ n3_ n4_; clear ho hb hg hat))
                go_roundg k2
                case measure => have := HK1.out; have := HK2.out; omega
                case rel => exact ⟨(y367), (wrap64 (x10_1 + 1)), qc8f_, H', ⟨q37b_ HK1.out HK2.out⟩, ⟨q7d9_ HO369.out⟩, ⟨q0c4_⟩⟩
               ·
                rw [if_neg c17] at H
                exact absurd H (by simp)
              ·
               rw [if_neg c14] at H
               exact absurd H (by simp)
             ·
              rw [if_neg c12] at H
              exact absurd H (by simp)
           ·
            rw [if_neg c8] at H
            exact absurd H (by simp)
          ·
           rw [if_neg c7] at H
           exact absurd H (by simp)
         ·
          rw [if_neg c6] at H
          exact absurd H (by simp)
        ·
         rw [if_neg c5] at H
         have c5b0 := decide_eq_false c5
         clear c5
         by_cases c24 : 0 ≤ x6_2
         ·
          rw [if_pos c24] at H
          have c24b0 := eq_true c24
          have c24b1 := decide_eq_true c24
          clear c24
          by_cases c25 : x6_2 ≤ (x3_1.length : Int)
          ·
           rw [if_pos c25] at H
           have c25b0 := eq_true c25
           have c25b1 := decide_eq_true c25
           clear c25
           obtain ⟨y370, hy370⟩ : ∃ y_ : List Int, y_ = (x3_1.take (x6_2 : Int).toNat) := ⟨_, rfl⟩
           replace H : ((spec_l1Own.f y370).bind fun t374 => (if t374.length < 17592186044416 then ((some (t374 ++ [x10_1] : List Int)).bind fun y377 => ((some (x3_1.drop (x6_2 : Int).toNat : List Int)).bind fun y380 => (if y377.length + y380.length < 17592186044416 then (spec_vaFair.l0 k2 l0 (y377 ++ y380) l0 (l0.length : Int) (wrap64 (x10_1 + 1))) else (none)))) else (none))) = some r := by first | (rw [hy370]; with_reducible exact H) | (have H2_ := (Option.bind_some _ _).symm.trans H; rw [hy370]; with_reducible exact H2_) | (have H2_ := (Option.bind_some _ _).symm.trans H; with_reducible exact H2_) | with_reducible exact H | (rw [hy370]; exact H) | exact H
           have Ny370 := Aside0.mk hy370
           clear hy370
           obtain ⟨t374, A26, H⟩ := ob_ H
           by_cases c27 : t374.length < 17592186044416
           ·
            rw [if_pos c27] at H
            have LMc27 := Aside0.mk c27
            clear c27
            obtain ⟨y377, hy377⟩ : ∃ y_ : List Int, y_ = (t374 ++ [x10_1]) := ⟨_, rfl⟩
            replace H : ((some (x3_1.drop (x6_2 : Int).toNat : List Int)).bind fun y380 => (if y377.length + y380.length < 17592186044416 then (spec_vaFair.l0 k2 l0 (y377 ++ y380) l0 (l0.length : Int) (wrap64 (x10_1 + 1))) else (none))) = some r := by first | (rw [hy377]; with_reducible exact H) | (have H2_ := (Option.bind_some _ _).symm.trans H; rw [hy377]; with_reducible exact H2_) | (have H2_ := (Option.bind_some _ _).symm.trans H; with_reducible exact H2_) | with_reducible exact H | (rw [hy377]; exact H) | exact H
            have Ny377 := Aside0.mk hy377
            clear hy377
            have c28b0 := eq_true (of_decide_eq_true qe84_ : 0 ≤ x6_2)
            have c29b0 := eq_true (of_decide_eq_true qe84_ : x6_2 ≤ (x3_1.length : Int))
            obtain ⟨y380, hy380⟩ : ∃ y_ : List Int, y_ = (x3_1.drop (x6_2 : Int).toNat) := ⟨_, rfl⟩
            replace H : (if y377.length + y380.length < 17592186044416 then (spec_vaFair.l0 k2 l0 (y377 ++ y380) l0 (l0.length : Int) (wrap64 (x10_1 + 1))) else (none)) = some r := by first | (rw [hy380]; with_reducible exact H) | (have H2_ := (Option.bind_some _ _).symm.trans H; rw [hy380]; with_reducible exact H2_) | (have H2_ := (Option.bind_some _ _).symm.trans H; with_reducible exact H2_) | with_reducible exact H | (rw [hy380]; exact H) | exact H
            have Ny380 := Aside0.mk hy380
            clear hy380
            by_cases c30 : y377.length + y380.length < 17592186044416
            ·
             rw [if_pos c30] at H
             have LMc30 := Aside0.mk c30
             clear c30
             obtain ⟨y384, hy384⟩ : ∃ y_ : List Int, y_ = (y377 ++ y380) := ⟨_, rfl⟩
             replace H : (spec_vaFair.l0 k2 l0 y384 l0 (l0.length : Int) (wrap64 (x10_1 + 1))) = some r := by first | (rw [hy384]; with_reducible exact H) | (have H2_ := (Option.bind_some _ _).symm.trans H; rw [hy384]; with_reducible exact H2_) | (have H2_ := (Option.bind_some _ _).symm.trans H; with_reducible exact H2_) | with_reducible exact H | (rw [hy384]; exact H) | exact H
             have Ny384 := Aside0.mk hy384
             clear hy384
             have H' := Aside0.mk H
             clear H
             obtain ⟨Ao31, co31, eo31⟩ := Kd.R_slice HO_3.out
             subst eo31
             have q32 : (x6_2 : Int) ≤ ((x3_1.length : Int) : Int) := of_decide_eq_true qe84_
             obtain ⟨i032, hi032, _, hsz32, _⟩ := info_parts info3
             have hroom32 : x3_1.length ≤ co31 := (Kd.R_reads' HO_3.out).2.1
             have hC32 : Kd.C (Kd.int .i64) _ Ao31 x3_1.length x3_1 := (Kd.R_reads' HO_3.out).2.2
             have hcut32 := cut_to (P := Tryz.prog) 24 3 .i64 Tryz.underlying24 hi032 Ao31 x3_1.length co31 x6_2 (of_decide_eq_true qe84_) q32 hroom32
             have hr32 := Kd.C_take (m := (x6_2 : Int).toNat) hC32 (by omega)
             have hy32 : y370.length = (x6_2 : Int).toNat := (by rw [Ny370.out, List.length_take]; omega)
             rw [← Ny370.out] at hr32
             rw [← hy32] at hcut32
             have HR373 := Aside0.mk hr32
             have HC373 := Aside0.mk (show y370.length ≤ co31 from by omega)
             clear hr32 hC32 hroom32 hi032 hsz32
             have KY32 := Aside0.mk hy32
             clear hy32
             have KL32 := Aside0.mk (show (x6_2 : Int).toNat ≤ x3_1.length from by omega)
             replace q32 := eq_true q32
             go_wp2_with (first | ((with_reducible refine gate_callee (f := 54) rfl ?_); refine gl_ 35 Tryz.func54 #[.slice Ao31 y370.length co31] ?_; (with_reducible refine (spec_l1Own.calls _ _ y370 t374 _ ?s1 ?s2 A26.out).mono ?_); (case s1 => exact qe8c_ HR373.out); (case s2 => exact HC373.out); rintro e w33 ⟨v375, rfl, ho0, hb⟩; refine ⟨_, rfl, ?_⟩; have n0_ := Aside0.mk (Kd.R_elder' (q9d5_ HO_3.out) (Kd.R_base ho0) hb); have n1_ := Aside0.mk (Kd.R_lower (Kd.R_new' ho0 (Kd.R_lt (q9d5_ HO_3.out))) (below_size q0c4_)); have n2_ := Aside0.mk (Kd.C_below (q75a_ HR373.out) hb); have n3_ := Aside0.mk (below_step q0c4_ hb); replace HO_3 := n0_; have HO376 := n1_; replace HR373 := n2_; replace HB := n3_; clear n0_ n1_ n2_ n3_; clear hb ho0) | ((with_reducible refine gate_builtin (b := .append) (xs := #[.tmp 35, .tmp 37]) rfl ?_); at_builtin; refine Kd.R_append (Kd.int .i64) (w0 := w) w.heap.size rfl (.tmp 35) (.tmp 37) 24 3 (.int .i64 0) 8 rfl Tryz.underlying24 info3 rfl (by decide) (by omega) v375 t374 x10_1 [.int .i64 x10_1] (fun k_ => some k_ ≠ (.slice Ao31 x3_1.length co31 : Value).ownBlock) (fun _ => False) rfl rfl ?aP (fun _ hk => hk.elim) ?aF ?aO ?aB ?aS ?aL ?_; (case aP => exact rfl); (case aB => exact q0c4_); (case aF => exact (fun k_ hk => Kd.fresh' (Kd.R_lt (q9d5_ HO_3.out)) k_ hk)); (case aO => exact (qe0f_ HO376.out)); (case aS => exact (below_size q0c4_)); (case aL => have := LMc27.out; omega); intro v378 w34 ho hb hg hat; rw [← Ny377.out] at ho; have n0_ := Aside0.mk (Kd.R_after (ok := (fun _ => True)) (q9d5_ HO_3.out) hg hat); have n1_ := Aside0.mk (hb); have n2_ := Aside0.mk ((show Kd.C (Kd.int .i64) w34 Ao31 y370.length y370 from q161_ HO_3.out)); have n3_ := Aside0.mk (ho); replace HO_3 := n0_; replace HB := n1_; replace HR373 := n2_; have HO379 := n3_; clear n0_ n1_ n2_ n3_; clear ho hb hg hat; have q35 : (x6_2 : Int) ≤ ((x3_1.length : Int) : Int) := of_decide_eq_true qe84_; obtain ⟨i035, hi035, _, hsz35, _⟩ := info_parts info3; have hroom35 : x3_1.length ≤ co31 := (Kd.R_reads' HO_3.out).2.1; have hC35 : Kd.C (Kd.int .i64) _ Ao31 x3_1.length x3_1 := (Kd.R_reads' HO_3.out).2.2; have q035 : (0 : Int) ≤ (x6_2 : Int) := of_decide_eq_true qe84_; have hcut35 := cut_from (P := Tryz.prog) 24 3 .i64 Tryz.underlying24 hi035 1 hsz35 Ao31 x3_1.length co31 x6_2 q035 q35; have hr35 := Kd.C_drop (m := (x6_2 : Int).toNat) (c := co31) hC35 (by omega) hroom35; obtain ⟨A35, hA35⟩ : ∃ A1, A1 = (if co31 = (x6_2 : Int).toNat then Ao31 else (Ao31 : Option Addr).map (·.add ((x6_2 : Int).toNat * 1))) := ⟨_, rfl⟩; obtain ⟨c35, hc35⟩ : ∃ c1, c1 = co31 - (x6_2 : Int).toNat := ⟨_, rfl⟩; have hy35 : y380.length = x3_1.length - (x6_2 : Int).toNat := (by rw [Ny380.out, List.length_drop] <;> omega); rw [show (x3_1).drop (x6_2 : Int).toNat = y380 from Ny380.out.symm] at hr35; replace hr35 : Kd.C (Kd.int .i64) _ A35 y380.length y380 := (by rw [hA35]; exact hr35); rw [← hy35, ← hA35, ← hc35] at hcut35; have HR383 := Aside0.mk hr35; have HC383 := Aside0.mk (show y380.length ≤ c35 from by rw [hy35, hc35]; exact Nat.sub_le_sub_right hroom35 _); clear hr35 hC35 hroom35 hi035 hsz35 hc35; have KY35 := Aside0.mk hy35; have KA35 := Aside0.mk hA35; clear hy35 hA35; have KL35 := Aside0.mk (show (x6_2 : Int).toNat ≤ x3_1.length from by omega); replace q35 := eq_true q35) | ((with_reducible refine gate_builtin (b := .append) (xs := #[.tmp 39, .tmp 42]) rfl ?_); at_builtin; refine Kd.R_append_rows (Kd.int .i64) (w0 := w) w.heap.size rfl (.tmp 39) (.tmp 42) 24 3 (.int .i64 0) 8 rfl Tryz.underlying24 info3 rfl (by decide) (by omega) v378 y377 y380 _ _ _ (fun k_ => some k_ ≠ (.slice Ao31 x3_1.length co31 : Value).ownBlock) (fun _ => False) rfl rfl ?aO ?aR (fun _ _ h => h) (fun _ h => h.elim) ?aF ?aB ?aS ?aL ?_; (case aR => exact qe8c_ HR383.out); (case aB => exact q0c4_); (case aF => exact (fun k_ hk => Kd.fresh' (Kd.R_lt (q9d5_ HO_3.out)) k_ hk)); (case aO => exact (q9d5_ HO379.out)); (case aS => exact (below_size q0c4_)); (case aL => have := LMc30.out; omega); intro v385 w36 ho hb hg hat; rw [← Ny384.out] at ho; have n0_ := Aside0.mk (Kd.R_after (ok := (fun _ => True)) (q9d5_ HO_3.out) hg hat); have n1_ := Aside0.mk (hb); have n2_ := Aside0.mk ((show Kd.C (Kd.int .i64) w36 Ao31 y370.length y370 from q161_ HO_3.out)); have n3_ := Aside0.mk ((show Kd.C (Kd.int .i64) w36 A35 y380.length y380 from by rw [Ny380.out, KA35.out]; exact Kd.C_drop (m := (x6_2 : Int).toNat) (c := co31) ((Kd.R_reads' (Kd.R_after (ok := (fun _ => True)) (q9d5_ HO_3.out) hg hat)).2.2) KL35.out ((Kd.R_reads' (Kd.R_after (ok := (fun _ => True)) (q9d5_ HO_3.out) hg hat)).2.1))); have n4_ := Aside0.mk (ho); replace HO_3 := n0_; replace HB := n1_; replace HR373 := n2_; replace HR383 := n3_; have HO386 := n4_; clear n0_ n1_ n2_ n3_ n4_; clear ho hb hg hat))
             go_roundg k2
             case measure => have := HK1.out; have := HK2.out; omega
             case rel => exact ⟨(y384), (wrap64 (x10_1 + 1)), qc8f_, H', ⟨q37b_ HK1.out HK2.out⟩, ⟨q7d9_ HO386.out⟩, ⟨q0c4_⟩⟩
            ·
             rw [if_neg c30] at H
             exact absurd H (by simp)
           ·
            rw [if_neg c27] at H
            exact absurd H (by simp)
          ·
           rw [if_neg c25] at H
           exact absurd H (by simp)
         ·
          rw [if_neg c24] at H
          exact absurd H (by simp)
     ·
      rw [if_neg c4] at H
      exact absurd H (by simp)
    ·
     rw [if_neg c3] at H
     exact absurd H (by simp)
   ·
    rw [if_neg c2] at H
    have c2b0 := decide_eq_false c2
    clear c2
    obtain rfl := Option.some.inj H
    go_wp2
    go_ret
    exact ⟨_, qce7_, q9d5_ HO_3.out, q0c4_⟩

end Go.Proofs.YtleemfmhilhklaaGreat.PAll
