/- FnPointsInRegions: the plain law. Whatever is drawn, the law's tests hold. No condition beside the row's own. -/
import Derived.Test.YtgfedgnpffockaaPAllx1
import Derived.Test.YtgfedgnpffockaaPAllx3
import Derived.Test.YtgfedgnpffockaaPAllx5
import Derived.Test.YtgfedgnpffockaaPAllx6
import Derived.Test.YtgfedgnpffockaaPAllx7
import Derived.Test.YtgfedgnpffockaaBaseDr
import Derived.Test.YtgfedgnpffockaaBaseWs
import Derived.Test.YtgfedgnpffockaaBasePl
import Derived.Test.YtgfedgnpffockaaBaseRp
import Derived.Test.YtgfedgnpffockaaBasePo
namespace Go.Proofs.Ytgfedgnpffockaa.Pure
open Go.RowKit Go.Proofs.YtgfedgnpffockaaW.PrintWords Go.Proofs.YtgfedgnpffockaaW.PrintLast Go.Proofs.Ytgfedgnpffockaa.Hand Go.Proofs.Ytgfedgnpffockaa.PAll Go.Proofs.Ytgfedgnpffockaa.Plain
set_option linter.unusedVariables false
namespace PIR
theorem wSame_l0 (l m : List Int) (hl : l.length = m.length) (hs : l.length ≤ 1000000) : ∀ (d n : Nat), n + d = l.length → l.take n = m.take n → Ev (fun k => laws_wSame.l0 k l m (l.length : Int) (n : Int)) (decide (l = m)) := by
  intro d
  induction d with
  | zero =>
    intro n hn h
    have e : l = m := by
      rw [List.take_of_length_le (by omega), List.take_of_length_le (by omega)] at h
      exact h
    rw [decide_eq_true e]
    refine Ev.step (f := fun _ => some true) (fun k => ?_) (Ev.now _)
    rw [laws_wSame.l0, if_neg (by omega)]
  | succ d ih =>
    intro n hn h
    by_cases e : rd l (n : Int) = rd m (n : Int)
    · have h2 := ih (n + 1) (by omega) (by
        rw [List.take_succ_eq_append_getElem (by omega), List.take_succ_eq_append_getElem (by omega), h, ← rd_nat l n (by omega), ← rd_nat m n (by omega), e])
      refine Ev.step (f := ?f1) (fun k => ?h1) ?g1
      case g1 => exact h2
      case h1 => rw [laws_wSame.l0, if_pos (by omega), if_pos (by omega), if_pos (by omega), if_pos (by omega), if_pos e, wrap_succ n (by omega)]
    · have hne : ¬ l = m := fun h => e (by rw [h])
      rw [decide_eq_false hne]
      refine Ev.step (f := fun _ => some false) (fun k => ?_) (Ev.now _)
      rw [laws_wSame.l0, if_pos (by omega), if_pos (by omega), if_pos (by omega), if_pos (by omega), if_neg e]
theorem wSame_gen (l m : List Int) (hs : l.length ≤ 1000000) : Ev (fun k => laws_wSame.f k l m) (decide (l = m)) := by
  unfold laws_wSame.f
  by_cases hl : l.length = m.length
  · exact Ev.pos (by omega) (wSame_l0 l m hl hs l.length 0 (by omega) rfl)
  · have hne : ¬ l = m := fun h => hl (by rw [h])
    rw [decide_eq_false hne]
    exact Ev.neg (by omega) (Ev.now _)
theorem wSameRegion_gen (a b c d : List Int) (h1 : a.length ≤ 1000000) (h2 : b.length ≤ 1000000) : Ev (fun k => laws_wSameRegion.f k a b c d) (decide (a = c ∧ b = d)) := by
  unfold laws_wSameRegion.f
  refine Ev.bind (wSame_gen a c h1) ?_
  by_cases e : a = c
  · rw [decide_eq_true e]
    refine Ev.pos rfl (Ev.bind (wSame_gen b d h2) ?_)
    rw [show decide (a = c ∧ b = d) = decide (b = d) from decide_eq_decide.2 ⟨fun h => h.2, fun h => ⟨e, h⟩⟩]
    exact Ev.now _
  · rw [decide_eq_false e, decide_eq_false (fun h => e h.1)]
    exact Ev.neg (by decide) (Ev.now _)
theorem wSum_l0 (l : List Int) (g : Nat → Nat) (hl : l.length ≤ 100) (hg : ∀ i : Nat, i < l.length → rd l (i : Int) = (g i : Int) ∧ g i ≤ 100) : ∀ (d n : Nat), n + d = l.length → Ev (fun k => laws_wSum.l0 k ((sm g n : Nat) : Int) l (l.length : Int) (n : Int)) ((sm g l.length : Nat) : Int) := by
  intro d
  induction d with
  | zero =>
    intro n hn
    obtain rfl : n = l.length := by omega
    refine Ev.step (f := fun _ => some ((sm g l.length : Nat) : Int)) (fun k => ?_) (Ev.now _)
    rw [laws_wSum.l0, if_neg (by omega)]
  | succ d ih =>
    intro n hn
    have h1 := hg n (by omega)
    have h2 := sm_le g 100 n (fun i hi => (hg i (by omega)).2)
    have h := ih (n + 1) (by omega)
    refine Ev.step (f := ?f1) (fun k => ?h1) ?g1
    case g1 => exact h
    case h1 =>
      rw [laws_wSum.l0, if_pos (by omega), if_pos (by omega), if_pos (by omega), wrap_succ n (by omega), h1.1, wrap64_in _ (by omega) (by omega)]
      rfl
theorem drawPlanes {code : List Int} (hc : Bytes code) : ∃ x y : List Int, Ev (fun k => spec_DrawPlanesBetween.f k code) (x, y) ∧ x.length ≤ 20 ∧ y.length ≤ 20 := by
  unfold spec_DrawPlanesBetween.f
  obtain ⟨n, a, s, e, h0, h1, h2, h3⟩ := pick_ok hc 0 0 8 (by omega) (by omega)
  have h4 := h1 (by omega)
  obtain ⟨r, hr, hl, h5, h6⟩ := point_ok hc a s (by omega) n (by omega)
  obtain ⟨r2, hr2, hl2, _, _⟩ := point_ok hc r.2.1 r.2.2 (by omega) n (by omega)
  exact ⟨r.1, r2.1, Ev.bindc e (Ev.bind hr (Ev.bind hr2 (Ev.now _))), hl, hl2⟩
theorem drawLabel {code : List Int} (hc : Bytes code) : ∃ z : List Int, Ev (fun k => spec_DrawLabelOfPoint.f k code) z ∧ z.length ≤ 20 := by
  unfold spec_DrawLabelOfPoint.f
  obtain ⟨n, a, s, e, h0, h1, h2, h3⟩ := pick_ok hc 0 0 9 (by omega) (by omega)
  have h4 := h1 (by omega)
  obtain ⟨r, hr, hl, h5, h6⟩ := point_ok hc a s (by omega) n (by omega)
  exact ⟨r.1, Ev.bindc e (Ev.bind hr (Ev.now _)), hl⟩
/-! ### the base region -/
theorem baseP (n : Nat) : RegP (iota 0 n) (List.replicate n 0) := by
  have hr : ∀ p : Nat, p < n → rd (List.replicate n (0 : Int)) (p : Int) = 0 := fun p hp => by
    rw [rd_nat _ p (by simpa using hp)]
    simp
  have hl := iota_length 0 n
  refine ⟨iota_nodup n, fun x hx => ?_, by simp [hl], fun p hp => ?_, fun p hp => ?_, fun p hp h => ?_⟩
  · rw [hl]; exact (iota_mem n x).1 hx
  · rw [hr p (by omega)]; omega
  · rw [hr p (by omega), hr (p + 1) (by omega)]; exact Int.le_refl _
  · rw [hr p (by omega), hr (p + 1) (by omega)] at h; omega
set_option maxRecDepth 100000 in
theorem base_tab : (List.range 9).all (fun n => decide (impl_regionOf.f 400 (List.replicate n 0) [] [] = some (iota 0 n, List.replicate n 0, true))) = true := by decide +kernel
theorem base_ev (n : Nat) (hn : n ≤ 8) : Ev (fun k => impl_BaseRegion.f k (n : Int)) (iota 0 n, List.replicate n 0, true) := by
  unfold impl_BaseRegion.f
  have hc : impl_isCars.f (n : Int) = some true := by
    unfold impl_isCars.f impl_between.f
    rw [if_pos (by omega), Option.bind_some, decide_eq_true (by omega)]
  refine Ev.bindc hc (Ev.pos rfl (Ev.pos (by omega) (Ev.pos (by omega) ?_)))
  rw [Int.toNat_natCast]
  have h := of_decide_eq_true (List.all_eq_true.1 base_tab n (List.mem_range.2 (by omega)))
  exact Ev.bind (PoR.up (fun k => impl_regionOf.mono _ _ _ k) h) (Ev.now _)
/-! ### the tests -/
theorem sd_iff (x y : List Int) (i j : Nat) : (sd x i j 0 = sd y i j 0 ∧ sd x i j 100 = sd y i j 100) ↔ ((rd y (j : Int) < rd y (i : Int) ↔ rd x (j : Int) < rd x (i : Int)) ∧ (100 < rd y (i : Int) - rd y (j : Int) ↔ 100 < rd x (i : Int) - rd x (j : Int))) := by
  unfold sd
  rw [decide_eq_decide, decide_eq_decide]
  constructor
  · rintro ⟨h1, h2⟩
    exact ⟨⟨fun h => by have := h1.2 (by omega); omega, fun h => by have := h1.1 (by omega); omega⟩, ⟨fun h => by have := h2.2 (by omega); omega, fun h => by have := h2.1 (by omega); omega⟩⟩
  · rintro ⟨h1, h2⟩
    exact ⟨⟨fun h => by have := h1.2 (by omega); omega, fun h => by have := h1.1 (by omega); omega⟩, ⟨fun h => by have := h2.2 (by omega); omega, fun h => by have := h2.1 (by omega); omega⟩⟩
theorem plT_reg {x y : List Int} (hx : Pt x) (hy : Pt y) (hl : x.length = y.length) : plT x y x.length = 0 ↔ rop x = rop y := by
  have rx := rop_reg hx
  have ry := rop_reg hy
  rw [plT_zero]
  constructor
  · intro h
    have hin : InReg y (rop x).1 (rop x).2 := rx.2.of_sides rx.1 hl.symm fun i j hij hj => ⟨(sd_iff x y i j).1 (h i j hij hj), (hy.ne i j hij (by omega)).1⟩
    have e := region_unique hin ry.2 rx.1 ry.1
    exact Prod.ext e.1 e.2
  · intro h i j hij hj
    have hin : InReg y (rop x).1 (rop x).2 := by rw [h]; exact ry.2
    exact (sd_iff x y i j).2 (rx.2.sides_eq hin rx.1 i j hij hj)
theorem plR_pt {x y : List Int} (hx : Pt x) (hy : Pt y) (hl : x.length = y.length) : plR x y = ((plT x y x.length : Int), true) := by
  unfold plR
  rw [(ptB_iff x).2 hx, (ptB_iff y).2 hy, decide_eq_true hl]
  rfl
theorem ropR_pt {x : List Int} (hx : Pt x) : ropR x = ((rop x).1, (rop x).2, true) := by
  unfold ropR
  rw [(ptB_iff x).2 hx]
  rfl
theorem rop_len {x : List Int} (hx : Pt x) : (rop x).1.length = x.length ∧ (rop x).2.length = x.length := by
  have h := rop_reg hx
  exact ⟨h.2.xl.symm, by rw [h.1.len, ← h.2.xl]⟩
theorem ropR_len (x : List Int) : (ropR x).1.length ≤ 8 ∧ (ropR x).2.1.length ≤ 8 := by
  unfold ropR
  split
  · rename_i h
    have hx := (ptB_iff x).1 h
    have := rop_len hx
    have := hx.len
    exact ⟨by dsimp only; omega, by dsimp only; omega⟩
  · exact ⟨by simp, by simp⟩
theorem labR_len (x : List Int) : (labR x).1.length ≤ 8 := by
  unfold labR
  split
  · rename_i h
    have hx := (ptB_iff x).1 h
    dsimp only
    rw [labP_length]
    exact hx.len
  · simp
theorem tail {x y : List Int} : Ev (fun k => laws_FnPointsInRegions.j0 k x y (plR x y).1 (plR x y).2) true := by
  cases h : (ptB x && ptB y && decide (x.length = y.length)) with
  | false =>
    have e : plR x y = (0, false) := by unfold plR; rw [h]; rfl
    rw [e]
    refine Ev.step (f := fun _ => some true) (fun k => ?_) (Ev.now _)
    rw [laws_FnPointsInRegions.j0, if_neg (by decide)]
  | true =>
    rw [Bool.and_eq_true, Bool.and_eq_true, decide_eq_true_eq] at h
    have hx := (ptB_iff x).1 h.1.1
    have hy := (ptB_iff y).1 h.1.2
    have hl := h.2
    have h1 := RegionOfPoint_ev x
    have h2 := RegionOfPoint_ev y
    have h3 := PlanesBetween_ev y x
    rw [ropR_pt hx] at h1
    rw [ropR_pt hy] at h2
    rw [plR_pt hy hx hl.symm, ← hl, plT_comm] at h3
    rw [plR_pt hx hy hl]
    have hlx := rop_len hx
    have h8 := hx.len
    have h4 := wSameRegion_gen (rop x).1 (rop x).2 (rop y).1 (rop y).2 (by omega) (by omega)
    have hz := plT_reg hx hy hl
    refine Ev.step (f := ?f1) (fun k => ?h1) ?g1
    case h1 => rw [laws_FnPointsInRegions.j0, if_pos rfl]
    case g1 =>
      refine Ev.bind h1 (Ev.bind h2 (Ev.bind h3 (Ev.pos rfl (Ev.pos rfl (Ev.pos rfl (Ev.pos rfl (Ev.bind h4 ?_)))))))
      have e : (((plT x y x.length : Int) == 0) == decide ((rop x).1 = (rop y).1 ∧ (rop x).2 = (rop y).2)) = true := by
        by_cases c : rop x = rop y
        · rw [hz.2 c, decide_eq_true ⟨by rw [c], by rw [c]⟩]
          rfl
        · have c2 : plT x y x.length ≠ 0 := fun h => c (hz.1 h)
          rw [decide_eq_false (fun h => c (Prod.ext h.1 h.2))]
          have : ((plT x y x.length : Int) == 0) = false := by
            rw [beq_eq_false_iff_ne]
            omega
          rw [this]
          rfl
      rw [e]
      exact Ev.now _
end PIR
open PIR in
theorem FnPointsInRegions : laws_FnPointsInRegions.Pure := by
  intro l0 l1 _ _ hw0 _ _ hw1
  refine Ev.rounds ?_
  have hb0 := bytes_of hw0
  have hb1 := bytes_of hw1
  unfold laws_FnPointsInRegions.f laws_big.f
  by_cases hb : (l0.length : Int) > 1048576
  · rw [if_pos hb]
    exact Ev.bindc rfl (Ev.pos rfl (Ev.now _))
  rw [if_neg hb]
  refine Ev.bindc rfl ?_
  by_cases hb2 : decide ((l1.length : Int) > wrap64 (1048576 - (l0.length : Int))) = true
  · exact Ev.pos hb2 (Ev.now _)
  refine Ev.neg hb2 ?_
  obtain ⟨x, y, hd, hxl, hyl⟩ := drawPlanes hb0
  obtain ⟨z, hz, hzl⟩ := drawLabel hb1
  have hr := ropR_len z
  have hlab := labR_len z
  refine Ev.bind hd (Ev.bind (PlanesBetween_ev x y) (Ev.bind (spec_PlanesBetween_ev x y (by omega) (by omega)) (Ev.neg (by simp) (Ev.pos rfl (Ev.bind hz (Ev.bind (LabelOfPoint_ev z) (Ev.bind (spec_LabelOfPoint_ev z (by omega)) (Ev.bind (RegionOfPoint_ev z) (Ev.bind (spec_RegionOfPoint_ev z (by omega)) (Ev.neg (by simp) (Ev.bind (wSame_gen (labR z).1 (labR z).1 (by omega)) (Ev.pos (by simp) (Ev.neg (by simp) (Ev.bind (wSameRegion_gen (ropR z).1 (ropR z).2.1 (ropR z).1 (ropR z).2.1 (by omega) (by omega)) (Ev.pos (by simp) ?_)))))))))))))))
  cases h : ptB z with
  | false =>
    have e1 : labR z = ([], false) := by unfold labR; rw [h]; rfl
    have e2 : ropR z = ([], [], false) := by unfold ropR; rw [h]; rfl
    rw [e1, e2]
    exact Ev.neg (by decide) (Ev.neg (by decide) tail)
  | true =>
    have hp := (ptB_iff z).1 h
    have h8 := hp.len
    have e1 : labR z = (labP z z.length, true) := by unfold labR; rw [h]; rfl
    rw [e1, ropR_pt hp]
    obtain ⟨rg, rz⟩ := rop_reg hp
    have hrl := rop_len hp
    obtain ⟨pt, p1, p2, p3⟩ := PointOfRegion_ev rg (by omega)
    have hb' := baseP z.length
    have hbl := iota_length 0 z.length
    obtain ⟨st, s1, s2, s3⟩ := PointOfRegion_ev hb' (by omega)
    have hlr := LabelOfRegion.impl_ev (rop z).1 (rop z).2 (by omega)
    have er : LabelOfRegion.res (rop z).1 (rop z).2 = (LabelOfRegion.lb (rop z).1 (rop z).2 (rop z).1.length, true) := if_pos ((reg_iff _ _).2 ⟨rg, by omega⟩)
    rw [er, ← lab_eq rz rg] at hlr
    have hptl : z.length = pt.length := by rw [p2.xl]; omega
    have hstl : z.length = st.length := by rw [s2.xl]; omega
    have hpl := PlanesBetween_ev z pt
    have hps := PlanesBetween_ev z st
    rw [plR_pt hp p1 hptl] at hpl
    rw [plR_pt hp s1 hstl] at hps
    have hz0 : plT z pt z.length = 0 := (plT_zero z pt z.length).2 fun i j hij hj => (sd_iff z pt i j).2 (rz.sides_eq p2 rg i j hij hj)
    have hsum : plT z st z.length = sm (fun i => lpT z i z.length) z.length := planes_label z st hp fun i j hij hj => by
      have hi : ∀ q : Nat, q < z.length → rd (iota 0 z.length) (q : Int) = (q : Int) := fun q hq => by
        rw [rd_nat _ q (by rw [hbl]; exact hq), iota_get]
        omega
      have hd' := s2.dec i j hij (by rw [hbl]; exact hj)
      have hf' := s2.far i j hij (by rw [hbl]; exact hj)
      rw [hi i (by omega), hi j hj] at hd' hf'
      have hf0 : rd (List.replicate z.length (0 : Int)) (j : Int) = 0 := by
        rw [rd_nat _ j (by simpa using hj)]
        simp
      rw [hf0] at hf'
      have hf2 := hf' (by omega)
      unfold sd
      exact ⟨decide_eq_true (by omega), decide_eq_false (fun h => by have := hf2.2 (by omega); omega)⟩
    have hws : Ev (fun k => laws_wSum.f k (labP z z.length)) ((sm (fun i => lpT z i z.length) z.length : Nat) : Int) := by
      have hll := labP_length z z.length
      have h := wSum_l0 (labP z z.length) (fun i => lpT z i z.length) (by omega) (fun i hi => ⟨by rw [rd_nat _ i hi]; exact labP_get z z.length i (by omega) (by omega), by have := lpT_le z i z.length; show lpT z i z.length ≤ 100; omega⟩) (labP z z.length).length 0 (by omega)
      unfold laws_wSum.f
      rw [hll] at h ⊢
      exact h
    have hll := labP_length z z.length
    refine Ev.neg (by simp) (Ev.pos rfl (Ev.bind hlr (Ev.bind p3 (Ev.bind hpl (Ev.bind (base_ev z.length h8) (Ev.bind s3 (Ev.bind hps (Ev.pos rfl (Ev.pos rfl (Ev.pos rfl (Ev.pos rfl (Ev.pos rfl (Ev.pos rfl (Ev.bind (wSame_gen (labP z z.length) (labP z z.length) (by omega)) (Ev.pos (by simp) (Ev.pos (by dsimp only; omega) (Ev.bind hws (Ev.pos (by dsimp only; omega) tail))))))))))))))))))
end Go.Proofs.Ytgfedgnpffockaa.Pure
