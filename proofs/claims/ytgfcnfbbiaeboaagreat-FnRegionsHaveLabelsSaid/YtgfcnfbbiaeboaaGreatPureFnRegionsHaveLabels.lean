/- FnRegionsHaveLabels: the plain law. Whatever is drawn, the law's tests hold. No condition beside the row's own. -/
import Derived.Test.YtgfcnfbbiaeboaaGreatPAllx1
import Derived.Test.YtgfcnfbbiaeboaaGreatPAllx2
import Derived.Test.YtgfcnfbbiaeboaaGreatPAllx3
import Derived.Test.YtgfcnfbbiaeboaaGreatPAllx5
import Derived.Test.YtgfcnfbbiaeboaaGreatPAllx7
import Derived.Test.YtgfcnfbbiaeboaaGreatPAllx8
import Derived.Test.YtgfcnfbbiaeboaaGreatPAllx9
import Derived.Test.YtgfcnfbbiaeboaaGreatBaseDr
import Derived.Test.YtgfcnfbbiaeboaaGreatBaseDg
import Derived.Test.YtgfcnfbbiaeboaaGreatBaseRp
import Derived.Test.YtgfcnfbbiaeboaaGreatBaseLp
import Derived.Test.YtgfcnfbbiaeboaaGreatBasePs
namespace Go.Proofs.YtgfcnfbbiaeboaaGreat.Pure
open Go.RowKit Go.Proofs.YtgfcnfbbiaeboaaGreatW.PrintWords Go.Proofs.YtgfcnfbbiaeboaaGreatW.PrintLast Go.Proofs.YtgfcnfbbiaeboaaGreat.Hand Go.Proofs.YtgfcnfbbiaeboaaGreat.PAll Go.Proofs.YtgfcnfbbiaeboaaGreat.Plain
set_option linter.unusedVariables false
namespace RHL
theorem wSame_l0 (l m : List Int) (hl : l.length = m.length) (hs : l.length ≤ 1000000) : ∀ (d n : Nat), n + d = l.length → l.take n = m.take n → Ev (fun k => laws_wSame.l0 k l m (l.length : Int) (n : Int)) (decide (l = m)) := by
  intro d
  induction d with
  | zero =>
    intro n hn h
    have e : l = m := by
      rw [List.take_of_length_le (by omega), List.take_of_length_le (by omega)] at h
      exact h
    rw [decide_eq_true e]
    refine Ev.step (f := fun _ => some true) (fun k => ?_) (Ev.now _)
    rw [laws_wSame.l0, if_neg (by omega)]
  | succ d ih =>
    intro n hn h
    by_cases e : rd l (n : Int) = rd m (n : Int)
    · have h2 := ih (n + 1) (by omega) (by
        rw [List.take_succ_eq_append_getElem (by omega), List.take_succ_eq_append_getElem (by omega), h, ← rd_nat l n (by omega), ← rd_nat m n (by omega), e])
      refine Ev.step (f := ?f1) (fun k => ?h1) ?g1
      case g1 => exact h2
      case h1 => rw [laws_wSame.l0, if_pos (by omega), if_pos (by omega), if_pos (by omega), if_pos (by omega), if_pos e, wrap_succ n (by omega)]
    · have hne : ¬ l = m := fun h => e (by rw [h])
      rw [decide_eq_false hne]
      refine Ev.step (f := fun _ => some false) (fun k => ?_) (Ev.now _)
      rw [laws_wSame.l0, if_pos (by omega), if_pos (by omega), if_pos (by omega), if_pos (by omega), if_neg e]
theorem wSame_gen (l m : List Int) (hs : l.length ≤ 1000000) : Ev (fun k => laws_wSame.f k l m) (decide (l = m)) := by
  unfold laws_wSame.f
  by_cases hl : l.length = m.length
  · exact Ev.pos (by omega) (wSame_l0 l m hl hs l.length 0 (by omega) rfl)
  · have hne : ¬ l = m := fun h => hl (by rw [h])
    rw [decide_eq_false hne]
    exact Ev.neg (by omega) (Ev.now _)
theorem wSameT (l m : List Int) (hs : l.length ≤ 1000000) (e : l = m) : Ev (fun k => laws_wSame.f k l m) true := by
  have h := wSame_gen l m hs
  rwa [decide_eq_true e] at h
theorem wSameRegionT (a b c d : List Int) (h1 : a.length ≤ 1000000) (h2 : b.length ≤ 1000000) (e1 : a = c) (e2 : b = d) : Ev (fun k => laws_wSameRegion.f k a b c d) true := by
  unfold laws_wSameRegion.f
  exact Ev.bind (wSameT a c h1 e1) (Ev.pos rfl (Ev.bind (wSameT b d h2 e2) (Ev.now _)))
/-! ### labels -/
theorem reg_pv {o f : List Int} (h : RegP o f) : PV (LabelOfRegion.lb o f o.length) o f := by
  have hl := LabelOfRegion.lb_length o f o.length
  refine ⟨h.nd, fun x hx => by rw [hl]; exact h.inr x hx, h.len, h.far, h.mono, h.grow, fun q hq => (lb_get h o.length q hq (Nat.le_refl _)).symm⟩
theorem pv_reg {a o f : List Int} (h : PV a o f) (hf : o.length = a.length) : RegP o f := ⟨h.nd, fun x hx => by rw [hf]; exact h.inr x hx, h.len, h.far, h.mono, h.grow⟩
theorem pv_lab {a o f : List Int} (h : PV a o f) (hf : o.length = a.length) : LabelOfRegion.lb o f o.length = a := by
  have r := pv_reg h hf
  refine rd_ext (by rw [LabelOfRegion.lb_length, hf]) fun i hi => ?_
  rw [LabelOfRegion.lb_length] at hi
  have hm : (i : Int) ∈ o := r.perm.mem_iff.2 ((iota_mem _ _).2 (by omega))
  obtain ⟨p, hp, e⟩ := List.mem_iff_getElem.1 hm
  rw [← rd_nat o p hp] at e
  have h2 := lb_get r o.length p hp (Nat.le_refl _)
  have h3 := h.lab p hp
  rw [e] at h2 h3
  rw [h2, ← h3]
theorem lt_first : ∀ (l : List Int) (j : Nat) (J : Int), j ≤ l.length → (∀ q : Nat, (h : q < l.length) → q < j → l[q] < J) → (j : Int) ≤ lt l J
  | [], j, J, h, _ => by
    have : j = 0 := by simpa using h
    subst this
    unfold lt
    first
      | exact cnt_nonneg _ _
      | omega
      | simp
  | x :: xs, 0, J, _, _ => by
    unfold lt
    first
      | exact cnt_nonneg _ _
      | omega
  | x :: xs, j + 1, J, h, hq => by
    have ih := lt_first xs j J (by simp at h; omega) (fun q h1 h2 => by
      have := hq (q + 1) (by simp; omega) (by omega)
      rwa [List.getElem_cons_succ] at this)
    have h0 := hq 0 (by simp) (by omega)
    rw [List.getElem_cons_zero] at h0
    rw [lt_cons, if_pos h0]
    omega
theorem lab_parking {o f : List Int} (h : RegP o f) (h8 : o.length ≤ 8) : parking (LabelOfRegion.lb o f o.length) = true := by
  have hl := LabelOfRegion.lb_length o f o.length
  have hpv := reg_pv h
  obtain ⟨a, ha⟩ : ∃ a, a = LabelOfRegion.lb o f o.length := ⟨_, rfl⟩
  rw [← ha] at hl hpv ⊢
  have hval : ∀ p : Nat, p < o.length → 0 ≤ rd a (rd o (p : Int)) ∧ rd a (rd o (p : Int)) ≤ (p : Int) := fun p hp => by
    rw [← hpv.lab p hp]
    have := LabelOfRegion.rc_in (rd o (p : Int)) (rd f (p : Int)) (o.take p) 0
    rw [List.length_take] at this
    omega
  have hmap : (o.map (rd a)).Perm a := by
    have e : (iota 0 o.length).map (rd a) = a := by
      refine List.ext_getElem (by simp [iota, hl]) fun i h1 h2 => ?_
      rw [List.getElem_map, iota_get, Int.zero_add, rd_nat a i h2]
    have := h.perm.map (rd a)
    rwa [e] at this
  refine parking_of (by omega) (fun x hx => ?_) (fun j h0 hj => ?_)
  · obtain ⟨y, hy, e⟩ := List.mem_map.1 (hmap.mem_iff.2 hx)
    obtain ⟨p, hp, e2⟩ := List.mem_iff_getElem.1 hy
    rw [← rd_nat o p hp] at e2
    have := hval p hp
    rw [e2, e] at this
    omega
  · obtain ⟨m, rfl⟩ : ∃ m : Nat, j = (m : Int) := ⟨j.toNat, by omega⟩
    rw [← lt_perm hmap]
    refine lt_first (o.map (rd a)) m (m : Int) (by rw [List.length_map]; omega) (fun q h1 h2 => ?_)
    rw [List.length_map] at h1
    rw [List.getElem_map, ← rd_nat o q h1]
    have := hval q h1
    omega
theorem rol {a : List Int} (hp : parking a = true) : ∃ o f : List Int, PV a o f ∧ o.length = a.length ∧ Ev (fun k => impl_RegionOfLabel.f k a) (o, f, true) ∧ Ev (fun k => spec_RegionOfLabel.f k a) (o, f, true) := by
  have h8 := parking_cars hp
  obtain ⟨o, f, h, hf⟩ := label_exists hp
  have hx : Ext a [] [] o f := ⟨h, hf, rfl, rfl⟩
  have hi := isParking_ev a
  have hs := paParking_ev a
  rw [hp] at hi hs
  refine ⟨o, f, h, hf, ?_, ?_⟩
  · obtain ⟨r, hr, he⟩ := regionOf_ev a h8 a.length [] [] (by simp) (PV.nil a)
    rcases hr with ⟨hr, ht⟩ | ⟨_, hno⟩
    · have e := label_unique hr.pv h hr.full hf
      unfold impl_RegionOfLabel.f
      refine Ev.bind hi (Ev.pos rfl (Ev.bind he ?_))
      rw [e.1, e.2, ht]
      exact Ev.now _
    · exact absurd hx (hno o f)
  · obtain ⟨r, hr, he⟩ := reGoOn_ev a h8 a.length [] [] (by simp) (PV.nil a)
    rcases hr with ⟨hr, ht⟩ | ⟨_, hno⟩
    · have e := label_unique hr.pv h hr.full hf
      unfold spec_RegionOfLabel.f
      refine Ev.bind hs (Ev.pos rfl (Ev.bind he ?_))
      rw [e.1, e.2, ht]
      exact Ev.now _
    · exact absurd hx (hno o f)
theorem rol_no {a : List Int} (hp : parking a = false) : Ev (fun k => impl_RegionOfLabel.f k a) ([], [], false) ∧ Ev (fun k => spec_RegionOfLabel.f k a) ([], [], false) := by
  have hi := isParking_ev a
  have hs := paParking_ev a
  rw [hp] at hi hs
  exact ⟨Ev.bind hi (Ev.neg (by decide) (Ev.now _)), Ev.bind hs (Ev.neg (by decide) (Ev.now _))⟩
theorem wParking_ev (a : List Int) : Ev (fun k => laws_wParking.f k a) (parking a) := by
  unfold laws_wParking.f impl_IsParking.f
  have hc := areCars_eq a
  by_cases h : (decide (a.length ≤ 8) && a.all fun x => decide (0 ≤ x ∧ x ≤ 99)) = true
  · rw [h] at hc
    exact Ev.bind (a := (parking a, true)) (Ev.bindc hc (Ev.pos rfl (Ev.bind (isParking_ev a) (Ev.now _)))) (Ev.pos rfl (Ev.now _))
  · have hf : parking a = false := by
      rw [Bool.eq_false_iff]
      intro hp
      apply h
      have h8 := parking_cars hp
      rw [decide_eq_true h8, Bool.true_and, List.all_eq_true]
      intro x hx
      have := parking_in hp x hx
      exact decide_eq_true (by omega)
    rw [Bool.eq_false_iff.2 h] at hc
    rw [hf]
    exact Ev.bind (a := (false, false)) (Ev.bindc hc (Ev.neg (by decide) (Ev.now _))) (Ev.neg (by decide) (Ev.now _))
theorem IsRegion_ev (o f : List Int) (hs : o.length ≤ 1099511627776) : Ev (fun k => impl_IsRegion.f k o f) (reg o f) := Ev.bind (isRegion_ev o f hs) (Ev.now _)
theorem point_no {o f : List Int} (hs : o.length ≤ 1099511627776) (h : reg o f = false) : Ev (fun k => impl_PointOfRegion.f k o f) ([], false) ∧ Ev (fun k => spec_PointOfRegion.f k o f) ([], false) := by
  have hi := isRegion_ev o f hs
  have hg := reGood_ev o f
  rw [h] at hi hg
  exact ⟨Ev.bind hi (Ev.neg (by decide) (Ev.now _)), Ev.bind hg (Ev.neg (by decide) (Ev.now _))⟩
theorem tail_no {a : List Int} : Ev (fun k => laws_FnRegionsHaveLabels.j0 k a false [] []) true := by
  refine Ev.step (f := fun _ => some true) (fun k => ?_) (Ev.now _)
  rw [laws_FnRegionsHaveLabels.j0, if_neg (by decide)]
theorem tail {a o f : List Int} (h : PV a o f) (hf : o.length = a.length) (h8 : a.length ≤ 8) : Ev (fun k => laws_FnRegionsHaveLabels.j0 k a true o f) true := by
  have r := pv_reg h hf
  have hr : reg o f = true := (reg_iff o f).2 ⟨r, by omega⟩
  have hlr := LabelOfRegion.impl_ev o f (by omega)
  have er : LabelOfRegion.res o f = (LabelOfRegion.lb o f o.length, true) := if_pos hr
  have hi := IsRegion_ev o f (by omega)
  rw [er] at hlr
  rw [hr] at hi
  refine Ev.step (f := ?f1) (fun k => ?h1) ?g1
  case h1 => rw [laws_FnRegionsHaveLabels.j0, if_pos rfl]
  case g1 => exact Ev.bind hlr (Ev.pos rfl (Ev.bind hi (Ev.pos rfl (Ev.bind (wSameT _ _ (by rw [LabelOfRegion.lb_length]; omega) (pv_lab h hf)) (Ev.now _)))))
end RHL
open RHL in
theorem FnRegionsHaveLabels : laws_FnRegionsHaveLabels.Pure := by
  intro l0 l1 _ _ hw0 _ _ hw1
  refine Ev.rounds ?_
  have hb0 := bytes_of hw0
  have hb1 := bytes_of hw1
  unfold laws_FnRegionsHaveLabels.f laws_big.f
  by_cases hb : (l0.length : Int) > 1048576
  · rw [if_pos hb]
    exact Ev.bindc rfl (Ev.pos rfl (Ev.now _))
  rw [if_neg hb]
  refine Ev.bindc rfl ?_
  by_cases hb2 : decide ((l1.length : Int) > wrap64 (1048576 - (l0.length : Int))) = true
  · exact Ev.pos hb2 (Ev.now _)
  refine Ev.neg hb2 ?_
  obtain ⟨⟨a, at_, s⟩, hd, hal, _⟩ := park_ok hb0 7 (by decide)
  dsimp only at hal
  have hda : Ev (fun k => spec_DrawRegionOfLabel.f k l0) a := Ev.bind hd (Ev.now _)
  obtain ⟨⟨o, f⟩, hq, hol, hfl⟩ := region_ok hb1
  dsimp only at hol hfl
  obtain ⟨ro, rf, ok, hro, hrf, hi, hs, hok, htail⟩ : ∃ (ro rf : List Int) (ok : Bool), ro.length ≤ 8 ∧ rf.length ≤ 8 ∧ Ev (fun k => impl_RegionOfLabel.f k a) (ro, rf, ok) ∧ Ev (fun k => spec_RegionOfLabel.f k a) (ro, rf, ok) ∧ ok = parking a ∧ Ev (fun k => laws_FnRegionsHaveLabels.j0 k a ok ro rf) true := by
    cases hp : parking a with
    | true =>
      have h8 := parking_cars hp
      obtain ⟨ro, rf, h, hf, h1, h2⟩ := rol hp
      have := h.len
      exact ⟨ro, rf, true, by omega, by omega, h1, h2, rfl, tail h hf h8⟩
    | false =>
      have h := rol_no hp
      exact ⟨[], [], false, by simp, by simp, h.1, h.2, rfl, tail_no⟩
  have hwp := wParking_ev a
  rw [← hok] at hwp
  refine Ev.bind hda (Ev.bind hi (Ev.bind hs (Ev.neg (by simp) (Ev.bind (wSameRegionT ro rf ro rf (by omega) (by omega) rfl rfl) (Ev.pos rfl (Ev.bind hwp (Ev.neg (by simp) (Ev.bind hq ?_))))))))
  have hlr := LabelOfRegion.impl_ev o f (by omega)
  have hls := LabelOfRegion.spec_ev o f
  have hir := IsRegion_ev o f (by omega)
  cases hr : reg o f with
  | false =>
    have hpn := point_no (by omega) hr
    have er : LabelOfRegion.res o f = ([], false) := if_neg (by rw [hr]; decide)
    rw [er] at hlr hls
    rw [hr] at hir
    exact Ev.bind hpn.1 (Ev.bind hpn.2 (Ev.bind hlr (Ev.bind hls (Ev.neg (by simp) (Ev.bind (wSameT [] [] (by simp) rfl) (Ev.pos rfl (Ev.neg (by simp) (Ev.bind (wSameT [] [] (by simp) rfl) (Ev.pos rfl (Ev.bind hir (Ev.neg (by simp) (Ev.neg (by simp) (Ev.neg (by simp) htail)))))))))))))
  | true =>
    obtain ⟨r, h8⟩ := (reg_iff o f).1 hr
    obtain ⟨x, px, pin, hpi, hps⟩ := PointOfRegion_both r h8
    have er : LabelOfRegion.res o f = (LabelOfRegion.lb o f o.length, true) := if_pos hr
    rw [er] at hlr hls
    rw [hr] at hir
    have hx8 := px.len
    have hll := LabelOfRegion.lb_length o f o.length
    have hrx := rop_reg px
    have eu := region_unique hrx.2 pin hrx.1 r
    have hrp := RegionOfPoint_ev x
    have e1 : ropR x = (o, f, true) := by
      unfold ropR
      rw [(ptB_iff x).2 px, eu.1, eu.2]
      rfl
    rw [e1] at hrp
    have hlp := LabelOfPoint_ev x
    have e2 : labR x = (LabelOfRegion.lb o f o.length, true) := by
      unfold labR
      rw [(ptB_iff x).2 px, lab_eq pin r]
      rfl
    rw [e2] at hlp
    have hpk := lab_parking r h8
    obtain ⟨o2, f2, h2, hf2, h3, _⟩ := rol hpk
    have e3 := label_unique h2 (reg_pv r) hf2 hll.symm
    rw [e3.1, e3.2] at h3
    have hwp2 := wParking_ev (LabelOfRegion.lb o f o.length)
    rw [hpk] at hwp2
    have hfl2 := r.len
    exact Ev.bind hpi (Ev.bind hps (Ev.bind hlr (Ev.bind hls (Ev.neg (by simp) (Ev.bind (wSameT x x (by omega) rfl) (Ev.pos rfl (Ev.neg (by simp) (Ev.bind (wSameT _ _ (by dsimp only; omega) rfl) (Ev.pos rfl (Ev.bind hir (Ev.neg (by simp) (Ev.neg (by simp) (Ev.pos rfl
      (Ev.bind hrp (Ev.bind hlp (Ev.bind h3 (Ev.pos rfl (Ev.pos rfl (Ev.pos rfl (Ev.bind (wSameRegionT o f o f (by omega) (by omega) rfl rfl) (Ev.pos rfl (Ev.bind (wSameT _ _ (by dsimp only; omega) rfl) (Ev.pos rfl (Ev.bind hwp2 (Ev.pos rfl (Ev.bind (wSameRegionT o f o f (by omega) (by omega) rfl rfl) (Ev.pos rfl htail)))))))))))))))))))))))))))
end Go.Proofs.YtgfcnfbbiaeboaaGreat.Pure
