/- The pure statement of the law FnSlopeAreas: whatever is drawn, the law's tests hold. No condition beside the row's own. -/
import Derived.Test.YtflfbkobpdooeaaPAllx2
import Derived.Test.YtflfbkobpdooeaaPAllx4
import Derived.Test.YtflfbkobpdooeaaPAllx5
import Derived.Test.YtflfbkobpdooeaaPAllx6
import Derived.Test.YtflfbkobpdooeaaBaseDs
import Derived.Test.YtflfbkobpdooeaaBaseSa
import Derived.Test.YtflfbkobpdooeaaBaseWs
import Derived.Test.YtflfbkobpdooeaaBaseTd
import Derived.Test.YtflfbkobpdooeaaPureFnExactSlopeArea
import Derived.Test.YtflfbkobpdooeaaPureFnExactUsualOf
import Derived.Test.YtflfbkobpdooeaaPureFnExactBesideSlope
namespace Go.Proofs.Ytflfbkobpdooeaa.Pure
open Go.RowKit Go.Proofs.YtflfbkobpdooeaaW.PrintWords Go.Proofs.YtflfbkobpdooeaaW.PrintLast Go.Proofs.Ytflfbkobpdooeaa.Hand Go.Proofs.Ytflfbkobpdooeaa.PAll Go.Proofs.Ytflfbkobpdooeaa.Plain
set_option linter.unusedVariables false
namespace Areas
/-! ### Sums -/
theorem sumW_eq : ∀ (l : List Int) (acc : Int), (∀ x ∈ l, 0 ≤ x ∧ x ≤ 100) → 0 ≤ acc → acc + 100 * (l.length : Int) ≤ 1000000 → SlopeArea.sumW acc l = acc + sm l
  | [], acc, _, _, _ => by simp [SlopeArea.sumW, sm]
  | x :: xs, acc, h, h0, hb => by
    have hx := h x List.mem_cons_self
    rw [List.length_cons, Int.natCast_add, Int.mul_add] at hb
    simp only [Int.natCast_one, Int.mul_one] at hb
    rw [SlopeArea.sumW, wrap64_in _ (by omega) (by omega), sumW_eq xs (acc + x) (fun y hy => h y (List.mem_cons_of_mem _ hy)) (by omega) (by omega), sm]
    omega
theorem sm_sum (l : List Int) (h8 : l.length ≤ 100) (h : ∀ x ∈ l, 0 ≤ x ∧ x ≤ 100) : SlopeArea.sumW 0 l = sm l := by
  rw [sumW_eq l 0 h (Int.le_refl _) (by omega), Int.zero_add]
theorem wSum_l0 (l : List Int) (h8 : l.length ≤ 100) (hb : ∀ x ∈ l, -1000 ≤ x ∧ x ≤ 1000) : ∀ (d n : Nat), n + d = l.length → Ev (fun k => laws_wSum.l0 k (sm (l.take n)) l (l.length : Int) (n : Int)) (sm l) := by
  intro d
  induction d with
  | zero =>
    intro n hn
    obtain rfl : n = l.length := by omega
    rw [List.take_length]
    refine Ev.step (f := fun _ => some (sm l)) (fun k => ?_) (Ev.now _)
    rw [laws_wSum.l0, if_neg (by omega)]
  | succ d ih =>
    intro n hn
    have h := ih (n + 1) (by omega)
    have hr := acc_in l h8 hb (n + 1)
    rw [take_next l n (by omega), sm_append] at h hr
    simp only [sm, Int.add_zero] at h hr
    refine Ev.step (fun k => ?_) h
    rw [laws_wSum.l0, if_pos (by omega), if_pos (by omega), if_pos (by omega), wrap_succ n (by omega), wrap64_in _ (by omega) (by omega)]
theorem wSum_ev (l : List Int) (h8 : l.length ≤ 100) (hb : ∀ x ∈ l, -1000 ≤ x ∧ x ≤ 1000) : Ev (fun k => laws_wSum.f k l) (sm l) := wSum_l0 l h8 hb l.length 0 (by omega)
theorem underR_sm : ∀ (xs bs : List Int), xs.length = bs.length → underR xs bs = true → 0 ≤ sm xs ∧ sm xs ≤ sm bs
  | [], [], _, _ => by simp [sm]
  | [], _ :: _, h, _ => by simp at h
  | _ :: _, [], h, _ => by simp at h
  | x :: xs, b :: bs, h, hu => by
    rw [underR, Bool.and_eq_true, decide_eq_true_eq] at hu
    have := underR_sm xs bs (by simpa using h) hu.2
    rw [sm, sm]
    omega
theorem underR_zip : ∀ (xs bs ys : List Int), (∀ y ∈ ys, 0 ≤ y) → underR xs bs = true → underR (List.zipWith (· + ·) xs ys) (List.zipWith (· + ·) bs ys) = true
  | [], bs, ys, _, _ => by simp [underR]
  | x :: xs, [], ys, _, _ => by cases ys <;> simp [underR]
  | x :: xs, b :: bs, [], _, _ => by simp [underR]
  | x :: xs, b :: bs, y :: ys, hy, hu => by
    rw [underR, Bool.and_eq_true, decide_eq_true_eq] at hu
    have h0 := hy y List.mem_cons_self
    rw [List.zipWith_cons_cons, List.zipWith_cons_cons, underR, Bool.and_eq_true, decide_eq_true_eq]
    exact ⟨by omega, underR_zip xs bs ys (fun z hz => hy z (List.mem_cons_of_mem _ hz)) hu.2⟩
theorem sm_zip : ∀ (xs ys : List Int), xs.length = ys.length → sm (List.zipWith (· + ·) xs ys) = sm xs + sm ys
  | [], [], _ => by simp [sm]
  | [], _ :: _, h => by simp at h
  | _ :: _, [], h => by simp at h
  | x :: xs, y :: ys, h => by
    rw [List.zipWith_cons_cons, sm, sm, sm, sm_zip xs ys (by simpa using h)]
    omega
/-! ### Bounds, by the kernel -/
def okB (n a : Int) : Bool := decide ((bnds n a).Pairwise (· ≤ ·)) && underR (bnds n a) (bnds n a) && underR (List.replicate n.toNat 0) (bnds n a) && decide (impl_MostArea.f 60 n a = some (sm (bnds n a), true)) && decide (spec_MostArea.f 60 n a = some (sm (bnds n a), true)) && (bnds n a).all fun x => decide (0 ≤ x ∧ x ≤ 100)
theorem okB_fin : ∀ n : Fin 6, ∀ m : Fin 13, slope ((n.1 : Int) + 1) ((m.1 : Int) + 1) = true → okB ((n.1 : Int) + 1) ((m.1 : Int) + 1) = true := by decide +kernel
theorem next_fin : ∀ n : Fin 6, ∀ m : Fin 13, slope ((n.1 : Int) + 1) ((m.1 : Int) + 1) = true → slope ((n.1 : Int) + 1) ((m.1 : Int) + 1 + ((n.1 : Int) + 1)) = true → bnds ((n.1 : Int) + 1) ((m.1 : Int) + 1 + ((n.1 : Int) + 1)) = List.zipWith (· + ·) (bnds ((n.1 : Int) + 1) ((m.1 : Int) + 1)) (iota 0 (n.1 + 1)) := by decide +kernel
theorem okB_of {n a : Int} (h : slope n a = true) : okB n a = true := by
  have hin := slope_in h
  have e := okB_fin ⟨(n - 1).toNat, by omega⟩ ⟨(a - 1).toNat, by omega⟩
  simp only at e
  rw [show (((n - 1).toNat : Nat) : Int) + 1 = n by omega, show (((a - 1).toNat : Nat) : Int) + 1 = a by omega] at e
  exact e h
theorem bnds_ok {n a : Int} (h : slope n a = true) : (bnds n a).Pairwise (· ≤ ·) ∧ underR (bnds n a) (bnds n a) = true ∧ underR (List.replicate n.toNat 0) (bnds n a) = true ∧ Ev (fun k => impl_MostArea.f k n a) (sm (bnds n a), true) ∧ Ev (fun k => spec_MostArea.f k n a) (sm (bnds n a), true) ∧ ∀ x ∈ bnds n a, 0 ≤ x ∧ x ≤ 100 := by
  have e := okB_of h
  unfold okB at e
  rw [Bool.and_eq_true, Bool.and_eq_true, Bool.and_eq_true, Bool.and_eq_true, Bool.and_eq_true, decide_eq_true_eq, decide_eq_true_eq, decide_eq_true_eq, List.all_eq_true] at e
  obtain ⟨⟨⟨⟨⟨e1, e2⟩, e3⟩, e4⟩, e5⟩, e6⟩ := e
  exact ⟨e1, e2, e3, Ev.of (k := 60) (fun k => impl_MostArea.mono _ _ k) e4, Ev.of (k := 60) (fun k => spec_MostArea.mono _ _ k) e5, fun x hx => of_decide_eq_true (e6 x hx)⟩
theorem most_no {n a : Int} (h : slope n a = false) : Ev (fun k => impl_MostArea.f k n a) (0, false) ∧ Ev (fun k => spec_MostArea.f k n a) (0, false) := by
  have h1 := slIs_ev n a
  have h2 := isSlope_ev n a
  rw [h] at h1 h2
  unfold impl_MostArea.f spec_MostArea.f
  exact ⟨Ev.bind h2 (Ev.neg (by decide) (Ev.now _)), Ev.bind h1 (Ev.neg (by decide) (Ev.now _))⟩
theorem bnds_len {n a : Int} (h : slope n a = true) : ((bnds n a).length : Int) = n := by
  have := slope_in h
  rw [bnds_length]
  omega
theorem slp_sorted {m : List Int} {a : Int} (hs : slope (m.length : Int) a = true) (hw : m.Pairwise (· ≤ ·)) (hu : underR m (bnds (m.length : Int) a) = true) : slp m a = true := by
  unfold slp under
  rw [hs, srt_same hw, hu]
  rfl
theorem area_eq {l : List Int} {a : Int} (h : slp l a = true) : SlopeArea.res l a = (sm (bnds (l.length : Int) a) - sm l, true) := by
  have hs := slp_slope h
  have hin := slope_in hs
  have hl := slp_in h
  have hb := bnds_ok hs
  have hbl := bnds_len hs
  have hx : ∀ x ∈ l, 0 ≤ x ∧ x ≤ 100 := fun x hx => by have := hl x hx; omega
  have h1 := sm_bound 100 l (fun x h => by have := hx x h; omega)
  have h2 := sm_bound 100 (bnds (l.length : Int) a) (fun x h => by have := hb.2.2.2.2.2 x h; omega)
  unfold SlopeArea.res
  rw [if_pos h, sm_sum _ (by omega) hb.2.2.2.2.2, sm_sum _ (by omega) hx, wrap64_in _ (by omega) (by omega)]
theorem slp_sm {l : List Int} {a : Int} (h : slp l a = true) : 0 ≤ sm l ∧ sm l ≤ sm (bnds (l.length : Int) a) := by
  have hs := slp_slope h
  have h2 := h
  unfold slp under at h2
  rw [Bool.and_eq_true] at h2
  rw [← sm_perm (srt_perm l)]
  exact underR_sm _ _ (by have := bnds_len hs; rw [srt_length]; omega) h2.2
/-! ### The slope beside -/
open BesideSlope in
theorem beside_srt {l : List Int} (h8 : l.length ≤ 8) (hx : ∀ x ∈ l, 0 ≤ x ∧ x < 100) : srt (goal l l.length) = List.zipWith (· + ·) (srt l) (iota 0 l.length) := by
  have hp := fairS_perm l h8 hx
  have hlen : (fairS l).length = l.length := by rw [hp.length_eq, iota_length]
  have hfi : ∀ (m : Nat) (h : m < (fairS l).length), 0 ≤ (fairS l)[m] ∧ (fairS l)[m] < (l.length : Int) := fun m h => (iota_mem _ _).1 (hp.mem_iff.1 (List.getElem_mem h))
  have hcs : ((fairS l).map (code l)).Pairwise (· ≤ ·) := by rw [fairS_codes l h8]; exact srt_sorted _
  have hmono : ∀ (i j : Nat) (hi : i < (fairS l).length) (hj : j < (fairS l).length), i < j → rd l (fairS l)[i] ≤ rd l (fairS l)[j] := by
    intro i j hi hj hij
    have h1 := List.pairwise_iff_getElem.1 hcs i j (by simpa using hi) (by simpa using hj) hij
    rw [List.getElem_map, List.getElem_map] at h1
    unfold code at h1
    have h2 := hfi i hi
    have h3 := hfi j hj
    omega
  have hS : (fairS l).map (rd l) = srt l := by
    refine srt_unique ?_ ?_
    · have e : (iota 0 l.length).map (rd l) = l := by
        refine List.ext_getElem (by simp [iota_length]) (fun i h1 h2 => ?_)
        rw [List.getElem_map, iota_get, Int.zero_add, rd_nat l i h2]
      have := hp.map (rd l)
      rw [e] at this
      exact this
    · refine List.pairwise_iff_getElem.2 (fun i j hi hj hij => ?_)
      rw [List.getElem_map, List.getElem_map]
      exact hmono i j _ _ hij
  have hT : (fairS l).map (fun i => rd l i + BesideSlope.ahead l i) = List.zipWith (· + ·) (srt l) (iota 0 l.length) := by
    refine List.ext_getElem (by simp [iota_length, srt_length, hlen]) (fun m h1 h2 => ?_)
    have hm : m < (fairS l).length := by simpa using h1
    rw [List.getElem_map, List.getElem_zipWith, iota_get, fair_at l h8 hx m hm]
    have e : (srt l)[m]'(by rw [srt_length]; omega) = rd l (fairS l)[m] := by
      have : (srt l)[m]'(by rw [srt_length]; omega) = ((fairS l).map (rd l))[m]'(by simpa using hm) := by congr 1; exact hS.symm
      rw [this, List.getElem_map]
    rw [e]
    omega
  refine (srt_unique ?_ ?_).symm
  · rw [← hT]
    exact hp.map _
  · rw [← hT]
    refine List.pairwise_iff_getElem.2 (fun i j hi hj hij => ?_)
    have hi' : i < (fairS l).length := by simpa using hi
    have hj' : j < (fairS l).length := by simpa using hj
    rw [List.getElem_map, List.getElem_map, fair_at l h8 hx i hi', fair_at l h8 hx j hj']
    have := hmono i j hi' hj' hij
    omega
theorem beside_ok {l : List Int} {a : Int} (h : slp l a = true) (h2 : slope (l.length : Int) (a + (l.length : Int)) = true) :
    slp (BesideSlope.goal l l.length) (a + (l.length : Int)) = true ∧ SlopeArea.res (BesideSlope.goal l l.length) (a + (l.length : Int)) = (sm (bnds (l.length : Int) a) - sm l, true) := by
  have hs := slp_slope h
  have hin := slope_in hs
  have hl := slp_in h
  have h8 : l.length ≤ 8 := by omega
  have hx : ∀ x ∈ l, 0 ≤ x ∧ x < 100 := fun x hx => by have := hl x hx; omega
  have hsrt := beside_srt h8 hx
  have hgl : (BesideSlope.goal l l.length).length = l.length := BesideSlope.goal_length l l.length
  have hn := next_fin ⟨l.length - 1, by omega⟩ ⟨(a - 1).toNat, by omega⟩
  simp only at hn
  rw [show ((l.length - 1 : Nat) : Int) + 1 = (l.length : Int) by omega, show (((a - 1).toNat : Nat) : Int) + 1 = a by omega, show l.length - 1 + 1 = l.length by omega] at hn
  have hn := hn hs h2
  have hu := h
  unfold slp under at hu
  rw [Bool.and_eq_true] at hu
  have hi0 : ∀ y ∈ iota 0 l.length, 0 ≤ y := fun y hy => ((iota_mem _ _).1 hy).1
  have hk : slp (BesideSlope.goal l l.length) (a + (l.length : Int)) = true := by
    unfold slp under
    rw [hgl, h2, hsrt, hn, underR_zip _ _ _ hi0 hu.2]
    rfl
  refine ⟨hk, ?_⟩
  rw [area_eq hk, hgl, hn, sm_zip _ _ (by have := bnds_len hs; rw [iota_length]; omega), ← sm_perm (srt_perm (BesideSlope.goal l l.length)), hsrt, sm_zip _ _ (by rw [srt_length, iota_length]), sm_perm (srt_perm l)]
  congr 1
  omega
theorem is_ev {l : List Int} {a : Int} (h : slp l a = true) : Ev (fun k => impl_IsSlopeParking.f k l a) (true, true) := by
  have hs := slp_slope h
  have hi := isSlope_ev (l.length : Int) a
  rw [hs] at hi
  have hu := isUnder_ev hs
  have h2 := h
  unfold slp at h2
  rw [Bool.and_eq_true] at h2
  rw [h2.2] at hu
  unfold impl_IsSlopeParking.f
  exact Ev.bind hi (Ev.pos rfl (Ev.bind hu (Ev.now _)))
/-! ### The draws -/
theorem slanted_draw {code : List Int} (hc : Bytes code) : ∃ r, Ev (fun k => spec_l1Cur_slanted.f k code 0 0) r := by
  obtain ⟨⟨n, a, at_, s⟩, hr, h0, h1⟩ := slope_draw hc
  dsimp only at h0 h1
  have hi := slIs_ev n a
  unfold spec_l1Cur_slanted.f
  cases h : slope n a with
  | false =>
    rw [h] at hi
    obtain ⟨r, hp, _⟩ := park_at hc at_ s (by omega) 6 (by decide)
    exact ⟨_, Ev.bind hr (Ev.bind hi (Ev.neg (by decide) (Ev.bind hp (Ev.now _))))⟩
  | true =>
    rw [h] at hi
    have hin := slope_in h
    have hp := SpecAt.slPower_ev h
    have hall := SpecAt.all_in h
    have hpos : 0 < SpecAt.all n a := by unfold SpecAt.all; exact Int.pow_pos (by omega)
    obtain ⟨x, a2, s2, e2, hx0, hx1, hb0, hb1⟩ := pick_ok hc at_ s (SpecAt.all n a) (by omega) (by omega)
    obtain ⟨l, hl, hn⟩ := SpecAt.at_ev h x hx0 (hx1 (by omega))
    obtain ⟨b, a3, s3, e3, hc0, hc1⟩ := one_ok hc a2 s2 8 (by omega) (by decide)
    cases b with
    | true =>
      obtain ⟨y, a4, s4, e4, hy0, hy1, hd0, hd1⟩ := pick_ok hc a3 s3 n (by omega) (by omega)
      obtain ⟨z, a5, s5, e5, _⟩ := pick_ok hc a4 s4 (a + 2) (by omega) (by omega)
      have hy := hy1 (by omega)
      refine ⟨(l.set y.toNat (wrap64 (z - 1)), a, a5, s5), Ev.bind hr (Ev.bind hi (Ev.pos rfl ?_))⟩
      dsimp only
      rw [wrap64_in (n - 1) (by omega) (by omega), wrap64_in (a + 2) (by omega) (by omega)]
      exact Ev.bind hp (Ev.bindc e2 (Ev.bind hl (Ev.bindc e3 (Ev.pos rfl (Ev.bindc e4 (Ev.bindc e5 (Ev.pos hy0 (Ev.pos (by dsimp only; omega) (Ev.now _)))))))))
    | false =>
      refine ⟨(l, a, a3, s3), Ev.bind hr (Ev.bind hi (Ev.pos rfl ?_))⟩
      dsimp only
      rw [wrap64_in (n - 1) (by omega) (by omega)]
      exact Ev.bind hp (Ev.bindc e2 (Ev.bind hl (Ev.bindc e3 (Ev.neg (by simp) (Ev.now _)))))
/-! ### The whole -/
theorem j4_ev (l : List Int) (a : Int) : Ev (fun k => laws_FnSlopeAreas.j4 k l a (SlopeArea.res l a).1) true := by
  have hl := BesideSlope.res_length l a
  refine Ev.step (f := ?f1) (fun k => ?h1) ?g1
  case h1 => rw [laws_FnSlopeAreas.j4]
  refine Ev.bind (BesideSlope.impl_ev l a) (Ev.bind (BesideSlope.spec_ev l a) (Ev.neg (by simp) (Ev.bind (wSame_ev _ (by omega)) ?_)))
  by_cases h : slp l a = true ∧ slope (l.length : Int) (a + (l.length : Int)) = true
  · rw [BesideSlope.res_yes h.1 h.2, area_eq h.1]
    have hs := slp_slope h.1
    have hin := slope_in hs
    have hk := beside_ok h.1 h.2
    have ha := SlopeArea.impl_ev (BesideSlope.goal l l.length) (a + (l.length : Int))
    rw [hk.2] at ha
    have hm := (bnds_ok hs).2.2.2.1
    have hsm := slp_sm h.1
    refine Ev.step (f := ?f2) (fun k => ?h2) ?g2
    case h2 => rw [laws_FnSlopeAreas.j5, if_neg (by decide), if_pos rfl, wrap64_in (a + (l.length : Int)) (by omega) (by omega)]
    refine Ev.bind ha (Ev.bind (is_ev hk.1) (Ev.bind hm (Ev.pos rfl (Ev.pos rfl (Ev.pos rfl (Ev.pos rfl (Ev.pos rfl (Ev.pos (by dsimp only; omega) (Ev.const ?_)))))))))
    dsimp only
    rw [decide_eq_true (by omega)]
  · have e : BesideSlope.res l a = ([], false) := by unfold BesideSlope.res; rw [if_neg h]
    rw [e]
    refine Ev.step (f := fun _ => some true) (fun k => ?_) (Ev.now _)
    rw [laws_FnSlopeAreas.j5, if_neg (by decide), if_neg (by decide)]
theorem j2_ev {x1 : List Int} (hb : Bytes x1) (l : List Int) (a : Int) : Ev (fun k => laws_FnSlopeAreas.j2 k x1 l a (SlopeArea.res l a).1) true := by
  obtain ⟨r, hr, hrl, _⟩ := park_ok hb 7 (by decide)
  obtain ⟨u, hu⟩ : ∃ u, u = r.1 := ⟨_, rfl⟩
  have hlen : u.length ≤ 16 := by rw [hu]; omega
  have hd : Ev (fun k => spec_DrawUsualOf.f k x1) u := by
    unfold spec_DrawUsualOf.f
    exact Ev.bind hr (by rw [← hu]; exact Ev.now _)
  have hul := UsualOf.res_length u
  refine Ev.step (f := ?f1) (fun k => ?h1) ?g1
  case h1 => rw [laws_FnSlopeAreas.j2]
  refine Ev.bind hd (Ev.bind (UsualOf.impl_ev u (by omega)) (Ev.bind (UsualOf.spec_ev u (by omega)) (Ev.neg (by simp) (Ev.bind (wSame_ev _ (by omega)) ?_))))
  by_cases h : slp u ((u.length : Int) + 1) = true
  · have e : UsualOf.res u = (u, true) := by unfold UsualOf.res; rw [if_pos h]
    rw [e]
    have hs := slp_slope h
    have hin := slope_in hs
    have hp := UsualOf.parking_of h
    have ha := SlopeArea.impl_ev u ((u.length : Int) + 1)
    rw [area_eq h] at ha
    have hbn := UsualOf.bnds_usual ⟨u.length - 1, by omega⟩
    simp only at hbn
    rw [show ((u.length - 1 : Nat) : Int) + 1 = (u.length : Int) by omega, show ((u.length - 1 : Nat) : Int) + 2 = (u.length : Int) + 1 by omega, show u.length - 1 + 1 = u.length by omega] at hbn
    rw [hbn] at ha
    have ht := dist_ev hp (by omega)
    refine Ev.step (f := ?f2) (fun k => ?h2) ?g2
    case h2 => rw [laws_FnSlopeAreas.j3, if_neg (by decide), if_pos rfl, wrap64_in _ (by omega) (by omega)]
    exact Ev.bind ha (Ev.bind ht (Ev.pos rfl (Ev.pos rfl (Ev.pos rfl (j4_ev l a)))))
  · have e : UsualOf.res u = ([], false) := by unfold UsualOf.res; rw [if_neg h]
    rw [e]
    refine Ev.step (fun k => ?_) (j4_ev l a)
    rw [laws_FnSlopeAreas.j3, if_neg (by decide), if_neg (by decide)]
theorem j0_ev {x1 : List Int} (hb : Bytes x1) (l : List Int) (a : Int) : Ev (fun k => laws_FnSlopeAreas.j0 k x1 l a (SlopeArea.res l a).1 false) true := by
  obtain ⟨⟨n, w, at_, s⟩, hr, _⟩ := slope_draw hb
  have hd : Ev (fun k => spec_DrawMostArea.f k x1) (n, w) := by
    unfold spec_DrawMostArea.f
    exact Ev.bind hr (Ev.now _)
  refine Ev.step (f := ?f1) (fun k => ?h1) ?g1
  case h1 => rw [laws_FnSlopeAreas.j0, if_neg (by decide)]
  refine Ev.bind hd ?_
  cases h : slope n w with
  | false =>
    have hm := most_no h
    refine Ev.bind hm.1 (Ev.bind hm.2 (Ev.neg (by simp) ?_))
    rw [bne_self_eq_false]
    refine Ev.step (fun k => ?_) (j2_ev hb l a)
    rw [laws_FnSlopeAreas.j1, if_neg (by decide), if_neg (by decide)]
  | true =>
    have hin := slope_in h
    have hB := bnds_ok h
    have hbl := bnds_len h
    obtain ⟨N, rfl⟩ := Int.eq_ofNat_of_zero_le (show 0 ≤ n by omega)
    have hrl : (List.replicate N (0 : Int)).length = N := List.length_replicate
    have hz : slp (List.replicate N 0) w = true := slp_sorted (by rw [hrl]; exact h) (List.pairwise_replicate.2 (.inr (Int.le_refl _))) (by rw [hrl]; have := hB.2.2.1; rw [Int.toNat_natCast] at this; exact this)
    have hbb : slp (bnds (N : Int) w) w = true := slp_sorted (by rw [hbl]; exact h) hB.1 (by rw [hbl]; exact hB.2.1)
    have hz0 : sm (List.replicate N 0) = 0 := by
      have : ∀ m : Nat, sm (List.replicate m 0) = 0 := by
        intro m
        induction m with
        | zero => rfl
        | succ m ih => rw [List.replicate_succ, sm, ih]; rfl
      exact this N
    have ha1 := SlopeArea.impl_ev (List.replicate N 0) w
    rw [area_eq hz, hrl, hz0, Int.sub_zero] at ha1
    have ha2 := SlopeArea.impl_ev (bnds (N : Int) w) w
    rw [area_eq hbb, hbl, Int.sub_self] at ha2
    have hi := isSlope_ev (N : Int) w
    rw [h] at hi
    have hbo : Ev (fun k => impl_BoundsOf.f k (N : Int) w) (bnds (N : Int) w, true) := by
      unfold impl_BoundsOf.f
      exact Ev.bind hi (Ev.pos rfl (Ev.bind (bounds_ev h) (Ev.now _)))
    have hws := wSum_ev (bnds (N : Int) w) (by omega) (fun x hx => by have := hB.2.2.2.2.2 x hx; omega)
    refine Ev.bind hB.2.2.2.1 (Ev.bind hB.2.2.2.2.1 (Ev.neg (by simp) ?_))
    rw [bne_self_eq_false]
    refine Ev.step (f := ?f2) (fun k => ?h2) ?g2
    case h2 => rw [laws_FnSlopeAreas.j1, if_neg (by decide), if_pos rfl, if_pos (by omega), if_pos (by omega), Int.toNat_natCast]
    exact Ev.bind ha1 (Ev.bind hbo (Ev.bind ha2 (Ev.pos rfl (Ev.pos rfl (Ev.pos rfl (Ev.pos rfl (Ev.pos rfl (Ev.bind hws (Ev.pos rfl (j2_ev hb l a))))))))))
end Areas
open Areas in
theorem FnSlopeAreas : laws_FnSlopeAreas.Pure := by
  intro l0 l1 _ _ hw0 _ _ hw1
  refine Ev.rounds ?_
  have hb0 := bytes_of hw0
  have hb1 := bytes_of hw1
  unfold laws_FnSlopeAreas.f laws_big.f
  by_cases hb : (l0.length : Int) > 1048576
  · rw [if_pos hb]
    exact Ev.bindc rfl (Ev.pos rfl (Ev.now _))
  rw [if_neg hb]
  refine Ev.bindc rfl ?_
  by_cases hb2 : decide ((l1.length : Int) > wrap64 (1048576 - (l0.length : Int))) = true
  · exact Ev.pos hb2 (Ev.now _)
  refine Ev.neg hb2 ?_
  obtain ⟨⟨l, a, at_, s⟩, hr⟩ := slanted_draw hb0
  have hd : Ev (fun k => spec_DrawSlopeArea.f k l0) (l, a) := by
    unfold spec_DrawSlopeArea.f
    exact Ev.bind hr (Ev.now _)
  refine Ev.bind hd (Ev.bind (SlopeArea.impl_ev l a) (Ev.bind (SlopeArea.spec_ev l a) (Ev.neg (by simp) ?_)))
  rw [bne_self_eq_false]
  exact j0_ev hb1 l a
end Go.Proofs.Ytflfbkobpdooeaa.Pure
