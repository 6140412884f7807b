/- The pure statement of the law FnExactPointOfRegion: the program's PointOfRegion and the reference's one answer alike; no condition beside the row's own. -/
import Derived.Test.YtmajcgcnnpkhfaaPAllx6
import Derived.Test.YtmajcgcnnpkhfaaPAllx7
import Derived.Test.YtmajcgcnnpkhfaaBaseZ
import Derived.Test.YtmajcgcnnpkhfaaBasePt
import Derived.Test.YtmajcgcnnpkhfaaBasePu
import Derived.Test.YtmajcgcnnpkhfaaBasePv
namespace Go.Proofs.Ytmajcgcnnpkhfaa.Pure
open Go.RowKit Go.Proofs.YtmajcgcnnpkhfaaW.PrintWords Go.Proofs.YtmajcgcnnpkhfaaW.PrintLast Go.Proofs.Ytmajcgcnnpkhfaa.Hand Go.Proofs.Ytmajcgcnnpkhfaa.PAll Go.Proofs.Ytmajcgcnnpkhfaa.Plain
set_option linter.unusedVariables false
namespace PointOfRegion
/-- The reference's rounds do not look at the order. -/
theorem re_indep (o o' far : List Int) : ∀ k, (∀ a b, spec_reDepths.l0 k a b o far = spec_reDepths.l0 k a b o' far) ∧ (∀ a b c d e, spec_reDepths.l1 k a b c d e o far = spec_reDepths.l1 k a b c d e o' far) ∧
    (∀ a b c d e g i j, spec_reDepths.j2 k a b c d e g i j o far = spec_reDepths.j2 k a b c d e g i j o' far) ∧ (∀ a b c d e g i j, spec_reDepths.j3 k a b c d e g i j o far = spec_reDepths.j3 k a b c d e g i j o' far) := by
  intro k
  induction k with
  | zero => exact ⟨fun _ _ => rfl, fun _ _ _ _ _ => rfl, fun _ _ _ _ _ _ _ _ => rfl, fun _ _ _ _ _ _ _ _ => rfl⟩
  | succ k ih =>
    obtain ⟨h0, h1, h2, h3⟩ := ih
    refine ⟨fun a b => ?_, fun a b c d e => ?_, fun a b c d e g i j => ?_, fun a b c d e g i j => ?_⟩
    · rw [spec_reDepths.l0, spec_reDepths.l0, h1]
    · rw [spec_reDepths.l1, spec_reDepths.l1]
      simp only [h2, h0]
    · rw [spec_reDepths.j2, spec_reDepths.j2]
      simp only [h3]
    · rw [spec_reDepths.j3, spec_reDepths.j3]
      simp only [h1]
theorem re_f (k : Nat) (o far : List Int) (h : far.length = o.length) : spec_reDepths.f k o far = spec_reDepths.f k far far := by
  unfold spec_reDepths.f
  rw [h, (re_indep o far far k).1]
theorem fars_mem : ∀ (d p lo : Nat) (f : List Int), f.length = d → (∀ m : Nat, m < d → (lo : Int) ≤ rd f m ∧ rd f m ≤ (p + m : Nat)) → (∀ m m2 : Nat, m ≤ m2 → m2 < d → rd f m ≤ rd f m2) → f ∈ fars d p lo := by
  intro d
  induction d with
  | zero =>
    intro p lo f hl _ _
    have : f = [] := List.eq_nil_of_length_eq_zero hl
    subst this
    exact List.mem_singleton.2 rfl
  | succ d ih =>
    intro p lo f hl hin hmo
    match f, hl with
    | x :: t, hl =>
      have h0 := hin 0 (by omega)
      have hx : rd (x :: t) ((0 : Nat) : Int) = x := rfl
      rw [hx] at h0
      have hrd : ∀ m : Nat, rd (x :: t) ((m + 1 : Nat) : Int) = rd t (m : Int) := by
        intro m
        unfold rd
        rw [Int.toNat_natCast, Int.toNat_natCast, List.getD_cons_succ]
      obtain ⟨y, hy⟩ : ∃ y : Nat, x = ((lo + y : Nat) : Int) := ⟨(x - lo).toNat, by omega⟩
      rw [fars, List.mem_flatten]
      refine ⟨(fars d (p + 1) (lo + y)).map fun t => ((lo + y : Nat) : Int) :: t, List.mem_map.2 ⟨y, List.mem_range.2 (by omega), rfl⟩, List.mem_map.2 ⟨t, ?_, by rw [hy]⟩⟩
      refine ih (p + 1) (lo + y) t (by simpa using hl) ?_ ?_
      · intro m hm
        have h1 := hin (m + 1) (by omega)
        have h2 := hmo 0 (m + 1) (by omega) (by omega)
        rw [hrd] at h1 h2
        rw [hx] at h2
        omega
      · intro m m2 hm hm2
        have h1 := hmo (m + 1) (m2 + 1) (by omega) (by omega)
        rw [hrd, hrd] at h1
        exact h1
theorem fars_len : ∀ (d p lo : Nat), (d : Nat) = 8 → p = 0 → lo = 0 → (fars d p lo).length ≤ 1440 := by
  intro d p lo h1 h2 h3
  subst h1 h2 h3
  decide +kernel
theorem agree_all {o f : List Int} (hr : reg o f = true) : agree f = true := by
  have h8 := reg_len hr
  have hm : f ∈ fars f.length 0 0 := fars_mem f.length 0 0 f rfl (fun m h => by have := reg_far hr m h; omega) (fun m m2 h h2 => reg_mono hr m m2 h h2)
  have h5 := List.all_eq_true.1 agree_5
  by_cases e : f.length ≤ 5
  · refine h5 f ?_
    simp only [List.mem_append]
    obtain ⟨n, hn⟩ : ∃ n, n = f.length := ⟨_, rfl⟩
    rw [← hn] at hm e
    match n, e with
    | 0, _ => exact .inl (.inl (.inl (.inl (.inl hm))))
    | 1, _ => exact .inl (.inl (.inl (.inl (.inr hm))))
    | 2, _ => exact .inl (.inl (.inl (.inr hm)))
    | 3, _ => exact .inl (.inl (.inr hm))
    | 4, _ => exact .inl (.inr hm)
    | 5, _ => exact .inr hm
    | n + 6, h => omega
  by_cases e6 : f.length = 6
  · rw [e6] at hm
    exact List.all_eq_true.1 agree_6 f hm
  by_cases e7 : f.length = 7
  · rw [e7] at hm
    exact List.all_eq_true.1 agree_7 f hm
  have e8 : f.length = 8 := by omega
  rw [e8] at hm
  have hl := fars_len 8 0 0 rfl rfl rfl
  rw [← List.take_append_drop 480 (fars 8 0 0), List.mem_append] at hm
  rcases hm with hm | hm
  · exact List.all_eq_true.1 agree_8_0 f (by rw [List.drop_zero]; exact hm)
  · rw [← List.take_append_drop 480 ((fars 8 0 0).drop 480), List.mem_append] at hm
    rcases hm with hm | hm
    · exact List.all_eq_true.1 agree_8_1 f hm
    · rw [List.drop_drop] at hm
      refine List.all_eq_true.1 agree_8_2 f ?_
      rw [List.take_of_length_le (by rw [List.length_drop]; omega)]
      exact hm
theorem up {α : Type} {g : Nat → Option α} (hm : ∀ k, LeO (g k) (g (k + 1))) {k0 : Nat} {r : α} (h : g k0 = some r) : Ev g r := by
  refine ⟨k0, fun k hk => ?_⟩
  obtain ⟨d, rfl⟩ : ∃ d, k = k0 + d := ⟨k - k0, by omega⟩
  clear hk
  induction d with
  | zero => exact h
  | succ d ih => exact hm (k0 + d) r ih
/-- What both come to. -/
theorem both {o f : List Int} (hr : reg o f = true) : ∃ y : List Int, y.length = o.length ∧ (∀ z ∈ y, wrap64 (-z) = -z) ∧ Ev (fun k => spec_reDepths.f k o f) y ∧ Ev (fun k => ptT f o.length k (List.replicate o.length 0, true)) (y.map fun z => -z) := by
  have h := agree_all hr
  have hl := (reg_len hr).2
  unfold agree at h
  split at h
  · rename_i y m hy hm
    rw [Bool.and_eq_true, Bool.and_eq_true, decide_eq_true_eq, decide_eq_true_eq, List.all_eq_true] at h
    obtain ⟨⟨h1, h2⟩, h3⟩ := h
    refine ⟨y, by omega, fun z hz => ?_, ?_, ?_⟩
    · have := of_decide_eq_true (h3 z hz)
      exact wrap64_in _ (by omega) (by omega)
    · exact up (fun k => spec_reDepths.mono o f k) (k0 := 3000) (by rw [re_f 3000 o f hl]; exact hy)
    · rw [← h1]
      exact up (fun k => ptT_mono f o.length k _) (k0 := 200) (by rw [← hl]; exact hm)
  · cases h
/-- The last loop: both write the same numbers to the same places. -/
theorem spec_l0 (o f y : List Int) (hr : reg o f = true) (hy : y.length = o.length) (hw : ∀ z ∈ y, wrap64 (-z) = -z) : ∀ (d n : Nat), n + d = o.length →
    Ev (fun k => spec_rePointOf.l0 k (ptOut o (y.map fun z => -z) n) y (y.length : Int) (n : Int) o f) (ptOut o (y.map fun z => -z) o.length) := by
  have h8 := (reg_len hr).1
  intro d
  induction d with
  | zero =>
    intro n hn
    obtain rfl : n = o.length := by omega
    refine Ev.step (f := fun _ => some (ptOut o (y.map fun z => -z) o.length)) (fun k => ?_) (Ev.now _)
    rw [spec_rePointOf.l0, if_neg (by omega)]
  | succ d ih =>
    intro n hn
    have hlt : n < o.length := by omega
    have ho := order_in (reg_order hr) (rd o n) (by rw [rd_nat o n hlt]; exact List.getElem_mem hlt)
    refine Ev.step (fun k => ?h1) (ih (n + 1) (by omega))
    have e : wrap64 (-(rd y (n : Int))) = rd (y.map fun z => -z) (n : Int) := by
      rw [rd_nat y n (by omega), rd_nat _ n (by rw [List.length_map]; omega), List.getElem_map]
      exact hw _ (List.getElem_mem _)
    rw [spec_rePointOf.l0, if_pos (by omega), if_pos (by omega), if_pos (by omega), if_pos (by omega), if_pos (by omega), if_pos (by rw [ptOut_length]; omega), wrap_succ n (by omega), e]
    rfl
def res (o f : List Int) : List Int × Bool := if reg o f = true then (match spec_reDepths.f 3000 f f with | some y => ptOut o (y.map fun z => -z) o.length | none => [], true) else ([], false)
theorem res_eq {o f y : List Int} (hr : reg o f = true) (hy : Ev (fun k => spec_reDepths.f k o f) y) : res o f = (ptOut o (y.map fun z => -z) o.length, true) := by
  unfold res
  rw [if_pos hr]
  have h := agree_all hr
  unfold agree at h
  cases h3 : spec_reDepths.f 3000 f f with
  | none =>
    rw [h3] at h
    simp at h
  | some z =>
    obtain ⟨k0, hk⟩ := hy
    obtain ⟨k1, hk1⟩ := up (fun k => spec_reDepths.mono f f k) h3
    have e1 := hk (k0 + k1) (by omega)
    have e2 := hk1 (k0 + k1) (by omega)
    dsimp only at e1 e2
    rw [re_f _ o f (reg_len hr).2, e2] at e1
    injection e1 with e1
    rw [e1]
theorem res_length (o f : List Int) : (res o f).1.length ≤ 100 := by
  by_cases h : reg o f = true
  · obtain ⟨y, h1, h2, h3, h4⟩ := both h
    rw [res_eq h h3, ptOut_length]
    have := (reg_len h).1
    omega
  · unfold res
    rw [if_neg h]
    simp
theorem spec_ev (o f : List Int) : Ev (fun k => spec_PointOfRegion.f k o f) (res o f) := by
  unfold spec_PointOfRegion.f
  refine Ev.bind (reGood_ev o f) ?_
  by_cases h : reg o f = true
  · obtain ⟨y, h1, h2, h3, h4⟩ := both h
    have h8 := (reg_len h).1
    rw [res_eq h h3]
    refine Ev.pos h (Ev.bind ?_ (Ev.now _))
    unfold spec_rePointOf.f
    refine Ev.pos (by omega) (Ev.pos (by omega) (Ev.bind h3 ?_))
    rw [Int.toNat_natCast]
    exact spec_l0 o f y h h1 h2 o.length 0 (by omega)
  · unfold res
    rw [if_neg h]
    exact Ev.neg h (Ev.now _)
theorem impl_ev (o f : List Int) (hs : o.length ≤ 1099511627776) : Ev (fun k => impl_PointOfRegion.f k o f) (res o f) := by
  unfold impl_PointOfRegion.f
  refine Ev.bind (isRegion_ev o f hs) ?_
  by_cases h : reg o f = true
  · obtain ⟨y, h1, h2, h3, h4⟩ := both h
    have h8 := reg_len h
    rw [res_eq h h3]
    refine Ev.pos h (Ev.pos ⟨h8.1, h8.2, List.all_eq_true.2 fun x hx => decide_eq_true (order_in (reg_order h) x hx)⟩ (Ev.bind h4 (Ev.now _)))
  · unfold res
    rw [if_neg h]
    exact Ev.neg h (Ev.now _)
end PointOfRegion
theorem FnExactPointOfRegion : ∀ (o f : List Int), o.length ≤ maxLen → f.length ≤ maxLen → ∃ k, laws_FnExactPointOfRegion.f k o f = some true := by
  intro o f hm1 hm2
  refine Ev.rounds ?_
  unfold laws_FnExactPointOfRegion.f
  obtain ⟨z, hz, hzl⟩ := szRegion_eq o f hm1 hm2
  refine Ev.bindc hz ?_
  by_cases hb : z < 0
  · exact Ev.pos hb (Ev.now _)
  have hl := hzl (by omega)
  have h1 : o.length ≤ 1099511627 := by omega
  have h2 : f.length ≤ 1099511627 := by omega
  have h1' : o.length ≤ 1099511627776 := by omega
  have h2' : f.length ≤ 1099511627776 := by omega
  have hr := PointOfRegion.res_length o f
  refine Ev.neg hb (Ev.bind (toRegion_ev o f h1' h2') (Ev.bind (PointOfRegion.spec_ev o f) (Ev.bind (toRegion_ev o f h1' h2') (Ev.bind (PointOfRegion.impl_ev o f h1') (Ev.bind (eqIntS_same _ (by omega)) (Ev.pos rfl ?_))))))
  rw [bne_self_eq_false]
  refine Ev.step (f := ?f1) (fun k => ?h1) ?g1
  case h1 => rw [laws_FnExactPointOfRegion.j0, if_neg (by decide)]
  refine Ev.bind (toRegion_ev o f h1' h2') (Ev.bind (eqRegion_same _ _ h1' h2') (Ev.pos rfl (Ev.bind (markRegion_ev o f h1 h2) (Ev.neg (by dsimp only; omega) (Ev.bind (eqIntS_same _ (by omega)) (Ev.pos rfl ?_))))))
  rw [bne_self_eq_false]
  refine Ev.step (f := ?f2) (fun k => ?h2) ?g2
  case h2 => rw [laws_FnExactPointOfRegion.j1, if_neg (by decide)]
  refine Ev.bind (markIntS_ev _ 1 (by omega) (by omega) (by omega)) (Ev.bind (heldIntS_ev 1 _ (by omega) (by omega) (by omega)) (Ev.neg (by omega) (Ev.pos rfl (Ev.bind (toRegion_ev o f h1' h2') (Ev.bind (PointOfRegion.impl_ev o f h1') (Ev.bind (eqIntS_same _ (by omega)) (Ev.pos rfl ?_)))))))
  rw [bne_self_eq_false]
  refine Ev.step (f := ?f3) (fun k => ?h3) ?g3
  case h3 => rw [laws_FnExactPointOfRegion.j2, if_neg (by decide)]
  exact Ev.bind (heldIntS_ev 1 _ (by omega) (by omega) (by omega)) (Ev.neg (by omega) (Ev.pos rfl (Ev.now _)))
end Go.Proofs.Ytmajcgcnnpkhfaa.Pure
