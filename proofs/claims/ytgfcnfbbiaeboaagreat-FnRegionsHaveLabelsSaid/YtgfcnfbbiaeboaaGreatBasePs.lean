/- The reference's point of a region is the program's. Condition: a region of at most 8 places. -/
import Derived.Test.YtgfcnfbbiaeboaaGreatPAllx6
import Derived.Test.YtgfcnfbbiaeboaaGreatPAllx7
import Derived.Test.YtgfcnfbbiaeboaaGreatBasePo
import Derived.Test.YtgfcnfbbiaeboaaGreatBasePv
import Derived.Test.YtgfcnfbbiaeboaaGreatBasePw
import Derived.Test.YtgfcnfbbiaeboaaGreatBasePx
import Derived.Test.YtgfcnfbbiaeboaaGreatBasePy
namespace Go.Proofs.YtgfcnfbbiaeboaaGreat.Plain
open Go.RowKit Go.Proofs.YtgfcnfbbiaeboaaGreatW.PrintWords Go.Proofs.YtgfcnfbbiaeboaaGreatW.PrintLast Go.Proofs.YtgfcnfbbiaeboaaGreat.Hand Go.Proofs.YtgfcnfbbiaeboaaGreat.PAll
set_option linter.unusedVariables false
namespace PoS
/-- The reference's rounds do not look at the order. -/
theorem re_indep (o o' far : List Int) : ∀ k, (∀ a b, spec_reDepths.l0 k a b o far = spec_reDepths.l0 k a b o' far) ∧ (∀ a b c d e, spec_reDepths.l1 k a b c d e o far = spec_reDepths.l1 k a b c d e o' far) ∧
    (∀ a b c d e g i j, spec_reDepths.j2 k a b c d e g i j o far = spec_reDepths.j2 k a b c d e g i j o' far) ∧ (∀ a b c d e g i j, spec_reDepths.j3 k a b c d e g i j o far = spec_reDepths.j3 k a b c d e g i j o' far) := by
  intro k
  induction k with
  | zero => exact ⟨fun _ _ => rfl, fun _ _ _ _ _ => rfl, fun _ _ _ _ _ _ _ _ => rfl, fun _ _ _ _ _ _ _ _ => rfl⟩
  | succ k ih =>
    obtain ⟨h0, h1, h2, h3⟩ := ih
    refine ⟨fun a b => ?_, fun a b c d e => ?_, fun a b c d e g i j => ?_, fun a b c d e g i j => ?_⟩
    · rw [spec_reDepths.l0, spec_reDepths.l0, h1]
    · rw [spec_reDepths.l1, spec_reDepths.l1]
      simp only [h2, h0]
    · rw [spec_reDepths.j2, spec_reDepths.j2]
      simp only [h3]
    · rw [spec_reDepths.j3, spec_reDepths.j3]
      simp only [h1]
theorem re_f (k : Nat) (o far : List Int) (h : far.length = o.length) : spec_reDepths.f k o far = spec_reDepths.f k far far := by
  unfold spec_reDepths.f
  rw [h, (re_indep o far far k).1]
theorem fars_eq : ∀ d p lo, fars d p lo = farL d p lo
  | 0, _, _ => rfl
  | d + 1, p, lo => by
    rw [fars, farL]
    congr 1
    refine List.map_congr_left fun x _ => ?_
    rw [fars_eq d]
theorem agree_all {o f : List Int} (h : RegP o f) (h8 : o.length ≤ 8) : agree f = true := by
  have hl := h.len
  have hm : f ∈ fars f.length 0 0 := by
    rw [fars_eq]
    exact PoR.farL_mem f.length 0 0 f rfl (fun m hm => by have := h.far m (by omega); omega) (fun m m2 h1 h2 => by
      have := PoR.RegP.mono' h (m2 - m) m (by omega)
      rwa [show m + (m2 - m) = m2 by omega] at this)
  have h5 := List.all_eq_true.1 agree_5
  by_cases e : f.length ≤ 5
  · refine h5 f ?_
    simp only [List.mem_append]
    obtain ⟨n, hn⟩ : ∃ n, n = f.length := ⟨_, rfl⟩
    rw [← hn] at hm e
    match n, e with
    | 0, _ => exact .inl (.inl (.inl (.inl (.inl hm))))
    | 1, _ => exact .inl (.inl (.inl (.inl (.inr hm))))
    | 2, _ => exact .inl (.inl (.inl (.inr hm)))
    | 3, _ => exact .inl (.inl (.inr hm))
    | 4, _ => exact .inl (.inr hm)
    | 5, _ => exact .inr hm
    | n + 6, h => omega
  by_cases e6 : f.length = 6
  · rw [e6] at hm
    exact List.all_eq_true.1 agree_6 f hm
  by_cases e7 : f.length = 7
  · rw [e7] at hm
    exact List.all_eq_true.1 agree_7 f hm
  have e8 : f.length = 8 := by omega
  rw [e8] at hm
  have hl8 := PoR.farL_len8
  rw [← fars_eq] at hl8
  rw [← List.take_append_drop 240 (fars 8 0 0), List.mem_append] at hm
  rcases hm with hm | hm
  · exact List.all_eq_true.1 agree_8_0a f (by rw [List.drop_zero]; exact hm)
  · rw [← List.take_append_drop 240 ((fars 8 0 0).drop 240), List.mem_append] at hm
    rcases hm with hm | hm
    · exact List.all_eq_true.1 agree_8_0b f hm
    · rw [List.drop_drop] at hm
      rw [← List.take_append_drop 480 ((fars 8 0 0).drop (240 + 240)), List.mem_append] at hm
      rcases hm with hm | hm
      · exact List.all_eq_true.1 agree_8_1 f hm
      · rw [List.drop_drop] at hm
        refine List.all_eq_true.1 agree_8_2 f ?_
        rw [List.take_of_length_le (by rw [List.length_drop]; omega)]
        exact hm
theorem both {o f : List Int} (h : RegP o f) (h8 : o.length ≤ 8) : ∃ y : List Int, y.length = o.length ∧ (∀ z ∈ y, wrap64 (-z) = -z) ∧ Ev (fun k => spec_reDepths.f k o f) y ∧ Ev (fun k => ptT f o.length k (List.replicate o.length 0, true)) (y.map fun z => -z) := by
  have hg := agree_all h h8
  have hl := h.len
  unfold agree at hg
  split at hg
  · rename_i y m hy hm
    rw [Bool.and_eq_true, Bool.and_eq_true, decide_eq_true_eq, decide_eq_true_eq, List.all_eq_true] at hg
    obtain ⟨⟨h1, h2⟩, h3⟩ := hg
    refine ⟨y, by omega, fun z hz => ?_, ?_, ?_⟩
    · have := of_decide_eq_true (h3 z hz)
      exact wrap64_in _ (by omega) (by omega)
    · exact PoR.up (fun k => spec_reDepths.mono o f k) (k0 := 3000) (by rw [re_f 3000 o f hl]; exact hy)
    · rw [← h1]
      exact PoR.up (fun k => ptT_mono f o.length k _) (k0 := 200) (by rw [← hl]; exact hm)
  · cases hg
/-- The last loop: both write the same numbers to the same places. -/
theorem spec_l0 (o f y : List Int) (h : RegP o f) (h8 : o.length ≤ 8) (hy : y.length = o.length) (hw : ∀ z ∈ y, wrap64 (-z) = -z) : ∀ (d n : Nat), n + d = o.length →
    Ev (fun k => spec_rePointOf.l0 k (ptOut o (y.map fun z => -z) n) y (y.length : Int) (n : Int) o f) (ptOut o (y.map fun z => -z) o.length) := by
  have hl := h.len
  intro d
  induction d with
  | zero =>
    intro n hn
    obtain rfl : n = o.length := by omega
    refine Ev.step (f := fun _ => some (ptOut o (y.map fun z => -z) o.length)) (fun k => ?_) (Ev.now _)
    rw [spec_rePointOf.l0, if_neg (by omega)]
  | succ d ih =>
    intro n hn
    have hlt : n < o.length := by omega
    have ho := h.inr (rd o n) (by rw [rd_nat o n hlt]; exact List.getElem_mem hlt)
    refine Ev.step (fun k => ?h1) (ih (n + 1) (by omega))
    have e : wrap64 (-(rd y (n : Int))) = rd (y.map fun z => -z) (n : Int) := by
      rw [rd_nat y n (by omega), rd_nat _ n (by rw [List.length_map]; omega), List.getElem_map]
      exact hw _ (List.getElem_mem _)
    rw [spec_rePointOf.l0, if_pos (by omega), if_pos (by omega), if_pos (by omega), if_pos (by omega), if_pos (by omega), if_pos (by rw [ptOut_length]; omega), wrap_succ n (by omega), e]
    rfl
theorem det {α : Type} {g : Nat → Option α} {r s : α} (h : Ev g r) (k : Ev g s) : r = s := by
  obtain ⟨a, ha⟩ := h
  obtain ⟨b, hb⟩ := k
  have h1 := ha (a + b) (by omega)
  have h2 := hb (a + b) (by omega)
  rw [h1] at h2
  exact Option.some.inj h2
end PoS
theorem PointOfRegion_both {o f : List Int} (h : RegP o f) (h8 : o.length ≤ 8) : ∃ x : List Int, Pt x ∧ InReg x o f ∧ Ev (fun k => impl_PointOfRegion.f k o f) (x, true) ∧ Ev (fun k => spec_PointOfRegion.f k o f) (x, true) := by
  obtain ⟨x, p1, p2, p3, m, hm, he⟩ := PointOfRegion_ev h h8
  obtain ⟨y, h1, h2, h3, h4⟩ := PoS.both h h8
  have hl := h.len
  have e := PoS.det he h4
  refine ⟨x, p1, p2, p3, ?_⟩
  rw [hm, e]
  unfold spec_PointOfRegion.f
  have hr : reg o f = true := (reg_iff o f).2 ⟨h, h8⟩
  refine Ev.bind (reGood_ev o f) (Ev.pos hr (Ev.bind ?_ (Ev.now _)))
  unfold spec_rePointOf.f
  refine Ev.pos (by omega) (Ev.pos (by omega) (Ev.bind h3 ?_))
  rw [Int.toNat_natCast]
  exact PoS.spec_l0 o f y h h8 h1 h2 o.length 0 (by omega)
end Go.Proofs.YtgfcnfbbiaeboaaGreat.Plain
