/- What isParking of the program, and that of the reference, come to. No condition. -/
import Derived.Test.YtdhfildgjmkgaaaPAllx1
import Derived.Test.YtdhfildgjmkgaaaPAllx3
import Derived.Test.YtdhfildgjmkgaaaBaseB
namespace Go.Proofs.Ytdhfildgjmkgaaa.Plain
open Go.RowKit Go.Proofs.YtdhfildgjmkgaaaW.PrintWords Go.Proofs.YtdhfildgjmkgaaaW.PrintLast Go.Proofs.Ytdhfildgjmkgaaa.Hand Go.Proofs.Ytdhfildgjmkgaaa.PAll
set_option linter.unusedVariables false

/-- A parking function. -/
def parking (l : List Int) : Bool := decide (l.length ≤ 8) && ((l.all fun x => decide (0 ≤ x ∧ x ≤ (l.length : Int) - 1)) && !decide ((-1 : Int) ∈ sdrive (l.length : Int) [] l))
theorem parking_cars {l : List Int} (h : parking l = true) : l.length ≤ 8 := by
  unfold parking at h
  simp only [Bool.and_eq_true, decide_eq_true_eq] at h
  exact h.1
theorem parking_in {l : List Int} (h : parking l = true) : ∀ x ∈ l, 0 ≤ x ∧ x < (l.length : Int) := by
  unfold parking at h
  simp only [Bool.and_eq_true, decide_eq_true_eq, List.all_eq_true] at h
  intro x hx
  have := h.2.1 x hx
  omega
theorem parking_all {l : List Int} (h : parking l = true) : (-1 : Int) ∉ sdrive (l.length : Int) [] l := by
  unfold parking at h
  simp only [Bool.and_eq_true, Bool.not_eq_true', decide_eq_false_iff_not] at h
  exact h.2.2
/-- A car with a favourite beyond the street fails. -/
theorem sdrive_far (p : Int) : ∀ (l out : List Int), (∃ x ∈ l, p ≤ x) → (-1 : Int) ∈ sdrive p out l := by
  intro l
  induction l with
  | nil => intro out h; obtain ⟨x, hx, _⟩ := h; cases hx
  | cons x xs ih =>
    intro out h
    rw [sdrive]
    by_cases hx : p ≤ x
    · obtain ⟨t, ht⟩ := sdrive_pre p xs (out ++ [told p (nf p out (p - x).toNat x)])
      rw [ht, show (p - x).toNat = 0 by omega, nf]
      unfold told
      rw [if_pos hx]
      simp
    · obtain ⟨y, hy, hp⟩ := h
      rcases List.mem_cons.1 hy with rfl | hy
      · exact absurd hp hx
      · exact ih _ ⟨y, hy, hp⟩

theorem paDrive_any (l : List Int) (p : Int) (hp0 : 0 ≤ p) (hp : p ≤ 1000) (hs : l.length ≤ 1000) (hx : ∀ x ∈ l, 0 ≤ x ∧ x ≤ 1000) : Ev (fun k => spec_paDrive.f k l p) (sdrive p [] l) := by
  unfold spec_paDrive.f
  exact paDrive_l p l hp0 hp hs l [] 0 rfl rfl (by omega) hx
theorem paAll_any (l : List Int) (p : Int) (hp0 : 0 ≤ p) (hp : p ≤ 1000) (hs : l.length ≤ 1000) (hx : ∀ x ∈ l, 0 ≤ x ∧ x ≤ 1000) : Ev (fun k => spec_paAll.f k l p) (!decide ((-1 : Int) ∈ sdrive p [] l)) := by
  unfold spec_paAll.f
  refine Ev.bind (paDrive_any l p hp0 hp hs hx) (Ev.bind (l1Has_ev _ _ ?_) (Ev.now _))
  rw [sdrive_length]
  simp
  omega
theorem paParking_ev (l : List Int) : Ev (fun k => spec_paParking.f k l) (parking l) := by
  unfold spec_paParking.f parking
  by_cases h1 : l.length ≤ 8
  · refine Ev.pos (by omega) ?_
    rw [decide_eq_true h1, Bool.true_and, wrap64_in ((l.length : Int) - 1) (by omega) (by omega)]
    refine Ev.bind (l1All_ev l 0 ((l.length : Int) - 1) (by omega)) ?_
    cases h2 : (l.all fun x => decide (0 ≤ x ∧ x ≤ (l.length : Int) - 1)) with
    | false => exact Ev.neg (by decide) (Ev.now _)
    | true =>
      rw [Bool.true_and]
      refine Ev.pos rfl (Ev.bind (paAll_any l (l.length : Int) (by omega) (by omega) (by omega) (fun x hx => ?_)) (Ev.now _))
      have := of_decide_eq_true (List.all_eq_true.1 h2 x hx)
      omega
  · rw [decide_eq_false h1, Bool.false_and]
    exact Ev.neg (by omega) (Ev.now _)
theorem areCars_eq (l : List Int) : impl_areCars.f l = some (decide (l.length ≤ 8) && l.all fun x => decide (0 ≤ x ∧ x ≤ 99)) := by
  unfold impl_areCars.f
  by_cases h1 : l.length ≤ 8
  · rw [decide_eq_true h1, Bool.true_and, if_pos (by omega)]
    rfl
  · rw [decide_eq_false h1, Bool.false_and, if_neg (by omega)]
theorem isParking_ev (l : List Int) : Ev (fun k => impl_isParking.f k l) (parking l) := by
  unfold impl_isParking.f parking
  refine Ev.bindc (areCars_eq l) ?_
  by_cases h1 : l.length ≤ 8
  · rw [decide_eq_true h1, Bool.true_and, Bool.true_and]
    cases h2 : (l.all fun x => decide (0 ≤ x ∧ x ≤ 99)) with
    | false =>
      refine Ev.neg (by decide) (Ev.const ?_)
      cases h3 : (l.all fun x => decide (0 ≤ x ∧ x ≤ (l.length : Int) - 1)) with
      | false => rfl
      | true =>
        exfalso
        rw [List.all_eq_false] at h2
        obtain ⟨x, hx, hn⟩ := h2
        have := of_decide_eq_true (List.all_eq_true.1 h3 x hx)
        exact hn (decide_eq_true (by omega))
    | true =>
      have hin : ∀ x ∈ l, 0 ≤ x ∧ x ≤ 99 := fun x hx => of_decide_eq_true (List.all_eq_true.1 h2 x hx)
      refine Ev.pos rfl (Ev.bind (drive_ev l (l.length : Int) (by omega) (by omega) (by omega) (fun x hx => by have := hin x hx; omega)) ?_)
      by_cases hm : (-1 : Int) ∈ sdrive (l.length : Int) [] l
      · rw [if_pos hm, decide_eq_true hm]
        exact Ev.const (by simp)
      · rw [if_neg hm, decide_eq_false hm]
        refine Ev.const ?_
        have h3 : (l.all fun x => decide (0 ≤ x ∧ x ≤ (l.length : Int) - 1)) = true := by
          rw [List.all_eq_true]
          intro x hx
          have h4 := hin x hx
          by_cases hc : (l.length : Int) ≤ x
          · exact absurd (sdrive_far _ l [] ⟨x, hx, hc⟩) hm
          · exact decide_eq_true (by omega)
        rw [h3]
        rfl
  · rw [decide_eq_false h1, Bool.false_and, Bool.false_and]
    exact Ev.neg (by decide) (Ev.now _)
end Go.Proofs.Ytdhfildgjmkgaaa.Plain
