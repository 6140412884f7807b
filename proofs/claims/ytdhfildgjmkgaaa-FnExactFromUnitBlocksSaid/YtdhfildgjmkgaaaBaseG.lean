/- Favourites for a street, as the program and the reference tell them. No condition. -/
import Derived.Test.YtdhfildgjmkgaaaPAllx3
import Derived.Test.YtdhfildgjmkgaaaBaseE
namespace Go.Proofs.Ytdhfildgjmkgaaa.Plain
open Go.RowKit Go.Proofs.YtdhfildgjmkgaaaW.PrintWords Go.Proofs.YtdhfildgjmkgaaaW.PrintLast Go.Proofs.Ytdhfildgjmkgaaa.Hand Go.Proofs.Ytdhfildgjmkgaaa.PAll
set_option linter.unusedVariables false

/-- Favourites for a street. -/
def good (l : List Int) (p : Int) : Bool := decide (1 ≤ p ∧ p ≤ 12) && (decide (l.length ≤ 8) && l.all fun x => decide (0 ≤ x ∧ x ≤ p - 1))
theorem areFav_eq (l : List Int) (p : Int) : impl_AreFavourites.f l p = some (good l p) := by
  unfold impl_AreFavourites.f good
  rw [between_eq, Option.bind_some]
  by_cases h1 : 1 ≤ p ∧ p ≤ 12
  · rw [decide_eq_true h1, Bool.true_and, if_pos rfl]
    by_cases h2 : l.length ≤ 8
    · rw [decide_eq_true h2, Bool.true_and, if_pos (by omega), wrap64_in (p - 1) (by omega) (by omega)]
      rfl
    · rw [decide_eq_false h2, Bool.false_and, if_neg (by omega)]
  · rw [decide_eq_false h1, Bool.false_and, if_neg (by decide)]
theorem good_places {l : List Int} {p : Int} (h : good l p = true) : 1 ≤ p ∧ p ≤ 12 := by
  unfold good at h
  simp only [Bool.and_eq_true, decide_eq_true_eq] at h
  exact h.1
theorem good_cars {l : List Int} {p : Int} (h : good l p = true) : l.length ≤ 8 := by
  unfold good at h
  simp only [Bool.and_eq_true, decide_eq_true_eq] at h
  exact h.2.1
theorem good_in {l : List Int} {p : Int} (h : good l p = true) : ∀ x ∈ l, 0 ≤ x ∧ x < p := by
  unfold good at h
  simp only [Bool.and_eq_true, decide_eq_true_eq, List.all_eq_true] at h
  intro x hx
  have := h.2.2 x hx
  omega
end Go.Proofs.Ytdhfildgjmkgaaa.Plain
