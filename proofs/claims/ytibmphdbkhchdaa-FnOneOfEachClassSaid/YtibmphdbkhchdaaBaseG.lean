/- Favourites for a street, as the program and the reference tell them. No condition. -/
import Derived.Test.YtibmphdbkhchdaaBaseE
namespace Go.Proofs.Ytibmphdbkhchdaa.Plain
open Go.RowKit Go.Proofs.YtibmphdbkhchdaaW.PrintWords Go.Proofs.YtibmphdbkhchdaaW.PrintLast Go.Proofs.Ytibmphdbkhchdaa.Hand Go.Proofs.Ytibmphdbkhchdaa.PAll
set_option linter.unusedVariables false

/-- Favourites for a street. -/
def good (l : List Int) (p : Int) : Bool := decide (1 ≤ p ∧ p ≤ 12) && (decide (l.length ≤ 8) && l.all fun x => decide (0 ≤ x ∧ x ≤ p - 1))
theorem good_places {l : List Int} {p : Int} (h : good l p = true) : 1 ≤ p ∧ p ≤ 12 := by
  unfold good at h
  simp only [Bool.and_eq_true, decide_eq_true_eq] at h
  exact h.1
theorem good_cars {l : List Int} {p : Int} (h : good l p = true) : l.length ≤ 8 := by
  unfold good at h
  simp only [Bool.and_eq_true, decide_eq_true_eq] at h
  exact h.2.1
theorem good_in {l : List Int} {p : Int} (h : good l p = true) : ∀ x ∈ l, 0 ≤ x ∧ x < p := by
  unfold good at h
  simp only [Bool.and_eq_true, decide_eq_true_eq, List.all_eq_true] at h
  intro x hx
  have := h.2.2 x hx
  omega
end Go.Proofs.Ytibmphdbkhchdaa.Plain
