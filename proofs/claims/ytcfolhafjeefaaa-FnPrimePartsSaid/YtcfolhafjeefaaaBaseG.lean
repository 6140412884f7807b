/- Favourites for a street, as the program and the reference tell them. No condition. -/
import Derived.Test.YtcfolhafjeefaaaPAllx3
import Derived.Test.YtcfolhafjeefaaaBaseE
namespace Go.Proofs.Ytcfolhafjeefaaa.Plain
open Go.RowKit Go.Proofs.YtcfolhafjeefaaaW.PrintWords Go.Proofs.YtcfolhafjeefaaaW.PrintLast Go.Proofs.Ytcfolhafjeefaaa.Hand Go.Proofs.Ytcfolhafjeefaaa.PAll
set_option linter.unusedVariables false

/-- Favourites for a street. -/
def good (l : List Int) (p : Int) : Bool := decide (1 ≤ p ∧ p ≤ 12) && (decide (l.length ≤ 8) && l.all fun x => decide (0 ≤ x ∧ x ≤ p - 1))
theorem areFav_eq (l : List Int) (p : Int) : impl_AreFavourites.f l p = some (good l p) := by
  unfold impl_AreFavourites.f good
  rw [between_eq, Option.bind_some]
  by_cases h1 : 1 ≤ p ∧ p ≤ 12
  · rw [decide_eq_true h1, Bool.true_and, if_pos rfl]
    by_cases h2 : l.length ≤ 8
    · rw [decide_eq_true h2, Bool.true_and, if_pos (by omega), wrap64_in (p - 1) (by omega) (by omega)]
      rfl
    · rw [decide_eq_false h2, Bool.false_and, if_neg (by omega)]
  · rw [decide_eq_false h1, Bool.false_and, if_neg (by decide)]
end Go.Proofs.Ytcfolhafjeefaaa.Plain
