/- The pure statement of the law FnExactIsUnit: the program's IsUnit and the reference's one answer alike; no condition beside the row's own. -/
import Derived.Test.YtleemfmhilhklaaGreatPAllx4
import Derived.Test.YtleemfmhilhklaaGreatPAllx5
import Derived.Test.YtleemfmhilhklaaGreatBaseU
namespace Go.Proofs.YtleemfmhilhklaaGreat.Pure
open Go.RowKit Go.Proofs.YtleemfmhilhklaaGreatW.PrintWords Go.Proofs.YtleemfmhilhklaaGreatW.PrintLast Go.Proofs.YtleemfmhilhklaaGreat.Hand Go.Proofs.YtleemfmhilhklaaGreat.PAll Go.Proofs.YtleemfmhilhklaaGreat.Plain
set_option linter.unusedVariables false
namespace IsUnit
def res (l : List Int) (a : Int) : Bool × Bool := if parking l = true ∧ 0 ≤ a ∧ a ≤ 8 then (unit l a, true) else (false, false)
theorem spec_ev (l : List Int) (a : Int) : Ev (fun k => spec_IsUnit.f k l a) (res l a) := by
  unfold spec_IsUnit.f res
  refine Ev.bind (paParking_ev l) ?_
  cases h : parking l with
  | false => rw [if_neg (by simp)]; exact Ev.neg (by decide) (Ev.now _)
  | true =>
    refine Ev.pos rfl (Ev.bindc (a := decide (0 ≤ a ∧ a ≤ 8)) (by unfold spec_cnCars.f; rw [l1In_eq]; rfl) ?_)
    by_cases ha : 0 ≤ a ∧ a ≤ 8
    · rw [if_pos ⟨rfl, ha⟩, decide_eq_true ha]
      exact Ev.pos rfl (Ev.bind (vaUnit_ev h a) (Ev.now _))
    · rw [if_neg (fun h => ha h.2), decide_eq_false ha]
      exact Ev.neg (by decide) (Ev.now _)
theorem impl_ev (l : List Int) (a : Int) : Ev (fun k => impl_IsUnit.f k l a) (res l a) := by
  unfold impl_IsUnit.f res
  refine Ev.bind (isParking_ev l) ?_
  cases h : parking l with
  | false => rw [if_neg (by simp)]; exact Ev.neg (by decide) (Ev.now _)
  | true =>
    refine Ev.pos rfl (Ev.bindc (a := decide (0 ≤ a ∧ a ≤ 8)) (by unfold impl_isCars.f; rw [between_eq]; rfl) ?_)
    by_cases ha : 0 ≤ a ∧ a ≤ 8
    · rw [if_pos ⟨rfl, ha⟩, decide_eq_true ha]
      exact Ev.pos rfl (Ev.bind (isUnit_ev h a ha.1) (Ev.now _))
    · rw [if_neg (fun h => ha h.2), decide_eq_false ha]
      exact Ev.neg (by decide) (Ev.now _)
end IsUnit
end Go.Proofs.YtleemfmhilhklaaGreat.Pure
