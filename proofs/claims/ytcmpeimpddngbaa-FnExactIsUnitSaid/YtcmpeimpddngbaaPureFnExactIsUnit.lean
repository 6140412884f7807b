/- The pure statement of the law FnExactIsUnit: the program's IsUnit and the reference's one answer alike; no condition beside the row's own. -/
import Derived.Test.YtcmpeimpddngbaaPAllx4
import Derived.Test.YtcmpeimpddngbaaPAllx5
import Derived.Test.YtcmpeimpddngbaaBaseU
namespace Go.Proofs.Ytcmpeimpddngbaa.Pure
open Go.RowKit Go.Proofs.YtcmpeimpddngbaaW.PrintWords Go.Proofs.YtcmpeimpddngbaaW.PrintLast Go.Proofs.Ytcmpeimpddngbaa.Hand Go.Proofs.Ytcmpeimpddngbaa.PAll Go.Proofs.Ytcmpeimpddngbaa.Plain
set_option linter.unusedVariables false
namespace IsUnit
def res (l : List Int) (a : Int) : Bool × Bool := if parking l = true ∧ 0 ≤ a ∧ a ≤ 8 then (unit l a, true) else (false, false)
theorem spec_ev (l : List Int) (a : Int) : Ev (fun k => spec_IsUnit.f k l a) (res l a) := by
  unfold spec_IsUnit.f res
  refine Ev.bind (paParking_ev l) ?_
  cases h : parking l with
  | false => rw [if_neg (by simp)]; exact Ev.neg (by decide) (Ev.now _)
  | true =>
    refine Ev.pos rfl (Ev.bindc (a := decide (0 ≤ a ∧ a ≤ 8)) (by unfold spec_cnCars.f; rw [l1In_eq]; rfl) ?_)
    by_cases ha : 0 ≤ a ∧ a ≤ 8
    · rw [if_pos ⟨rfl, ha⟩, decide_eq_true ha]
      exact Ev.pos rfl (Ev.bind (vaUnit_ev h a) (Ev.now _))
    · rw [if_neg (fun h => ha h.2), decide_eq_false ha]
      exact Ev.neg (by decide) (Ev.now _)
theorem impl_ev (l : List Int) (a : Int) : Ev (fun k => impl_IsUnit.f k l a) (res l a) := by
  unfold impl_IsUnit.f res
  refine Ev.bind (isParking_ev l) ?_
  cases h : parking l with
  | false => rw [if_neg (by simp)]; exact Ev.neg (by decide) (Ev.now _)
  | true =>
    refine Ev.pos rfl (Ev.bindc (a := decide (0 ≤ a ∧ a ≤ 8)) (by unfold impl_isCars.f; rw [between_eq]; rfl) ?_)
    by_cases ha : 0 ≤ a ∧ a ≤ 8
    · rw [if_pos ⟨rfl, ha⟩, decide_eq_true ha]
      exact Ev.pos rfl (Ev.bind (isUnit_ev h a ha.1) (Ev.now _))
    · rw [if_neg (fun h => ha h.2), decide_eq_false ha]
      exact Ev.neg (by decide) (Ev.now _)
end IsUnit
theorem FnExactIsUnit : laws_FnExactIsUnit.Pure := by
  intro l a
  intros
  refine Ev.rounds ?_
  unfold laws_FnExactIsUnit.f
  by_cases hb : (l.length : Int) > 1048576
  · exact Ev.pos hb (Ev.now _)
  have hl : l.length ≤ 1099511627776 := by omega
  refine Ev.neg hb (Ev.bind (toIntS_ev l hl) (Ev.bind (IsUnit.spec_ev l a) (Ev.bind (toIntS_ev l hl) (Ev.bind (IsUnit.impl_ev l a) ?_))))
  rw [bne_self_eq_false, bne_self_eq_false]
  refine Ev.neg (by decide) ?_
  refine Ev.step (f := ?f1) (fun k => ?h1) ?g1
  case h1 => rw [laws_FnExactIsUnit.j0, if_neg (by decide)]
  exact Ev.bind (toIntS_ev l hl) (Ev.bind (eqIntS_same _ (by omega)) (Ev.pos rfl (Ev.now _)))
end Go.Proofs.Ytcmpeimpddngbaa.Pure
