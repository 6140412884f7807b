/- The pure statement of the law FnExactIsSlopeParking: the program's IsSlopeParking and the reference's one answer alike; no condition beside the row's own. -/
import Derived.Test.YtcmpeimpddngbaaPAllx20
import Derived.Test.YtcmpeimpddngbaaPAllx21
import Derived.Test.YtcmpeimpddngbaaBaseS
namespace Go.Proofs.Ytcmpeimpddngbaa.Pure
open Go.RowKit Go.Proofs.YtcmpeimpddngbaaW.PrintWords Go.Proofs.YtcmpeimpddngbaaW.PrintLast Go.Proofs.Ytcmpeimpddngbaa.Hand Go.Proofs.Ytcmpeimpddngbaa.PAll Go.Proofs.Ytcmpeimpddngbaa.Plain
set_option linter.unusedVariables false
namespace IsSlopeParking
def res (l : List Int) (a : Int) : Bool × Bool := if slope (l.length : Int) a = true then (under l a, true) else (false, false)
theorem spec_ev (l : List Int) (a : Int) : Ev (fun k => spec_IsSlopeParking.f k l a) (res l a) := by
  unfold spec_IsSlopeParking.f res
  refine Ev.bind (slIs_ev _ _) ?_
  cases h : slope (l.length : Int) a with
  | false => rw [if_neg (by decide)]; exact Ev.neg (by decide) (Ev.now _)
  | true =>
    have e : under l a = slp l a := by unfold slp; rw [h, Bool.true_and]
    rw [if_pos rfl, e]
    exact Ev.pos rfl (Ev.bind (slGood_ev l a) (Ev.now _))
theorem impl_ev (l : List Int) (a : Int) : Ev (fun k => impl_IsSlopeParking.f k l a) (res l a) := by
  unfold impl_IsSlopeParking.f res
  refine Ev.bind (isSlope_ev _ _) ?_
  cases h : slope (l.length : Int) a with
  | false => rw [if_neg (by decide)]; exact Ev.neg (by decide) (Ev.now _)
  | true =>
    rw [if_pos rfl]
    exact Ev.pos rfl (Ev.bind (isUnder_ev h) (Ev.now _))
end IsSlopeParking
theorem FnExactIsSlopeParking : laws_FnExactIsSlopeParking.Pure := by
  intro l a
  intros
  refine Ev.rounds ?_
  unfold laws_FnExactIsSlopeParking.f
  by_cases hb : (l.length : Int) > 1048576
  · exact Ev.pos hb (Ev.now _)
  have hl : l.length ≤ 1099511627776 := by omega
  refine Ev.neg hb (Ev.bind (toIntS_ev l hl) (Ev.bind (IsSlopeParking.spec_ev l a) (Ev.bind (toIntS_ev l hl) (Ev.bind (IsSlopeParking.impl_ev l a) ?_))))
  rw [bne_self_eq_false, bne_self_eq_false]
  refine Ev.neg (by decide) ?_
  refine Ev.step (f := ?f1) (fun k => ?h1) ?g1
  case h1 => rw [laws_FnExactIsSlopeParking.j0, if_neg (by decide)]
  exact Ev.bind (toIntS_ev l hl) (Ev.bind (eqIntS_same _ (by omega)) (Ev.pos rfl (Ev.now _)))
end Go.Proofs.Ytcmpeimpddngbaa.Pure
