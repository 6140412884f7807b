/- The pure statement of the law FnExactIsSlopeParking: the program's IsSlopeParking and the reference's one answer alike; no condition beside the row's own. -/
import Derived.Test.YtibmphdbkhchdaaPAllx4
import Derived.Test.YtibmphdbkhchdaaPAllx5
import Derived.Test.YtibmphdbkhchdaaBaseS
namespace Go.Proofs.Ytibmphdbkhchdaa.Pure
open Go.RowKit Go.Proofs.YtibmphdbkhchdaaW.PrintWords Go.Proofs.YtibmphdbkhchdaaW.PrintLast Go.Proofs.Ytibmphdbkhchdaa.Hand Go.Proofs.Ytibmphdbkhchdaa.PAll Go.Proofs.Ytibmphdbkhchdaa.Plain
set_option linter.unusedVariables false
namespace IsSlopeParking
def res (l : List Int) (a : Int) : Bool × Bool := if slope (l.length : Int) a = true then (under l a, true) else (false, false)
theorem spec_ev (l : List Int) (a : Int) : Ev (fun k => spec_IsSlopeParking.f k l a) (res l a) := by
  unfold spec_IsSlopeParking.f res
  refine Ev.bind (slIs_ev _ _) ?_
  cases h : slope (l.length : Int) a with
  | false => rw [if_neg (by decide)]; exact Ev.neg (by decide) (Ev.now _)
  | true =>
    have e : under l a = slp l a := by unfold slp; rw [h, Bool.true_and]
    rw [if_pos rfl, e]
    exact Ev.pos rfl (Ev.bind (slGood_ev l a) (Ev.now _))
theorem impl_ev (l : List Int) (a : Int) : Ev (fun k => impl_IsSlopeParking.f k l a) (res l a) := by
  unfold impl_IsSlopeParking.f res
  refine Ev.bind (isSlope_ev _ _) ?_
  cases h : slope (l.length : Int) a with
  | false => rw [if_neg (by decide)]; exact Ev.neg (by decide) (Ev.now _)
  | true =>
    rw [if_pos rfl]
    exact Ev.pos rfl (Ev.bind (isUnder_ev h) (Ev.now _))
end IsSlopeParking
end Go.Proofs.Ytibmphdbkhchdaa.Pure
