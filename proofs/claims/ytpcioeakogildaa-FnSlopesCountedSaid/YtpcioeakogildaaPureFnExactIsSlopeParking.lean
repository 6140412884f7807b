/- The pure statement of the law FnExactIsSlopeParking: the program's IsSlopeParking and the reference's one answer alike; no condition beside the row's own. -/
import Derived.Test.YtpcioeakogildaaPAllx5
import Derived.Test.YtpcioeakogildaaBaseS
namespace Go.Proofs.Ytpcioeakogildaa.Pure
open Go.RowKit Go.Proofs.YtpcioeakogildaaW.PrintWords Go.Proofs.YtpcioeakogildaaW.PrintLast Go.Proofs.Ytpcioeakogildaa.Hand Go.Proofs.Ytpcioeakogildaa.PAll Go.Proofs.Ytpcioeakogildaa.Plain
set_option linter.unusedVariables false
namespace IsSlopeParking
def res (l : List Int) (a : Int) : Bool × Bool := if slope (l.length : Int) a = true then (under l a, true) else (false, false)
theorem impl_ev (l : List Int) (a : Int) : Ev (fun k => impl_IsSlopeParking.f k l a) (res l a) := by
  unfold impl_IsSlopeParking.f res
  refine Ev.bind (isSlope_ev _ _) ?_
  cases h : slope (l.length : Int) a with
  | false => rw [if_neg (by decide)]; exact Ev.neg (by decide) (Ev.now _)
  | true =>
    rw [if_pos rfl]
    exact Ev.pos rfl (Ev.bind (isUnder_ev h) (Ev.now _))
end IsSlopeParking
end Go.Proofs.Ytpcioeakogildaa.Pure
