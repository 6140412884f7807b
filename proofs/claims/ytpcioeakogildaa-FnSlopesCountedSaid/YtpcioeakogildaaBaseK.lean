/- Lists that park: where of n numbers at least f + 1 are at most f, for each f below n, each car finds a place. No program in sight. -/
import Derived.Test.YtpcioeakogildaaBaseA
namespace Go.Proofs.Ytpcioeakogildaa.Plain
open Go.RowKit Go.Proofs.YtpcioeakogildaaW.PrintWords Go.Proofs.YtpcioeakogildaaW.PrintLast Go.Proofs.Ytpcioeakogildaa.Hand
set_option linter.unusedVariables false

theorem cntK_append (p : Int → Bool) (l m : List Int) : cnt p (l ++ m) = cnt p l + cnt p m := by
  unfold cnt
  rw [List.filter_append, List.length_append]
  omega
end Go.Proofs.Ytpcioeakogildaa.Plain
