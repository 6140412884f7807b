/- What isParking of the program, and that of the reference, come to. No condition. -/
import Derived.Test.YtflgalpfbjhdlaaGreatPAllx2
import Derived.Test.YtflgalpfbjhdlaaGreatPAllx3
import Derived.Test.YtflgalpfbjhdlaaGreatBaseB
namespace Go.Proofs.YtflgalpfbjhdlaaGreat.Plain
open Go.RowKit Go.Proofs.YtflgalpfbjhdlaaGreatW.PrintWords Go.Proofs.YtflgalpfbjhdlaaGreatW.PrintLast Go.Proofs.YtflgalpfbjhdlaaGreat.Hand Go.Proofs.YtflgalpfbjhdlaaGreat.PAll
set_option linter.unusedVariables false

/-- A parking function. -/
def parking (l : List Int) : Bool := decide (l.length ≤ 8) && ((l.all fun x => decide (0 ≤ x ∧ x ≤ (l.length : Int) - 1)) && !decide ((-1 : Int) ∈ sdrive (l.length : Int) [] l))
end Go.Proofs.YtflgalpfbjhdlaaGreat.Plain
