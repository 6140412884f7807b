/- Whether a number stands in a list, as the reference tells it. Condition: a length below 2^40. -/
import Derived.Test.YtgfedgnpffockaaBaseE
namespace Go.Proofs.Ytgfedgnpffockaa.Plain
open Go.RowKit Go.Proofs.YtgfedgnpffockaaW.PrintWords Go.Proofs.YtgfedgnpffockaaW.PrintLast Go.Proofs.Ytgfedgnpffockaa.Hand Go.Proofs.Ytgfedgnpffockaa.PAll
set_option linter.unusedVariables false

end Go.Proofs.Ytgfedgnpffockaa.Plain
