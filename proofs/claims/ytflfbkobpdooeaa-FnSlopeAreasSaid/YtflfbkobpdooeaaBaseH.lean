/- Whether a number stands in a list, as the reference tells it. Condition: a length below 2^40. -/
import Derived.Test.YtflfbkobpdooeaaBaseE
namespace Go.Proofs.Ytflfbkobpdooeaa.Plain
open Go.RowKit Go.Proofs.YtflfbkobpdooeaaW.PrintWords Go.Proofs.YtflfbkobpdooeaaW.PrintLast Go.Proofs.Ytflfbkobpdooeaa.Hand Go.Proofs.Ytflfbkobpdooeaa.PAll
set_option linter.unusedVariables false

end Go.Proofs.Ytflfbkobpdooeaa.Plain
