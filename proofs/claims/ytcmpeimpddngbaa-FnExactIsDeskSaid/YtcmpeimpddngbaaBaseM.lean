/- What the laws' marks come to, and what is held of them. Conditions: lengths below 2^40. -/
import Derived.Test.YtcmpeimpddngbaaBaseE
namespace Go.Proofs.Ytcmpeimpddngbaa.Plain
open Go.RowKit Go.Proofs.YtcmpeimpddngbaaW.PrintWords Go.Proofs.YtcmpeimpddngbaaW.PrintLast Go.Proofs.Ytcmpeimpddngbaa.Hand Go.Proofs.Ytcmpeimpddngbaa.PAll
set_option linter.unusedVariables false

end Go.Proofs.Ytcmpeimpddngbaa.Plain
