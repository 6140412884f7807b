/- Whether a number stands in a list, as the reference tells it. Condition: a length below 2^40. -/
import Derived.Test.YtibmphdbkhchdaaBaseE
namespace Go.Proofs.Ytibmphdbkhchdaa.Plain
open Go.RowKit Go.Proofs.YtibmphdbkhchdaaW.PrintWords Go.Proofs.YtibmphdbkhchdaaW.PrintLast Go.Proofs.Ytibmphdbkhchdaa.Hand Go.Proofs.Ytibmphdbkhchdaa.PAll
set_option linter.unusedVariables false

end Go.Proofs.Ytibmphdbkhchdaa.Plain
