/- What the laws' marks come to, and what is held of them. Conditions: lengths below 2^40. -/
import Derived.Test.YtajcjlflajfdkaaBaseE
namespace Go.Proofs.Ytajcjlflajfdkaa.Plain
open Go.RowKit Go.Proofs.YtajcjlflajfdkaaW.PrintWords Go.Proofs.YtajcjlflajfdkaaW.PrintLast Go.Proofs.Ytajcjlflajfdkaa.Hand Go.Proofs.Ytajcjlflajfdkaa.PAll
set_option linter.unusedVariables false

end Go.Proofs.Ytajcjlflajfdkaa.Plain
