/- The pure statement of the law FnExactFirstDesk: the program's first desk is the reference's; no condition. -/
import Derived.Test.YtmledbfeefnfmaaPAllx5
namespace Go.Proofs.Ytmledbfeefnfmaa.Pure
open Go.RowKit Go.Proofs.Ytmledbfeefnfmaa.PAll
theorem FnExactFirstDesk : laws_FnExactFirstDesk.Pure := ⟨60, by decide +kernel⟩
end Go.Proofs.Ytmledbfeefnfmaa.Pure
