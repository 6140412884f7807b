/- The kernel's check of PointOfRegion's loops at 7 places (see BasePt). -/
import Derived.Test.YtgfcnfbbiaeboaaGreatBasePt
namespace Go.Proofs.YtgfcnfbbiaeboaaGreat.Hand
set_option maxRecDepth 100000
theorem agree_7 : (fars 7 0 0).all agree = true := by decide +kernel
end Go.Proofs.YtgfcnfbbiaeboaaGreat.Hand
