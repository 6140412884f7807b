/- The kernel's check of PointOfRegion's loops at 7 and 8 places (see BasePt). -/
import Derived.Test.YtmajcgcnnpkhfaaBasePt
namespace Go.Proofs.Ytmajcgcnnpkhfaa.Hand
set_option maxRecDepth 100000
theorem agree_7 : (fars 7 0 0).all agree = true := by decide +kernel
theorem agree_8_0 : (((fars 8 0 0).drop 0).take 480).all agree = true := by decide +kernel
end Go.Proofs.Ytmajcgcnnpkhfaa.Hand
