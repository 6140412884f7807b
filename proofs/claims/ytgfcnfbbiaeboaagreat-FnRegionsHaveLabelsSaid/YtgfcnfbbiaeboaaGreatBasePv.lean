/- The kernel's check of PointOfRegion's loops at 7 and 8 places (see BasePt). -/
import Derived.Test.YtgfcnfbbiaeboaaGreatBasePt
namespace Go.Proofs.YtgfcnfbbiaeboaaGreat.Hand
set_option maxRecDepth 100000
theorem agree_8_1 : (((fars 8 0 0).drop 480).take 480).all agree = true := by decide +kernel
theorem agree_8_2 : (((fars 8 0 0).drop 960).take 480).all agree = true := by decide +kernel
end Go.Proofs.YtgfcnfbbiaeboaaGreat.Hand
