/- The kernel's check of PointOfRegion's loops at 8 places, the next lists (see BasePt). -/
import Derived.Test.YtgfcnfbbiaeboaaGreatBasePt
namespace Go.Proofs.YtgfcnfbbiaeboaaGreat.Hand
set_option maxRecDepth 100000
theorem agree_8_0b : (((fars 8 0 0).drop 240).take 240).all agree = true := by decide +kernel
end Go.Proofs.YtgfcnfbbiaeboaaGreat.Hand
