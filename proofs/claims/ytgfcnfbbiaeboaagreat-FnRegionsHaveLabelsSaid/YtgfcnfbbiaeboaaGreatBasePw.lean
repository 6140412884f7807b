/- The kernel's check of PointOfRegion's loops at 8 places, the first lists (see BasePt). -/
import Derived.Test.YtgfcnfbbiaeboaaGreatBasePt
namespace Go.Proofs.YtgfcnfbbiaeboaaGreat.Hand
set_option maxRecDepth 100000
theorem agree_8_0a : (((fars 8 0 0).drop 0).take 240).all agree = true := by decide +kernel
end Go.Proofs.YtgfcnfbbiaeboaaGreat.Hand
