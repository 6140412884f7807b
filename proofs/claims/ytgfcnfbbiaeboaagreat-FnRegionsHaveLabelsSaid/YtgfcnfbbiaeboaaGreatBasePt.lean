/- By the kernel: impl.PointOfRegion's loops (HandL) end where the reference's do. Condition: at most 6 places (BasePu, BasePv: 7 and 8). -/
import Derived.Test.YtgfcnfbbiaeboaaGreatPAllx7
import Derived.Test.YtgfcnfbbiaeboaaGreatHandL
namespace Go.Proofs.YtgfcnfbbiaeboaaGreat.Hand
open Go.RowKit Go.Proofs.YtgfcnfbbiaeboaaGreatW.PrintWords Go.Proofs.YtgfcnfbbiaeboaaGreatW.PrintLast
/-- The lists of far places: not falling, each at most its place. -/
def fars : Nat → Nat → Nat → List (List Int)
  | 0, _, _ => [[]]
  | d + 1, p, lo => ((List.range (p + 1 - lo)).map fun x => (fars d (p + 1) (lo + x)).map fun t => ((lo + x : Nat) : Int) :: t).flatten
open Go.Proofs.YtgfcnfbbiaeboaaGreat.PAll
set_option maxRecDepth 100000
def agree (far : List Int) : Bool := match spec_reDepths.f 3000 far far, ptT far far.length 200 (List.replicate far.length 0, true) with
  | some y, some m => decide (m = y.map fun z => -z) && decide (y.length = far.length) && y.all fun z => decide (0 ≤ z ∧ z ≤ 1000000)
  | _, _ => false
theorem agree_5 : (fars 0 0 0 ++ fars 1 0 0 ++ fars 2 0 0 ++ fars 3 0 0 ++ fars 4 0 0 ++ fars 5 0 0).all agree = true := by decide +kernel
theorem agree_6 : (fars 6 0 0).all agree = true := by decide +kernel
end Go.Proofs.YtgfcnfbbiaeboaaGreat.Hand
