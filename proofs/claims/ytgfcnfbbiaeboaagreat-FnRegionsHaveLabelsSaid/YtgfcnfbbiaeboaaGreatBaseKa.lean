/- By the kernel: impl.PointOfRegion's rounds (HandL) end in numbers that tell the far places. Condition: at most 6 places (BaseKb, BaseKc, BaseKd: 7 and 8). -/
import Derived.Test.YtgfcnfbbiaeboaaGreatHandL
namespace Go.Proofs.YtgfcnfbbiaeboaaGreat.Hand
open Go.RowKit Go.Proofs.YtgfcnfbbiaeboaaGreatW.PrintWords Go.Proofs.YtgfcnfbbiaeboaaGreatW.PrintLast
/-- The lists of far places: not falling, each at most its place. -/
def farL : Nat → Nat → Nat → List (List Int)
  | 0, _, _ => [[]]
  | d + 1, p, lo => ((List.range (p + 1 - lo)).map fun x => (farL d (p + 1) (lo + x)).map fun t => ((lo + x : Nat) : Int) :: t).flatten
/-- The numbers m tell the far places f. -/
def tells (f m : List Int) : Bool := decide (m.length = f.length) && (m.all fun v => decide (-100000 ≤ v ∧ v ≤ 100000)) &&
  (List.range f.length).all fun p => (List.range p).all fun q => decide (rd m (p : Int) < rd m (q : Int) ∧ ((q : Int) < rd f (p : Int) ↔ 100 < rd m (q : Int) - rd m (p : Int)) ∧ rd m (q : Int) - rd m (p : Int) ≠ 100)
def goodF (f : List Int) : Bool := match ptT f f.length 200 (List.replicate f.length 0, true) with
  | some m => tells f m
  | none => false
set_option maxRecDepth 100000
theorem good_5 : (farL 0 0 0 ++ farL 1 0 0 ++ farL 2 0 0 ++ farL 3 0 0 ++ farL 4 0 0 ++ farL 5 0 0).all goodF = true := by decide +kernel
theorem good_6 : (farL 6 0 0).all goodF = true := by decide +kernel
end Go.Proofs.YtgfcnfbbiaeboaaGreat.Hand
/- The kernel's check of PointOfRegion's rounds at 7 places, 1000 lists from number 0 on (see BaseKa). -/
namespace Go.Proofs.YtgfcnfbbiaeboaaGreat.Hand
set_option maxRecDepth 100000
theorem good_7_0 : (((farL 7 0 0).drop 0).take 1000).all goodF = true := by decide +kernel
end Go.Proofs.YtgfcnfbbiaeboaaGreat.Hand
/- The kernel's check of PointOfRegion's rounds at 8 places, 480 lists from number 0 on (see BaseKa). -/
namespace Go.Proofs.YtgfcnfbbiaeboaaGreat.Hand
set_option maxRecDepth 100000
theorem good_8_0 : (((farL 8 0 0).drop 0).take 480).all goodF = true := by decide +kernel
end Go.Proofs.YtgfcnfbbiaeboaaGreat.Hand
/- The kernel's check of PointOfRegion's rounds at 8 places, 480 lists from number 480 on (see BaseKa). -/
namespace Go.Proofs.YtgfcnfbbiaeboaaGreat.Hand
set_option maxRecDepth 100000
theorem good_8_480 : (((farL 8 0 0).drop 480).take 480).all goodF = true := by decide +kernel
end Go.Proofs.YtgfcnfbbiaeboaaGreat.Hand
/- The kernel's check of PointOfRegion's rounds at 8 places, 480 lists from number 960 on (see BaseKa). -/
namespace Go.Proofs.YtgfcnfbbiaeboaaGreat.Hand
set_option maxRecDepth 100000
theorem good_8_960 : (((farL 8 0 0).drop 960).take 480).all goodF = true := by decide +kernel
end Go.Proofs.YtgfcnfbbiaeboaaGreat.Hand
