/-
  No cell of these rows narrows 'for every input' (looked for: loops, veiled, ifaces, maps, wideKeys, modest, calm, conditions, laid).
  DERIVED. THE GIVEN ROWS OF THIS SEAT. 12 by the template 'for every input the law returns true; each argument reads behind the call as it read before'; 0 by the template 'total and deterministic' (their statements: YtcmpeimpddngbaaTotals.lean).
  GIVEN WITH THE SEED: the statements are not yours to turn. If you find one false, say at which input.
  Laid BY PROGRAM, IN A SANDBOX (cutbox-rows.mjs): the forced cells as the released guide's own fill.sh prints them over the translation 86c2d6df6aa7c21f… (all of the seat's roots in one cut). By AI agents, Wed Nov 11 2026. No macro, syntax, notation, axiom, sorry.
-/
import Derived.Test.YtcmpeimpddngbaaChecked
import GoSem.Claim
import GoSem.ClaimJoined
import GoSem.ClaimMapViews
import Derived.JoinedTies
import Derived.KernelRfl
namespace Go.Proofs.Ytcmpeimpddngbaa
/- THE CELL 'sum', in the pinned program and in every row, IS THE sha256 OF THE DUMP (.gsa) THAT YtcmpeimpddngbaaProg.lean LOADS. Nothing in Lean hashes anything: it is a label: what it is worth is what the hold of that sum in a sandbox is worth. -/
noncomputable def Try.pinned : Pinned := { name := "ytcmpeimpddngbaa", sum := "86c2d6df6aa7c21fdfceb205fdc49c35cfda88926e065f9e33f09e2c538d69f2", checked := Try.checked }
namespace Rows
def none {H : Type} : Left H := { results := [], args := [] }

/-- 'laws.FnExactIsUnit': WHATEVER THE INPUT: true; the input reads as it did. -/
def fnExactIsUnitSpec : ChangeSpec := { name := "fnExactIsUnit", fn := fun _ => fun
  | [d1, d2] => { results := [.lit (.bool true)], args := [d1, d2] }
  | _ => none }
def fnExactIsUnitRow : OpenClaim := { program := "ytcmpeimpddngbaa", sum := "86c2d6df6aa7c21fdfceb205fdc49c35cfda88926e065f9e33f09e2c538d69f2", func := "loop.example/g01115/laws.FnExactIsUnit", spec := "fnExactIsUnit", unfollowed := true, recurses := true, apart := false }
def FnExactIsUnitSaid : Prop := fnExactIsUnitRow.holds Try.pinned (OpenSpec.ofChange fnExactIsUnitSpec)

/-- ITS FALSE NEIGHBOUR: 'it returns false'. Refute it at one input. -/
def fnExactIsUnitWrong : ChangeSpec := { name := "fnExactIsUnit", fn := fun _ => fun
  | [d1, d2] => { results := [.lit (.bool false)], args := [d1, d2] }
  | _ => none }
def FnExactIsUnitWrongFalsely : Prop := fnExactIsUnitRow.holds Try.pinned (OpenSpec.ofChange fnExactIsUnitWrong)

/-- 'laws.FnExactIsDesk': WHATEVER THE INPUT: true; the input reads as it did. -/
def fnExactIsDeskSpec : ChangeSpec := { name := "fnExactIsDesk", fn := fun _ => fun
  | [d] => { results := [.lit (.bool true)], args := [d] }
  | _ => none }
def fnExactIsDeskRow : OpenClaim := { program := "ytcmpeimpddngbaa", sum := "86c2d6df6aa7c21fdfceb205fdc49c35cfda88926e065f9e33f09e2c538d69f2", func := "loop.example/g01115/laws.FnExactIsDesk", spec := "fnExactIsDesk", unfollowed := true, recurses := true, apart := false }
def FnExactIsDeskSaid : Prop := fnExactIsDeskRow.holds Try.pinned (OpenSpec.ofChange fnExactIsDeskSpec)

/-- ITS FALSE NEIGHBOUR: 'it returns false'. Refute it at one input. -/
def fnExactIsDeskWrong : ChangeSpec := { name := "fnExactIsDesk", fn := fun _ => fun
  | [d] => { results := [.lit (.bool false)], args := [d] }
  | _ => none }
def FnExactIsDeskWrongFalsely : Prop := fnExactIsDeskRow.holds Try.pinned (OpenSpec.ofChange fnExactIsDeskWrong)

/-- 'laws.FnExactPrimeParts': WHATEVER THE INPUT: true; the input reads as it did. -/
def fnExactPrimePartsSpec : ChangeSpec := { name := "fnExactPrimeParts", fn := fun _ => fun
  | [d] => { results := [.lit (.bool true)], args := [d] }
  | _ => none }
def fnExactPrimePartsRow : OpenClaim := { program := "ytcmpeimpddngbaa", sum := "86c2d6df6aa7c21fdfceb205fdc49c35cfda88926e065f9e33f09e2c538d69f2", func := "loop.example/g01115/laws.FnExactPrimeParts", spec := "fnExactPrimeParts", unfollowed := true, recurses := true, apart := false }
def FnExactPrimePartsSaid : Prop := fnExactPrimePartsRow.holds Try.pinned (OpenSpec.ofChange fnExactPrimePartsSpec)

/-- ITS FALSE NEIGHBOUR: 'it returns false'. Refute it at one input. -/
def fnExactPrimePartsWrong : ChangeSpec := { name := "fnExactPrimeParts", fn := fun _ => fun
  | [d] => { results := [.lit (.bool false)], args := [d] }
  | _ => none }
def FnExactPrimePartsWrongFalsely : Prop := fnExactPrimePartsRow.holds Try.pinned (OpenSpec.ofChange fnExactPrimePartsWrong)

/-- 'laws.FnExactGreatestGreatest': WHATEVER THE INPUT: true; the input reads as it did. -/
def fnExactGreatestGreatestSpec : ChangeSpec := { name := "fnExactGreatestGreatest", fn := fun _ => fun
  | [d1, d2] => { results := [.lit (.bool true)], args := [d1, d2] }
  | _ => none }
def fnExactGreatestGreatestRow : OpenClaim := { program := "ytcmpeimpddngbaa", sum := "86c2d6df6aa7c21fdfceb205fdc49c35cfda88926e065f9e33f09e2c538d69f2", func := "loop.example/g01115/laws.FnExactGreatestGreatest", spec := "fnExactGreatestGreatest", unfollowed := true, recurses := true, apart := false }
def FnExactGreatestGreatestSaid : Prop := fnExactGreatestGreatestRow.holds Try.pinned (OpenSpec.ofChange fnExactGreatestGreatestSpec)

/-- ITS FALSE NEIGHBOUR: 'it returns false'. Refute it at one input. -/
def fnExactGreatestGreatestWrong : ChangeSpec := { name := "fnExactGreatestGreatest", fn := fun _ => fun
  | [d1, d2] => { results := [.lit (.bool false)], args := [d1, d2] }
  | _ => none }
def FnExactGreatestGreatestWrongFalsely : Prop := fnExactGreatestGreatestRow.holds Try.pinned (OpenSpec.ofChange fnExactGreatestGreatestWrong)

/-- 'laws.FnExactCountUnit': WHATEVER THE INPUT: true; the input reads as it did. -/
def fnExactCountUnitSpec : ChangeSpec := { name := "fnExactCountUnit", fn := fun _ => fun
  | [d1, d2] => { results := [.lit (.bool true)], args := [d1, d2] }
  | _ => none }
def fnExactCountUnitRow : OpenClaim := { program := "ytcmpeimpddngbaa", sum := "86c2d6df6aa7c21fdfceb205fdc49c35cfda88926e065f9e33f09e2c538d69f2", func := "loop.example/g01115/laws.FnExactCountUnit", spec := "fnExactCountUnit", unfollowed := true, recurses := true, apart := false }
def FnExactCountUnitSaid : Prop := fnExactCountUnitRow.holds Try.pinned (OpenSpec.ofChange fnExactCountUnitSpec)

/-- ITS FALSE NEIGHBOUR: 'it returns false'. Refute it at one input. -/
def fnExactCountUnitWrong : ChangeSpec := { name := "fnExactCountUnit", fn := fun _ => fun
  | [d1, d2] => { results := [.lit (.bool false)], args := [d1, d2] }
  | _ => none }
def FnExactCountUnitWrongFalsely : Prop := fnExactCountUnitRow.holds Try.pinned (OpenSpec.ofChange fnExactCountUnitWrong)

/-- 'laws.FnExactAllSlope': WHATEVER THE INPUT: true; the input reads as it did. -/
def fnExactAllSlopeSpec : ChangeSpec := { name := "fnExactAllSlope", fn := fun _ => fun
  | [d1, d2] => { results := [.lit (.bool true)], args := [d1, d2] }
  | _ => none }
def fnExactAllSlopeRow : OpenClaim := { program := "ytcmpeimpddngbaa", sum := "86c2d6df6aa7c21fdfceb205fdc49c35cfda88926e065f9e33f09e2c538d69f2", func := "loop.example/g01115/laws.FnExactAllSlope", spec := "fnExactAllSlope", unfollowed := true, recurses := true, apart := false }
def FnExactAllSlopeSaid : Prop := fnExactAllSlopeRow.holds Try.pinned (OpenSpec.ofChange fnExactAllSlopeSpec)

/-- ITS FALSE NEIGHBOUR: 'it returns false'. Refute it at one input. -/
def fnExactAllSlopeWrong : ChangeSpec := { name := "fnExactAllSlope", fn := fun _ => fun
  | [d1, d2] => { results := [.lit (.bool false)], args := [d1, d2] }
  | _ => none }
def FnExactAllSlopeWrongFalsely : Prop := fnExactAllSlopeRow.holds Try.pinned (OpenSpec.ofChange fnExactAllSlopeWrong)

/-- 'laws.FnExactAllPrime': WHATEVER THE INPUT: true; the input reads as it did. -/
def fnExactAllPrimeSpec : ChangeSpec := { name := "fnExactAllPrime", fn := fun _ => fun
  | [d] => { results := [.lit (.bool true)], args := [d] }
  | _ => none }
def fnExactAllPrimeRow : OpenClaim := { program := "ytcmpeimpddngbaa", sum := "86c2d6df6aa7c21fdfceb205fdc49c35cfda88926e065f9e33f09e2c538d69f2", func := "loop.example/g01115/laws.FnExactAllPrime", spec := "fnExactAllPrime", unfollowed := true, recurses := true, apart := false }
def FnExactAllPrimeSaid : Prop := fnExactAllPrimeRow.holds Try.pinned (OpenSpec.ofChange fnExactAllPrimeSpec)

/-- ITS FALSE NEIGHBOUR: 'it returns false'. Refute it at one input. -/
def fnExactAllPrimeWrong : ChangeSpec := { name := "fnExactAllPrime", fn := fun _ => fun
  | [d] => { results := [.lit (.bool false)], args := [d] }
  | _ => none }
def FnExactAllPrimeWrongFalsely : Prop := fnExactAllPrimeRow.holds Try.pinned (OpenSpec.ofChange fnExactAllPrimeWrong)

/-- 'laws.FnExactFairOrder': WHATEVER THE INPUT: true; the input reads as it did. -/
def fnExactFairOrderSpec : ChangeSpec := { name := "fnExactFairOrder", fn := fun _ => fun
  | [d1, d2] => { results := [.lit (.bool true)], args := [d1, d2] }
  | _ => none }
def fnExactFairOrderRow : OpenClaim := { program := "ytcmpeimpddngbaa", sum := "86c2d6df6aa7c21fdfceb205fdc49c35cfda88926e065f9e33f09e2c538d69f2", func := "loop.example/g01115/laws.FnExactFairOrder", spec := "fnExactFairOrder", unfollowed := true, recurses := true, apart := false }
def FnExactFairOrderSaid : Prop := fnExactFairOrderRow.holds Try.pinned (OpenSpec.ofChange fnExactFairOrderSpec)

/-- ITS FALSE NEIGHBOUR: 'it returns false'. Refute it at one input. -/
def fnExactFairOrderWrong : ChangeSpec := { name := "fnExactFairOrder", fn := fun _ => fun
  | [d1, d2] => { results := [.lit (.bool false)], args := [d1, d2] }
  | _ => none }
def FnExactFairOrderWrongFalsely : Prop := fnExactFairOrderRow.holds Try.pinned (OpenSpec.ofChange fnExactFairOrderWrong)

/-- 'laws.FnExactLeastGreatest': WHATEVER THE INPUT: true; the input reads as it did. -/
def fnExactLeastGreatestSpec : ChangeSpec := { name := "fnExactLeastGreatest", fn := fun _ => fun
  | [d1, d2] => { results := [.lit (.bool true)], args := [d1, d2] }
  | _ => none }
def fnExactLeastGreatestRow : OpenClaim := { program := "ytcmpeimpddngbaa", sum := "86c2d6df6aa7c21fdfceb205fdc49c35cfda88926e065f9e33f09e2c538d69f2", func := "loop.example/g01115/laws.FnExactLeastGreatest", spec := "fnExactLeastGreatest", unfollowed := true, recurses := true, apart := false }
def FnExactLeastGreatestSaid : Prop := fnExactLeastGreatestRow.holds Try.pinned (OpenSpec.ofChange fnExactLeastGreatestSpec)

/-- ITS FALSE NEIGHBOUR: 'it returns false'. Refute it at one input. -/
def fnExactLeastGreatestWrong : ChangeSpec := { name := "fnExactLeastGreatest", fn := fun _ => fun
  | [d1, d2] => { results := [.lit (.bool false)], args := [d1, d2] }
  | _ => none }
def FnExactLeastGreatestWrongFalsely : Prop := fnExactLeastGreatestRow.holds Try.pinned (OpenSpec.ofChange fnExactLeastGreatestWrong)

/-- 'laws.FnExactUnitBlocks': WHATEVER THE INPUT: true; the input reads as it did. -/
def fnExactUnitBlocksSpec : ChangeSpec := { name := "fnExactUnitBlocks", fn := fun _ => fun
  | [d] => { results := [.lit (.bool true)], args := [d] }
  | _ => none }
def fnExactUnitBlocksRow : OpenClaim := { program := "ytcmpeimpddngbaa", sum := "86c2d6df6aa7c21fdfceb205fdc49c35cfda88926e065f9e33f09e2c538d69f2", func := "loop.example/g01115/laws.FnExactUnitBlocks", spec := "fnExactUnitBlocks", unfollowed := true, recurses := true, apart := false }
def FnExactUnitBlocksSaid : Prop := fnExactUnitBlocksRow.holds Try.pinned (OpenSpec.ofChange fnExactUnitBlocksSpec)

/-- ITS FALSE NEIGHBOUR: 'it returns false'. Refute it at one input. -/
def fnExactUnitBlocksWrong : ChangeSpec := { name := "fnExactUnitBlocks", fn := fun _ => fun
  | [d] => { results := [.lit (.bool false)], args := [d] }
  | _ => none }
def FnExactUnitBlocksWrongFalsely : Prop := fnExactUnitBlocksRow.holds Try.pinned (OpenSpec.ofChange fnExactUnitBlocksWrong)

/-- 'laws.FnExactIsSlopeParking': WHATEVER THE INPUT: true; the input reads as it did. -/
def fnExactIsSlopeParkingSpec : ChangeSpec := { name := "fnExactIsSlopeParking", fn := fun _ => fun
  | [d1, d2] => { results := [.lit (.bool true)], args := [d1, d2] }
  | _ => none }
def fnExactIsSlopeParkingRow : OpenClaim := { program := "ytcmpeimpddngbaa", sum := "86c2d6df6aa7c21fdfceb205fdc49c35cfda88926e065f9e33f09e2c538d69f2", func := "loop.example/g01115/laws.FnExactIsSlopeParking", spec := "fnExactIsSlopeParking", unfollowed := true, recurses := true, apart := false }
def FnExactIsSlopeParkingSaid : Prop := fnExactIsSlopeParkingRow.holds Try.pinned (OpenSpec.ofChange fnExactIsSlopeParkingSpec)

/-- ITS FALSE NEIGHBOUR: 'it returns false'. Refute it at one input. -/
def fnExactIsSlopeParkingWrong : ChangeSpec := { name := "fnExactIsSlopeParking", fn := fun _ => fun
  | [d1, d2] => { results := [.lit (.bool false)], args := [d1, d2] }
  | _ => none }
def FnExactIsSlopeParkingWrongFalsely : Prop := fnExactIsSlopeParkingRow.holds Try.pinned (OpenSpec.ofChange fnExactIsSlopeParkingWrong)

/-- 'laws.FnExactReorderCars': WHATEVER THE INPUT: true; the input reads as it did. -/
def fnExactReorderCarsSpec : ChangeSpec := { name := "fnExactReorderCars", fn := fun _ => fun
  | [d1, d2] => { results := [.lit (.bool true)], args := [d1, d2] }
  | _ => none }
def fnExactReorderCarsRow : OpenClaim := { program := "ytcmpeimpddngbaa", sum := "86c2d6df6aa7c21fdfceb205fdc49c35cfda88926e065f9e33f09e2c538d69f2", func := "loop.example/g01115/laws.FnExactReorderCars", spec := "fnExactReorderCars", unfollowed := true, recurses := true, apart := false }
def FnExactReorderCarsSaid : Prop := fnExactReorderCarsRow.holds Try.pinned (OpenSpec.ofChange fnExactReorderCarsSpec)

/-- ITS FALSE NEIGHBOUR: 'it returns false'. Refute it at one input. -/
def fnExactReorderCarsWrong : ChangeSpec := { name := "fnExactReorderCars", fn := fun _ => fun
  | [d1, d2] => { results := [.lit (.bool false)], args := [d1, d2] }
  | _ => none }
def FnExactReorderCarsWrongFalsely : Prop := fnExactReorderCarsRow.holds Try.pinned (OpenSpec.ofChange fnExactReorderCarsWrong)

/- THE SECOND FORM. 'bulk': how many values and letters a reading holds, each counted each time it is reached (what is shared counts as often as it is met; a slice's spare places count too). A statement '..UptoSaid' is the law's where the arguments, and the package variables that the reading takes, are together of bulk at most 1048576: NARROWER than '..Said'. Prove '..Said' where nothing that the law and all that it calls make is longer than what came in: it says more and counts as full. Else prove '..UptoSaid'. A law counts once. -/
mutual
def uptoBulk {H : Type} : DataW H → Nat
  | .lit (.string bytes) => bytes.length + 1
  | .lit _ => 1
  | .nil => 1
  | .ptr d => uptoBulk d + 1
  | .slice elems spare => uptoBulkAll elems + uptoBulkAll spare + 1
  | .agg parts => uptoBulkAll parts + 1
  | .iface _ d => uptoBulk d + 1
  | .map entries => uptoBulkEntries entries + 1
  | .held _ => 1
def uptoBulkAll {H : Type} : List (DataW H) → Nat
  | [] => 0
  | d :: r => uptoBulk d + uptoBulkAll r
def uptoBulkEntries {H : Type} : List (Lit × DataW H) → Nat
  | [] => 0
  | x :: r => uptoBulkEntry x + uptoBulkEntries r
def uptoBulkEntry {H : Type} : Lit × DataW H → Nat
  | (.string bytes, d) => bytes.length + uptoBulk d + 1
  | (_, d) => uptoBulk d + 1
 end
def uptoSmall : (H : Type) → List (DataW H) → Bool := fun _ ds => decide (uptoBulkAll ds ≤ 1048576)
def OpenSpec.upto (s : _root_.Go.ChangeSpec) : _root_.Go.OpenSpec := { _root_.Go.OpenSpec.ofChange s with cond := some uptoSmall }

/-- 'laws.FnExactIsUnit', WHERE WHAT IT READS IS OF BULK AT MOST 1048576: true; the input reads as it did. -/
def fnExactIsUnitUptoRow : OpenClaim := { program := "ytcmpeimpddngbaa", sum := "86c2d6df6aa7c21fdfceb205fdc49c35cfda88926e065f9e33f09e2c538d69f2", func := "loop.example/g01115/laws.FnExactIsUnit", spec := "fnExactIsUnit", unfollowed := true, recurses := true, apart := false, narrowed := true }
def FnExactIsUnitUptoSaid : Prop := fnExactIsUnitUptoRow.holds Try.pinned (OpenSpec.upto fnExactIsUnitSpec)

/-- 'laws.FnExactIsDesk', WHERE WHAT IT READS IS OF BULK AT MOST 1048576: true; the input reads as it did. -/
def fnExactIsDeskUptoRow : OpenClaim := { program := "ytcmpeimpddngbaa", sum := "86c2d6df6aa7c21fdfceb205fdc49c35cfda88926e065f9e33f09e2c538d69f2", func := "loop.example/g01115/laws.FnExactIsDesk", spec := "fnExactIsDesk", unfollowed := true, recurses := true, apart := false, narrowed := true }
def FnExactIsDeskUptoSaid : Prop := fnExactIsDeskUptoRow.holds Try.pinned (OpenSpec.upto fnExactIsDeskSpec)

/-- 'laws.FnExactPrimeParts', WHERE WHAT IT READS IS OF BULK AT MOST 1048576: true; the input reads as it did. -/
def fnExactPrimePartsUptoRow : OpenClaim := { program := "ytcmpeimpddngbaa", sum := "86c2d6df6aa7c21fdfceb205fdc49c35cfda88926e065f9e33f09e2c538d69f2", func := "loop.example/g01115/laws.FnExactPrimeParts", spec := "fnExactPrimeParts", unfollowed := true, recurses := true, apart := false, narrowed := true }
def FnExactPrimePartsUptoSaid : Prop := fnExactPrimePartsUptoRow.holds Try.pinned (OpenSpec.upto fnExactPrimePartsSpec)

/-- 'laws.FnExactGreatestGreatest', WHERE WHAT IT READS IS OF BULK AT MOST 1048576: true; the input reads as it did. -/
def fnExactGreatestGreatestUptoRow : OpenClaim := { program := "ytcmpeimpddngbaa", sum := "86c2d6df6aa7c21fdfceb205fdc49c35cfda88926e065f9e33f09e2c538d69f2", func := "loop.example/g01115/laws.FnExactGreatestGreatest", spec := "fnExactGreatestGreatest", unfollowed := true, recurses := true, apart := false, narrowed := true }
def FnExactGreatestGreatestUptoSaid : Prop := fnExactGreatestGreatestUptoRow.holds Try.pinned (OpenSpec.upto fnExactGreatestGreatestSpec)

/-- 'laws.FnExactCountUnit', WHERE WHAT IT READS IS OF BULK AT MOST 1048576: true; the input reads as it did. -/
def fnExactCountUnitUptoRow : OpenClaim := { program := "ytcmpeimpddngbaa", sum := "86c2d6df6aa7c21fdfceb205fdc49c35cfda88926e065f9e33f09e2c538d69f2", func := "loop.example/g01115/laws.FnExactCountUnit", spec := "fnExactCountUnit", unfollowed := true, recurses := true, apart := false, narrowed := true }
def FnExactCountUnitUptoSaid : Prop := fnExactCountUnitUptoRow.holds Try.pinned (OpenSpec.upto fnExactCountUnitSpec)

/-- 'laws.FnExactAllSlope', WHERE WHAT IT READS IS OF BULK AT MOST 1048576: true; the input reads as it did. -/
def fnExactAllSlopeUptoRow : OpenClaim := { program := "ytcmpeimpddngbaa", sum := "86c2d6df6aa7c21fdfceb205fdc49c35cfda88926e065f9e33f09e2c538d69f2", func := "loop.example/g01115/laws.FnExactAllSlope", spec := "fnExactAllSlope", unfollowed := true, recurses := true, apart := false, narrowed := true }
def FnExactAllSlopeUptoSaid : Prop := fnExactAllSlopeUptoRow.holds Try.pinned (OpenSpec.upto fnExactAllSlopeSpec)

/-- 'laws.FnExactAllPrime', WHERE WHAT IT READS IS OF BULK AT MOST 1048576: true; the input reads as it did. -/
def fnExactAllPrimeUptoRow : OpenClaim := { program := "ytcmpeimpddngbaa", sum := "86c2d6df6aa7c21fdfceb205fdc49c35cfda88926e065f9e33f09e2c538d69f2", func := "loop.example/g01115/laws.FnExactAllPrime", spec := "fnExactAllPrime", unfollowed := true, recurses := true, apart := false, narrowed := true }
def FnExactAllPrimeUptoSaid : Prop := fnExactAllPrimeUptoRow.holds Try.pinned (OpenSpec.upto fnExactAllPrimeSpec)

/-- 'laws.FnExactFairOrder', WHERE WHAT IT READS IS OF BULK AT MOST 1048576: true; the input reads as it did. -/
def fnExactFairOrderUptoRow : OpenClaim := { program := "ytcmpeimpddngbaa", sum := "86c2d6df6aa7c21fdfceb205fdc49c35cfda88926e065f9e33f09e2c538d69f2", func := "loop.example/g01115/laws.FnExactFairOrder", spec := "fnExactFairOrder", unfollowed := true, recurses := true, apart := false, narrowed := true }
def FnExactFairOrderUptoSaid : Prop := fnExactFairOrderUptoRow.holds Try.pinned (OpenSpec.upto fnExactFairOrderSpec)

/-- 'laws.FnExactLeastGreatest', WHERE WHAT IT READS IS OF BULK AT MOST 1048576: true; the input reads as it did. -/
def fnExactLeastGreatestUptoRow : OpenClaim := { program := "ytcmpeimpddngbaa", sum := "86c2d6df6aa7c21fdfceb205fdc49c35cfda88926e065f9e33f09e2c538d69f2", func := "loop.example/g01115/laws.FnExactLeastGreatest", spec := "fnExactLeastGreatest", unfollowed := true, recurses := true, apart := false, narrowed := true }
def FnExactLeastGreatestUptoSaid : Prop := fnExactLeastGreatestUptoRow.holds Try.pinned (OpenSpec.upto fnExactLeastGreatestSpec)

/-- 'laws.FnExactUnitBlocks', WHERE WHAT IT READS IS OF BULK AT MOST 1048576: true; the input reads as it did. -/
def fnExactUnitBlocksUptoRow : OpenClaim := { program := "ytcmpeimpddngbaa", sum := "86c2d6df6aa7c21fdfceb205fdc49c35cfda88926e065f9e33f09e2c538d69f2", func := "loop.example/g01115/laws.FnExactUnitBlocks", spec := "fnExactUnitBlocks", unfollowed := true, recurses := true, apart := false, narrowed := true }
def FnExactUnitBlocksUptoSaid : Prop := fnExactUnitBlocksUptoRow.holds Try.pinned (OpenSpec.upto fnExactUnitBlocksSpec)

/-- 'laws.FnExactIsSlopeParking', WHERE WHAT IT READS IS OF BULK AT MOST 1048576: true; the input reads as it did. -/
def fnExactIsSlopeParkingUptoRow : OpenClaim := { program := "ytcmpeimpddngbaa", sum := "86c2d6df6aa7c21fdfceb205fdc49c35cfda88926e065f9e33f09e2c538d69f2", func := "loop.example/g01115/laws.FnExactIsSlopeParking", spec := "fnExactIsSlopeParking", unfollowed := true, recurses := true, apart := false, narrowed := true }
def FnExactIsSlopeParkingUptoSaid : Prop := fnExactIsSlopeParkingUptoRow.holds Try.pinned (OpenSpec.upto fnExactIsSlopeParkingSpec)

/-- 'laws.FnExactReorderCars', WHERE WHAT IT READS IS OF BULK AT MOST 1048576: true; the input reads as it did. -/
def fnExactReorderCarsUptoRow : OpenClaim := { program := "ytcmpeimpddngbaa", sum := "86c2d6df6aa7c21fdfceb205fdc49c35cfda88926e065f9e33f09e2c538d69f2", func := "loop.example/g01115/laws.FnExactReorderCars", spec := "fnExactReorderCars", unfollowed := true, recurses := true, apart := false, narrowed := true }
def FnExactReorderCarsUptoSaid : Prop := fnExactReorderCarsUptoRow.holds Try.pinned (OpenSpec.upto fnExactReorderCarsSpec)

end Rows
end Go.Proofs.Ytcmpeimpddngbaa
