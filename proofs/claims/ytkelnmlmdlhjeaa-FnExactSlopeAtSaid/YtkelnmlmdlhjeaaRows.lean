/-
  No cell of these rows narrows 'for every input' (looked for: loops, veiled, ifaces, maps, wideKeys, modest, calm, conditions, laid).
  DERIVED. THE GIVEN ROWS OF THIS SEAT. 11 by the template 'for every input the law returns true; each argument reads behind the call as it read before'; 0 by the template 'total and deterministic' (their statements: YtkelnmlmdlhjeaaTotals.lean).
  GIVEN WITH THE SEED: the statements are not yours to turn. If you find one false, say at which input.
  Laid BY PROGRAM, IN A SANDBOX (cutbox-rows.mjs): the forced cells as the released guide's own fill.sh prints them over the translation 3e25e91f6166838d… (all of the seat's roots in one cut). By AI agents, Wed Nov 11 2026. No macro, syntax, notation, axiom, sorry.
-/
import Derived.Test.YtkelnmlmdlhjeaaChecked
import GoSem.Claim
import GoSem.ClaimJoined
import GoSem.ClaimMapViews
import Derived.JoinedTies
import Derived.KernelRfl
namespace Go.Proofs.Ytkelnmlmdlhjeaa
/- THE CELL 'sum', in the pinned program and in every row, IS THE sha256 OF THE DUMP (.gsa) THAT YtkelnmlmdlhjeaaProg.lean LOADS. Nothing in Lean hashes anything: it is a label: what it is worth is what the hold of that sum in a sandbox is worth. -/
noncomputable def Try.pinned : Pinned := { name := "ytkelnmlmdlhjeaa", sum := "3e25e91f6166838df7449b23f87d51fcca842601c677495c19dc7e32782e05cb", checked := Try.checked }
namespace Rows
def none {H : Type} : Left H := { results := [], args := [] }

/-- 'laws.FnExactIsSlope': WHATEVER THE INPUT: true; the input reads as it did. -/
def fnExactIsSlopeSpec : ChangeSpec := { name := "fnExactIsSlope", fn := fun _ => fun
  | [d1, d2] => { results := [.lit (.bool true)], args := [d1, d2] }
  | _ => none }
def fnExactIsSlopeRow : OpenClaim := { program := "ytkelnmlmdlhjeaa", sum := "3e25e91f6166838df7449b23f87d51fcca842601c677495c19dc7e32782e05cb", func := "loop.example/g01115/laws.FnExactIsSlope", spec := "fnExactIsSlope", apart := false }
def FnExactIsSlopeSaid : Prop := fnExactIsSlopeRow.holds Try.pinned (OpenSpec.ofChange fnExactIsSlopeSpec)

/-- ITS FALSE NEIGHBOUR: 'it returns false'. Refute it at one input. -/
def fnExactIsSlopeWrong : ChangeSpec := { name := "fnExactIsSlope", fn := fun _ => fun
  | [d1, d2] => { results := [.lit (.bool false)], args := [d1, d2] }
  | _ => none }
def FnExactIsSlopeWrongFalsely : Prop := fnExactIsSlopeRow.holds Try.pinned (OpenSpec.ofChange fnExactIsSlopeWrong)

/-- 'laws.FnExactCountPrime': WHATEVER THE INPUT: true; the input reads as it did. -/
def fnExactCountPrimeSpec : ChangeSpec := { name := "fnExactCountPrime", fn := fun _ => fun
  | [d] => { results := [.lit (.bool true)], args := [d] }
  | _ => none }
def fnExactCountPrimeRow : OpenClaim := { program := "ytkelnmlmdlhjeaa", sum := "3e25e91f6166838df7449b23f87d51fcca842601c677495c19dc7e32782e05cb", func := "loop.example/g01115/laws.FnExactCountPrime", spec := "fnExactCountPrime", apart := false }
def FnExactCountPrimeSaid : Prop := fnExactCountPrimeRow.holds Try.pinned (OpenSpec.ofChange fnExactCountPrimeSpec)

/-- ITS FALSE NEIGHBOUR: 'it returns false'. Refute it at one input. -/
def fnExactCountPrimeWrong : ChangeSpec := { name := "fnExactCountPrime", fn := fun _ => fun
  | [d] => { results := [.lit (.bool false)], args := [d] }
  | _ => none }
def FnExactCountPrimeWrongFalsely : Prop := fnExactCountPrimeRow.holds Try.pinned (OpenSpec.ofChange fnExactCountPrimeWrong)

/-- 'laws.FnExactMostArea': WHATEVER THE INPUT: true; the input reads as it did. -/
def fnExactMostAreaSpec : ChangeSpec := { name := "fnExactMostArea", fn := fun _ => fun
  | [d1, d2] => { results := [.lit (.bool true)], args := [d1, d2] }
  | _ => none }
def fnExactMostAreaRow : OpenClaim := { program := "ytkelnmlmdlhjeaa", sum := "3e25e91f6166838df7449b23f87d51fcca842601c677495c19dc7e32782e05cb", func := "loop.example/g01115/laws.FnExactMostArea", spec := "fnExactMostArea", apart := false }
def FnExactMostAreaSaid : Prop := fnExactMostAreaRow.holds Try.pinned (OpenSpec.ofChange fnExactMostAreaSpec)

/-- ITS FALSE NEIGHBOUR: 'it returns false'. Refute it at one input. -/
def fnExactMostAreaWrong : ChangeSpec := { name := "fnExactMostArea", fn := fun _ => fun
  | [d1, d2] => { results := [.lit (.bool false)], args := [d1, d2] }
  | _ => none }
def FnExactMostAreaWrongFalsely : Prop := fnExactMostAreaRow.holds Try.pinned (OpenSpec.ofChange fnExactMostAreaWrong)

/-- 'laws.FnExactCountSlope': WHATEVER THE INPUT: true; the input reads as it did. -/
def fnExactCountSlopeSpec : ChangeSpec := { name := "fnExactCountSlope", fn := fun _ => fun
  | [d1, d2] => { results := [.lit (.bool true)], args := [d1, d2] }
  | _ => none }
def fnExactCountSlopeRow : OpenClaim := { program := "ytkelnmlmdlhjeaa", sum := "3e25e91f6166838df7449b23f87d51fcca842601c677495c19dc7e32782e05cb", func := "loop.example/g01115/laws.FnExactCountSlope", spec := "fnExactCountSlope", apart := false }
def FnExactCountSlopeSaid : Prop := fnExactCountSlopeRow.holds Try.pinned (OpenSpec.ofChange fnExactCountSlopeSpec)

/-- ITS FALSE NEIGHBOUR: 'it returns false'. Refute it at one input. -/
def fnExactCountSlopeWrong : ChangeSpec := { name := "fnExactCountSlope", fn := fun _ => fun
  | [d1, d2] => { results := [.lit (.bool false)], args := [d1, d2] }
  | _ => none }
def FnExactCountSlopeWrongFalsely : Prop := fnExactCountSlopeRow.holds Try.pinned (OpenSpec.ofChange fnExactCountSlopeWrong)

/-- 'laws.FnExactCountSlopeWalks': WHATEVER THE INPUT: true; the input reads as it did. -/
def fnExactCountSlopeWalksSpec : ChangeSpec := { name := "fnExactCountSlopeWalks", fn := fun _ => fun
  | [d1, d2] => { results := [.lit (.bool true)], args := [d1, d2] }
  | _ => none }
def fnExactCountSlopeWalksRow : OpenClaim := { program := "ytkelnmlmdlhjeaa", sum := "3e25e91f6166838df7449b23f87d51fcca842601c677495c19dc7e32782e05cb", func := "loop.example/g01115/laws.FnExactCountSlopeWalks", spec := "fnExactCountSlopeWalks", apart := false }
def FnExactCountSlopeWalksSaid : Prop := fnExactCountSlopeWalksRow.holds Try.pinned (OpenSpec.ofChange fnExactCountSlopeWalksSpec)

/-- ITS FALSE NEIGHBOUR: 'it returns false'. Refute it at one input. -/
def fnExactCountSlopeWalksWrong : ChangeSpec := { name := "fnExactCountSlopeWalks", fn := fun _ => fun
  | [d1, d2] => { results := [.lit (.bool false)], args := [d1, d2] }
  | _ => none }
def FnExactCountSlopeWalksWrongFalsely : Prop := fnExactCountSlopeWalksRow.holds Try.pinned (OpenSpec.ofChange fnExactCountSlopeWalksWrong)

/-- 'laws.FnExactBoundsOf': WHATEVER THE INPUT: true; the input reads as it did. -/
def fnExactBoundsOfSpec : ChangeSpec := { name := "fnExactBoundsOf", fn := fun _ => fun
  | [d1, d2] => { results := [.lit (.bool true)], args := [d1, d2] }
  | _ => none }
def fnExactBoundsOfRow : OpenClaim := { program := "ytkelnmlmdlhjeaa", sum := "3e25e91f6166838df7449b23f87d51fcca842601c677495c19dc7e32782e05cb", func := "loop.example/g01115/laws.FnExactBoundsOf", spec := "fnExactBoundsOf", apart := false }
def FnExactBoundsOfSaid : Prop := fnExactBoundsOfRow.holds Try.pinned (OpenSpec.ofChange fnExactBoundsOfSpec)

/-- ITS FALSE NEIGHBOUR: 'it returns false'. Refute it at one input. -/
def fnExactBoundsOfWrong : ChangeSpec := { name := "fnExactBoundsOf", fn := fun _ => fun
  | [d1, d2] => { results := [.lit (.bool false)], args := [d1, d2] }
  | _ => none }
def FnExactBoundsOfWrongFalsely : Prop := fnExactBoundsOfRow.holds Try.pinned (OpenSpec.ofChange fnExactBoundsOfWrong)

/-- 'laws.FnExactAllSlopeWalks': WHATEVER THE INPUT: true; the input reads as it did. -/
def fnExactAllSlopeWalksSpec : ChangeSpec := { name := "fnExactAllSlopeWalks", fn := fun _ => fun
  | [d1, d2] => { results := [.lit (.bool true)], args := [d1, d2] }
  | _ => none }
def fnExactAllSlopeWalksRow : OpenClaim := { program := "ytkelnmlmdlhjeaa", sum := "3e25e91f6166838df7449b23f87d51fcca842601c677495c19dc7e32782e05cb", func := "loop.example/g01115/laws.FnExactAllSlopeWalks", spec := "fnExactAllSlopeWalks", recurses := true, apart := false }
def FnExactAllSlopeWalksSaid : Prop := fnExactAllSlopeWalksRow.holds Try.pinned (OpenSpec.ofChange fnExactAllSlopeWalksSpec)

/-- ITS FALSE NEIGHBOUR: 'it returns false'. Refute it at one input. -/
def fnExactAllSlopeWalksWrong : ChangeSpec := { name := "fnExactAllSlopeWalks", fn := fun _ => fun
  | [d1, d2] => { results := [.lit (.bool false)], args := [d1, d2] }
  | _ => none }
def FnExactAllSlopeWalksWrongFalsely : Prop := fnExactAllSlopeWalksRow.holds Try.pinned (OpenSpec.ofChange fnExactAllSlopeWalksWrong)

/-- 'laws.FnExactSlopeAt': WHATEVER THE INPUT: true; the input reads as it did. -/
def fnExactSlopeAtSpec : ChangeSpec := { name := "fnExactSlopeAt", fn := fun _ => fun
  | [d1, d2, d3] => { results := [.lit (.bool true)], args := [d1, d2, d3] }
  | _ => none }
def fnExactSlopeAtRow : OpenClaim := { program := "ytkelnmlmdlhjeaa", sum := "3e25e91f6166838df7449b23f87d51fcca842601c677495c19dc7e32782e05cb", func := "loop.example/g01115/laws.FnExactSlopeAt", spec := "fnExactSlopeAt", unfollowed := true, recurses := true, apart := false }
def FnExactSlopeAtSaid : Prop := fnExactSlopeAtRow.holds Try.pinned (OpenSpec.ofChange fnExactSlopeAtSpec)

/-- ITS FALSE NEIGHBOUR: 'it returns false'. Refute it at one input. -/
def fnExactSlopeAtWrong : ChangeSpec := { name := "fnExactSlopeAt", fn := fun _ => fun
  | [d1, d2, d3] => { results := [.lit (.bool false)], args := [d1, d2, d3] }
  | _ => none }
def FnExactSlopeAtWrongFalsely : Prop := fnExactSlopeAtRow.holds Try.pinned (OpenSpec.ofChange fnExactSlopeAtWrong)

/-- 'laws.FnExactWaitsOf': WHATEVER THE INPUT: true; the input reads as it did. -/
def fnExactWaitsOfSpec : ChangeSpec := { name := "fnExactWaitsOf", fn := fun _ => fun
  | [d1, d2] => { results := [.lit (.bool true)], args := [d1, d2] }
  | _ => none }
def fnExactWaitsOfRow : OpenClaim := { program := "ytkelnmlmdlhjeaa", sum := "3e25e91f6166838df7449b23f87d51fcca842601c677495c19dc7e32782e05cb", func := "loop.example/g01115/laws.FnExactWaitsOf", spec := "fnExactWaitsOf", unfollowed := true, recurses := true, apart := false }
def FnExactWaitsOfSaid : Prop := fnExactWaitsOfRow.holds Try.pinned (OpenSpec.ofChange fnExactWaitsOfSpec)

/-- ITS FALSE NEIGHBOUR: 'it returns false'. Refute it at one input. -/
def fnExactWaitsOfWrong : ChangeSpec := { name := "fnExactWaitsOf", fn := fun _ => fun
  | [d1, d2] => { results := [.lit (.bool false)], args := [d1, d2] }
  | _ => none }
def FnExactWaitsOfWrongFalsely : Prop := fnExactWaitsOfRow.holds Try.pinned (OpenSpec.ofChange fnExactWaitsOfWrong)

/-- 'laws.FnExactIsPrime': WHATEVER THE INPUT: true; the input reads as it did. -/
def fnExactIsPrimeSpec : ChangeSpec := { name := "fnExactIsPrime", fn := fun _ => fun
  | [d] => { results := [.lit (.bool true)], args := [d] }
  | _ => none }
def fnExactIsPrimeRow : OpenClaim := { program := "ytkelnmlmdlhjeaa", sum := "3e25e91f6166838df7449b23f87d51fcca842601c677495c19dc7e32782e05cb", func := "loop.example/g01115/laws.FnExactIsPrime", spec := "fnExactIsPrime", unfollowed := true, recurses := true, apart := false }
def FnExactIsPrimeSaid : Prop := fnExactIsPrimeRow.holds Try.pinned (OpenSpec.ofChange fnExactIsPrimeSpec)

/-- ITS FALSE NEIGHBOUR: 'it returns false'. Refute it at one input. -/
def fnExactIsPrimeWrong : ChangeSpec := { name := "fnExactIsPrime", fn := fun _ => fun
  | [d] => { results := [.lit (.bool false)], args := [d] }
  | _ => none }
def FnExactIsPrimeWrongFalsely : Prop := fnExactIsPrimeRow.holds Try.pinned (OpenSpec.ofChange fnExactIsPrimeWrong)

/-- 'laws.FnExactFirstDesk': WHATEVER THE INPUT: true; the input reads as it did. -/
def fnExactFirstDeskSpec : ChangeSpec := { name := "fnExactFirstDesk", fn := fun _ => fun
  | [] => { results := [.lit (.bool true)], args := [] }
  | _ => none }
def fnExactFirstDeskRow : OpenClaim := { program := "ytkelnmlmdlhjeaa", sum := "3e25e91f6166838df7449b23f87d51fcca842601c677495c19dc7e32782e05cb", func := "loop.example/g01115/laws.FnExactFirstDesk", spec := "fnExactFirstDesk", apart := false }
def FnExactFirstDeskSaid : Prop := fnExactFirstDeskRow.holds Try.pinned (OpenSpec.ofChange fnExactFirstDeskSpec)

/-- ITS FALSE NEIGHBOUR: 'it returns false'. Refute it at one input. -/
def fnExactFirstDeskWrong : ChangeSpec := { name := "fnExactFirstDesk", fn := fun _ => fun
  | [] => { results := [.lit (.bool false)], args := [] }
  | _ => none }
def FnExactFirstDeskWrongFalsely : Prop := fnExactFirstDeskRow.holds Try.pinned (OpenSpec.ofChange fnExactFirstDeskWrong)

/- THE SECOND FORM. 'bulk': how many values and letters a reading holds, each counted each time it is reached (what is shared counts as often as it is met; a slice's spare places count too). A statement '..UptoSaid' is the law's where the arguments, and the package variables that the reading takes, are together of bulk at most 1048576: NARROWER than '..Said'. Prove '..Said' where nothing that the law and all that it calls make is longer than what came in: it says more and counts as full. Else prove '..UptoSaid'. A law counts once. -/
mutual
def uptoBulk {H : Type} : DataW H → Nat
  | .lit (.string bytes) => bytes.length + 1
  | .lit _ => 1
  | .nil => 1
  | .ptr d => uptoBulk d + 1
  | .slice elems spare => uptoBulkAll elems + uptoBulkAll spare + 1
  | .agg parts => uptoBulkAll parts + 1
  | .iface _ d => uptoBulk d + 1
  | .map entries => uptoBulkEntries entries + 1
  | .held _ => 1
def uptoBulkAll {H : Type} : List (DataW H) → Nat
  | [] => 0
  | d :: r => uptoBulk d + uptoBulkAll r
def uptoBulkEntries {H : Type} : List (Lit × DataW H) → Nat
  | [] => 0
  | x :: r => uptoBulkEntry x + uptoBulkEntries r
def uptoBulkEntry {H : Type} : Lit × DataW H → Nat
  | (.string bytes, d) => bytes.length + uptoBulk d + 1
  | (_, d) => uptoBulk d + 1
 end
def uptoSmall : (H : Type) → List (DataW H) → Bool := fun _ ds => decide (uptoBulkAll ds ≤ 1048576)
def OpenSpec.upto (s : _root_.Go.ChangeSpec) : _root_.Go.OpenSpec := { _root_.Go.OpenSpec.ofChange s with cond := some uptoSmall }

/-- 'laws.FnExactIsSlope', WHERE WHAT IT READS IS OF BULK AT MOST 1048576: true; the input reads as it did. -/
def fnExactIsSlopeUptoRow : OpenClaim := { program := "ytkelnmlmdlhjeaa", sum := "3e25e91f6166838df7449b23f87d51fcca842601c677495c19dc7e32782e05cb", func := "loop.example/g01115/laws.FnExactIsSlope", spec := "fnExactIsSlope", apart := false, narrowed := true }
def FnExactIsSlopeUptoSaid : Prop := fnExactIsSlopeUptoRow.holds Try.pinned (OpenSpec.upto fnExactIsSlopeSpec)

/-- 'laws.FnExactCountPrime', WHERE WHAT IT READS IS OF BULK AT MOST 1048576: true; the input reads as it did. -/
def fnExactCountPrimeUptoRow : OpenClaim := { program := "ytkelnmlmdlhjeaa", sum := "3e25e91f6166838df7449b23f87d51fcca842601c677495c19dc7e32782e05cb", func := "loop.example/g01115/laws.FnExactCountPrime", spec := "fnExactCountPrime", apart := false, narrowed := true }
def FnExactCountPrimeUptoSaid : Prop := fnExactCountPrimeUptoRow.holds Try.pinned (OpenSpec.upto fnExactCountPrimeSpec)

/-- 'laws.FnExactMostArea', WHERE WHAT IT READS IS OF BULK AT MOST 1048576: true; the input reads as it did. -/
def fnExactMostAreaUptoRow : OpenClaim := { program := "ytkelnmlmdlhjeaa", sum := "3e25e91f6166838df7449b23f87d51fcca842601c677495c19dc7e32782e05cb", func := "loop.example/g01115/laws.FnExactMostArea", spec := "fnExactMostArea", apart := false, narrowed := true }
def FnExactMostAreaUptoSaid : Prop := fnExactMostAreaUptoRow.holds Try.pinned (OpenSpec.upto fnExactMostAreaSpec)

/-- 'laws.FnExactCountSlope', WHERE WHAT IT READS IS OF BULK AT MOST 1048576: true; the input reads as it did. -/
def fnExactCountSlopeUptoRow : OpenClaim := { program := "ytkelnmlmdlhjeaa", sum := "3e25e91f6166838df7449b23f87d51fcca842601c677495c19dc7e32782e05cb", func := "loop.example/g01115/laws.FnExactCountSlope", spec := "fnExactCountSlope", apart := false, narrowed := true }
def FnExactCountSlopeUptoSaid : Prop := fnExactCountSlopeUptoRow.holds Try.pinned (OpenSpec.upto fnExactCountSlopeSpec)

/-- 'laws.FnExactCountSlopeWalks', WHERE WHAT IT READS IS OF BULK AT MOST 1048576: true; the input reads as it did. -/
def fnExactCountSlopeWalksUptoRow : OpenClaim := { program := "ytkelnmlmdlhjeaa", sum := "3e25e91f6166838df7449b23f87d51fcca842601c677495c19dc7e32782e05cb", func := "loop.example/g01115/laws.FnExactCountSlopeWalks", spec := "fnExactCountSlopeWalks", apart := false, narrowed := true }
def FnExactCountSlopeWalksUptoSaid : Prop := fnExactCountSlopeWalksUptoRow.holds Try.pinned (OpenSpec.upto fnExactCountSlopeWalksSpec)

/-- 'laws.FnExactBoundsOf', WHERE WHAT IT READS IS OF BULK AT MOST 1048576: true; the input reads as it did. -/
def fnExactBoundsOfUptoRow : OpenClaim := { program := "ytkelnmlmdlhjeaa", sum := "3e25e91f6166838df7449b23f87d51fcca842601c677495c19dc7e32782e05cb", func := "loop.example/g01115/laws.FnExactBoundsOf", spec := "fnExactBoundsOf", apart := false, narrowed := true }
def FnExactBoundsOfUptoSaid : Prop := fnExactBoundsOfUptoRow.holds Try.pinned (OpenSpec.upto fnExactBoundsOfSpec)

/-- 'laws.FnExactAllSlopeWalks', WHERE WHAT IT READS IS OF BULK AT MOST 1048576: true; the input reads as it did. -/
def fnExactAllSlopeWalksUptoRow : OpenClaim := { program := "ytkelnmlmdlhjeaa", sum := "3e25e91f6166838df7449b23f87d51fcca842601c677495c19dc7e32782e05cb", func := "loop.example/g01115/laws.FnExactAllSlopeWalks", spec := "fnExactAllSlopeWalks", recurses := true, apart := false, narrowed := true }
def FnExactAllSlopeWalksUptoSaid : Prop := fnExactAllSlopeWalksUptoRow.holds Try.pinned (OpenSpec.upto fnExactAllSlopeWalksSpec)

/-- 'laws.FnExactSlopeAt', WHERE WHAT IT READS IS OF BULK AT MOST 1048576: true; the input reads as it did. -/
def fnExactSlopeAtUptoRow : OpenClaim := { program := "ytkelnmlmdlhjeaa", sum := "3e25e91f6166838df7449b23f87d51fcca842601c677495c19dc7e32782e05cb", func := "loop.example/g01115/laws.FnExactSlopeAt", spec := "fnExactSlopeAt", unfollowed := true, recurses := true, apart := false, narrowed := true }
def FnExactSlopeAtUptoSaid : Prop := fnExactSlopeAtUptoRow.holds Try.pinned (OpenSpec.upto fnExactSlopeAtSpec)

/-- 'laws.FnExactWaitsOf', WHERE WHAT IT READS IS OF BULK AT MOST 1048576: true; the input reads as it did. -/
def fnExactWaitsOfUptoRow : OpenClaim := { program := "ytkelnmlmdlhjeaa", sum := "3e25e91f6166838df7449b23f87d51fcca842601c677495c19dc7e32782e05cb", func := "loop.example/g01115/laws.FnExactWaitsOf", spec := "fnExactWaitsOf", unfollowed := true, recurses := true, apart := false, narrowed := true }
def FnExactWaitsOfUptoSaid : Prop := fnExactWaitsOfUptoRow.holds Try.pinned (OpenSpec.upto fnExactWaitsOfSpec)

/-- 'laws.FnExactIsPrime', WHERE WHAT IT READS IS OF BULK AT MOST 1048576: true; the input reads as it did. -/
def fnExactIsPrimeUptoRow : OpenClaim := { program := "ytkelnmlmdlhjeaa", sum := "3e25e91f6166838df7449b23f87d51fcca842601c677495c19dc7e32782e05cb", func := "loop.example/g01115/laws.FnExactIsPrime", spec := "fnExactIsPrime", unfollowed := true, recurses := true, apart := false, narrowed := true }
def FnExactIsPrimeUptoSaid : Prop := fnExactIsPrimeUptoRow.holds Try.pinned (OpenSpec.upto fnExactIsPrimeSpec)

/-- 'laws.FnExactFirstDesk', WHERE WHAT IT READS IS OF BULK AT MOST 1048576: true; the input reads as it did. -/
def fnExactFirstDeskUptoRow : OpenClaim := { program := "ytkelnmlmdlhjeaa", sum := "3e25e91f6166838df7449b23f87d51fcca842601c677495c19dc7e32782e05cb", func := "loop.example/g01115/laws.FnExactFirstDesk", spec := "fnExactFirstDesk", apart := false, narrowed := true }
def FnExactFirstDeskUptoSaid : Prop := fnExactFirstDeskUptoRow.holds Try.pinned (OpenSpec.upto fnExactFirstDeskSpec)

end Rows
end Go.Proofs.Ytkelnmlmdlhjeaa
