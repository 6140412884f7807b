/-
  No cell of these rows narrows 'for every input' (looked for: loops, veiled, ifaces, maps, wideKeys, modest, calm, conditions, laid).
  DERIVED. THE GIVEN ROWS OF THIS SEAT. 11 by the template 'for every input the law returns true; each argument reads behind the call as it read before'; 0 by the template 'total and deterministic' (their statements: YtmajcgcnnpkhfaaTotals.lean).
  GIVEN WITH THE SEED: the statements are not yours to turn. If you find one false, say at which input.
  Laid BY PROGRAM, IN A SANDBOX (cutbox-rows.mjs): the forced cells as the released guide's own fill.sh prints them over the translation 688adbdd3bc43ca7… (all of the seat's roots in one cut). By AI agents, Wed Nov 11 2026. No macro, syntax, notation, axiom, sorry.
-/
import Derived.Test.YtmajcgcnnpkhfaaChecked
import GoSem.Claim
import GoSem.ClaimJoined
import GoSem.ClaimMapViews
import Derived.JoinedTies
import Derived.KernelRfl
namespace Go.Proofs.Ytmajcgcnnpkhfaa
/- THE CELL 'sum', in the pinned program and in every row, IS THE sha256 OF THE DUMP (.gsa) THAT YtmajcgcnnpkhfaaProg.lean LOADS. Nothing in Lean hashes anything: it is a label: what it is worth is what the hold of that sum in a sandbox is worth. -/
noncomputable def Try.pinned : Pinned := { name := "ytmajcgcnnpkhfaa", sum := "688adbdd3bc43ca7250b27977c63524dc930195655008690edcfae035fb6a0e0", checked := Try.checked }
namespace Rows
def none {H : Type} : Left H := { results := [], args := [] }

/-- 'laws.FnExactSlopeArea': WHATEVER THE INPUT: true; the input reads as it did. -/
def fnExactSlopeAreaSpec : ChangeSpec := { name := "fnExactSlopeArea", fn := fun _ => fun
  | [d1, d2] => { results := [.lit (.bool true)], args := [d1, d2] }
  | _ => none }
def fnExactSlopeAreaRow : OpenClaim := { program := "ytmajcgcnnpkhfaa", sum := "688adbdd3bc43ca7250b27977c63524dc930195655008690edcfae035fb6a0e0", func := "loop.example/g01115/laws.FnExactSlopeArea", spec := "fnExactSlopeArea", unfollowed := true, recurses := true, apart := false }
def FnExactSlopeAreaSaid : Prop := fnExactSlopeAreaRow.holds Try.pinned (OpenSpec.ofChange fnExactSlopeAreaSpec)

/-- ITS FALSE NEIGHBOUR: 'it returns false'. Refute it at one input. -/
def fnExactSlopeAreaWrong : ChangeSpec := { name := "fnExactSlopeArea", fn := fun _ => fun
  | [d1, d2] => { results := [.lit (.bool false)], args := [d1, d2] }
  | _ => none }
def FnExactSlopeAreaWrongFalsely : Prop := fnExactSlopeAreaRow.holds Try.pinned (OpenSpec.ofChange fnExactSlopeAreaWrong)

/-- 'laws.FnExactMostLucky': WHATEVER THE INPUT: true; the input reads as it did. -/
def fnExactMostLuckySpec : ChangeSpec := { name := "fnExactMostLucky", fn := fun _ => fun
  | [d1, d2] => { results := [.lit (.bool true)], args := [d1, d2] }
  | _ => none }
def fnExactMostLuckyRow : OpenClaim := { program := "ytmajcgcnnpkhfaa", sum := "688adbdd3bc43ca7250b27977c63524dc930195655008690edcfae035fb6a0e0", func := "loop.example/g01115/laws.FnExactMostLucky", spec := "fnExactMostLucky", unfollowed := true, recurses := true, apart := false }
def FnExactMostLuckySaid : Prop := fnExactMostLuckyRow.holds Try.pinned (OpenSpec.ofChange fnExactMostLuckySpec)

/-- ITS FALSE NEIGHBOUR: 'it returns false'. Refute it at one input. -/
def fnExactMostLuckyWrong : ChangeSpec := { name := "fnExactMostLucky", fn := fun _ => fun
  | [d1, d2] => { results := [.lit (.bool false)], args := [d1, d2] }
  | _ => none }
def FnExactMostLuckyWrongFalsely : Prop := fnExactMostLuckyRow.holds Try.pinned (OpenSpec.ofChange fnExactMostLuckyWrong)

/-- 'laws.FnExactLevelsOfWalk': WHATEVER THE INPUT: true; the input reads as it did. -/
def fnExactLevelsOfWalkSpec : ChangeSpec := { name := "fnExactLevelsOfWalk", fn := fun _ => fun
  | [d1, d2] => { results := [.lit (.bool true)], args := [d1, d2] }
  | _ => none }
def fnExactLevelsOfWalkRow : OpenClaim := { program := "ytmajcgcnnpkhfaa", sum := "688adbdd3bc43ca7250b27977c63524dc930195655008690edcfae035fb6a0e0", func := "loop.example/g01115/laws.FnExactLevelsOfWalk", spec := "fnExactLevelsOfWalk", unfollowed := true, recurses := true, apart := false }
def FnExactLevelsOfWalkSaid : Prop := fnExactLevelsOfWalkRow.holds Try.pinned (OpenSpec.ofChange fnExactLevelsOfWalkSpec)

/-- ITS FALSE NEIGHBOUR: 'it returns false'. Refute it at one input. -/
def fnExactLevelsOfWalkWrong : ChangeSpec := { name := "fnExactLevelsOfWalk", fn := fun _ => fun
  | [d1, d2] => { results := [.lit (.bool false)], args := [d1, d2] }
  | _ => none }
def FnExactLevelsOfWalkWrongFalsely : Prop := fnExactLevelsOfWalkRow.holds Try.pinned (OpenSpec.ofChange fnExactLevelsOfWalkWrong)

/-- 'laws.FnExactTurnToSlope': WHATEVER THE INPUT: true; the input reads as it did. -/
def fnExactTurnToSlopeSpec : ChangeSpec := { name := "fnExactTurnToSlope", fn := fun _ => fun
  | [d1, d2] => { results := [.lit (.bool true)], args := [d1, d2] }
  | _ => none }
def fnExactTurnToSlopeRow : OpenClaim := { program := "ytmajcgcnnpkhfaa", sum := "688adbdd3bc43ca7250b27977c63524dc930195655008690edcfae035fb6a0e0", func := "loop.example/g01115/laws.FnExactTurnToSlope", spec := "fnExactTurnToSlope", unfollowed := true, recurses := true, apart := false }
def FnExactTurnToSlopeSaid : Prop := fnExactTurnToSlopeRow.holds Try.pinned (OpenSpec.ofChange fnExactTurnToSlopeSpec)

/-- ITS FALSE NEIGHBOUR: 'it returns false'. Refute it at one input. -/
def fnExactTurnToSlopeWrong : ChangeSpec := { name := "fnExactTurnToSlope", fn := fun _ => fun
  | [d1, d2] => { results := [.lit (.bool false)], args := [d1, d2] }
  | _ => none }
def FnExactTurnToSlopeWrongFalsely : Prop := fnExactTurnToSlopeRow.holds Try.pinned (OpenSpec.ofChange fnExactTurnToSlopeWrong)

/-- 'laws.FnExactUsualOf': WHATEVER THE INPUT: true; the input reads as it did. -/
def fnExactUsualOfSpec : ChangeSpec := { name := "fnExactUsualOf", fn := fun _ => fun
  | [d] => { results := [.lit (.bool true)], args := [d] }
  | _ => none }
def fnExactUsualOfRow : OpenClaim := { program := "ytmajcgcnnpkhfaa", sum := "688adbdd3bc43ca7250b27977c63524dc930195655008690edcfae035fb6a0e0", func := "loop.example/g01115/laws.FnExactUsualOf", spec := "fnExactUsualOf", unfollowed := true, recurses := true, apart := false }
def FnExactUsualOfSaid : Prop := fnExactUsualOfRow.holds Try.pinned (OpenSpec.ofChange fnExactUsualOfSpec)

/-- ITS FALSE NEIGHBOUR: 'it returns false'. Refute it at one input. -/
def fnExactUsualOfWrong : ChangeSpec := { name := "fnExactUsualOf", fn := fun _ => fun
  | [d] => { results := [.lit (.bool false)], args := [d] }
  | _ => none }
def FnExactUsualOfWrongFalsely : Prop := fnExactUsualOfRow.holds Try.pinned (OpenSpec.ofChange fnExactUsualOfWrong)

/-- 'laws.FnExactTurnSlopeWalk': WHATEVER THE INPUT: true; the input reads as it did. -/
def fnExactTurnSlopeWalkSpec : ChangeSpec := { name := "fnExactTurnSlopeWalk", fn := fun _ => fun
  | [d1, d2] => { results := [.lit (.bool true)], args := [d1, d2] }
  | _ => none }
def fnExactTurnSlopeWalkRow : OpenClaim := { program := "ytmajcgcnnpkhfaa", sum := "688adbdd3bc43ca7250b27977c63524dc930195655008690edcfae035fb6a0e0", func := "loop.example/g01115/laws.FnExactTurnSlopeWalk", spec := "fnExactTurnSlopeWalk", unfollowed := true, recurses := true, apart := false }
def FnExactTurnSlopeWalkSaid : Prop := fnExactTurnSlopeWalkRow.holds Try.pinned (OpenSpec.ofChange fnExactTurnSlopeWalkSpec)

/-- ITS FALSE NEIGHBOUR: 'it returns false'. Refute it at one input. -/
def fnExactTurnSlopeWalkWrong : ChangeSpec := { name := "fnExactTurnSlopeWalk", fn := fun _ => fun
  | [d1, d2] => { results := [.lit (.bool false)], args := [d1, d2] }
  | _ => none }
def FnExactTurnSlopeWalkWrongFalsely : Prop := fnExactTurnSlopeWalkRow.holds Try.pinned (OpenSpec.ofChange fnExactTurnSlopeWalkWrong)

/-- 'laws.FnExactRankSlope': WHATEVER THE INPUT: true; the input reads as it did. -/
def fnExactRankSlopeSpec : ChangeSpec := { name := "fnExactRankSlope", fn := fun _ => fun
  | [d1, d2] => { results := [.lit (.bool true)], args := [d1, d2] }
  | _ => none }
def fnExactRankSlopeRow : OpenClaim := { program := "ytmajcgcnnpkhfaa", sum := "688adbdd3bc43ca7250b27977c63524dc930195655008690edcfae035fb6a0e0", func := "loop.example/g01115/laws.FnExactRankSlope", spec := "fnExactRankSlope", unfollowed := true, recurses := true, apart := false }
def FnExactRankSlopeSaid : Prop := fnExactRankSlopeRow.holds Try.pinned (OpenSpec.ofChange fnExactRankSlopeSpec)

/-- ITS FALSE NEIGHBOUR: 'it returns false'. Refute it at one input. -/
def fnExactRankSlopeWrong : ChangeSpec := { name := "fnExactRankSlope", fn := fun _ => fun
  | [d1, d2] => { results := [.lit (.bool false)], args := [d1, d2] }
  | _ => none }
def FnExactRankSlopeWrongFalsely : Prop := fnExactRankSlopeRow.holds Try.pinned (OpenSpec.ofChange fnExactRankSlopeWrong)

/-- 'laws.FnExactBesideSlope': WHATEVER THE INPUT: true; the input reads as it did. -/
def fnExactBesideSlopeSpec : ChangeSpec := { name := "fnExactBesideSlope", fn := fun _ => fun
  | [d1, d2] => { results := [.lit (.bool true)], args := [d1, d2] }
  | _ => none }
def fnExactBesideSlopeRow : OpenClaim := { program := "ytmajcgcnnpkhfaa", sum := "688adbdd3bc43ca7250b27977c63524dc930195655008690edcfae035fb6a0e0", func := "loop.example/g01115/laws.FnExactBesideSlope", spec := "fnExactBesideSlope", unfollowed := true, recurses := true, apart := false }
def FnExactBesideSlopeSaid : Prop := fnExactBesideSlopeRow.holds Try.pinned (OpenSpec.ofChange fnExactBesideSlopeSpec)

/-- ITS FALSE NEIGHBOUR: 'it returns false'. Refute it at one input. -/
def fnExactBesideSlopeWrong : ChangeSpec := { name := "fnExactBesideSlope", fn := fun _ => fun
  | [d1, d2] => { results := [.lit (.bool false)], args := [d1, d2] }
  | _ => none }
def FnExactBesideSlopeWrongFalsely : Prop := fnExactBesideSlopeRow.holds Try.pinned (OpenSpec.ofChange fnExactBesideSlopeWrong)

/-- 'laws.FnExactFromUnitBlocks': WHATEVER THE INPUT: true; the input reads as it did. -/
def fnExactFromUnitBlocksSpec : ChangeSpec := { name := "fnExactFromUnitBlocks", fn := fun _ => fun
  | [d] => { results := [.lit (.bool true)], args := [d] }
  | _ => none }
def fnExactFromUnitBlocksRow : OpenClaim := { program := "ytmajcgcnnpkhfaa", sum := "688adbdd3bc43ca7250b27977c63524dc930195655008690edcfae035fb6a0e0", func := "loop.example/g01115/laws.FnExactFromUnitBlocks", spec := "fnExactFromUnitBlocks", unfollowed := true, recurses := true, apart := false }
def FnExactFromUnitBlocksSaid : Prop := fnExactFromUnitBlocksRow.holds Try.pinned (OpenSpec.ofChange fnExactFromUnitBlocksSpec)

/-- ITS FALSE NEIGHBOUR: 'it returns false'. Refute it at one input. -/
def fnExactFromUnitBlocksWrong : ChangeSpec := { name := "fnExactFromUnitBlocks", fn := fun _ => fun
  | [d] => { results := [.lit (.bool false)], args := [d] }
  | _ => none }
def FnExactFromUnitBlocksWrongFalsely : Prop := fnExactFromUnitBlocksRow.holds Try.pinned (OpenSpec.ofChange fnExactFromUnitBlocksWrong)

/-- 'laws.FnExactLabelOfRegion': WHATEVER THE INPUT: true; the input reads as it did. -/
def fnExactLabelOfRegionSpec : ChangeSpec := { name := "fnExactLabelOfRegion", fn := fun _ => fun
  | [d] => { results := [.lit (.bool true)], args := [d] }
  | _ => none }
def fnExactLabelOfRegionRow : OpenClaim := { program := "ytmajcgcnnpkhfaa", sum := "688adbdd3bc43ca7250b27977c63524dc930195655008690edcfae035fb6a0e0", func := "loop.example/g01115/laws.FnExactLabelOfRegion", spec := "fnExactLabelOfRegion", unfollowed := true, recurses := true, apart := false }
def FnExactLabelOfRegionSaid : Prop := fnExactLabelOfRegionRow.holds Try.pinned (OpenSpec.ofChange fnExactLabelOfRegionSpec)

/-- ITS FALSE NEIGHBOUR: 'it returns false'. Refute it at one input. -/
def fnExactLabelOfRegionWrong : ChangeSpec := { name := "fnExactLabelOfRegion", fn := fun _ => fun
  | [d] => { results := [.lit (.bool false)], args := [d] }
  | _ => none }
def FnExactLabelOfRegionWrongFalsely : Prop := fnExactLabelOfRegionRow.holds Try.pinned (OpenSpec.ofChange fnExactLabelOfRegionWrong)

/-- 'laws.FnExactPointOfRegion': WHATEVER THE INPUT: true; the input reads as it did. -/
def fnExactPointOfRegionSpec : ChangeSpec := { name := "fnExactPointOfRegion", fn := fun _ => fun
  | [d] => { results := [.lit (.bool true)], args := [d] }
  | _ => none }
def fnExactPointOfRegionRow : OpenClaim := { program := "ytmajcgcnnpkhfaa", sum := "688adbdd3bc43ca7250b27977c63524dc930195655008690edcfae035fb6a0e0", func := "loop.example/g01115/laws.FnExactPointOfRegion", spec := "fnExactPointOfRegion", unfollowed := true, recurses := true, apart := false }
def FnExactPointOfRegionSaid : Prop := fnExactPointOfRegionRow.holds Try.pinned (OpenSpec.ofChange fnExactPointOfRegionSpec)

/-- ITS FALSE NEIGHBOUR: 'it returns false'. Refute it at one input. -/
def fnExactPointOfRegionWrong : ChangeSpec := { name := "fnExactPointOfRegion", fn := fun _ => fun
  | [d] => { results := [.lit (.bool false)], args := [d] }
  | _ => none }
def FnExactPointOfRegionWrongFalsely : Prop := fnExactPointOfRegionRow.holds Try.pinned (OpenSpec.ofChange fnExactPointOfRegionWrong)

/- THE SECOND FORM. 'bulk': how many values and letters a reading holds, each counted each time it is reached (what is shared counts as often as it is met; a slice's spare places count too). A statement '..UptoSaid' is the law's where the arguments, and the package variables that the reading takes, are together of bulk at most 1048576: NARROWER than '..Said'. Prove '..Said' where nothing that the law and all that it calls make is longer than what came in: it says more and counts as full. Else prove '..UptoSaid'. A law counts once. -/
mutual
def uptoBulk {H : Type} : DataW H → Nat
  | .lit (.string bytes) => bytes.length + 1
  | .lit _ => 1
  | .nil => 1
  | .ptr d => uptoBulk d + 1
  | .slice elems spare => uptoBulkAll elems + uptoBulkAll spare + 1
  | .agg parts => uptoBulkAll parts + 1
  | .iface _ d => uptoBulk d + 1
  | .map entries => uptoBulkEntries entries + 1
  | .held _ => 1
def uptoBulkAll {H : Type} : List (DataW H) → Nat
  | [] => 0
  | d :: r => uptoBulk d + uptoBulkAll r
def uptoBulkEntries {H : Type} : List (Lit × DataW H) → Nat
  | [] => 0
  | x :: r => uptoBulkEntry x + uptoBulkEntries r
def uptoBulkEntry {H : Type} : Lit × DataW H → Nat
  | (.string bytes, d) => bytes.length + uptoBulk d + 1
  | (_, d) => uptoBulk d + 1
 end
def uptoSmall : (H : Type) → List (DataW H) → Bool := fun _ ds => decide (uptoBulkAll ds ≤ 1048576)
def OpenSpec.upto (s : _root_.Go.ChangeSpec) : _root_.Go.OpenSpec := { _root_.Go.OpenSpec.ofChange s with cond := some uptoSmall }

/-- 'laws.FnExactSlopeArea', WHERE WHAT IT READS IS OF BULK AT MOST 1048576: true; the input reads as it did. -/
def fnExactSlopeAreaUptoRow : OpenClaim := { program := "ytmajcgcnnpkhfaa", sum := "688adbdd3bc43ca7250b27977c63524dc930195655008690edcfae035fb6a0e0", func := "loop.example/g01115/laws.FnExactSlopeArea", spec := "fnExactSlopeArea", unfollowed := true, recurses := true, apart := false, narrowed := true }
def FnExactSlopeAreaUptoSaid : Prop := fnExactSlopeAreaUptoRow.holds Try.pinned (OpenSpec.upto fnExactSlopeAreaSpec)

/-- 'laws.FnExactMostLucky', WHERE WHAT IT READS IS OF BULK AT MOST 1048576: true; the input reads as it did. -/
def fnExactMostLuckyUptoRow : OpenClaim := { program := "ytmajcgcnnpkhfaa", sum := "688adbdd3bc43ca7250b27977c63524dc930195655008690edcfae035fb6a0e0", func := "loop.example/g01115/laws.FnExactMostLucky", spec := "fnExactMostLucky", unfollowed := true, recurses := true, apart := false, narrowed := true }
def FnExactMostLuckyUptoSaid : Prop := fnExactMostLuckyUptoRow.holds Try.pinned (OpenSpec.upto fnExactMostLuckySpec)

/-- 'laws.FnExactLevelsOfWalk', WHERE WHAT IT READS IS OF BULK AT MOST 1048576: true; the input reads as it did. -/
def fnExactLevelsOfWalkUptoRow : OpenClaim := { program := "ytmajcgcnnpkhfaa", sum := "688adbdd3bc43ca7250b27977c63524dc930195655008690edcfae035fb6a0e0", func := "loop.example/g01115/laws.FnExactLevelsOfWalk", spec := "fnExactLevelsOfWalk", unfollowed := true, recurses := true, apart := false, narrowed := true }
def FnExactLevelsOfWalkUptoSaid : Prop := fnExactLevelsOfWalkUptoRow.holds Try.pinned (OpenSpec.upto fnExactLevelsOfWalkSpec)

/-- 'laws.FnExactTurnToSlope', WHERE WHAT IT READS IS OF BULK AT MOST 1048576: true; the input reads as it did. -/
def fnExactTurnToSlopeUptoRow : OpenClaim := { program := "ytmajcgcnnpkhfaa", sum := "688adbdd3bc43ca7250b27977c63524dc930195655008690edcfae035fb6a0e0", func := "loop.example/g01115/laws.FnExactTurnToSlope", spec := "fnExactTurnToSlope", unfollowed := true, recurses := true, apart := false, narrowed := true }
def FnExactTurnToSlopeUptoSaid : Prop := fnExactTurnToSlopeUptoRow.holds Try.pinned (OpenSpec.upto fnExactTurnToSlopeSpec)

/-- 'laws.FnExactUsualOf', WHERE WHAT IT READS IS OF BULK AT MOST 1048576: true; the input reads as it did. -/
def fnExactUsualOfUptoRow : OpenClaim := { program := "ytmajcgcnnpkhfaa", sum := "688adbdd3bc43ca7250b27977c63524dc930195655008690edcfae035fb6a0e0", func := "loop.example/g01115/laws.FnExactUsualOf", spec := "fnExactUsualOf", unfollowed := true, recurses := true, apart := false, narrowed := true }
def FnExactUsualOfUptoSaid : Prop := fnExactUsualOfUptoRow.holds Try.pinned (OpenSpec.upto fnExactUsualOfSpec)

/-- 'laws.FnExactTurnSlopeWalk', WHERE WHAT IT READS IS OF BULK AT MOST 1048576: true; the input reads as it did. -/
def fnExactTurnSlopeWalkUptoRow : OpenClaim := { program := "ytmajcgcnnpkhfaa", sum := "688adbdd3bc43ca7250b27977c63524dc930195655008690edcfae035fb6a0e0", func := "loop.example/g01115/laws.FnExactTurnSlopeWalk", spec := "fnExactTurnSlopeWalk", unfollowed := true, recurses := true, apart := false, narrowed := true }
def FnExactTurnSlopeWalkUptoSaid : Prop := fnExactTurnSlopeWalkUptoRow.holds Try.pinned (OpenSpec.upto fnExactTurnSlopeWalkSpec)

/-- 'laws.FnExactRankSlope', WHERE WHAT IT READS IS OF BULK AT MOST 1048576: true; the input reads as it did. -/
def fnExactRankSlopeUptoRow : OpenClaim := { program := "ytmajcgcnnpkhfaa", sum := "688adbdd3bc43ca7250b27977c63524dc930195655008690edcfae035fb6a0e0", func := "loop.example/g01115/laws.FnExactRankSlope", spec := "fnExactRankSlope", unfollowed := true, recurses := true, apart := false, narrowed := true }
def FnExactRankSlopeUptoSaid : Prop := fnExactRankSlopeUptoRow.holds Try.pinned (OpenSpec.upto fnExactRankSlopeSpec)

/-- 'laws.FnExactBesideSlope', WHERE WHAT IT READS IS OF BULK AT MOST 1048576: true; the input reads as it did. -/
def fnExactBesideSlopeUptoRow : OpenClaim := { program := "ytmajcgcnnpkhfaa", sum := "688adbdd3bc43ca7250b27977c63524dc930195655008690edcfae035fb6a0e0", func := "loop.example/g01115/laws.FnExactBesideSlope", spec := "fnExactBesideSlope", unfollowed := true, recurses := true, apart := false, narrowed := true }
def FnExactBesideSlopeUptoSaid : Prop := fnExactBesideSlopeUptoRow.holds Try.pinned (OpenSpec.upto fnExactBesideSlopeSpec)

/-- 'laws.FnExactFromUnitBlocks', WHERE WHAT IT READS IS OF BULK AT MOST 1048576: true; the input reads as it did. -/
def fnExactFromUnitBlocksUptoRow : OpenClaim := { program := "ytmajcgcnnpkhfaa", sum := "688adbdd3bc43ca7250b27977c63524dc930195655008690edcfae035fb6a0e0", func := "loop.example/g01115/laws.FnExactFromUnitBlocks", spec := "fnExactFromUnitBlocks", unfollowed := true, recurses := true, apart := false, narrowed := true }
def FnExactFromUnitBlocksUptoSaid : Prop := fnExactFromUnitBlocksUptoRow.holds Try.pinned (OpenSpec.upto fnExactFromUnitBlocksSpec)

/-- 'laws.FnExactLabelOfRegion', WHERE WHAT IT READS IS OF BULK AT MOST 1048576: true; the input reads as it did. -/
def fnExactLabelOfRegionUptoRow : OpenClaim := { program := "ytmajcgcnnpkhfaa", sum := "688adbdd3bc43ca7250b27977c63524dc930195655008690edcfae035fb6a0e0", func := "loop.example/g01115/laws.FnExactLabelOfRegion", spec := "fnExactLabelOfRegion", unfollowed := true, recurses := true, apart := false, narrowed := true }
def FnExactLabelOfRegionUptoSaid : Prop := fnExactLabelOfRegionUptoRow.holds Try.pinned (OpenSpec.upto fnExactLabelOfRegionSpec)

/-- 'laws.FnExactPointOfRegion', WHERE WHAT IT READS IS OF BULK AT MOST 1048576: true; the input reads as it did. -/
def fnExactPointOfRegionUptoRow : OpenClaim := { program := "ytmajcgcnnpkhfaa", sum := "688adbdd3bc43ca7250b27977c63524dc930195655008690edcfae035fb6a0e0", func := "loop.example/g01115/laws.FnExactPointOfRegion", spec := "fnExactPointOfRegion", unfollowed := true, recurses := true, apart := false, narrowed := true }
def FnExactPointOfRegionUptoSaid : Prop := fnExactPointOfRegionUptoRow.holds Try.pinned (OpenSpec.upto fnExactPointOfRegionSpec)

end Rows
end Go.Proofs.Ytmajcgcnnpkhfaa
