/-
  No cell of these rows narrows 'for every input' (looked for: loops, veiled, ifaces, maps, wideKeys, modest, calm, conditions, laid).
  DERIVED. THE GIVEN ROWS OF THIS SEAT. 27 by the template 'for every input the law returns true; each argument reads behind the call as it read before'; 0 by the template 'total and deterministic' (their statements: YtfgeengdmbabhaaTotals.lean).
  GIVEN WITH THE SEED: the statements are not yours to turn. If you find one false, say at which input.
  Laid BY PROGRAM, IN A SANDBOX (cutbox-rows.mjs): the forced cells as the released guide's own fill.sh prints them over the translation 5dd9e06dbb91e837… (all of the seat's roots in one cut). By AI agents, Wed Nov 11 2026. No macro, syntax, notation, axiom, sorry.
-/
import Derived.Test.YtfgeengdmbabhaaChecked
import GoSem.Claim
import GoSem.ClaimJoined
import GoSem.ClaimMapViews
import Derived.JoinedTies
import Derived.KernelRfl
namespace Go.Proofs.Ytfgeengdmbabhaa
/- THE CELL 'sum', in the pinned program and in every row, IS THE sha256 OF THE DUMP (.gsa) THAT YtfgeengdmbabhaaProg.lean LOADS. Nothing in Lean hashes anything: it is a label: what it is worth is what the hold of that sum in a sandbox is worth. -/
noncomputable def Try.pinned : Pinned := { name := "ytfgeengdmbabhaa", sum := "5dd9e06dbb91e8372fbf243160a99db0288267dacbaccaf238310008a32a02de", checked := Try.checked }
namespace Rows
def none {H : Type} : Left H := { results := [], args := [] }

/-- 'garmentlaw11.PolygonNormals': WHATEVER THE INPUT: true; the input reads as it did. -/
def polygonNormalsSpec : ChangeSpec := { name := "polygonNormals", fn := fun _ => fun
  | [d] => { results := [.lit (.bool true)], args := [d] }
  | _ => none }
def polygonNormalsRow : OpenClaim := { program := "ytfgeengdmbabhaa", sum := "5dd9e06dbb91e8372fbf243160a99db0288267dacbaccaf238310008a32a02de", func := "garment/garmentlaw11.PolygonNormals", spec := "polygonNormals", unfollowed := true, recurses := true, apart := false }
def PolygonNormalsSaid : Prop := polygonNormalsRow.holds Try.pinned (OpenSpec.ofChange polygonNormalsSpec)

/-- ITS FALSE NEIGHBOUR: 'it returns false'. Refute it at one input. -/
def polygonNormalsWrong : ChangeSpec := { name := "polygonNormals", fn := fun _ => fun
  | [d] => { results := [.lit (.bool false)], args := [d] }
  | _ => none }
def PolygonNormalsWrongFalsely : Prop := polygonNormalsRow.holds Try.pinned (OpenSpec.ofChange polygonNormalsWrong)

/-- 'garmentlaw11.PolygonWheres': WHATEVER THE INPUT: true; the input reads as it did. -/
def polygonWheresSpec : ChangeSpec := { name := "polygonWheres", fn := fun _ => fun
  | [d1, d2] => { results := [.lit (.bool true)], args := [d1, d2] }
  | _ => none }
def polygonWheresRow : OpenClaim := { program := "ytfgeengdmbabhaa", sum := "5dd9e06dbb91e8372fbf243160a99db0288267dacbaccaf238310008a32a02de", func := "garment/garmentlaw11.PolygonWheres", spec := "polygonWheres", unfollowed := true, recurses := true, apart := false }
def PolygonWheresSaid : Prop := polygonWheresRow.holds Try.pinned (OpenSpec.ofChange polygonWheresSpec)

/-- ITS FALSE NEIGHBOUR: 'it returns false'. Refute it at one input. -/
def polygonWheresWrong : ChangeSpec := { name := "polygonWheres", fn := fun _ => fun
  | [d1, d2] => { results := [.lit (.bool false)], args := [d1, d2] }
  | _ => none }
def PolygonWheresWrongFalsely : Prop := polygonWheresRow.holds Try.pinned (OpenSpec.ofChange polygonWheresWrong)

/-- 'garmentlaw11.PolygonNormal': WHATEVER THE INPUT: true; the input reads as it did. -/
def polygonNormalSpec : ChangeSpec := { name := "polygonNormal", fn := fun _ => fun
  | [d1, d2, d3] => { results := [.lit (.bool true)], args := [d1, d2, d3] }
  | _ => none }
def polygonNormalRow : OpenClaim := { program := "ytfgeengdmbabhaa", sum := "5dd9e06dbb91e8372fbf243160a99db0288267dacbaccaf238310008a32a02de", func := "garment/garmentlaw11.PolygonNormal", spec := "polygonNormal", unfollowed := true, recurses := true, apart := false }
def PolygonNormalSaid : Prop := polygonNormalRow.holds Try.pinned (OpenSpec.ofChange polygonNormalSpec)

/-- ITS FALSE NEIGHBOUR: 'it returns false'. Refute it at one input. -/
def polygonNormalWrong : ChangeSpec := { name := "polygonNormal", fn := fun _ => fun
  | [d1, d2, d3] => { results := [.lit (.bool false)], args := [d1, d2, d3] }
  | _ => none }
def PolygonNormalWrongFalsely : Prop := polygonNormalRow.holds Try.pinned (OpenSpec.ofChange polygonNormalWrong)

/-- 'garmentlaw11.PolygonPick': WHATEVER THE INPUT: true; the input reads as it did. -/
def polygonPickSpec : ChangeSpec := { name := "polygonPick", fn := fun _ => fun
  | [d] => { results := [.lit (.bool true)], args := [d] }
  | _ => none }
def polygonPickRow : OpenClaim := { program := "ytfgeengdmbabhaa", sum := "5dd9e06dbb91e8372fbf243160a99db0288267dacbaccaf238310008a32a02de", func := "garment/garmentlaw11.PolygonPick", spec := "polygonPick", unfollowed := true, recurses := true, apart := false }
def PolygonPickSaid : Prop := polygonPickRow.holds Try.pinned (OpenSpec.ofChange polygonPickSpec)

/-- ITS FALSE NEIGHBOUR: 'it returns false'. Refute it at one input. -/
def polygonPickWrong : ChangeSpec := { name := "polygonPick", fn := fun _ => fun
  | [d] => { results := [.lit (.bool false)], args := [d] }
  | _ => none }
def PolygonPickWrongFalsely : Prop := polygonPickRow.holds Try.pinned (OpenSpec.ofChange polygonPickWrong)

/-- 'garmentlaw11.PolygonCorners': WHATEVER THE INPUT: true; the input reads as it did. -/
def polygonCornersSpec : ChangeSpec := { name := "polygonCorners", fn := fun _ => fun
  | [d1, d2] => { results := [.lit (.bool true)], args := [d1, d2] }
  | _ => none }
def polygonCornersRow : OpenClaim := { program := "ytfgeengdmbabhaa", sum := "5dd9e06dbb91e8372fbf243160a99db0288267dacbaccaf238310008a32a02de", func := "garment/garmentlaw11.PolygonCorners", spec := "polygonCorners", unfollowed := true, recurses := true, apart := false }
def PolygonCornersSaid : Prop := polygonCornersRow.holds Try.pinned (OpenSpec.ofChange polygonCornersSpec)

/-- ITS FALSE NEIGHBOUR: 'it returns false'. Refute it at one input. -/
def polygonCornersWrong : ChangeSpec := { name := "polygonCorners", fn := fun _ => fun
  | [d1, d2] => { results := [.lit (.bool false)], args := [d1, d2] }
  | _ => none }
def PolygonCornersWrongFalsely : Prop := polygonCornersRow.holds Try.pinned (OpenSpec.ofChange polygonCornersWrong)

/-- 'garmentlaw11.PolygonConvexity': WHATEVER THE INPUT: true; the input reads as it did. -/
def polygonConvexitySpec : ChangeSpec := { name := "polygonConvexity", fn := fun _ => fun
  | [d1, d2] => { results := [.lit (.bool true)], args := [d1, d2] }
  | _ => none }
def polygonConvexityRow : OpenClaim := { program := "ytfgeengdmbabhaa", sum := "5dd9e06dbb91e8372fbf243160a99db0288267dacbaccaf238310008a32a02de", func := "garment/garmentlaw11.PolygonConvexity", spec := "polygonConvexity", unfollowed := true, recurses := true, apart := false }
def PolygonConvexitySaid : Prop := polygonConvexityRow.holds Try.pinned (OpenSpec.ofChange polygonConvexitySpec)

/-- ITS FALSE NEIGHBOUR: 'it returns false'. Refute it at one input. -/
def polygonConvexityWrong : ChangeSpec := { name := "polygonConvexity", fn := fun _ => fun
  | [d1, d2] => { results := [.lit (.bool false)], args := [d1, d2] }
  | _ => none }
def PolygonConvexityWrongFalsely : Prop := polygonConvexityRow.holds Try.pinned (OpenSpec.ofChange polygonConvexityWrong)

/-- 'garmentlaw15.OverlapPoints': WHATEVER THE INPUT: true; the input reads as it did. -/
def overlapPointsSpec : ChangeSpec := { name := "overlapPoints", fn := fun _ => fun
  | [d1, d2, d3] => { results := [.lit (.bool true)], args := [d1, d2, d3] }
  | _ => none }
def overlapPointsRow : OpenClaim := { program := "ytfgeengdmbabhaa", sum := "5dd9e06dbb91e8372fbf243160a99db0288267dacbaccaf238310008a32a02de", func := "garment/garmentlaw15.OverlapPoints", spec := "overlapPoints", unfollowed := true, recurses := true, apart := false }
def OverlapPointsSaid : Prop := overlapPointsRow.holds Try.pinned (OpenSpec.ofChange overlapPointsSpec)

/-- ITS FALSE NEIGHBOUR: 'it returns false'. Refute it at one input. -/
def overlapPointsWrong : ChangeSpec := { name := "overlapPoints", fn := fun _ => fun
  | [d1, d2, d3] => { results := [.lit (.bool false)], args := [d1, d2, d3] }
  | _ => none }
def OverlapPointsWrongFalsely : Prop := overlapPointsRow.holds Try.pinned (OpenSpec.ofChange overlapPointsWrong)

/-- 'garmentlaw11.PolygonReverse': WHATEVER THE INPUT: true; the input reads as it did. -/
def polygonReverseSpec : ChangeSpec := { name := "polygonReverse", fn := fun _ => fun
  | [d1, d2] => { results := [.lit (.bool true)], args := [d1, d2] }
  | _ => none }
def polygonReverseRow : OpenClaim := { program := "ytfgeengdmbabhaa", sum := "5dd9e06dbb91e8372fbf243160a99db0288267dacbaccaf238310008a32a02de", func := "garment/garmentlaw11.PolygonReverse", spec := "polygonReverse", unfollowed := true, recurses := true, apart := false }
def PolygonReverseSaid : Prop := polygonReverseRow.holds Try.pinned (OpenSpec.ofChange polygonReverseSpec)

/-- ITS FALSE NEIGHBOUR: 'it returns false'. Refute it at one input. -/
def polygonReverseWrong : ChangeSpec := { name := "polygonReverse", fn := fun _ => fun
  | [d1, d2] => { results := [.lit (.bool false)], args := [d1, d2] }
  | _ => none }
def PolygonReverseWrongFalsely : Prop := polygonReverseRow.holds Try.pinned (OpenSpec.ofChange polygonReverseWrong)

/-- 'garmentlaw11.PolygonChecks': WHATEVER THE INPUT: true; the input reads as it did. -/
def polygonChecksSpec : ChangeSpec := { name := "polygonChecks", fn := fun _ => fun
  | [d1, d2] => { results := [.lit (.bool true)], args := [d1, d2] }
  | _ => none }
def polygonChecksRow : OpenClaim := { program := "ytfgeengdmbabhaa", sum := "5dd9e06dbb91e8372fbf243160a99db0288267dacbaccaf238310008a32a02de", func := "garment/garmentlaw11.PolygonChecks", spec := "polygonChecks", unfollowed := true, recurses := true, apart := false }
def PolygonChecksSaid : Prop := polygonChecksRow.holds Try.pinned (OpenSpec.ofChange polygonChecksSpec)

/-- ITS FALSE NEIGHBOUR: 'it returns false'. Refute it at one input. -/
def polygonChecksWrong : ChangeSpec := { name := "polygonChecks", fn := fun _ => fun
  | [d1, d2] => { results := [.lit (.bool false)], args := [d1, d2] }
  | _ => none }
def PolygonChecksWrongFalsely : Prop := polygonChecksRow.holds Try.pinned (OpenSpec.ofChange polygonChecksWrong)

/-- 'garmentlaw15.OverlapMoves': WHATEVER THE INPUT: true; the input reads as it did. -/
def overlapMovesSpec : ChangeSpec := { name := "overlapMoves", fn := fun _ => fun
  | [d1, d2, d3, d4] => { results := [.lit (.bool true)], args := [d1, d2, d3, d4] }
  | _ => none }
def overlapMovesRow : OpenClaim := { program := "ytfgeengdmbabhaa", sum := "5dd9e06dbb91e8372fbf243160a99db0288267dacbaccaf238310008a32a02de", func := "garment/garmentlaw15.OverlapMoves", spec := "overlapMoves", unfollowed := true, recurses := true, apart := false }
def OverlapMovesSaid : Prop := overlapMovesRow.holds Try.pinned (OpenSpec.ofChange overlapMovesSpec)

/-- ITS FALSE NEIGHBOUR: 'it returns false'. Refute it at one input. -/
def overlapMovesWrong : ChangeSpec := { name := "overlapMoves", fn := fun _ => fun
  | [d1, d2, d3, d4] => { results := [.lit (.bool false)], args := [d1, d2, d3, d4] }
  | _ => none }
def OverlapMovesWrongFalsely : Prop := overlapMovesRow.holds Try.pinned (OpenSpec.ofChange overlapMovesWrong)

/-- 'garmentlaw11.PolygonMoves': WHATEVER THE INPUT: true; the input reads as it did. -/
def polygonMovesSpec : ChangeSpec := { name := "polygonMoves", fn := fun _ => fun
  | [d1, d2, d3] => { results := [.lit (.bool true)], args := [d1, d2, d3] }
  | _ => none }
def polygonMovesRow : OpenClaim := { program := "ytfgeengdmbabhaa", sum := "5dd9e06dbb91e8372fbf243160a99db0288267dacbaccaf238310008a32a02de", func := "garment/garmentlaw11.PolygonMoves", spec := "polygonMoves", unfollowed := true, recurses := true, apart := false }
def PolygonMovesSaid : Prop := polygonMovesRow.holds Try.pinned (OpenSpec.ofChange polygonMovesSpec)

/-- ITS FALSE NEIGHBOUR: 'it returns false'. Refute it at one input. -/
def polygonMovesWrong : ChangeSpec := { name := "polygonMoves", fn := fun _ => fun
  | [d1, d2, d3] => { results := [.lit (.bool false)], args := [d1, d2, d3] }
  | _ => none }
def PolygonMovesWrongFalsely : Prop := polygonMovesRow.holds Try.pinned (OpenSpec.ofChange polygonMovesWrong)

/-- 'garmentlaw13.TriangleSplits': WHATEVER THE INPUT: true; the input reads as it did. -/
def triangleSplitsSpec : ChangeSpec := { name := "triangleSplits", fn := fun _ => fun
  | [d] => { results := [.lit (.bool true)], args := [d] }
  | _ => none }
def triangleSplitsRow : OpenClaim := { program := "ytfgeengdmbabhaa", sum := "5dd9e06dbb91e8372fbf243160a99db0288267dacbaccaf238310008a32a02de", func := "garment/garmentlaw13.TriangleSplits", spec := "triangleSplits", unfollowed := true, recurses := true, apart := false }
def TriangleSplitsSaid : Prop := triangleSplitsRow.holds Try.pinned (OpenSpec.ofChange triangleSplitsSpec)

/-- ITS FALSE NEIGHBOUR: 'it returns false'. Refute it at one input. -/
def triangleSplitsWrong : ChangeSpec := { name := "triangleSplits", fn := fun _ => fun
  | [d] => { results := [.lit (.bool false)], args := [d] }
  | _ => none }
def TriangleSplitsWrongFalsely : Prop := triangleSplitsRow.holds Try.pinned (OpenSpec.ofChange triangleSplitsWrong)

/-- 'garmentlaw13.TriangleHolds': WHATEVER THE INPUT: true; the input reads as it did. -/
def triangleHoldsSpec : ChangeSpec := { name := "triangleHolds", fn := fun _ => fun
  | [d1, d2] => { results := [.lit (.bool true)], args := [d1, d2] }
  | _ => none }
def triangleHoldsRow : OpenClaim := { program := "ytfgeengdmbabhaa", sum := "5dd9e06dbb91e8372fbf243160a99db0288267dacbaccaf238310008a32a02de", func := "garment/garmentlaw13.TriangleHolds", spec := "triangleHolds", unfollowed := true, recurses := true, apart := false }
def TriangleHoldsSaid : Prop := triangleHoldsRow.holds Try.pinned (OpenSpec.ofChange triangleHoldsSpec)

/-- ITS FALSE NEIGHBOUR: 'it returns false'. Refute it at one input. -/
def triangleHoldsWrong : ChangeSpec := { name := "triangleHolds", fn := fun _ => fun
  | [d1, d2] => { results := [.lit (.bool false)], args := [d1, d2] }
  | _ => none }
def TriangleHoldsWrongFalsely : Prop := triangleHoldsRow.holds Try.pinned (OpenSpec.ofChange triangleHoldsWrong)

/-- 'garmentlaw13.TriangleApart': WHATEVER THE INPUT: true; the input reads as it did. -/
def triangleApartSpec : ChangeSpec := { name := "triangleApart", fn := fun _ => fun
  | [d] => { results := [.lit (.bool true)], args := [d] }
  | _ => none }
def triangleApartRow : OpenClaim := { program := "ytfgeengdmbabhaa", sum := "5dd9e06dbb91e8372fbf243160a99db0288267dacbaccaf238310008a32a02de", func := "garment/garmentlaw13.TriangleApart", spec := "triangleApart", unfollowed := true, recurses := true, apart := false }
def TriangleApartSaid : Prop := triangleApartRow.holds Try.pinned (OpenSpec.ofChange triangleApartSpec)

/-- ITS FALSE NEIGHBOUR: 'it returns false'. Refute it at one input. -/
def triangleApartWrong : ChangeSpec := { name := "triangleApart", fn := fun _ => fun
  | [d] => { results := [.lit (.bool false)], args := [d] }
  | _ => none }
def TriangleApartWrongFalsely : Prop := triangleApartRow.holds Try.pinned (OpenSpec.ofChange triangleApartWrong)

/-- 'garmentlaw13.TriangleAreas': WHATEVER THE INPUT: true; the input reads as it did. -/
def triangleAreasSpec : ChangeSpec := { name := "triangleAreas", fn := fun _ => fun
  | [d] => { results := [.lit (.bool true)], args := [d] }
  | _ => none }
def triangleAreasRow : OpenClaim := { program := "ytfgeengdmbabhaa", sum := "5dd9e06dbb91e8372fbf243160a99db0288267dacbaccaf238310008a32a02de", func := "garment/garmentlaw13.TriangleAreas", spec := "triangleAreas", unfollowed := true, recurses := true, apart := false }
def TriangleAreasSaid : Prop := triangleAreasRow.holds Try.pinned (OpenSpec.ofChange triangleAreasSpec)

/-- ITS FALSE NEIGHBOUR: 'it returns false'. Refute it at one input. -/
def triangleAreasWrong : ChangeSpec := { name := "triangleAreas", fn := fun _ => fun
  | [d] => { results := [.lit (.bool false)], args := [d] }
  | _ => none }
def TriangleAreasWrongFalsely : Prop := triangleAreasRow.holds Try.pinned (OpenSpec.ofChange triangleAreasWrong)

/-- 'garmentlaw13.TriangleMoves': WHATEVER THE INPUT: true; the input reads as it did. -/
def triangleMovesSpec : ChangeSpec := { name := "triangleMoves", fn := fun _ => fun
  | [d1, d2] => { results := [.lit (.bool true)], args := [d1, d2] }
  | _ => none }
def triangleMovesRow : OpenClaim := { program := "ytfgeengdmbabhaa", sum := "5dd9e06dbb91e8372fbf243160a99db0288267dacbaccaf238310008a32a02de", func := "garment/garmentlaw13.TriangleMoves", spec := "triangleMoves", unfollowed := true, recurses := true, apart := false }
def TriangleMovesSaid : Prop := triangleMovesRow.holds Try.pinned (OpenSpec.ofChange triangleMovesSpec)

/-- ITS FALSE NEIGHBOUR: 'it returns false'. Refute it at one input. -/
def triangleMovesWrong : ChangeSpec := { name := "triangleMoves", fn := fun _ => fun
  | [d1, d2] => { results := [.lit (.bool false)], args := [d1, d2] }
  | _ => none }
def TriangleMovesWrongFalsely : Prop := triangleMovesRow.holds Try.pinned (OpenSpec.ofChange triangleMovesWrong)

/-- 'garmentlaw13.TriangleConvex': WHATEVER THE INPUT: true; the input reads as it did. -/
def triangleConvexSpec : ChangeSpec := { name := "triangleConvex", fn := fun _ => fun
  | [d] => { results := [.lit (.bool true)], args := [d] }
  | _ => none }
def triangleConvexRow : OpenClaim := { program := "ytfgeengdmbabhaa", sum := "5dd9e06dbb91e8372fbf243160a99db0288267dacbaccaf238310008a32a02de", func := "garment/garmentlaw13.TriangleConvex", spec := "triangleConvex", unfollowed := true, recurses := true, apart := false }
def TriangleConvexSaid : Prop := triangleConvexRow.holds Try.pinned (OpenSpec.ofChange triangleConvexSpec)

/-- ITS FALSE NEIGHBOUR: 'it returns false'. Refute it at one input. -/
def triangleConvexWrong : ChangeSpec := { name := "triangleConvex", fn := fun _ => fun
  | [d] => { results := [.lit (.bool false)], args := [d] }
  | _ => none }
def TriangleConvexWrongFalsely : Prop := triangleConvexRow.holds Try.pinned (OpenSpec.ofChange triangleConvexWrong)

/-- 'garmentlaw13.TriangleCovers': WHATEVER THE INPUT: true; the input reads as it did. -/
def triangleCoversSpec : ChangeSpec := { name := "triangleCovers", fn := fun _ => fun
  | [d1, d2] => { results := [.lit (.bool true)], args := [d1, d2] }
  | _ => none }
def triangleCoversRow : OpenClaim := { program := "ytfgeengdmbabhaa", sum := "5dd9e06dbb91e8372fbf243160a99db0288267dacbaccaf238310008a32a02de", func := "garment/garmentlaw13.TriangleCovers", spec := "triangleCovers", unfollowed := true, recurses := true, apart := false }
def TriangleCoversSaid : Prop := triangleCoversRow.holds Try.pinned (OpenSpec.ofChange triangleCoversSpec)

/-- ITS FALSE NEIGHBOUR: 'it returns false'. Refute it at one input. -/
def triangleCoversWrong : ChangeSpec := { name := "triangleCovers", fn := fun _ => fun
  | [d1, d2] => { results := [.lit (.bool false)], args := [d1, d2] }
  | _ => none }
def TriangleCoversWrongFalsely : Prop := triangleCoversRow.holds Try.pinned (OpenSpec.ofChange triangleCoversWrong)

/-- 'garmentlaw13.TriangleOrders': WHATEVER THE INPUT: true; the input reads as it did. -/
def triangleOrdersSpec : ChangeSpec := { name := "triangleOrders", fn := fun _ => fun
  | [d1, d2, d3] => { results := [.lit (.bool true)], args := [d1, d2, d3] }
  | _ => none }
def triangleOrdersRow : OpenClaim := { program := "ytfgeengdmbabhaa", sum := "5dd9e06dbb91e8372fbf243160a99db0288267dacbaccaf238310008a32a02de", func := "garment/garmentlaw13.TriangleOrders", spec := "triangleOrders", unfollowed := true, recurses := true, apart := false }
def TriangleOrdersSaid : Prop := triangleOrdersRow.holds Try.pinned (OpenSpec.ofChange triangleOrdersSpec)

/-- ITS FALSE NEIGHBOUR: 'it returns false'. Refute it at one input. -/
def triangleOrdersWrong : ChangeSpec := { name := "triangleOrders", fn := fun _ => fun
  | [d1, d2, d3] => { results := [.lit (.bool false)], args := [d1, d2, d3] }
  | _ => none }
def TriangleOrdersWrongFalsely : Prop := triangleOrdersRow.holds Try.pinned (OpenSpec.ofChange triangleOrdersWrong)

/-- 'garmentlaw15.OverlapResults': WHATEVER THE INPUT: true; the input reads as it did. -/
def overlapResultsSpec : ChangeSpec := { name := "overlapResults", fn := fun _ => fun
  | [d1, d2] => { results := [.lit (.bool true)], args := [d1, d2] }
  | _ => none }
def overlapResultsRow : OpenClaim := { program := "ytfgeengdmbabhaa", sum := "5dd9e06dbb91e8372fbf243160a99db0288267dacbaccaf238310008a32a02de", func := "garment/garmentlaw15.OverlapResults", spec := "overlapResults", unfollowed := true, recurses := true, apart := false }
def OverlapResultsSaid : Prop := overlapResultsRow.holds Try.pinned (OpenSpec.ofChange overlapResultsSpec)

/-- ITS FALSE NEIGHBOUR: 'it returns false'. Refute it at one input. -/
def overlapResultsWrong : ChangeSpec := { name := "overlapResults", fn := fun _ => fun
  | [d1, d2] => { results := [.lit (.bool false)], args := [d1, d2] }
  | _ => none }
def OverlapResultsWrongFalsely : Prop := overlapResultsRow.holds Try.pinned (OpenSpec.ofChange overlapResultsWrong)

/-- 'garmentlaw15.OverlapHits': WHATEVER THE INPUT: true; the input reads as it did. -/
def overlapHitsSpec : ChangeSpec := { name := "overlapHits", fn := fun _ => fun
  | [d1, d2] => { results := [.lit (.bool true)], args := [d1, d2] }
  | _ => none }
def overlapHitsRow : OpenClaim := { program := "ytfgeengdmbabhaa", sum := "5dd9e06dbb91e8372fbf243160a99db0288267dacbaccaf238310008a32a02de", func := "garment/garmentlaw15.OverlapHits", spec := "overlapHits", unfollowed := true, recurses := true, apart := false }
def OverlapHitsSaid : Prop := overlapHitsRow.holds Try.pinned (OpenSpec.ofChange overlapHitsSpec)

/-- ITS FALSE NEIGHBOUR: 'it returns false'. Refute it at one input. -/
def overlapHitsWrong : ChangeSpec := { name := "overlapHits", fn := fun _ => fun
  | [d1, d2] => { results := [.lit (.bool false)], args := [d1, d2] }
  | _ => none }
def OverlapHitsWrongFalsely : Prop := overlapHitsRow.holds Try.pinned (OpenSpec.ofChange overlapHitsWrong)

/-- 'garmentlaw15.OverlapCrosses': WHATEVER THE INPUT: true; the input reads as it did. -/
def overlapCrossesSpec : ChangeSpec := { name := "overlapCrosses", fn := fun _ => fun
  | [d1, d2] => { results := [.lit (.bool true)], args := [d1, d2] }
  | _ => none }
def overlapCrossesRow : OpenClaim := { program := "ytfgeengdmbabhaa", sum := "5dd9e06dbb91e8372fbf243160a99db0288267dacbaccaf238310008a32a02de", func := "garment/garmentlaw15.OverlapCrosses", spec := "overlapCrosses", unfollowed := true, recurses := true, apart := false }
def OverlapCrossesSaid : Prop := overlapCrossesRow.holds Try.pinned (OpenSpec.ofChange overlapCrossesSpec)

/-- ITS FALSE NEIGHBOUR: 'it returns false'. Refute it at one input. -/
def overlapCrossesWrong : ChangeSpec := { name := "overlapCrosses", fn := fun _ => fun
  | [d1, d2] => { results := [.lit (.bool false)], args := [d1, d2] }
  | _ => none }
def OverlapCrossesWrongFalsely : Prop := overlapCrossesRow.holds Try.pinned (OpenSpec.ofChange overlapCrossesWrong)

/-- 'garmentlaw15.OverlapSymmetry': WHATEVER THE INPUT: true; the input reads as it did. -/
def overlapSymmetrySpec : ChangeSpec := { name := "overlapSymmetry", fn := fun _ => fun
  | [d1, d2] => { results := [.lit (.bool true)], args := [d1, d2] }
  | _ => none }
def overlapSymmetryRow : OpenClaim := { program := "ytfgeengdmbabhaa", sum := "5dd9e06dbb91e8372fbf243160a99db0288267dacbaccaf238310008a32a02de", func := "garment/garmentlaw15.OverlapSymmetry", spec := "overlapSymmetry", unfollowed := true, recurses := true, apart := false }
def OverlapSymmetrySaid : Prop := overlapSymmetryRow.holds Try.pinned (OpenSpec.ofChange overlapSymmetrySpec)

/-- ITS FALSE NEIGHBOUR: 'it returns false'. Refute it at one input. -/
def overlapSymmetryWrong : ChangeSpec := { name := "overlapSymmetry", fn := fun _ => fun
  | [d1, d2] => { results := [.lit (.bool false)], args := [d1, d2] }
  | _ => none }
def OverlapSymmetryWrongFalsely : Prop := overlapSymmetryRow.holds Try.pinned (OpenSpec.ofChange overlapSymmetryWrong)

/-- 'garmentlaw15.OverlapBoxes': WHATEVER THE INPUT: true; the input reads as it did. -/
def overlapBoxesSpec : ChangeSpec := { name := "overlapBoxes", fn := fun _ => fun
  | [d1, d2] => { results := [.lit (.bool true)], args := [d1, d2] }
  | _ => none }
def overlapBoxesRow : OpenClaim := { program := "ytfgeengdmbabhaa", sum := "5dd9e06dbb91e8372fbf243160a99db0288267dacbaccaf238310008a32a02de", func := "garment/garmentlaw15.OverlapBoxes", spec := "overlapBoxes", unfollowed := true, recurses := true, apart := false }
def OverlapBoxesSaid : Prop := overlapBoxesRow.holds Try.pinned (OpenSpec.ofChange overlapBoxesSpec)

/-- ITS FALSE NEIGHBOUR: 'it returns false'. Refute it at one input. -/
def overlapBoxesWrong : ChangeSpec := { name := "overlapBoxes", fn := fun _ => fun
  | [d1, d2] => { results := [.lit (.bool false)], args := [d1, d2] }
  | _ => none }
def OverlapBoxesWrongFalsely : Prop := overlapBoxesRow.holds Try.pinned (OpenSpec.ofChange overlapBoxesWrong)

/-- 'garmentlaw15.OverlapRects': WHATEVER THE INPUT: true; the input reads as it did. -/
def overlapRectsSpec : ChangeSpec := { name := "overlapRects", fn := fun _ => fun
  | [d1, d2, d3] => { results := [.lit (.bool true)], args := [d1, d2, d3] }
  | _ => none }
def overlapRectsRow : OpenClaim := { program := "ytfgeengdmbabhaa", sum := "5dd9e06dbb91e8372fbf243160a99db0288267dacbaccaf238310008a32a02de", func := "garment/garmentlaw15.OverlapRects", spec := "overlapRects", unfollowed := true, recurses := true, apart := false }
def OverlapRectsSaid : Prop := overlapRectsRow.holds Try.pinned (OpenSpec.ofChange overlapRectsSpec)

/-- ITS FALSE NEIGHBOUR: 'it returns false'. Refute it at one input. -/
def overlapRectsWrong : ChangeSpec := { name := "overlapRects", fn := fun _ => fun
  | [d1, d2, d3] => { results := [.lit (.bool false)], args := [d1, d2, d3] }
  | _ => none }
def OverlapRectsWrongFalsely : Prop := overlapRectsRow.holds Try.pinned (OpenSpec.ofChange overlapRectsWrong)

/-- 'garmentlaw15.OverlapTriangles': WHATEVER THE INPUT: true; the input reads as it did. -/
def overlapTrianglesSpec : ChangeSpec := { name := "overlapTriangles", fn := fun _ => fun
  | [d1, d2] => { results := [.lit (.bool true)], args := [d1, d2] }
  | _ => none }
def overlapTrianglesRow : OpenClaim := { program := "ytfgeengdmbabhaa", sum := "5dd9e06dbb91e8372fbf243160a99db0288267dacbaccaf238310008a32a02de", func := "garment/garmentlaw15.OverlapTriangles", spec := "overlapTriangles", unfollowed := true, recurses := true, apart := false }
def OverlapTrianglesSaid : Prop := overlapTrianglesRow.holds Try.pinned (OpenSpec.ofChange overlapTrianglesSpec)

/-- ITS FALSE NEIGHBOUR: 'it returns false'. Refute it at one input. -/
def overlapTrianglesWrong : ChangeSpec := { name := "overlapTriangles", fn := fun _ => fun
  | [d1, d2] => { results := [.lit (.bool false)], args := [d1, d2] }
  | _ => none }
def OverlapTrianglesWrongFalsely : Prop := overlapTrianglesRow.holds Try.pinned (OpenSpec.ofChange overlapTrianglesWrong)

/-- 'garmentlaw15.OverlapCuts': WHATEVER THE INPUT: true; the input reads as it did. -/
def overlapCutsSpec : ChangeSpec := { name := "overlapCuts", fn := fun _ => fun
  | [d1, d2] => { results := [.lit (.bool true)], args := [d1, d2] }
  | _ => none }
def overlapCutsRow : OpenClaim := { program := "ytfgeengdmbabhaa", sum := "5dd9e06dbb91e8372fbf243160a99db0288267dacbaccaf238310008a32a02de", func := "garment/garmentlaw15.OverlapCuts", spec := "overlapCuts", unfollowed := true, recurses := true, apart := false }
def OverlapCutsSaid : Prop := overlapCutsRow.holds Try.pinned (OpenSpec.ofChange overlapCutsSpec)

/-- ITS FALSE NEIGHBOUR: 'it returns false'. Refute it at one input. -/
def overlapCutsWrong : ChangeSpec := { name := "overlapCuts", fn := fun _ => fun
  | [d1, d2] => { results := [.lit (.bool false)], args := [d1, d2] }
  | _ => none }
def OverlapCutsWrongFalsely : Prop := overlapCutsRow.holds Try.pinned (OpenSpec.ofChange overlapCutsWrong)

/- THE SECOND FORM. 'bulk': how many values and letters a reading holds, each counted each time it is reached (what is shared counts as often as it is met; a slice's spare places count too). A statement '..UptoSaid' is the law's where the arguments, and the package variables that the reading takes, are together of bulk at most 1048576: NARROWER than '..Said'. Prove '..Said' where nothing that the law and all that it calls make is longer than what came in: it says more and counts as full. Else prove '..UptoSaid'. A law counts once. -/
mutual
def uptoBulk {H : Type} : DataW H → Nat
  | .lit (.string bytes) => bytes.length + 1
  | .lit _ => 1
  | .nil => 1
  | .ptr d => uptoBulk d + 1
  | .slice elems spare => uptoBulkAll elems + uptoBulkAll spare + 1
  | .agg parts => uptoBulkAll parts + 1
  | .iface _ d => uptoBulk d + 1
  | .map entries => uptoBulkEntries entries + 1
  | .held _ => 1
def uptoBulkAll {H : Type} : List (DataW H) → Nat
  | [] => 0
  | d :: r => uptoBulk d + uptoBulkAll r
def uptoBulkEntries {H : Type} : List (Lit × DataW H) → Nat
  | [] => 0
  | x :: r => uptoBulkEntry x + uptoBulkEntries r
def uptoBulkEntry {H : Type} : Lit × DataW H → Nat
  | (.string bytes, d) => bytes.length + uptoBulk d + 1
  | (_, d) => uptoBulk d + 1
 end
def uptoSmall : (H : Type) → List (DataW H) → Bool := fun _ ds => decide (uptoBulkAll ds ≤ 1048576)
def OpenSpec.upto (s : _root_.Go.ChangeSpec) : _root_.Go.OpenSpec := { _root_.Go.OpenSpec.ofChange s with cond := some uptoSmall }

/-- 'garmentlaw11.PolygonNormals', WHERE WHAT IT READS IS OF BULK AT MOST 1048576: true; the input reads as it did. -/
def polygonNormalsUptoRow : OpenClaim := { program := "ytfgeengdmbabhaa", sum := "5dd9e06dbb91e8372fbf243160a99db0288267dacbaccaf238310008a32a02de", func := "garment/garmentlaw11.PolygonNormals", spec := "polygonNormals", unfollowed := true, recurses := true, apart := false, narrowed := true }
def PolygonNormalsUptoSaid : Prop := polygonNormalsUptoRow.holds Try.pinned (OpenSpec.upto polygonNormalsSpec)

/-- 'garmentlaw11.PolygonWheres', WHERE WHAT IT READS IS OF BULK AT MOST 1048576: true; the input reads as it did. -/
def polygonWheresUptoRow : OpenClaim := { program := "ytfgeengdmbabhaa", sum := "5dd9e06dbb91e8372fbf243160a99db0288267dacbaccaf238310008a32a02de", func := "garment/garmentlaw11.PolygonWheres", spec := "polygonWheres", unfollowed := true, recurses := true, apart := false, narrowed := true }
def PolygonWheresUptoSaid : Prop := polygonWheresUptoRow.holds Try.pinned (OpenSpec.upto polygonWheresSpec)

/-- 'garmentlaw11.PolygonNormal', WHERE WHAT IT READS IS OF BULK AT MOST 1048576: true; the input reads as it did. -/
def polygonNormalUptoRow : OpenClaim := { program := "ytfgeengdmbabhaa", sum := "5dd9e06dbb91e8372fbf243160a99db0288267dacbaccaf238310008a32a02de", func := "garment/garmentlaw11.PolygonNormal", spec := "polygonNormal", unfollowed := true, recurses := true, apart := false, narrowed := true }
def PolygonNormalUptoSaid : Prop := polygonNormalUptoRow.holds Try.pinned (OpenSpec.upto polygonNormalSpec)

/-- 'garmentlaw11.PolygonPick', WHERE WHAT IT READS IS OF BULK AT MOST 1048576: true; the input reads as it did. -/
def polygonPickUptoRow : OpenClaim := { program := "ytfgeengdmbabhaa", sum := "5dd9e06dbb91e8372fbf243160a99db0288267dacbaccaf238310008a32a02de", func := "garment/garmentlaw11.PolygonPick", spec := "polygonPick", unfollowed := true, recurses := true, apart := false, narrowed := true }
def PolygonPickUptoSaid : Prop := polygonPickUptoRow.holds Try.pinned (OpenSpec.upto polygonPickSpec)

/-- 'garmentlaw11.PolygonCorners', WHERE WHAT IT READS IS OF BULK AT MOST 1048576: true; the input reads as it did. -/
def polygonCornersUptoRow : OpenClaim := { program := "ytfgeengdmbabhaa", sum := "5dd9e06dbb91e8372fbf243160a99db0288267dacbaccaf238310008a32a02de", func := "garment/garmentlaw11.PolygonCorners", spec := "polygonCorners", unfollowed := true, recurses := true, apart := false, narrowed := true }
def PolygonCornersUptoSaid : Prop := polygonCornersUptoRow.holds Try.pinned (OpenSpec.upto polygonCornersSpec)

/-- 'garmentlaw11.PolygonConvexity', WHERE WHAT IT READS IS OF BULK AT MOST 1048576: true; the input reads as it did. -/
def polygonConvexityUptoRow : OpenClaim := { program := "ytfgeengdmbabhaa", sum := "5dd9e06dbb91e8372fbf243160a99db0288267dacbaccaf238310008a32a02de", func := "garment/garmentlaw11.PolygonConvexity", spec := "polygonConvexity", unfollowed := true, recurses := true, apart := false, narrowed := true }
def PolygonConvexityUptoSaid : Prop := polygonConvexityUptoRow.holds Try.pinned (OpenSpec.upto polygonConvexitySpec)

/-- 'garmentlaw15.OverlapPoints', WHERE WHAT IT READS IS OF BULK AT MOST 1048576: true; the input reads as it did. -/
def overlapPointsUptoRow : OpenClaim := { program := "ytfgeengdmbabhaa", sum := "5dd9e06dbb91e8372fbf243160a99db0288267dacbaccaf238310008a32a02de", func := "garment/garmentlaw15.OverlapPoints", spec := "overlapPoints", unfollowed := true, recurses := true, apart := false, narrowed := true }
def OverlapPointsUptoSaid : Prop := overlapPointsUptoRow.holds Try.pinned (OpenSpec.upto overlapPointsSpec)

/-- 'garmentlaw11.PolygonReverse', WHERE WHAT IT READS IS OF BULK AT MOST 1048576: true; the input reads as it did. -/
def polygonReverseUptoRow : OpenClaim := { program := "ytfgeengdmbabhaa", sum := "5dd9e06dbb91e8372fbf243160a99db0288267dacbaccaf238310008a32a02de", func := "garment/garmentlaw11.PolygonReverse", spec := "polygonReverse", unfollowed := true, recurses := true, apart := false, narrowed := true }
def PolygonReverseUptoSaid : Prop := polygonReverseUptoRow.holds Try.pinned (OpenSpec.upto polygonReverseSpec)

/-- 'garmentlaw11.PolygonChecks', WHERE WHAT IT READS IS OF BULK AT MOST 1048576: true; the input reads as it did. -/
def polygonChecksUptoRow : OpenClaim := { program := "ytfgeengdmbabhaa", sum := "5dd9e06dbb91e8372fbf243160a99db0288267dacbaccaf238310008a32a02de", func := "garment/garmentlaw11.PolygonChecks", spec := "polygonChecks", unfollowed := true, recurses := true, apart := false, narrowed := true }
def PolygonChecksUptoSaid : Prop := polygonChecksUptoRow.holds Try.pinned (OpenSpec.upto polygonChecksSpec)

/-- 'garmentlaw15.OverlapMoves', WHERE WHAT IT READS IS OF BULK AT MOST 1048576: true; the input reads as it did. -/
def overlapMovesUptoRow : OpenClaim := { program := "ytfgeengdmbabhaa", sum := "5dd9e06dbb91e8372fbf243160a99db0288267dacbaccaf238310008a32a02de", func := "garment/garmentlaw15.OverlapMoves", spec := "overlapMoves", unfollowed := true, recurses := true, apart := false, narrowed := true }
def OverlapMovesUptoSaid : Prop := overlapMovesUptoRow.holds Try.pinned (OpenSpec.upto overlapMovesSpec)

/-- 'garmentlaw11.PolygonMoves', WHERE WHAT IT READS IS OF BULK AT MOST 1048576: true; the input reads as it did. -/
def polygonMovesUptoRow : OpenClaim := { program := "ytfgeengdmbabhaa", sum := "5dd9e06dbb91e8372fbf243160a99db0288267dacbaccaf238310008a32a02de", func := "garment/garmentlaw11.PolygonMoves", spec := "polygonMoves", unfollowed := true, recurses := true, apart := false, narrowed := true }
def PolygonMovesUptoSaid : Prop := polygonMovesUptoRow.holds Try.pinned (OpenSpec.upto polygonMovesSpec)

/-- 'garmentlaw13.TriangleSplits', WHERE WHAT IT READS IS OF BULK AT MOST 1048576: true; the input reads as it did. -/
def triangleSplitsUptoRow : OpenClaim := { program := "ytfgeengdmbabhaa", sum := "5dd9e06dbb91e8372fbf243160a99db0288267dacbaccaf238310008a32a02de", func := "garment/garmentlaw13.TriangleSplits", spec := "triangleSplits", unfollowed := true, recurses := true, apart := false, narrowed := true }
def TriangleSplitsUptoSaid : Prop := triangleSplitsUptoRow.holds Try.pinned (OpenSpec.upto triangleSplitsSpec)

/-- 'garmentlaw13.TriangleHolds', WHERE WHAT IT READS IS OF BULK AT MOST 1048576: true; the input reads as it did. -/
def triangleHoldsUptoRow : OpenClaim := { program := "ytfgeengdmbabhaa", sum := "5dd9e06dbb91e8372fbf243160a99db0288267dacbaccaf238310008a32a02de", func := "garment/garmentlaw13.TriangleHolds", spec := "triangleHolds", unfollowed := true, recurses := true, apart := false, narrowed := true }
def TriangleHoldsUptoSaid : Prop := triangleHoldsUptoRow.holds Try.pinned (OpenSpec.upto triangleHoldsSpec)

/-- 'garmentlaw13.TriangleApart', WHERE WHAT IT READS IS OF BULK AT MOST 1048576: true; the input reads as it did. -/
def triangleApartUptoRow : OpenClaim := { program := "ytfgeengdmbabhaa", sum := "5dd9e06dbb91e8372fbf243160a99db0288267dacbaccaf238310008a32a02de", func := "garment/garmentlaw13.TriangleApart", spec := "triangleApart", unfollowed := true, recurses := true, apart := false, narrowed := true }
def TriangleApartUptoSaid : Prop := triangleApartUptoRow.holds Try.pinned (OpenSpec.upto triangleApartSpec)

/-- 'garmentlaw13.TriangleAreas', WHERE WHAT IT READS IS OF BULK AT MOST 1048576: true; the input reads as it did. -/
def triangleAreasUptoRow : OpenClaim := { program := "ytfgeengdmbabhaa", sum := "5dd9e06dbb91e8372fbf243160a99db0288267dacbaccaf238310008a32a02de", func := "garment/garmentlaw13.TriangleAreas", spec := "triangleAreas", unfollowed := true, recurses := true, apart := false, narrowed := true }
def TriangleAreasUptoSaid : Prop := triangleAreasUptoRow.holds Try.pinned (OpenSpec.upto triangleAreasSpec)

/-- 'garmentlaw13.TriangleMoves', WHERE WHAT IT READS IS OF BULK AT MOST 1048576: true; the input reads as it did. -/
def triangleMovesUptoRow : OpenClaim := { program := "ytfgeengdmbabhaa", sum := "5dd9e06dbb91e8372fbf243160a99db0288267dacbaccaf238310008a32a02de", func := "garment/garmentlaw13.TriangleMoves", spec := "triangleMoves", unfollowed := true, recurses := true, apart := false, narrowed := true }
def TriangleMovesUptoSaid : Prop := triangleMovesUptoRow.holds Try.pinned (OpenSpec.upto triangleMovesSpec)

/-- 'garmentlaw13.TriangleConvex', WHERE WHAT IT READS IS OF BULK AT MOST 1048576: true; the input reads as it did. -/
def triangleConvexUptoRow : OpenClaim := { program := "ytfgeengdmbabhaa", sum := "5dd9e06dbb91e8372fbf243160a99db0288267dacbaccaf238310008a32a02de", func := "garment/garmentlaw13.TriangleConvex", spec := "triangleConvex", unfollowed := true, recurses := true, apart := false, narrowed := true }
def TriangleConvexUptoSaid : Prop := triangleConvexUptoRow.holds Try.pinned (OpenSpec.upto triangleConvexSpec)

/-- 'garmentlaw13.TriangleCovers', WHERE WHAT IT READS IS OF BULK AT MOST 1048576: true; the input reads as it did. -/
def triangleCoversUptoRow : OpenClaim := { program := "ytfgeengdmbabhaa", sum := "5dd9e06dbb91e8372fbf243160a99db0288267dacbaccaf238310008a32a02de", func := "garment/garmentlaw13.TriangleCovers", spec := "triangleCovers", unfollowed := true, recurses := true, apart := false, narrowed := true }
def TriangleCoversUptoSaid : Prop := triangleCoversUptoRow.holds Try.pinned (OpenSpec.upto triangleCoversSpec)

/-- 'garmentlaw13.TriangleOrders', WHERE WHAT IT READS IS OF BULK AT MOST 1048576: true; the input reads as it did. -/
def triangleOrdersUptoRow : OpenClaim := { program := "ytfgeengdmbabhaa", sum := "5dd9e06dbb91e8372fbf243160a99db0288267dacbaccaf238310008a32a02de", func := "garment/garmentlaw13.TriangleOrders", spec := "triangleOrders", unfollowed := true, recurses := true, apart := false, narrowed := true }
def TriangleOrdersUptoSaid : Prop := triangleOrdersUptoRow.holds Try.pinned (OpenSpec.upto triangleOrdersSpec)

/-- 'garmentlaw15.OverlapResults', WHERE WHAT IT READS IS OF BULK AT MOST 1048576: true; the input reads as it did. -/
def overlapResultsUptoRow : OpenClaim := { program := "ytfgeengdmbabhaa", sum := "5dd9e06dbb91e8372fbf243160a99db0288267dacbaccaf238310008a32a02de", func := "garment/garmentlaw15.OverlapResults", spec := "overlapResults", unfollowed := true, recurses := true, apart := false, narrowed := true }
def OverlapResultsUptoSaid : Prop := overlapResultsUptoRow.holds Try.pinned (OpenSpec.upto overlapResultsSpec)

/-- 'garmentlaw15.OverlapHits', WHERE WHAT IT READS IS OF BULK AT MOST 1048576: true; the input reads as it did. -/
def overlapHitsUptoRow : OpenClaim := { program := "ytfgeengdmbabhaa", sum := "5dd9e06dbb91e8372fbf243160a99db0288267dacbaccaf238310008a32a02de", func := "garment/garmentlaw15.OverlapHits", spec := "overlapHits", unfollowed := true, recurses := true, apart := false, narrowed := true }
def OverlapHitsUptoSaid : Prop := overlapHitsUptoRow.holds Try.pinned (OpenSpec.upto overlapHitsSpec)

/-- 'garmentlaw15.OverlapCrosses', WHERE WHAT IT READS IS OF BULK AT MOST 1048576: true; the input reads as it did. -/
def overlapCrossesUptoRow : OpenClaim := { program := "ytfgeengdmbabhaa", sum := "5dd9e06dbb91e8372fbf243160a99db0288267dacbaccaf238310008a32a02de", func := "garment/garmentlaw15.OverlapCrosses", spec := "overlapCrosses", unfollowed := true, recurses := true, apart := false, narrowed := true }
def OverlapCrossesUptoSaid : Prop := overlapCrossesUptoRow.holds Try.pinned (OpenSpec.upto overlapCrossesSpec)

/-- 'garmentlaw15.OverlapSymmetry', WHERE WHAT IT READS IS OF BULK AT MOST 1048576: true; the input reads as it did. -/
def overlapSymmetryUptoRow : OpenClaim := { program := "ytfgeengdmbabhaa", sum := "5dd9e06dbb91e8372fbf243160a99db0288267dacbaccaf238310008a32a02de", func := "garment/garmentlaw15.OverlapSymmetry", spec := "overlapSymmetry", unfollowed := true, recurses := true, apart := false, narrowed := true }
def OverlapSymmetryUptoSaid : Prop := overlapSymmetryUptoRow.holds Try.pinned (OpenSpec.upto overlapSymmetrySpec)

/-- 'garmentlaw15.OverlapBoxes', WHERE WHAT IT READS IS OF BULK AT MOST 1048576: true; the input reads as it did. -/
def overlapBoxesUptoRow : OpenClaim := { program := "ytfgeengdmbabhaa", sum := "5dd9e06dbb91e8372fbf243160a99db0288267dacbaccaf238310008a32a02de", func := "garment/garmentlaw15.OverlapBoxes", spec := "overlapBoxes", unfollowed := true, recurses := true, apart := false, narrowed := true }
def OverlapBoxesUptoSaid : Prop := overlapBoxesUptoRow.holds Try.pinned (OpenSpec.upto overlapBoxesSpec)

/-- 'garmentlaw15.OverlapRects', WHERE WHAT IT READS IS OF BULK AT MOST 1048576: true; the input reads as it did. -/
def overlapRectsUptoRow : OpenClaim := { program := "ytfgeengdmbabhaa", sum := "5dd9e06dbb91e8372fbf243160a99db0288267dacbaccaf238310008a32a02de", func := "garment/garmentlaw15.OverlapRects", spec := "overlapRects", unfollowed := true, recurses := true, apart := false, narrowed := true }
def OverlapRectsUptoSaid : Prop := overlapRectsUptoRow.holds Try.pinned (OpenSpec.upto overlapRectsSpec)

/-- 'garmentlaw15.OverlapTriangles', WHERE WHAT IT READS IS OF BULK AT MOST 1048576: true; the input reads as it did. -/
def overlapTrianglesUptoRow : OpenClaim := { program := "ytfgeengdmbabhaa", sum := "5dd9e06dbb91e8372fbf243160a99db0288267dacbaccaf238310008a32a02de", func := "garment/garmentlaw15.OverlapTriangles", spec := "overlapTriangles", unfollowed := true, recurses := true, apart := false, narrowed := true }
def OverlapTrianglesUptoSaid : Prop := overlapTrianglesUptoRow.holds Try.pinned (OpenSpec.upto overlapTrianglesSpec)

/-- 'garmentlaw15.OverlapCuts', WHERE WHAT IT READS IS OF BULK AT MOST 1048576: true; the input reads as it did. -/
def overlapCutsUptoRow : OpenClaim := { program := "ytfgeengdmbabhaa", sum := "5dd9e06dbb91e8372fbf243160a99db0288267dacbaccaf238310008a32a02de", func := "garment/garmentlaw15.OverlapCuts", spec := "overlapCuts", unfollowed := true, recurses := true, apart := false, narrowed := true }
def OverlapCutsUptoSaid : Prop := overlapCutsUptoRow.holds Try.pinned (OpenSpec.upto overlapCutsSpec)

end Rows
end Go.Proofs.Ytfgeengdmbabhaa
