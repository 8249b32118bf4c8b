/-
  No cell of these rows narrows 'for every input' (looked for: loops, veiled, ifaces, maps, wideKeys, modest, calm, conditions, laid).
  DERIVED. THE GIVEN ROWS OF THIS SEAT. 21 by the template 'for every input the law returns true; each argument reads behind the call as it read before'; 0 by the template 'total and deterministic' (their statements: YtiboikgoaihccaaTotals.lean).
  GIVEN WITH THE SEED: the statements are not yours to turn. If you find one false, say at which input.
  Laid BY PROGRAM, IN A SANDBOX (cutbox-rows.mjs): the forced cells as the released guide's own fill.sh prints them over the translation b0f034947740e120… (all of the seat's roots in one cut). By AI agents, Wed Nov 11 2026. No macro, syntax, notation, axiom, sorry.
-/
import Derived.Test.YtiboikgoaihccaaChecked
import GoSem.Claim
import GoSem.ClaimJoined
import GoSem.ClaimMapViews
import Derived.JoinedTies
import Derived.KernelRfl
namespace Go.Proofs.Ytiboikgoaihccaa
/- THE CELL 'sum', in the pinned program and in every row, IS THE sha256 OF THE DUMP (.gsa) THAT YtiboikgoaihccaaProg.lean LOADS. Nothing in Lean hashes anything: it is a label: what it is worth is what the hold of that sum in a sandbox is worth. -/
noncomputable def Try.pinned : Pinned := { name := "ytiboikgoaihccaa", sum := "b0f034947740e120b6e8bc6489f639310ba89fd275bdff75cd0c16cfe259b6ff", checked := Try.checked }
namespace Rows
def none {H : Type} : Left H := { results := [], args := [] }

/-- 'tollbarlaw21.Marks': WHATEVER THE INPUT: true; the input reads as it did. -/
def marksSpec : ChangeSpec := { name := "marks", fn := fun _ => fun
  | [d1, d2, d3] => { results := [.lit (.bool true)], args := [d1, d2, d3] }
  | _ => none }
def marksRow : OpenClaim := { program := "ytiboikgoaihccaa", sum := "b0f034947740e120b6e8bc6489f639310ba89fd275bdff75cd0c16cfe259b6ff", func := "tollbar/tollbarlaw21.Marks", spec := "marks", unfollowed := true, recurses := true, apart := false }
def MarksSaid : Prop := marksRow.holds Try.pinned (OpenSpec.ofChange marksSpec)

/-- ITS FALSE NEIGHBOUR: 'it returns false'. Refute it at one input. -/
def marksWrong : ChangeSpec := { name := "marks", fn := fun _ => fun
  | [d1, d2, d3] => { results := [.lit (.bool false)], args := [d1, d2, d3] }
  | _ => none }
def MarksWrongFalsely : Prop := marksRow.holds Try.pinned (OpenSpec.ofChange marksWrong)

/-- 'tollbarlaw21.MarkSeen': WHATEVER THE INPUT: true; the input reads as it did. -/
def markSeenSpec : ChangeSpec := { name := "markSeen", fn := fun _ => fun
  | [d1, d2, d3] => { results := [.lit (.bool true)], args := [d1, d2, d3] }
  | _ => none }
def markSeenRow : OpenClaim := { program := "ytiboikgoaihccaa", sum := "b0f034947740e120b6e8bc6489f639310ba89fd275bdff75cd0c16cfe259b6ff", func := "tollbar/tollbarlaw21.MarkSeen", spec := "markSeen", unfollowed := true, recurses := true, apart := false }
def MarkSeenSaid : Prop := markSeenRow.holds Try.pinned (OpenSpec.ofChange markSeenSpec)

/-- ITS FALSE NEIGHBOUR: 'it returns false'. Refute it at one input. -/
def markSeenWrong : ChangeSpec := { name := "markSeen", fn := fun _ => fun
  | [d1, d2, d3] => { results := [.lit (.bool false)], args := [d1, d2, d3] }
  | _ => none }
def MarkSeenWrongFalsely : Prop := markSeenRow.holds Try.pinned (OpenSpec.ofChange markSeenWrong)

/-- 'tollbarlaw21.MarkTwice': WHATEVER THE INPUT: true; the input reads as it did. -/
def markTwiceSpec : ChangeSpec := { name := "markTwice", fn := fun _ => fun
  | [d1, d2] => { results := [.lit (.bool true)], args := [d1, d2] }
  | _ => none }
def markTwiceRow : OpenClaim := { program := "ytiboikgoaihccaa", sum := "b0f034947740e120b6e8bc6489f639310ba89fd275bdff75cd0c16cfe259b6ff", func := "tollbar/tollbarlaw21.MarkTwice", spec := "markTwice", unfollowed := true, recurses := true, apart := false }
def MarkTwiceSaid : Prop := markTwiceRow.holds Try.pinned (OpenSpec.ofChange markTwiceSpec)

/-- ITS FALSE NEIGHBOUR: 'it returns false'. Refute it at one input. -/
def markTwiceWrong : ChangeSpec := { name := "markTwice", fn := fun _ => fun
  | [d1, d2] => { results := [.lit (.bool false)], args := [d1, d2] }
  | _ => none }
def MarkTwiceWrongFalsely : Prop := markTwiceRow.holds Try.pinned (OpenSpec.ofChange markTwiceWrong)

/-- 'tollbarlaw21.MarkWhole': WHATEVER THE INPUT: true; the input reads as it did. -/
def markWholeSpec : ChangeSpec := { name := "markWhole", fn := fun _ => fun
  | [d] => { results := [.lit (.bool true)], args := [d] }
  | _ => none }
def markWholeRow : OpenClaim := { program := "ytiboikgoaihccaa", sum := "b0f034947740e120b6e8bc6489f639310ba89fd275bdff75cd0c16cfe259b6ff", func := "tollbar/tollbarlaw21.MarkWhole", spec := "markWhole", unfollowed := true, recurses := true, apart := false }
def MarkWholeSaid : Prop := markWholeRow.holds Try.pinned (OpenSpec.ofChange markWholeSpec)

/-- ITS FALSE NEIGHBOUR: 'it returns false'. Refute it at one input. -/
def markWholeWrong : ChangeSpec := { name := "markWhole", fn := fun _ => fun
  | [d] => { results := [.lit (.bool false)], args := [d] }
  | _ => none }
def MarkWholeWrongFalsely : Prop := markWholeRow.holds Try.pinned (OpenSpec.ofChange markWholeWrong)

/-- 'tollbarlaw8.Cuts': WHATEVER THE INPUT: true; the input reads as it did. -/
def cutsSpec : ChangeSpec := { name := "cuts", fn := fun _ => fun
  | [d1, d2, d3, d4] => { results := [.lit (.bool true)], args := [d1, d2, d3, d4] }
  | _ => none }
def cutsRow : OpenClaim := { program := "ytiboikgoaihccaa", sum := "b0f034947740e120b6e8bc6489f639310ba89fd275bdff75cd0c16cfe259b6ff", func := "tollbar/tollbarlaw8.Cuts", spec := "cuts", apart := false }
def CutsSaid : Prop := cutsRow.holds Try.pinned (OpenSpec.ofChange cutsSpec)

/-- ITS FALSE NEIGHBOUR: 'it returns false'. Refute it at one input. -/
def cutsWrong : ChangeSpec := { name := "cuts", fn := fun _ => fun
  | [d1, d2, d3, d4] => { results := [.lit (.bool false)], args := [d1, d2, d3, d4] }
  | _ => none }
def CutsWrongFalsely : Prop := cutsRow.holds Try.pinned (OpenSpec.ofChange cutsWrong)

/-- 'tollbarlaw8.CutWorths': WHATEVER THE INPUT: true; the input reads as it did. -/
def cutWorthsSpec : ChangeSpec := { name := "cutWorths", fn := fun _ => fun
  | [d1, d2, d3, d4, d5, d6] => { results := [.lit (.bool true)], args := [d1, d2, d3, d4, d5, d6] }
  | _ => none }
def cutWorthsRow : OpenClaim := { program := "ytiboikgoaihccaa", sum := "b0f034947740e120b6e8bc6489f639310ba89fd275bdff75cd0c16cfe259b6ff", func := "tollbar/tollbarlaw8.CutWorths", spec := "cutWorths", apart := false }
def CutWorthsSaid : Prop := cutWorthsRow.holds Try.pinned (OpenSpec.ofChange cutWorthsSpec)

/-- ITS FALSE NEIGHBOUR: 'it returns false'. Refute it at one input. -/
def cutWorthsWrong : ChangeSpec := { name := "cutWorths", fn := fun _ => fun
  | [d1, d2, d3, d4, d5, d6] => { results := [.lit (.bool false)], args := [d1, d2, d3, d4, d5, d6] }
  | _ => none }
def CutWorthsWrongFalsely : Prop := cutWorthsRow.holds Try.pinned (OpenSpec.ofChange cutWorthsWrong)

/-- 'tollbarlaw8.CutPairs': WHATEVER THE INPUT: true; the input reads as it did. -/
def cutPairsSpec : ChangeSpec := { name := "cutPairs", fn := fun _ => fun
  | [d1, d2, d3, d4] => { results := [.lit (.bool true)], args := [d1, d2, d3, d4] }
  | _ => none }
def cutPairsRow : OpenClaim := { program := "ytiboikgoaihccaa", sum := "b0f034947740e120b6e8bc6489f639310ba89fd275bdff75cd0c16cfe259b6ff", func := "tollbar/tollbarlaw8.CutPairs", spec := "cutPairs", apart := false }
def CutPairsSaid : Prop := cutPairsRow.holds Try.pinned (OpenSpec.ofChange cutPairsSpec)

/-- ITS FALSE NEIGHBOUR: 'it returns false'. Refute it at one input. -/
def cutPairsWrong : ChangeSpec := { name := "cutPairs", fn := fun _ => fun
  | [d1, d2, d3, d4] => { results := [.lit (.bool false)], args := [d1, d2, d3, d4] }
  | _ => none }
def CutPairsWrongFalsely : Prop := cutPairsRow.holds Try.pinned (OpenSpec.ofChange cutPairsWrong)

/-- 'tollbarlaw8.CutEnds': WHATEVER THE INPUT: true; the input reads as it did. -/
def cutEndsSpec : ChangeSpec := { name := "cutEnds", fn := fun _ => fun
  | [d1, d2, d3] => { results := [.lit (.bool true)], args := [d1, d2, d3] }
  | _ => none }
def cutEndsRow : OpenClaim := { program := "ytiboikgoaihccaa", sum := "b0f034947740e120b6e8bc6489f639310ba89fd275bdff75cd0c16cfe259b6ff", func := "tollbar/tollbarlaw8.CutEnds", spec := "cutEnds", apart := false }
def CutEndsSaid : Prop := cutEndsRow.holds Try.pinned (OpenSpec.ofChange cutEndsSpec)

/-- ITS FALSE NEIGHBOUR: 'it returns false'. Refute it at one input. -/
def cutEndsWrong : ChangeSpec := { name := "cutEnds", fn := fun _ => fun
  | [d1, d2, d3] => { results := [.lit (.bool false)], args := [d1, d2, d3] }
  | _ => none }
def CutEndsWrongFalsely : Prop := cutEndsRow.holds Try.pinned (OpenSpec.ofChange cutEndsWrong)

/-- 'tollbarlaw16.Routes': WHATEVER THE INPUT: true; the input reads as it did. -/
def routesSpec : ChangeSpec := { name := "routes", fn := fun _ => fun
  | [d1, d2, d3, d4, d5] => { results := [.lit (.bool true)], args := [d1, d2, d3, d4, d5] }
  | _ => none }
def routesRow : OpenClaim := { program := "ytiboikgoaihccaa", sum := "b0f034947740e120b6e8bc6489f639310ba89fd275bdff75cd0c16cfe259b6ff", func := "tollbar/tollbarlaw16.Routes", spec := "routes", apart := false }
def RoutesSaid : Prop := routesRow.holds Try.pinned (OpenSpec.ofChange routesSpec)

/-- ITS FALSE NEIGHBOUR: 'it returns false'. Refute it at one input. -/
def routesWrong : ChangeSpec := { name := "routes", fn := fun _ => fun
  | [d1, d2, d3, d4, d5] => { results := [.lit (.bool false)], args := [d1, d2, d3, d4, d5] }
  | _ => none }
def RoutesWrongFalsely : Prop := routesRow.holds Try.pinned (OpenSpec.ofChange routesWrong)

/-- 'tollbarlaw16.RouteLess': WHATEVER THE INPUT: true; the input reads as it did. -/
def routeLessSpec : ChangeSpec := { name := "routeLess", fn := fun _ => fun
  | [d1, d2, d3, d4, d5, d6] => { results := [.lit (.bool true)], args := [d1, d2, d3, d4, d5, d6] }
  | _ => none }
def routeLessRow : OpenClaim := { program := "ytiboikgoaihccaa", sum := "b0f034947740e120b6e8bc6489f639310ba89fd275bdff75cd0c16cfe259b6ff", func := "tollbar/tollbarlaw16.RouteLess", spec := "routeLess", apart := false }
def RouteLessSaid : Prop := routeLessRow.holds Try.pinned (OpenSpec.ofChange routeLessSpec)

/-- ITS FALSE NEIGHBOUR: 'it returns false'. Refute it at one input. -/
def routeLessWrong : ChangeSpec := { name := "routeLess", fn := fun _ => fun
  | [d1, d2, d3, d4, d5, d6] => { results := [.lit (.bool false)], args := [d1, d2, d3, d4, d5, d6] }
  | _ => none }
def RouteLessWrongFalsely : Prop := routeLessRow.holds Try.pinned (OpenSpec.ofChange routeLessWrong)

/-- 'tollbarlaw16.RouteForms': WHATEVER THE INPUT: true; the input reads as it did. -/
def routeFormsSpec : ChangeSpec := { name := "routeForms", fn := fun _ => fun
  | [d1, d2] => { results := [.lit (.bool true)], args := [d1, d2] }
  | _ => none }
def routeFormsRow : OpenClaim := { program := "ytiboikgoaihccaa", sum := "b0f034947740e120b6e8bc6489f639310ba89fd275bdff75cd0c16cfe259b6ff", func := "tollbar/tollbarlaw16.RouteForms", spec := "routeForms", apart := false }
def RouteFormsSaid : Prop := routeFormsRow.holds Try.pinned (OpenSpec.ofChange routeFormsSpec)

/-- ITS FALSE NEIGHBOUR: 'it returns false'. Refute it at one input. -/
def routeFormsWrong : ChangeSpec := { name := "routeForms", fn := fun _ => fun
  | [d1, d2] => { results := [.lit (.bool false)], args := [d1, d2] }
  | _ => none }
def RouteFormsWrongFalsely : Prop := routeFormsRow.holds Try.pinned (OpenSpec.ofChange routeFormsWrong)

/-- 'tollbarlaw6.Walks': WHATEVER THE INPUT: true; the input reads as it did. -/
def walksSpec : ChangeSpec := { name := "walks", fn := fun _ => fun
  | [d1, d2, d3, d4] => { results := [.lit (.bool true)], args := [d1, d2, d3, d4] }
  | _ => none }
def walksRow : OpenClaim := { program := "ytiboikgoaihccaa", sum := "b0f034947740e120b6e8bc6489f639310ba89fd275bdff75cd0c16cfe259b6ff", func := "tollbar/tollbarlaw6.Walks", spec := "walks", recurses := true, apart := false }
def WalksSaid : Prop := walksRow.holds Try.pinned (OpenSpec.ofChange walksSpec)

/-- ITS FALSE NEIGHBOUR: 'it returns false'. Refute it at one input. -/
def walksWrong : ChangeSpec := { name := "walks", fn := fun _ => fun
  | [d1, d2, d3, d4] => { results := [.lit (.bool false)], args := [d1, d2, d3, d4] }
  | _ => none }
def WalksWrongFalsely : Prop := walksRow.holds Try.pinned (OpenSpec.ofChange walksWrong)

/-- 'tollbarlaw6.PathSimples': WHATEVER THE INPUT: true; the input reads as it did. -/
def pathSimplesSpec : ChangeSpec := { name := "pathSimples", fn := fun _ => fun
  | [d1, d2, d3] => { results := [.lit (.bool true)], args := [d1, d2, d3] }
  | _ => none }
def pathSimplesRow : OpenClaim := { program := "ytiboikgoaihccaa", sum := "b0f034947740e120b6e8bc6489f639310ba89fd275bdff75cd0c16cfe259b6ff", func := "tollbar/tollbarlaw6.PathSimples", spec := "pathSimples", recurses := true, apart := false }
def PathSimplesSaid : Prop := pathSimplesRow.holds Try.pinned (OpenSpec.ofChange pathSimplesSpec)

/-- ITS FALSE NEIGHBOUR: 'it returns false'. Refute it at one input. -/
def pathSimplesWrong : ChangeSpec := { name := "pathSimples", fn := fun _ => fun
  | [d1, d2, d3] => { results := [.lit (.bool false)], args := [d1, d2, d3] }
  | _ => none }
def PathSimplesWrongFalsely : Prop := pathSimplesRow.holds Try.pinned (OpenSpec.ofChange pathSimplesWrong)

/-- 'tollbarlaw6.PathLoops': WHATEVER THE INPUT: true; the input reads as it did. -/
def pathLoopsSpec : ChangeSpec := { name := "pathLoops", fn := fun _ => fun
  | [d1, d2, d3] => { results := [.lit (.bool true)], args := [d1, d2, d3] }
  | _ => none }
def pathLoopsRow : OpenClaim := { program := "ytiboikgoaihccaa", sum := "b0f034947740e120b6e8bc6489f639310ba89fd275bdff75cd0c16cfe259b6ff", func := "tollbar/tollbarlaw6.PathLoops", spec := "pathLoops", recurses := true, apart := false }
def PathLoopsSaid : Prop := pathLoopsRow.holds Try.pinned (OpenSpec.ofChange pathLoopsSpec)

/-- ITS FALSE NEIGHBOUR: 'it returns false'. Refute it at one input. -/
def pathLoopsWrong : ChangeSpec := { name := "pathLoops", fn := fun _ => fun
  | [d1, d2, d3] => { results := [.lit (.bool false)], args := [d1, d2, d3] }
  | _ => none }
def PathLoopsWrongFalsely : Prop := pathLoopsRow.holds Try.pinned (OpenSpec.ofChange pathLoopsWrong)

/-- 'tollbarlaw6.PathJoins': WHATEVER THE INPUT: true; the input reads as it did. -/
def pathJoinsSpec : ChangeSpec := { name := "pathJoins", fn := fun _ => fun
  | [d1, d2, d3, d4] => { results := [.lit (.bool true)], args := [d1, d2, d3, d4] }
  | _ => none }
def pathJoinsRow : OpenClaim := { program := "ytiboikgoaihccaa", sum := "b0f034947740e120b6e8bc6489f639310ba89fd275bdff75cd0c16cfe259b6ff", func := "tollbar/tollbarlaw6.PathJoins", spec := "pathJoins", recurses := true, apart := false }
def PathJoinsSaid : Prop := pathJoinsRow.holds Try.pinned (OpenSpec.ofChange pathJoinsSpec)

/-- ITS FALSE NEIGHBOUR: 'it returns false'. Refute it at one input. -/
def pathJoinsWrong : ChangeSpec := { name := "pathJoins", fn := fun _ => fun
  | [d1, d2, d3, d4] => { results := [.lit (.bool false)], args := [d1, d2, d3, d4] }
  | _ => none }
def PathJoinsWrongFalsely : Prop := pathJoinsRow.holds Try.pinned (OpenSpec.ofChange pathJoinsWrong)

/-- 'tollbarlaw6.PathLong': WHATEVER THE INPUT: true; the input reads as it did. -/
def pathLongSpec : ChangeSpec := { name := "pathLong", fn := fun _ => fun
  | [d] => { results := [.lit (.bool true)], args := [d] }
  | _ => none }
def pathLongRow : OpenClaim := { program := "ytiboikgoaihccaa", sum := "b0f034947740e120b6e8bc6489f639310ba89fd275bdff75cd0c16cfe259b6ff", func := "tollbar/tollbarlaw6.PathLong", spec := "pathLong", recurses := true, apart := false }
def PathLongSaid : Prop := pathLongRow.holds Try.pinned (OpenSpec.ofChange pathLongSpec)

/-- ITS FALSE NEIGHBOUR: 'it returns false'. Refute it at one input. -/
def pathLongWrong : ChangeSpec := { name := "pathLong", fn := fun _ => fun
  | [d] => { results := [.lit (.bool false)], args := [d] }
  | _ => none }
def PathLongWrongFalsely : Prop := pathLongRow.holds Try.pinned (OpenSpec.ofChange pathLongWrong)

/-- 'tollbarlaw7.Bundles': WHATEVER THE INPUT: true; the input reads as it did. -/
def bundlesSpec : ChangeSpec := { name := "bundles", fn := fun _ => fun
  | [d1, d2, d3, d4, d5] => { results := [.lit (.bool true)], args := [d1, d2, d3, d4, d5] }
  | _ => none }
def bundlesRow : OpenClaim := { program := "ytiboikgoaihccaa", sum := "b0f034947740e120b6e8bc6489f639310ba89fd275bdff75cd0c16cfe259b6ff", func := "tollbar/tollbarlaw7.Bundles", spec := "bundles", recurses := true, apart := false }
def BundlesSaid : Prop := bundlesRow.holds Try.pinned (OpenSpec.ofChange bundlesSpec)

/-- ITS FALSE NEIGHBOUR: 'it returns false'. Refute it at one input. -/
def bundlesWrong : ChangeSpec := { name := "bundles", fn := fun _ => fun
  | [d1, d2, d3, d4, d5] => { results := [.lit (.bool false)], args := [d1, d2, d3, d4, d5] }
  | _ => none }
def BundlesWrongFalsely : Prop := bundlesRow.holds Try.pinned (OpenSpec.ofChange bundlesWrong)

/-- 'tollbarlaw7.BundleFits': WHATEVER THE INPUT: true; the input reads as it did. -/
def bundleFitsSpec : ChangeSpec := { name := "bundleFits", fn := fun _ => fun
  | [d1, d2, d3] => { results := [.lit (.bool true)], args := [d1, d2, d3] }
  | _ => none }
def bundleFitsRow : OpenClaim := { program := "ytiboikgoaihccaa", sum := "b0f034947740e120b6e8bc6489f639310ba89fd275bdff75cd0c16cfe259b6ff", func := "tollbar/tollbarlaw7.BundleFits", spec := "bundleFits", recurses := true, apart := false }
def BundleFitsSaid : Prop := bundleFitsRow.holds Try.pinned (OpenSpec.ofChange bundleFitsSpec)

/-- ITS FALSE NEIGHBOUR: 'it returns false'. Refute it at one input. -/
def bundleFitsWrong : ChangeSpec := { name := "bundleFits", fn := fun _ => fun
  | [d1, d2, d3] => { results := [.lit (.bool false)], args := [d1, d2, d3] }
  | _ => none }
def BundleFitsWrongFalsely : Prop := bundleFitsRow.holds Try.pinned (OpenSpec.ofChange bundleFitsWrong)

/-- 'tollbarlaw7.BundleParts': WHATEVER THE INPUT: true; the input reads as it did. -/
def bundlePartsSpec : ChangeSpec := { name := "bundleParts", fn := fun _ => fun
  | [d1, d2, d3] => { results := [.lit (.bool true)], args := [d1, d2, d3] }
  | _ => none }
def bundlePartsRow : OpenClaim := { program := "ytiboikgoaihccaa", sum := "b0f034947740e120b6e8bc6489f639310ba89fd275bdff75cd0c16cfe259b6ff", func := "tollbar/tollbarlaw7.BundleParts", spec := "bundleParts", recurses := true, apart := false }
def BundlePartsSaid : Prop := bundlePartsRow.holds Try.pinned (OpenSpec.ofChange bundlePartsSpec)

/-- ITS FALSE NEIGHBOUR: 'it returns false'. Refute it at one input. -/
def bundlePartsWrong : ChangeSpec := { name := "bundleParts", fn := fun _ => fun
  | [d1, d2, d3] => { results := [.lit (.bool false)], args := [d1, d2, d3] }
  | _ => none }
def BundlePartsWrongFalsely : Prop := bundlePartsRow.holds Try.pinned (OpenSpec.ofChange bundlePartsWrong)

/-- 'tollbarlaw7.BundleOver': WHATEVER THE INPUT: true; the input reads as it did. -/
def bundleOverSpec : ChangeSpec := { name := "bundleOver", fn := fun _ => fun
  | [d] => { results := [.lit (.bool true)], args := [d] }
  | _ => none }
def bundleOverRow : OpenClaim := { program := "ytiboikgoaihccaa", sum := "b0f034947740e120b6e8bc6489f639310ba89fd275bdff75cd0c16cfe259b6ff", func := "tollbar/tollbarlaw7.BundleOver", spec := "bundleOver", recurses := true, apart := false }
def BundleOverSaid : Prop := bundleOverRow.holds Try.pinned (OpenSpec.ofChange bundleOverSpec)

/-- ITS FALSE NEIGHBOUR: 'it returns false'. Refute it at one input. -/
def bundleOverWrong : ChangeSpec := { name := "bundleOver", fn := fun _ => fun
  | [d] => { results := [.lit (.bool false)], args := [d] }
  | _ => none }
def BundleOverWrongFalsely : Prop := bundleOverRow.holds Try.pinned (OpenSpec.ofChange bundleOverWrong)

/-- 'tollbarlaw16.RouteEither': WHATEVER THE INPUT: true; the input reads as it did. -/
def routeEitherSpec : ChangeSpec := { name := "routeEither", fn := fun _ => fun
  | [d1, d2, d3, d4, d5] => { results := [.lit (.bool true)], args := [d1, d2, d3, d4, d5] }
  | _ => none }
def routeEitherRow : OpenClaim := { program := "ytiboikgoaihccaa", sum := "b0f034947740e120b6e8bc6489f639310ba89fd275bdff75cd0c16cfe259b6ff", func := "tollbar/tollbarlaw16.RouteEither", spec := "routeEither", recurses := true, apart := false }
def RouteEitherSaid : Prop := routeEitherRow.holds Try.pinned (OpenSpec.ofChange routeEitherSpec)

/-- ITS FALSE NEIGHBOUR: 'it returns false'. Refute it at one input. -/
def routeEitherWrong : ChangeSpec := { name := "routeEither", fn := fun _ => fun
  | [d1, d2, d3, d4, d5] => { results := [.lit (.bool false)], args := [d1, d2, d3, d4, d5] }
  | _ => none }
def RouteEitherWrongFalsely : Prop := routeEitherRow.holds Try.pinned (OpenSpec.ofChange routeEitherWrong)

/- THE SECOND FORM. 'bulk': how many values and letters a reading holds, each counted each time it is reached (what is shared counts as often as it is met; a slice's spare places count too). A statement '..UptoSaid' is the law's where the arguments, and the package variables that the reading takes, are together of bulk at most 1048576: NARROWER than '..Said'. Prove '..Said' where nothing that the law and all that it calls make is longer than what came in: it says more and counts as full. Else prove '..UptoSaid'. A law counts once. -/
mutual
def uptoBulk {H : Type} : DataW H → Nat
  | .lit (.string bytes) => bytes.length + 1
  | .lit _ => 1
  | .nil => 1
  | .ptr d => uptoBulk d + 1
  | .slice elems spare => uptoBulkAll elems + uptoBulkAll spare + 1
  | .agg parts => uptoBulkAll parts + 1
  | .iface _ d => uptoBulk d + 1
  | .map entries => uptoBulkEntries entries + 1
  | .held _ => 1
def uptoBulkAll {H : Type} : List (DataW H) → Nat
  | [] => 0
  | d :: r => uptoBulk d + uptoBulkAll r
def uptoBulkEntries {H : Type} : List (Lit × DataW H) → Nat
  | [] => 0
  | x :: r => uptoBulkEntry x + uptoBulkEntries r
def uptoBulkEntry {H : Type} : Lit × DataW H → Nat
  | (.string bytes, d) => bytes.length + uptoBulk d + 1
  | (_, d) => uptoBulk d + 1
 end
def uptoSmall : (H : Type) → List (DataW H) → Bool := fun _ ds => decide (uptoBulkAll ds ≤ 1048576)
def OpenSpec.upto (s : _root_.Go.ChangeSpec) : _root_.Go.OpenSpec := { _root_.Go.OpenSpec.ofChange s with cond := some uptoSmall }

/-- 'tollbarlaw21.Marks', WHERE WHAT IT READS IS OF BULK AT MOST 1048576: true; the input reads as it did. -/
def marksUptoRow : OpenClaim := { program := "ytiboikgoaihccaa", sum := "b0f034947740e120b6e8bc6489f639310ba89fd275bdff75cd0c16cfe259b6ff", func := "tollbar/tollbarlaw21.Marks", spec := "marks", unfollowed := true, recurses := true, apart := false, narrowed := true }
def MarksUptoSaid : Prop := marksUptoRow.holds Try.pinned (OpenSpec.upto marksSpec)

/-- 'tollbarlaw21.MarkSeen', WHERE WHAT IT READS IS OF BULK AT MOST 1048576: true; the input reads as it did. -/
def markSeenUptoRow : OpenClaim := { program := "ytiboikgoaihccaa", sum := "b0f034947740e120b6e8bc6489f639310ba89fd275bdff75cd0c16cfe259b6ff", func := "tollbar/tollbarlaw21.MarkSeen", spec := "markSeen", unfollowed := true, recurses := true, apart := false, narrowed := true }
def MarkSeenUptoSaid : Prop := markSeenUptoRow.holds Try.pinned (OpenSpec.upto markSeenSpec)

/-- 'tollbarlaw21.MarkTwice', WHERE WHAT IT READS IS OF BULK AT MOST 1048576: true; the input reads as it did. -/
def markTwiceUptoRow : OpenClaim := { program := "ytiboikgoaihccaa", sum := "b0f034947740e120b6e8bc6489f639310ba89fd275bdff75cd0c16cfe259b6ff", func := "tollbar/tollbarlaw21.MarkTwice", spec := "markTwice", unfollowed := true, recurses := true, apart := false, narrowed := true }
def MarkTwiceUptoSaid : Prop := markTwiceUptoRow.holds Try.pinned (OpenSpec.upto markTwiceSpec)

/-- 'tollbarlaw21.MarkWhole', WHERE WHAT IT READS IS OF BULK AT MOST 1048576: true; the input reads as it did. -/
def markWholeUptoRow : OpenClaim := { program := "ytiboikgoaihccaa", sum := "b0f034947740e120b6e8bc6489f639310ba89fd275bdff75cd0c16cfe259b6ff", func := "tollbar/tollbarlaw21.MarkWhole", spec := "markWhole", unfollowed := true, recurses := true, apart := false, narrowed := true }
def MarkWholeUptoSaid : Prop := markWholeUptoRow.holds Try.pinned (OpenSpec.upto markWholeSpec)

/-- 'tollbarlaw8.Cuts', WHERE WHAT IT READS IS OF BULK AT MOST 1048576: true; the input reads as it did. -/
def cutsUptoRow : OpenClaim := { program := "ytiboikgoaihccaa", sum := "b0f034947740e120b6e8bc6489f639310ba89fd275bdff75cd0c16cfe259b6ff", func := "tollbar/tollbarlaw8.Cuts", spec := "cuts", apart := false, narrowed := true }
def CutsUptoSaid : Prop := cutsUptoRow.holds Try.pinned (OpenSpec.upto cutsSpec)

/-- 'tollbarlaw8.CutWorths', WHERE WHAT IT READS IS OF BULK AT MOST 1048576: true; the input reads as it did. -/
def cutWorthsUptoRow : OpenClaim := { program := "ytiboikgoaihccaa", sum := "b0f034947740e120b6e8bc6489f639310ba89fd275bdff75cd0c16cfe259b6ff", func := "tollbar/tollbarlaw8.CutWorths", spec := "cutWorths", apart := false, narrowed := true }
def CutWorthsUptoSaid : Prop := cutWorthsUptoRow.holds Try.pinned (OpenSpec.upto cutWorthsSpec)

/-- 'tollbarlaw8.CutPairs', WHERE WHAT IT READS IS OF BULK AT MOST 1048576: true; the input reads as it did. -/
def cutPairsUptoRow : OpenClaim := { program := "ytiboikgoaihccaa", sum := "b0f034947740e120b6e8bc6489f639310ba89fd275bdff75cd0c16cfe259b6ff", func := "tollbar/tollbarlaw8.CutPairs", spec := "cutPairs", apart := false, narrowed := true }
def CutPairsUptoSaid : Prop := cutPairsUptoRow.holds Try.pinned (OpenSpec.upto cutPairsSpec)

/-- 'tollbarlaw8.CutEnds', WHERE WHAT IT READS IS OF BULK AT MOST 1048576: true; the input reads as it did. -/
def cutEndsUptoRow : OpenClaim := { program := "ytiboikgoaihccaa", sum := "b0f034947740e120b6e8bc6489f639310ba89fd275bdff75cd0c16cfe259b6ff", func := "tollbar/tollbarlaw8.CutEnds", spec := "cutEnds", apart := false, narrowed := true }
def CutEndsUptoSaid : Prop := cutEndsUptoRow.holds Try.pinned (OpenSpec.upto cutEndsSpec)

/-- 'tollbarlaw16.Routes', WHERE WHAT IT READS IS OF BULK AT MOST 1048576: true; the input reads as it did. -/
def routesUptoRow : OpenClaim := { program := "ytiboikgoaihccaa", sum := "b0f034947740e120b6e8bc6489f639310ba89fd275bdff75cd0c16cfe259b6ff", func := "tollbar/tollbarlaw16.Routes", spec := "routes", apart := false, narrowed := true }
def RoutesUptoSaid : Prop := routesUptoRow.holds Try.pinned (OpenSpec.upto routesSpec)

/-- 'tollbarlaw16.RouteLess', WHERE WHAT IT READS IS OF BULK AT MOST 1048576: true; the input reads as it did. -/
def routeLessUptoRow : OpenClaim := { program := "ytiboikgoaihccaa", sum := "b0f034947740e120b6e8bc6489f639310ba89fd275bdff75cd0c16cfe259b6ff", func := "tollbar/tollbarlaw16.RouteLess", spec := "routeLess", apart := false, narrowed := true }
def RouteLessUptoSaid : Prop := routeLessUptoRow.holds Try.pinned (OpenSpec.upto routeLessSpec)

/-- 'tollbarlaw16.RouteForms', WHERE WHAT IT READS IS OF BULK AT MOST 1048576: true; the input reads as it did. -/
def routeFormsUptoRow : OpenClaim := { program := "ytiboikgoaihccaa", sum := "b0f034947740e120b6e8bc6489f639310ba89fd275bdff75cd0c16cfe259b6ff", func := "tollbar/tollbarlaw16.RouteForms", spec := "routeForms", apart := false, narrowed := true }
def RouteFormsUptoSaid : Prop := routeFormsUptoRow.holds Try.pinned (OpenSpec.upto routeFormsSpec)

/-- 'tollbarlaw6.Walks', WHERE WHAT IT READS IS OF BULK AT MOST 1048576: true; the input reads as it did. -/
def walksUptoRow : OpenClaim := { program := "ytiboikgoaihccaa", sum := "b0f034947740e120b6e8bc6489f639310ba89fd275bdff75cd0c16cfe259b6ff", func := "tollbar/tollbarlaw6.Walks", spec := "walks", recurses := true, apart := false, narrowed := true }
def WalksUptoSaid : Prop := walksUptoRow.holds Try.pinned (OpenSpec.upto walksSpec)

/-- 'tollbarlaw6.PathSimples', WHERE WHAT IT READS IS OF BULK AT MOST 1048576: true; the input reads as it did. -/
def pathSimplesUptoRow : OpenClaim := { program := "ytiboikgoaihccaa", sum := "b0f034947740e120b6e8bc6489f639310ba89fd275bdff75cd0c16cfe259b6ff", func := "tollbar/tollbarlaw6.PathSimples", spec := "pathSimples", recurses := true, apart := false, narrowed := true }
def PathSimplesUptoSaid : Prop := pathSimplesUptoRow.holds Try.pinned (OpenSpec.upto pathSimplesSpec)

/-- 'tollbarlaw6.PathLoops', WHERE WHAT IT READS IS OF BULK AT MOST 1048576: true; the input reads as it did. -/
def pathLoopsUptoRow : OpenClaim := { program := "ytiboikgoaihccaa", sum := "b0f034947740e120b6e8bc6489f639310ba89fd275bdff75cd0c16cfe259b6ff", func := "tollbar/tollbarlaw6.PathLoops", spec := "pathLoops", recurses := true, apart := false, narrowed := true }
def PathLoopsUptoSaid : Prop := pathLoopsUptoRow.holds Try.pinned (OpenSpec.upto pathLoopsSpec)

/-- 'tollbarlaw6.PathJoins', WHERE WHAT IT READS IS OF BULK AT MOST 1048576: true; the input reads as it did. -/
def pathJoinsUptoRow : OpenClaim := { program := "ytiboikgoaihccaa", sum := "b0f034947740e120b6e8bc6489f639310ba89fd275bdff75cd0c16cfe259b6ff", func := "tollbar/tollbarlaw6.PathJoins", spec := "pathJoins", recurses := true, apart := false, narrowed := true }
def PathJoinsUptoSaid : Prop := pathJoinsUptoRow.holds Try.pinned (OpenSpec.upto pathJoinsSpec)

/-- 'tollbarlaw6.PathLong', WHERE WHAT IT READS IS OF BULK AT MOST 1048576: true; the input reads as it did. -/
def pathLongUptoRow : OpenClaim := { program := "ytiboikgoaihccaa", sum := "b0f034947740e120b6e8bc6489f639310ba89fd275bdff75cd0c16cfe259b6ff", func := "tollbar/tollbarlaw6.PathLong", spec := "pathLong", recurses := true, apart := false, narrowed := true }
def PathLongUptoSaid : Prop := pathLongUptoRow.holds Try.pinned (OpenSpec.upto pathLongSpec)

/-- 'tollbarlaw7.Bundles', WHERE WHAT IT READS IS OF BULK AT MOST 1048576: true; the input reads as it did. -/
def bundlesUptoRow : OpenClaim := { program := "ytiboikgoaihccaa", sum := "b0f034947740e120b6e8bc6489f639310ba89fd275bdff75cd0c16cfe259b6ff", func := "tollbar/tollbarlaw7.Bundles", spec := "bundles", recurses := true, apart := false, narrowed := true }
def BundlesUptoSaid : Prop := bundlesUptoRow.holds Try.pinned (OpenSpec.upto bundlesSpec)

/-- 'tollbarlaw7.BundleFits', WHERE WHAT IT READS IS OF BULK AT MOST 1048576: true; the input reads as it did. -/
def bundleFitsUptoRow : OpenClaim := { program := "ytiboikgoaihccaa", sum := "b0f034947740e120b6e8bc6489f639310ba89fd275bdff75cd0c16cfe259b6ff", func := "tollbar/tollbarlaw7.BundleFits", spec := "bundleFits", recurses := true, apart := false, narrowed := true }
def BundleFitsUptoSaid : Prop := bundleFitsUptoRow.holds Try.pinned (OpenSpec.upto bundleFitsSpec)

/-- 'tollbarlaw7.BundleParts', WHERE WHAT IT READS IS OF BULK AT MOST 1048576: true; the input reads as it did. -/
def bundlePartsUptoRow : OpenClaim := { program := "ytiboikgoaihccaa", sum := "b0f034947740e120b6e8bc6489f639310ba89fd275bdff75cd0c16cfe259b6ff", func := "tollbar/tollbarlaw7.BundleParts", spec := "bundleParts", recurses := true, apart := false, narrowed := true }
def BundlePartsUptoSaid : Prop := bundlePartsUptoRow.holds Try.pinned (OpenSpec.upto bundlePartsSpec)

/-- 'tollbarlaw7.BundleOver', WHERE WHAT IT READS IS OF BULK AT MOST 1048576: true; the input reads as it did. -/
def bundleOverUptoRow : OpenClaim := { program := "ytiboikgoaihccaa", sum := "b0f034947740e120b6e8bc6489f639310ba89fd275bdff75cd0c16cfe259b6ff", func := "tollbar/tollbarlaw7.BundleOver", spec := "bundleOver", recurses := true, apart := false, narrowed := true }
def BundleOverUptoSaid : Prop := bundleOverUptoRow.holds Try.pinned (OpenSpec.upto bundleOverSpec)

/-- 'tollbarlaw16.RouteEither', WHERE WHAT IT READS IS OF BULK AT MOST 1048576: true; the input reads as it did. -/
def routeEitherUptoRow : OpenClaim := { program := "ytiboikgoaihccaa", sum := "b0f034947740e120b6e8bc6489f639310ba89fd275bdff75cd0c16cfe259b6ff", func := "tollbar/tollbarlaw16.RouteEither", spec := "routeEither", recurses := true, apart := false, narrowed := true }
def RouteEitherUptoSaid : Prop := routeEitherUptoRow.holds Try.pinned (OpenSpec.upto routeEitherSpec)

end Rows
end Go.Proofs.Ytiboikgoaihccaa
