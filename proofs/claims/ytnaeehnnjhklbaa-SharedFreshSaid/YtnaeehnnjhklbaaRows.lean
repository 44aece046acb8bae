/-
  No cell of these rows narrows 'for every input' (looked for: loops, veiled, ifaces, maps, wideKeys, modest, calm, conditions, laid).
  DERIVED. THE GIVEN ROWS OF THIS SEAT. 16 by the template 'for every input the law returns true; each argument reads behind the call as it read before'; 0 by the template 'total and deterministic' (their statements: YtnaeehnnjhklbaaTotals.lean).
  GIVEN WITH THE SEED: the statements are not yours to turn. If you find one false, say at which input.
  Laid BY PROGRAM, IN A SANDBOX (cutbox-rows.mjs): the forced cells as the released guide's own fill.sh prints them over the translation 71593bbd2b35a0f7… (all of the seat's roots in one cut). By AI agents, Wed Nov 11 2026. No macro, syntax, notation, axiom, sorry.
-/
import Derived.Test.YtnaeehnnjhklbaaChecked
import GoSem.Claim
import GoSem.ClaimJoined
import GoSem.ClaimMapViews
import Derived.JoinedTies
import Derived.KernelRfl
namespace Go.Proofs.Ytnaeehnnjhklbaa
/- THE CELL 'sum', in the pinned program and in every row, IS THE sha256 OF THE DUMP (.gsa) THAT YtnaeehnnjhklbaaProg.lean LOADS. Nothing in Lean hashes anything: it is a label: what it is worth is what the hold of that sum in a sandbox is worth. -/
noncomputable def Try.pinned : Pinned := { name := "ytnaeehnnjhklbaa", sum := "71593bbd2b35a0f7fae51f25c33400a6025e91160110fce3cfeca4cedc5ff478", checked := Try.checked }
namespace Rows
def none {H : Type} : Left H := { results := [], args := [] }

/-- 'lexiconlaw4.MeterPlays': WHATEVER THE INPUT: true; the input reads as it did. -/
def meterPlaysSpec : ChangeSpec := { name := "meterPlays", fn := fun _ => fun
  | [d] => { results := [.lit (.bool true)], args := [d] }
  | _ => none }
def meterPlaysRow : OpenClaim := { program := "ytnaeehnnjhklbaa", sum := "71593bbd2b35a0f7fae51f25c33400a6025e91160110fce3cfeca4cedc5ff478", func := "lexicon/lexiconlaw4.MeterPlays", spec := "meterPlays", inPlace := ["sync/atomic.AddInt64", "sync/atomic.LoadInt64", "sync/atomic.SwapInt64"], unfollowed := true, recurses := true, apart := false }
def MeterPlaysSaid : Prop := meterPlaysRow.holds Try.pinned (OpenSpec.ofChange meterPlaysSpec)

/-- ITS FALSE NEIGHBOUR: 'it returns false'. Refute it at one input. -/
def meterPlaysWrong : ChangeSpec := { name := "meterPlays", fn := fun _ => fun
  | [d] => { results := [.lit (.bool false)], args := [d] }
  | _ => none }
def MeterPlaysWrongFalsely : Prop := meterPlaysRow.holds Try.pinned (OpenSpec.ofChange meterPlaysWrong)

/-- 'lexiconlaw4.MeterTwo': WHATEVER THE INPUT: true; the input reads as it did. -/
def meterTwoSpec : ChangeSpec := { name := "meterTwo", fn := fun _ => fun
  | [d1, d2] => { results := [.lit (.bool true)], args := [d1, d2] }
  | _ => none }
def meterTwoRow : OpenClaim := { program := "ytnaeehnnjhklbaa", sum := "71593bbd2b35a0f7fae51f25c33400a6025e91160110fce3cfeca4cedc5ff478", func := "lexicon/lexiconlaw4.MeterTwo", spec := "meterTwo", inPlace := ["sync/atomic.AddInt64", "sync/atomic.LoadInt64", "sync/atomic.SwapInt64"], unfollowed := true, recurses := true, apart := false }
def MeterTwoSaid : Prop := meterTwoRow.holds Try.pinned (OpenSpec.ofChange meterTwoSpec)

/-- ITS FALSE NEIGHBOUR: 'it returns false'. Refute it at one input. -/
def meterTwoWrong : ChangeSpec := { name := "meterTwo", fn := fun _ => fun
  | [d1, d2] => { results := [.lit (.bool false)], args := [d1, d2] }
  | _ => none }
def MeterTwoWrongFalsely : Prop := meterTwoRow.holds Try.pinned (OpenSpec.ofChange meterTwoWrong)

/-- 'lexiconlaw4.MeterNothing': WHATEVER THE INPUT: true; the input reads as it did. -/
def meterNothingSpec : ChangeSpec := { name := "meterNothing", fn := fun _ => fun
  | [d] => { results := [.lit (.bool true)], args := [d] }
  | _ => none }
def meterNothingRow : OpenClaim := { program := "ytnaeehnnjhklbaa", sum := "71593bbd2b35a0f7fae51f25c33400a6025e91160110fce3cfeca4cedc5ff478", func := "lexicon/lexiconlaw4.MeterNothing", spec := "meterNothing", inPlace := ["sync/atomic.AddInt64", "sync/atomic.LoadInt64", "sync/atomic.SwapInt64"], unfollowed := true, recurses := true, apart := false }
def MeterNothingSaid : Prop := meterNothingRow.holds Try.pinned (OpenSpec.ofChange meterNothingSpec)

/-- ITS FALSE NEIGHBOUR: 'it returns false'. Refute it at one input. -/
def meterNothingWrong : ChangeSpec := { name := "meterNothing", fn := fun _ => fun
  | [d] => { results := [.lit (.bool false)], args := [d] }
  | _ => none }
def MeterNothingWrongFalsely : Prop := meterNothingRow.holds Try.pinned (OpenSpec.ofChange meterNothingWrong)

/-- 'lexiconlaw5.TrailGoes': WHATEVER THE INPUT: true; the input reads as it did. -/
def trailGoesSpec : ChangeSpec := { name := "trailGoes", fn := fun _ => fun
  | [d1, d2, d3] => { results := [.lit (.bool true)], args := [d1, d2, d3] }
  | _ => none }
def trailGoesRow : OpenClaim := { program := "ytnaeehnnjhklbaa", sum := "71593bbd2b35a0f7fae51f25c33400a6025e91160110fce3cfeca4cedc5ff478", func := "lexicon/lexiconlaw5.TrailGoes", spec := "trailGoes", unfollowed := true, recurses := true, apart := false }
def TrailGoesSaid : Prop := trailGoesRow.holds Try.pinned (OpenSpec.ofChange trailGoesSpec)

/-- ITS FALSE NEIGHBOUR: 'it returns false'. Refute it at one input. -/
def trailGoesWrong : ChangeSpec := { name := "trailGoes", fn := fun _ => fun
  | [d1, d2, d3] => { results := [.lit (.bool false)], args := [d1, d2, d3] }
  | _ => none }
def TrailGoesWrongFalsely : Prop := trailGoesRow.holds Try.pinned (OpenSpec.ofChange trailGoesWrong)

/-- 'lexiconlaw10.SharedNothing': WHATEVER THE INPUT: true; the input reads as it did. -/
def sharedNothingSpec : ChangeSpec := { name := "sharedNothing", fn := fun _ => fun
  | [d] => { results := [.lit (.bool true)], args := [d] }
  | _ => none }
def sharedNothingRow : OpenClaim := { program := "ytnaeehnnjhklbaa", sum := "71593bbd2b35a0f7fae51f25c33400a6025e91160110fce3cfeca4cedc5ff478", func := "lexicon/lexiconlaw10.SharedNothing", spec := "sharedNothing", inPlace := ["sync/atomic.AddInt64"], unfollowed := true, recurses := true, apart := false }
def SharedNothingSaid : Prop := sharedNothingRow.holds Try.pinned (OpenSpec.ofChange sharedNothingSpec)

/-- ITS FALSE NEIGHBOUR: 'it returns false'. Refute it at one input. -/
def sharedNothingWrong : ChangeSpec := { name := "sharedNothing", fn := fun _ => fun
  | [d] => { results := [.lit (.bool false)], args := [d] }
  | _ => none }
def SharedNothingWrongFalsely : Prop := sharedNothingRow.holds Try.pinned (OpenSpec.ofChange sharedNothingWrong)

/-- 'lexiconlaw5.TrailStops': WHATEVER THE INPUT: true; the input reads as it did. -/
def trailStopsSpec : ChangeSpec := { name := "trailStops", fn := fun _ => fun
  | [d1, d2, d3] => { results := [.lit (.bool true)], args := [d1, d2, d3] }
  | _ => none }
def trailStopsRow : OpenClaim := { program := "ytnaeehnnjhklbaa", sum := "71593bbd2b35a0f7fae51f25c33400a6025e91160110fce3cfeca4cedc5ff478", func := "lexicon/lexiconlaw5.TrailStops", spec := "trailStops", unfollowed := true, recurses := true, apart := false }
def TrailStopsSaid : Prop := trailStopsRow.holds Try.pinned (OpenSpec.ofChange trailStopsSpec)

/-- ITS FALSE NEIGHBOUR: 'it returns false'. Refute it at one input. -/
def trailStopsWrong : ChangeSpec := { name := "trailStops", fn := fun _ => fun
  | [d1, d2, d3] => { results := [.lit (.bool false)], args := [d1, d2, d3] }
  | _ => none }
def TrailStopsWrongFalsely : Prop := trailStopsRow.holds Try.pinned (OpenSpec.ofChange trailStopsWrong)

/-- 'lexiconlaw5.TrailCovers': WHATEVER THE INPUT: true; the input reads as it did. -/
def trailCoversSpec : ChangeSpec := { name := "trailCovers", fn := fun _ => fun
  | [d1, d2] => { results := [.lit (.bool true)], args := [d1, d2] }
  | _ => none }
def trailCoversRow : OpenClaim := { program := "ytnaeehnnjhklbaa", sum := "71593bbd2b35a0f7fae51f25c33400a6025e91160110fce3cfeca4cedc5ff478", func := "lexicon/lexiconlaw5.TrailCovers", spec := "trailCovers", unfollowed := true, recurses := true, apart := false }
def TrailCoversSaid : Prop := trailCoversRow.holds Try.pinned (OpenSpec.ofChange trailCoversSpec)

/-- ITS FALSE NEIGHBOUR: 'it returns false'. Refute it at one input. -/
def trailCoversWrong : ChangeSpec := { name := "trailCovers", fn := fun _ => fun
  | [d1, d2] => { results := [.lit (.bool false)], args := [d1, d2] }
  | _ => none }
def TrailCoversWrongFalsely : Prop := trailCoversRow.holds Try.pinned (OpenSpec.ofChange trailCoversWrong)

/-- 'lexiconlaw5.TrailAlike': WHATEVER THE INPUT: true; the input reads as it did. -/
def trailAlikeSpec : ChangeSpec := { name := "trailAlike", fn := fun _ => fun
  | [d1, d2, d3, d4] => { results := [.lit (.bool true)], args := [d1, d2, d3, d4] }
  | _ => none }
def trailAlikeRow : OpenClaim := { program := "ytnaeehnnjhklbaa", sum := "71593bbd2b35a0f7fae51f25c33400a6025e91160110fce3cfeca4cedc5ff478", func := "lexicon/lexiconlaw5.TrailAlike", spec := "trailAlike", unfollowed := true, recurses := true, apart := false }
def TrailAlikeSaid : Prop := trailAlikeRow.holds Try.pinned (OpenSpec.ofChange trailAlikeSpec)

/-- ITS FALSE NEIGHBOUR: 'it returns false'. Refute it at one input. -/
def trailAlikeWrong : ChangeSpec := { name := "trailAlike", fn := fun _ => fun
  | [d1, d2, d3, d4] => { results := [.lit (.bool false)], args := [d1, d2, d3, d4] }
  | _ => none }
def TrailAlikeWrongFalsely : Prop := trailAlikeRow.holds Try.pinned (OpenSpec.ofChange trailAlikeWrong)

/-- 'lexiconlaw6.CellsWide': WHATEVER THE INPUT: true; the input reads as it did. -/
def cellsWideSpec : ChangeSpec := { name := "cellsWide", fn := fun _ => fun
  | [d1, d2] => { results := [.lit (.bool true)], args := [d1, d2] }
  | _ => none }
def cellsWideRow : OpenClaim := { program := "ytnaeehnnjhklbaa", sum := "71593bbd2b35a0f7fae51f25c33400a6025e91160110fce3cfeca4cedc5ff478", func := "lexicon/lexiconlaw6.CellsWide", spec := "cellsWide", unfollowed := true, recurses := true, apart := false }
def CellsWideSaid : Prop := cellsWideRow.holds Try.pinned (OpenSpec.ofChange cellsWideSpec)

/-- ITS FALSE NEIGHBOUR: 'it returns false'. Refute it at one input. -/
def cellsWideWrong : ChangeSpec := { name := "cellsWide", fn := fun _ => fun
  | [d1, d2] => { results := [.lit (.bool false)], args := [d1, d2] }
  | _ => none }
def CellsWideWrongFalsely : Prop := cellsWideRow.holds Try.pinned (OpenSpec.ofChange cellsWideWrong)

/-- 'lexiconlaw6.CellsOwn': WHATEVER THE INPUT: true; the input reads as it did. -/
def cellsOwnSpec : ChangeSpec := { name := "cellsOwn", fn := fun _ => fun
  | [d1, d2] => { results := [.lit (.bool true)], args := [d1, d2] }
  | _ => none }
def cellsOwnRow : OpenClaim := { program := "ytnaeehnnjhklbaa", sum := "71593bbd2b35a0f7fae51f25c33400a6025e91160110fce3cfeca4cedc5ff478", func := "lexicon/lexiconlaw6.CellsOwn", spec := "cellsOwn", unfollowed := true, recurses := true, apart := false }
def CellsOwnSaid : Prop := cellsOwnRow.holds Try.pinned (OpenSpec.ofChange cellsOwnSpec)

/-- ITS FALSE NEIGHBOUR: 'it returns false'. Refute it at one input. -/
def cellsOwnWrong : ChangeSpec := { name := "cellsOwn", fn := fun _ => fun
  | [d1, d2] => { results := [.lit (.bool false)], args := [d1, d2] }
  | _ => none }
def CellsOwnWrongFalsely : Prop := cellsOwnRow.holds Try.pinned (OpenSpec.ofChange cellsOwnWrong)

/-- 'lexiconlaw6.CellsPlay': WHATEVER THE INPUT: true; the input reads as it did. -/
def cellsPlaySpec : ChangeSpec := { name := "cellsPlay", fn := fun _ => fun
  | [d1, d2, d3] => { results := [.lit (.bool true)], args := [d1, d2, d3] }
  | _ => none }
def cellsPlayRow : OpenClaim := { program := "ytnaeehnnjhklbaa", sum := "71593bbd2b35a0f7fae51f25c33400a6025e91160110fce3cfeca4cedc5ff478", func := "lexicon/lexiconlaw6.CellsPlay", spec := "cellsPlay", unfollowed := true, recurses := true, apart := false }
def CellsPlaySaid : Prop := cellsPlayRow.holds Try.pinned (OpenSpec.ofChange cellsPlaySpec)

/-- ITS FALSE NEIGHBOUR: 'it returns false'. Refute it at one input. -/
def cellsPlayWrong : ChangeSpec := { name := "cellsPlay", fn := fun _ => fun
  | [d1, d2, d3] => { results := [.lit (.bool false)], args := [d1, d2, d3] }
  | _ => none }
def CellsPlayWrongFalsely : Prop := cellsPlayRow.holds Try.pinned (OpenSpec.ofChange cellsPlayWrong)

/-- 'lexiconlaw6.CellsNothing': WHATEVER THE INPUT: true; the input reads as it did. -/
def cellsNothingSpec : ChangeSpec := { name := "cellsNothing", fn := fun _ => fun
  | [d1, d2] => { results := [.lit (.bool true)], args := [d1, d2] }
  | _ => none }
def cellsNothingRow : OpenClaim := { program := "ytnaeehnnjhklbaa", sum := "71593bbd2b35a0f7fae51f25c33400a6025e91160110fce3cfeca4cedc5ff478", func := "lexicon/lexiconlaw6.CellsNothing", spec := "cellsNothing", unfollowed := true, recurses := true, apart := false }
def CellsNothingSaid : Prop := cellsNothingRow.holds Try.pinned (OpenSpec.ofChange cellsNothingSpec)

/-- ITS FALSE NEIGHBOUR: 'it returns false'. Refute it at one input. -/
def cellsNothingWrong : ChangeSpec := { name := "cellsNothing", fn := fun _ => fun
  | [d1, d2] => { results := [.lit (.bool false)], args := [d1, d2] }
  | _ => none }
def CellsNothingWrongFalsely : Prop := cellsNothingRow.holds Try.pinned (OpenSpec.ofChange cellsNothingWrong)

/-- 'lexiconlaw6.CellsLoad': WHATEVER THE INPUT: true; the input reads as it did. -/
def cellsLoadSpec : ChangeSpec := { name := "cellsLoad", fn := fun _ => fun
  | [d1, d2, d3] => { results := [.lit (.bool true)], args := [d1, d2, d3] }
  | _ => none }
def cellsLoadRow : OpenClaim := { program := "ytnaeehnnjhklbaa", sum := "71593bbd2b35a0f7fae51f25c33400a6025e91160110fce3cfeca4cedc5ff478", func := "lexicon/lexiconlaw6.CellsLoad", spec := "cellsLoad", unfollowed := true, recurses := true, apart := false }
def CellsLoadSaid : Prop := cellsLoadRow.holds Try.pinned (OpenSpec.ofChange cellsLoadSpec)

/-- ITS FALSE NEIGHBOUR: 'it returns false'. Refute it at one input. -/
def cellsLoadWrong : ChangeSpec := { name := "cellsLoad", fn := fun _ => fun
  | [d1, d2, d3] => { results := [.lit (.bool false)], args := [d1, d2, d3] }
  | _ => none }
def CellsLoadWrongFalsely : Prop := cellsLoadRow.holds Try.pinned (OpenSpec.ofChange cellsLoadWrong)

/-- 'lexiconlaw10.SharedFresh': WHATEVER THE INPUT: true; the input reads as it did. -/
def sharedFreshSpec : ChangeSpec := { name := "sharedFresh", fn := fun _ => fun
  | [d1, d2, d3, d4] => { results := [.lit (.bool true)], args := [d1, d2, d3, d4] }
  | _ => none }
def sharedFreshRow : OpenClaim := { program := "ytnaeehnnjhklbaa", sum := "71593bbd2b35a0f7fae51f25c33400a6025e91160110fce3cfeca4cedc5ff478", func := "lexicon/lexiconlaw10.SharedFresh", spec := "sharedFresh", inPlace := ["sync/atomic.AddInt64", "sync/atomic.LoadInt64"], unfollowed := true, recurses := true, apart := false }
def SharedFreshSaid : Prop := sharedFreshRow.holds Try.pinned (OpenSpec.ofChange sharedFreshSpec)

/-- ITS FALSE NEIGHBOUR: 'it returns false'. Refute it at one input. -/
def sharedFreshWrong : ChangeSpec := { name := "sharedFresh", fn := fun _ => fun
  | [d1, d2, d3, d4] => { results := [.lit (.bool false)], args := [d1, d2, d3, d4] }
  | _ => none }
def SharedFreshWrongFalsely : Prop := sharedFreshRow.holds Try.pinned (OpenSpec.ofChange sharedFreshWrong)

/-- 'lexiconlaw10.SharedOwn': WHATEVER THE INPUT: true; the input reads as it did. -/
def sharedOwnSpec : ChangeSpec := { name := "sharedOwn", fn := fun _ => fun
  | [d] => { results := [.lit (.bool true)], args := [d] }
  | _ => none }
def sharedOwnRow : OpenClaim := { program := "ytnaeehnnjhklbaa", sum := "71593bbd2b35a0f7fae51f25c33400a6025e91160110fce3cfeca4cedc5ff478", func := "lexicon/lexiconlaw10.SharedOwn", spec := "sharedOwn", inPlace := ["sync/atomic.AddInt64"], unfollowed := true, recurses := true, apart := false }
def SharedOwnSaid : Prop := sharedOwnRow.holds Try.pinned (OpenSpec.ofChange sharedOwnSpec)

/-- ITS FALSE NEIGHBOUR: 'it returns false'. Refute it at one input. -/
def sharedOwnWrong : ChangeSpec := { name := "sharedOwn", fn := fun _ => fun
  | [d] => { results := [.lit (.bool false)], args := [d] }
  | _ => none }
def SharedOwnWrongFalsely : Prop := sharedOwnRow.holds Try.pinned (OpenSpec.ofChange sharedOwnWrong)

/-- 'lexiconlaw10.SharedModel': WHATEVER THE INPUT: true; the input reads as it did. -/
def sharedModelSpec : ChangeSpec := { name := "sharedModel", fn := fun _ => fun
  | [d1, d2, d3] => { results := [.lit (.bool true)], args := [d1, d2, d3] }
  | _ => none }
def sharedModelRow : OpenClaim := { program := "ytnaeehnnjhklbaa", sum := "71593bbd2b35a0f7fae51f25c33400a6025e91160110fce3cfeca4cedc5ff478", func := "lexicon/lexiconlaw10.SharedModel", spec := "sharedModel", inPlace := ["sync/atomic.AddInt64"], unfollowed := true, recurses := true, apart := false }
def SharedModelSaid : Prop := sharedModelRow.holds Try.pinned (OpenSpec.ofChange sharedModelSpec)

/-- ITS FALSE NEIGHBOUR: 'it returns false'. Refute it at one input. -/
def sharedModelWrong : ChangeSpec := { name := "sharedModel", fn := fun _ => fun
  | [d1, d2, d3] => { results := [.lit (.bool false)], args := [d1, d2, d3] }
  | _ => none }
def SharedModelWrongFalsely : Prop := sharedModelRow.holds Try.pinned (OpenSpec.ofChange sharedModelWrong)

/- THE SECOND FORM. 'bulk': how many values and letters a reading holds, each counted each time it is reached (what is shared counts as often as it is met; a slice's spare places count too). A statement '..UptoSaid' is the law's where the arguments, and the package variables that the reading takes, are together of bulk at most 1048576: NARROWER than '..Said'. Prove '..Said' where nothing that the law and all that it calls make is longer than what came in: it says more and counts as full. Else prove '..UptoSaid'. A law counts once. -/
mutual
def uptoBulk {H : Type} : DataW H → Nat
  | .lit (.string bytes) => bytes.length + 1
  | .lit _ => 1
  | .nil => 1
  | .ptr d => uptoBulk d + 1
  | .slice elems spare => uptoBulkAll elems + uptoBulkAll spare + 1
  | .agg parts => uptoBulkAll parts + 1
  | .iface _ d => uptoBulk d + 1
  | .map entries => uptoBulkEntries entries + 1
  | .held _ => 1
def uptoBulkAll {H : Type} : List (DataW H) → Nat
  | [] => 0
  | d :: r => uptoBulk d + uptoBulkAll r
def uptoBulkEntries {H : Type} : List (Lit × DataW H) → Nat
  | [] => 0
  | x :: r => uptoBulkEntry x + uptoBulkEntries r
def uptoBulkEntry {H : Type} : Lit × DataW H → Nat
  | (.string bytes, d) => bytes.length + uptoBulk d + 1
  | (_, d) => uptoBulk d + 1
 end
def uptoSmall : (H : Type) → List (DataW H) → Bool := fun _ ds => decide (uptoBulkAll ds ≤ 1048576)
def OpenSpec.upto (s : _root_.Go.ChangeSpec) : _root_.Go.OpenSpec := { _root_.Go.OpenSpec.ofChange s with cond := some uptoSmall }

/-- 'lexiconlaw4.MeterPlays', WHERE WHAT IT READS IS OF BULK AT MOST 1048576: true; the input reads as it did. -/
def meterPlaysUptoRow : OpenClaim := { program := "ytnaeehnnjhklbaa", sum := "71593bbd2b35a0f7fae51f25c33400a6025e91160110fce3cfeca4cedc5ff478", func := "lexicon/lexiconlaw4.MeterPlays", spec := "meterPlays", inPlace := ["sync/atomic.AddInt64", "sync/atomic.LoadInt64", "sync/atomic.SwapInt64"], unfollowed := true, recurses := true, apart := false, narrowed := true }
def MeterPlaysUptoSaid : Prop := meterPlaysUptoRow.holds Try.pinned (OpenSpec.upto meterPlaysSpec)

/-- 'lexiconlaw4.MeterTwo', WHERE WHAT IT READS IS OF BULK AT MOST 1048576: true; the input reads as it did. -/
def meterTwoUptoRow : OpenClaim := { program := "ytnaeehnnjhklbaa", sum := "71593bbd2b35a0f7fae51f25c33400a6025e91160110fce3cfeca4cedc5ff478", func := "lexicon/lexiconlaw4.MeterTwo", spec := "meterTwo", inPlace := ["sync/atomic.AddInt64", "sync/atomic.LoadInt64", "sync/atomic.SwapInt64"], unfollowed := true, recurses := true, apart := false, narrowed := true }
def MeterTwoUptoSaid : Prop := meterTwoUptoRow.holds Try.pinned (OpenSpec.upto meterTwoSpec)

/-- 'lexiconlaw4.MeterNothing', WHERE WHAT IT READS IS OF BULK AT MOST 1048576: true; the input reads as it did. -/
def meterNothingUptoRow : OpenClaim := { program := "ytnaeehnnjhklbaa", sum := "71593bbd2b35a0f7fae51f25c33400a6025e91160110fce3cfeca4cedc5ff478", func := "lexicon/lexiconlaw4.MeterNothing", spec := "meterNothing", inPlace := ["sync/atomic.AddInt64", "sync/atomic.LoadInt64", "sync/atomic.SwapInt64"], unfollowed := true, recurses := true, apart := false, narrowed := true }
def MeterNothingUptoSaid : Prop := meterNothingUptoRow.holds Try.pinned (OpenSpec.upto meterNothingSpec)

/-- 'lexiconlaw5.TrailGoes', WHERE WHAT IT READS IS OF BULK AT MOST 1048576: true; the input reads as it did. -/
def trailGoesUptoRow : OpenClaim := { program := "ytnaeehnnjhklbaa", sum := "71593bbd2b35a0f7fae51f25c33400a6025e91160110fce3cfeca4cedc5ff478", func := "lexicon/lexiconlaw5.TrailGoes", spec := "trailGoes", unfollowed := true, recurses := true, apart := false, narrowed := true }
def TrailGoesUptoSaid : Prop := trailGoesUptoRow.holds Try.pinned (OpenSpec.upto trailGoesSpec)

/-- 'lexiconlaw10.SharedNothing', WHERE WHAT IT READS IS OF BULK AT MOST 1048576: true; the input reads as it did. -/
def sharedNothingUptoRow : OpenClaim := { program := "ytnaeehnnjhklbaa", sum := "71593bbd2b35a0f7fae51f25c33400a6025e91160110fce3cfeca4cedc5ff478", func := "lexicon/lexiconlaw10.SharedNothing", spec := "sharedNothing", inPlace := ["sync/atomic.AddInt64"], unfollowed := true, recurses := true, apart := false, narrowed := true }
def SharedNothingUptoSaid : Prop := sharedNothingUptoRow.holds Try.pinned (OpenSpec.upto sharedNothingSpec)

/-- 'lexiconlaw5.TrailStops', WHERE WHAT IT READS IS OF BULK AT MOST 1048576: true; the input reads as it did. -/
def trailStopsUptoRow : OpenClaim := { program := "ytnaeehnnjhklbaa", sum := "71593bbd2b35a0f7fae51f25c33400a6025e91160110fce3cfeca4cedc5ff478", func := "lexicon/lexiconlaw5.TrailStops", spec := "trailStops", unfollowed := true, recurses := true, apart := false, narrowed := true }
def TrailStopsUptoSaid : Prop := trailStopsUptoRow.holds Try.pinned (OpenSpec.upto trailStopsSpec)

/-- 'lexiconlaw5.TrailCovers', WHERE WHAT IT READS IS OF BULK AT MOST 1048576: true; the input reads as it did. -/
def trailCoversUptoRow : OpenClaim := { program := "ytnaeehnnjhklbaa", sum := "71593bbd2b35a0f7fae51f25c33400a6025e91160110fce3cfeca4cedc5ff478", func := "lexicon/lexiconlaw5.TrailCovers", spec := "trailCovers", unfollowed := true, recurses := true, apart := false, narrowed := true }
def TrailCoversUptoSaid : Prop := trailCoversUptoRow.holds Try.pinned (OpenSpec.upto trailCoversSpec)

/-- 'lexiconlaw5.TrailAlike', WHERE WHAT IT READS IS OF BULK AT MOST 1048576: true; the input reads as it did. -/
def trailAlikeUptoRow : OpenClaim := { program := "ytnaeehnnjhklbaa", sum := "71593bbd2b35a0f7fae51f25c33400a6025e91160110fce3cfeca4cedc5ff478", func := "lexicon/lexiconlaw5.TrailAlike", spec := "trailAlike", unfollowed := true, recurses := true, apart := false, narrowed := true }
def TrailAlikeUptoSaid : Prop := trailAlikeUptoRow.holds Try.pinned (OpenSpec.upto trailAlikeSpec)

/-- 'lexiconlaw6.CellsWide', WHERE WHAT IT READS IS OF BULK AT MOST 1048576: true; the input reads as it did. -/
def cellsWideUptoRow : OpenClaim := { program := "ytnaeehnnjhklbaa", sum := "71593bbd2b35a0f7fae51f25c33400a6025e91160110fce3cfeca4cedc5ff478", func := "lexicon/lexiconlaw6.CellsWide", spec := "cellsWide", unfollowed := true, recurses := true, apart := false, narrowed := true }
def CellsWideUptoSaid : Prop := cellsWideUptoRow.holds Try.pinned (OpenSpec.upto cellsWideSpec)

/-- 'lexiconlaw6.CellsOwn', WHERE WHAT IT READS IS OF BULK AT MOST 1048576: true; the input reads as it did. -/
def cellsOwnUptoRow : OpenClaim := { program := "ytnaeehnnjhklbaa", sum := "71593bbd2b35a0f7fae51f25c33400a6025e91160110fce3cfeca4cedc5ff478", func := "lexicon/lexiconlaw6.CellsOwn", spec := "cellsOwn", unfollowed := true, recurses := true, apart := false, narrowed := true }
def CellsOwnUptoSaid : Prop := cellsOwnUptoRow.holds Try.pinned (OpenSpec.upto cellsOwnSpec)

/-- 'lexiconlaw6.CellsPlay', WHERE WHAT IT READS IS OF BULK AT MOST 1048576: true; the input reads as it did. -/
def cellsPlayUptoRow : OpenClaim := { program := "ytnaeehnnjhklbaa", sum := "71593bbd2b35a0f7fae51f25c33400a6025e91160110fce3cfeca4cedc5ff478", func := "lexicon/lexiconlaw6.CellsPlay", spec := "cellsPlay", unfollowed := true, recurses := true, apart := false, narrowed := true }
def CellsPlayUptoSaid : Prop := cellsPlayUptoRow.holds Try.pinned (OpenSpec.upto cellsPlaySpec)

/-- 'lexiconlaw6.CellsNothing', WHERE WHAT IT READS IS OF BULK AT MOST 1048576: true; the input reads as it did. -/
def cellsNothingUptoRow : OpenClaim := { program := "ytnaeehnnjhklbaa", sum := "71593bbd2b35a0f7fae51f25c33400a6025e91160110fce3cfeca4cedc5ff478", func := "lexicon/lexiconlaw6.CellsNothing", spec := "cellsNothing", unfollowed := true, recurses := true, apart := false, narrowed := true }
def CellsNothingUptoSaid : Prop := cellsNothingUptoRow.holds Try.pinned (OpenSpec.upto cellsNothingSpec)

/-- 'lexiconlaw6.CellsLoad', WHERE WHAT IT READS IS OF BULK AT MOST 1048576: true; the input reads as it did. -/
def cellsLoadUptoRow : OpenClaim := { program := "ytnaeehnnjhklbaa", sum := "71593bbd2b35a0f7fae51f25c33400a6025e91160110fce3cfeca4cedc5ff478", func := "lexicon/lexiconlaw6.CellsLoad", spec := "cellsLoad", unfollowed := true, recurses := true, apart := false, narrowed := true }
def CellsLoadUptoSaid : Prop := cellsLoadUptoRow.holds Try.pinned (OpenSpec.upto cellsLoadSpec)

/-- 'lexiconlaw10.SharedFresh', WHERE WHAT IT READS IS OF BULK AT MOST 1048576: true; the input reads as it did. -/
def sharedFreshUptoRow : OpenClaim := { program := "ytnaeehnnjhklbaa", sum := "71593bbd2b35a0f7fae51f25c33400a6025e91160110fce3cfeca4cedc5ff478", func := "lexicon/lexiconlaw10.SharedFresh", spec := "sharedFresh", inPlace := ["sync/atomic.AddInt64", "sync/atomic.LoadInt64"], unfollowed := true, recurses := true, apart := false, narrowed := true }
def SharedFreshUptoSaid : Prop := sharedFreshUptoRow.holds Try.pinned (OpenSpec.upto sharedFreshSpec)

/-- 'lexiconlaw10.SharedOwn', WHERE WHAT IT READS IS OF BULK AT MOST 1048576: true; the input reads as it did. -/
def sharedOwnUptoRow : OpenClaim := { program := "ytnaeehnnjhklbaa", sum := "71593bbd2b35a0f7fae51f25c33400a6025e91160110fce3cfeca4cedc5ff478", func := "lexicon/lexiconlaw10.SharedOwn", spec := "sharedOwn", inPlace := ["sync/atomic.AddInt64"], unfollowed := true, recurses := true, apart := false, narrowed := true }
def SharedOwnUptoSaid : Prop := sharedOwnUptoRow.holds Try.pinned (OpenSpec.upto sharedOwnSpec)

/-- 'lexiconlaw10.SharedModel', WHERE WHAT IT READS IS OF BULK AT MOST 1048576: true; the input reads as it did. -/
def sharedModelUptoRow : OpenClaim := { program := "ytnaeehnnjhklbaa", sum := "71593bbd2b35a0f7fae51f25c33400a6025e91160110fce3cfeca4cedc5ff478", func := "lexicon/lexiconlaw10.SharedModel", spec := "sharedModel", inPlace := ["sync/atomic.AddInt64"], unfollowed := true, recurses := true, apart := false, narrowed := true }
def SharedModelUptoSaid : Prop := sharedModelUptoRow.holds Try.pinned (OpenSpec.upto sharedModelSpec)

end Rows
end Go.Proofs.Ytnaeehnnjhklbaa
