/-
  No cell of these rows narrows 'for every input' (looked for: loops, veiled, ifaces, maps, wideKeys, modest, calm, conditions, laid).
  DERIVED. THE GIVEN ROWS OF THIS SEAT. 19 by the template 'for every input the law returns true; each argument reads behind the call as it read before'; 0 by the template 'total and deterministic' (their statements: YteghhajfkdbcdaaTotals.lean).
  GIVEN WITH THE SEED: the statements are not yours to turn. If you find one false, say at which input.
  Laid BY PROGRAM, IN A SANDBOX (cutbox-rows.mjs): the forced cells as the released guide's own fill.sh prints them over the translation ad8b45a263add687… (all of the seat's roots in one cut). By AI agents, Wed Nov 11 2026. No macro, syntax, notation, axiom, sorry.
-/
import Derived.Test.YteghhajfkdbcdaaChecked
import GoSem.Claim
import GoSem.ClaimJoined
import GoSem.ClaimMapViews
import Derived.JoinedTies
import Derived.KernelRfl
namespace Go.Proofs.Yteghhajfkdbcdaa
/- THE CELL 'sum', in the pinned program and in every row, IS THE sha256 OF THE DUMP (.gsa) THAT YteghhajfkdbcdaaProg.lean LOADS. Nothing in Lean hashes anything: it is a label: what it is worth is what the hold of that sum in a sandbox is worth. -/
noncomputable def Try.pinned : Pinned := { name := "yteghhajfkdbcdaa", sum := "ad8b45a263add687fdb96cee8d50762d8e4e79c49f7c5bb3ba64eef09e2f748f", checked := Try.checked }
namespace Rows
def none {H : Type} : Left H := { results := [], args := [] }

/-- 'ragpickertop.TopAlike': WHATEVER THE INPUT: true; the input reads as it did. -/
def topAlikeSpec : ChangeSpec := { name := "topAlike", fn := fun _ => fun
  | [d1, d2] => { results := [.lit (.bool true)], args := [d1, d2] }
  | _ => none }
def topAlikeRow : OpenClaim := { program := "yteghhajfkdbcdaa", sum := "ad8b45a263add687fdb96cee8d50762d8e4e79c49f7c5bb3ba64eef09e2f748f", func := "ragpicker/ragpickertop.TopAlike", spec := "topAlike", unfollowed := true, recurses := true, plainKeys := false, apart := false }
def TopAlikeSaid : Prop := topAlikeRow.holds Try.pinned (OpenSpec.ofChange topAlikeSpec)

/-- ITS FALSE NEIGHBOUR: 'it returns false'. Refute it at one input. -/
def topAlikeWrong : ChangeSpec := { name := "topAlike", fn := fun _ => fun
  | [d1, d2] => { results := [.lit (.bool false)], args := [d1, d2] }
  | _ => none }
def TopAlikeWrongFalsely : Prop := topAlikeRow.holds Try.pinned (OpenSpec.ofChange topAlikeWrong)

/-- 'ragpickertop.TopMore': WHATEVER THE INPUT: true; the input reads as it did. -/
def topMoreSpec : ChangeSpec := { name := "topMore", fn := fun _ => fun
  | [d1, d2, d3, d4] => { results := [.lit (.bool true)], args := [d1, d2, d3, d4] }
  | _ => none }
def topMoreRow : OpenClaim := { program := "yteghhajfkdbcdaa", sum := "ad8b45a263add687fdb96cee8d50762d8e4e79c49f7c5bb3ba64eef09e2f748f", func := "ragpicker/ragpickertop.TopMore", spec := "topMore", unfollowed := true, recurses := true, plainKeys := false, apart := false }
def TopMoreSaid : Prop := topMoreRow.holds Try.pinned (OpenSpec.ofChange topMoreSpec)

/-- ITS FALSE NEIGHBOUR: 'it returns false'. Refute it at one input. -/
def topMoreWrong : ChangeSpec := { name := "topMore", fn := fun _ => fun
  | [d1, d2, d3, d4] => { results := [.lit (.bool false)], args := [d1, d2, d3, d4] }
  | _ => none }
def TopMoreWrongFalsely : Prop := topMoreRow.holds Try.pinned (OpenSpec.ofChange topMoreWrong)

/-- 'ragpickerkeep.WeakClears': WHATEVER THE INPUT: true; the input reads as it did. -/
def weakClearsSpec : ChangeSpec := { name := "weakClears", fn := fun _ => fun
  | [d1, d2] => { results := [.lit (.bool true)], args := [d1, d2] }
  | _ => none }
def weakClearsRow : OpenClaim := { program := "yteghhajfkdbcdaa", sum := "ad8b45a263add687fdb96cee8d50762d8e4e79c49f7c5bb3ba64eef09e2f748f", func := "ragpicker/ragpickerkeep.WeakClears", spec := "weakClears", unfollowed := true, recurses := true, plainKeys := false, apart := false }
def WeakClearsSaid : Prop := weakClearsRow.holds Try.pinned (OpenSpec.ofChange weakClearsSpec)

/-- ITS FALSE NEIGHBOUR: 'it returns false'. Refute it at one input. -/
def weakClearsWrong : ChangeSpec := { name := "weakClears", fn := fun _ => fun
  | [d1, d2] => { results := [.lit (.bool false)], args := [d1, d2] }
  | _ => none }
def WeakClearsWrongFalsely : Prop := weakClearsRow.holds Try.pinned (OpenSpec.ofChange weakClearsWrong)

/-- 'ragpickertop.TopFront': WHATEVER THE INPUT: true; the input reads as it did. -/
def topFrontSpec : ChangeSpec := { name := "topFront", fn := fun _ => fun
  | [d1, d2, d3, d4] => { results := [.lit (.bool true)], args := [d1, d2, d3, d4] }
  | _ => none }
def topFrontRow : OpenClaim := { program := "yteghhajfkdbcdaa", sum := "ad8b45a263add687fdb96cee8d50762d8e4e79c49f7c5bb3ba64eef09e2f748f", func := "ragpicker/ragpickertop.TopFront", spec := "topFront", unfollowed := true, recurses := true, plainKeys := false, apart := false }
def TopFrontSaid : Prop := topFrontRow.holds Try.pinned (OpenSpec.ofChange topFrontSpec)

/-- ITS FALSE NEIGHBOUR: 'it returns false'. Refute it at one input. -/
def topFrontWrong : ChangeSpec := { name := "topFront", fn := fun _ => fun
  | [d1, d2, d3, d4] => { results := [.lit (.bool false)], args := [d1, d2, d3, d4] }
  | _ => none }
def TopFrontWrongFalsely : Prop := topFrontRow.holds Try.pinned (OpenSpec.ofChange topFrontWrong)

/-- 'ragpickerkeep.CountFront': WHATEVER THE INPUT: true; the input reads as it did. -/
def countFrontSpec : ChangeSpec := { name := "countFront", fn := fun _ => fun
  | [d1, d2, d3, d4] => { results := [.lit (.bool true)], args := [d1, d2, d3, d4] }
  | _ => none }
def countFrontRow : OpenClaim := { program := "yteghhajfkdbcdaa", sum := "ad8b45a263add687fdb96cee8d50762d8e4e79c49f7c5bb3ba64eef09e2f748f", func := "ragpicker/ragpickerkeep.CountFront", spec := "countFront", unfollowed := true, recurses := true, plainKeys := false, apart := false }
def CountFrontSaid : Prop := countFrontRow.holds Try.pinned (OpenSpec.ofChange countFrontSpec)

/-- ITS FALSE NEIGHBOUR: 'it returns false'. Refute it at one input. -/
def countFrontWrong : ChangeSpec := { name := "countFront", fn := fun _ => fun
  | [d1, d2, d3, d4] => { results := [.lit (.bool false)], args := [d1, d2, d3, d4] }
  | _ => none }
def CountFrontWrongFalsely : Prop := countFrontRow.holds Try.pinned (OpenSpec.ofChange countFrontWrong)

/-- 'ragpickerkeep.IdealSplits': WHATEVER THE INPUT: true; the input reads as it did. -/
def idealSplitsSpec : ChangeSpec := { name := "idealSplits", fn := fun _ => fun
  | [d1, d2, d3] => { results := [.lit (.bool true)], args := [d1, d2, d3] }
  | _ => none }
def idealSplitsRow : OpenClaim := { program := "yteghhajfkdbcdaa", sum := "ad8b45a263add687fdb96cee8d50762d8e4e79c49f7c5bb3ba64eef09e2f748f", func := "ragpicker/ragpickerkeep.IdealSplits", spec := "idealSplits", unfollowed := true, recurses := true, plainKeys := false, apart := false }
def IdealSplitsSaid : Prop := idealSplitsRow.holds Try.pinned (OpenSpec.ofChange idealSplitsSpec)

/-- ITS FALSE NEIGHBOUR: 'it returns false'. Refute it at one input. -/
def idealSplitsWrong : ChangeSpec := { name := "idealSplits", fn := fun _ => fun
  | [d1, d2, d3] => { results := [.lit (.bool false)], args := [d1, d2, d3] }
  | _ => none }
def IdealSplitsWrongFalsely : Prop := idealSplitsRow.holds Try.pinned (OpenSpec.ofChange idealSplitsWrong)

/-- 'ragpickerkeep.ReplicaFront': WHATEVER THE INPUT: true; the input reads as it did. -/
def replicaFrontSpec : ChangeSpec := { name := "replicaFront", fn := fun _ => fun
  | [d1, d2, d3] => { results := [.lit (.bool true)], args := [d1, d2, d3] }
  | _ => none }
def replicaFrontRow : OpenClaim := { program := "yteghhajfkdbcdaa", sum := "ad8b45a263add687fdb96cee8d50762d8e4e79c49f7c5bb3ba64eef09e2f748f", func := "ragpicker/ragpickerkeep.ReplicaFront", spec := "replicaFront", unfollowed := true, recurses := true, plainKeys := false, apart := false }
def ReplicaFrontSaid : Prop := replicaFrontRow.holds Try.pinned (OpenSpec.ofChange replicaFrontSpec)

/-- ITS FALSE NEIGHBOUR: 'it returns false'. Refute it at one input. -/
def replicaFrontWrong : ChangeSpec := { name := "replicaFront", fn := fun _ => fun
  | [d1, d2, d3] => { results := [.lit (.bool false)], args := [d1, d2, d3] }
  | _ => none }
def ReplicaFrontWrongFalsely : Prop := replicaFrontRow.holds Try.pinned (OpenSpec.ofChange replicaFrontWrong)

/-- 'ragpickerkeep.CountSafe': WHATEVER THE INPUT: true; the input reads as it did. -/
def countSafeSpec : ChangeSpec := { name := "countSafe", fn := fun _ => fun
  | [d1, d2, d3] => { results := [.lit (.bool true)], args := [d1, d2, d3] }
  | _ => none }
def countSafeRow : OpenClaim := { program := "yteghhajfkdbcdaa", sum := "ad8b45a263add687fdb96cee8d50762d8e4e79c49f7c5bb3ba64eef09e2f748f", func := "ragpicker/ragpickerkeep.CountSafe", spec := "countSafe", unfollowed := true, recurses := true, plainKeys := false, apart := false }
def CountSafeSaid : Prop := countSafeRow.holds Try.pinned (OpenSpec.ofChange countSafeSpec)

/-- ITS FALSE NEIGHBOUR: 'it returns false'. Refute it at one input. -/
def countSafeWrong : ChangeSpec := { name := "countSafe", fn := fun _ => fun
  | [d1, d2, d3] => { results := [.lit (.bool false)], args := [d1, d2, d3] }
  | _ => none }
def CountSafeWrongFalsely : Prop := countSafeRow.holds Try.pinned (OpenSpec.ofChange countSafeWrong)

/-- 'ragpickerkeep.GenFront': WHATEVER THE INPUT: true; the input reads as it did. -/
def genFrontSpec : ChangeSpec := { name := "genFront", fn := fun _ => fun
  | [d1, d2, d3, d4] => { results := [.lit (.bool true)], args := [d1, d2, d3, d4] }
  | _ => none }
def genFrontRow : OpenClaim := { program := "yteghhajfkdbcdaa", sum := "ad8b45a263add687fdb96cee8d50762d8e4e79c49f7c5bb3ba64eef09e2f748f", func := "ragpicker/ragpickerkeep.GenFront", spec := "genFront", unfollowed := true, recurses := true, plainKeys := false, apart := false }
def GenFrontSaid : Prop := genFrontRow.holds Try.pinned (OpenSpec.ofChange genFrontSpec)

/-- ITS FALSE NEIGHBOUR: 'it returns false'. Refute it at one input. -/
def genFrontWrong : ChangeSpec := { name := "genFront", fn := fun _ => fun
  | [d1, d2, d3, d4] => { results := [.lit (.bool false)], args := [d1, d2, d3, d4] }
  | _ => none }
def GenFrontWrongFalsely : Prop := genFrontRow.holds Try.pinned (OpenSpec.ofChange genFrontWrong)

/-- 'ragpickerkeep.ReplicaSafe': WHATEVER THE INPUT: true; the input reads as it did. -/
def replicaSafeSpec : ChangeSpec := { name := "replicaSafe", fn := fun _ => fun
  | [d1, d2] => { results := [.lit (.bool true)], args := [d1, d2] }
  | _ => none }
def replicaSafeRow : OpenClaim := { program := "yteghhajfkdbcdaa", sum := "ad8b45a263add687fdb96cee8d50762d8e4e79c49f7c5bb3ba64eef09e2f748f", func := "ragpicker/ragpickerkeep.ReplicaSafe", spec := "replicaSafe", unfollowed := true, recurses := true, plainKeys := false, apart := false }
def ReplicaSafeSaid : Prop := replicaSafeRow.holds Try.pinned (OpenSpec.ofChange replicaSafeSpec)

/-- ITS FALSE NEIGHBOUR: 'it returns false'. Refute it at one input. -/
def replicaSafeWrong : ChangeSpec := { name := "replicaSafe", fn := fun _ => fun
  | [d1, d2] => { results := [.lit (.bool false)], args := [d1, d2] }
  | _ => none }
def ReplicaSafeWrongFalsely : Prop := replicaSafeRow.holds Try.pinned (OpenSpec.ofChange replicaSafeWrong)

/-- 'ragpickerkeep.ReplicaEnds': WHATEVER THE INPUT: true; the input reads as it did. -/
def replicaEndsSpec : ChangeSpec := { name := "replicaEnds", fn := fun _ => fun
  | [d1, d2] => { results := [.lit (.bool true)], args := [d1, d2] }
  | _ => none }
def replicaEndsRow : OpenClaim := { program := "yteghhajfkdbcdaa", sum := "ad8b45a263add687fdb96cee8d50762d8e4e79c49f7c5bb3ba64eef09e2f748f", func := "ragpicker/ragpickerkeep.ReplicaEnds", spec := "replicaEnds", unfollowed := true, recurses := true, plainKeys := false, apart := false }
def ReplicaEndsSaid : Prop := replicaEndsRow.holds Try.pinned (OpenSpec.ofChange replicaEndsSpec)

/-- ITS FALSE NEIGHBOUR: 'it returns false'. Refute it at one input. -/
def replicaEndsWrong : ChangeSpec := { name := "replicaEnds", fn := fun _ => fun
  | [d1, d2] => { results := [.lit (.bool false)], args := [d1, d2] }
  | _ => none }
def ReplicaEndsWrongFalsely : Prop := replicaEndsRow.holds Try.pinned (OpenSpec.ofChange replicaEndsWrong)

/-- 'ragpickerkeep.DualCounts': WHATEVER THE INPUT: true; the input reads as it did. -/
def dualCountsSpec : ChangeSpec := { name := "dualCounts", fn := fun _ => fun
  | [d] => { results := [.lit (.bool true)], args := [d] }
  | _ => none }
def dualCountsRow : OpenClaim := { program := "yteghhajfkdbcdaa", sum := "ad8b45a263add687fdb96cee8d50762d8e4e79c49f7c5bb3ba64eef09e2f748f", func := "ragpicker/ragpickerkeep.DualCounts", spec := "dualCounts", unfollowed := true, recurses := true, plainKeys := false, apart := false }
def DualCountsSaid : Prop := dualCountsRow.holds Try.pinned (OpenSpec.ofChange dualCountsSpec)

/-- ITS FALSE NEIGHBOUR: 'it returns false'. Refute it at one input. -/
def dualCountsWrong : ChangeSpec := { name := "dualCounts", fn := fun _ => fun
  | [d] => { results := [.lit (.bool false)], args := [d] }
  | _ => none }
def DualCountsWrongFalsely : Prop := dualCountsRow.holds Try.pinned (OpenSpec.ofChange dualCountsWrong)

/-- 'ragpickerkeep.TriAll': WHATEVER THE INPUT: true; the input reads as it did. -/
def triAllSpec : ChangeSpec := { name := "triAll", fn := fun _ => fun
  | [d1, d2, d3] => { results := [.lit (.bool true)], args := [d1, d2, d3] }
  | _ => none }
def triAllRow : OpenClaim := { program := "yteghhajfkdbcdaa", sum := "ad8b45a263add687fdb96cee8d50762d8e4e79c49f7c5bb3ba64eef09e2f748f", func := "ragpicker/ragpickerkeep.TriAll", spec := "triAll", unfollowed := true, recurses := true, plainKeys := false, apart := false }
def TriAllSaid : Prop := triAllRow.holds Try.pinned (OpenSpec.ofChange triAllSpec)

/-- ITS FALSE NEIGHBOUR: 'it returns false'. Refute it at one input. -/
def triAllWrong : ChangeSpec := { name := "triAll", fn := fun _ => fun
  | [d1, d2, d3] => { results := [.lit (.bool false)], args := [d1, d2, d3] }
  | _ => none }
def TriAllWrongFalsely : Prop := triAllRow.holds Try.pinned (OpenSpec.ofChange triAllWrong)

/-- 'ragpickerkeep.TriFront': WHATEVER THE INPUT: true; the input reads as it did. -/
def triFrontSpec : ChangeSpec := { name := "triFront", fn := fun _ => fun
  | [d1, d2, d3, d4] => { results := [.lit (.bool true)], args := [d1, d2, d3, d4] }
  | _ => none }
def triFrontRow : OpenClaim := { program := "yteghhajfkdbcdaa", sum := "ad8b45a263add687fdb96cee8d50762d8e4e79c49f7c5bb3ba64eef09e2f748f", func := "ragpicker/ragpickerkeep.TriFront", spec := "triFront", unfollowed := true, recurses := true, plainKeys := false, apart := false }
def TriFrontSaid : Prop := triFrontRow.holds Try.pinned (OpenSpec.ofChange triFrontSpec)

/-- ITS FALSE NEIGHBOUR: 'it returns false'. Refute it at one input. -/
def triFrontWrong : ChangeSpec := { name := "triFront", fn := fun _ => fun
  | [d1, d2, d3, d4] => { results := [.lit (.bool false)], args := [d1, d2, d3, d4] }
  | _ => none }
def TriFrontWrongFalsely : Prop := triFrontRow.holds Try.pinned (OpenSpec.ofChange triFrontWrong)

/-- 'ragpickerkeep.GenSafe': WHATEVER THE INPUT: true; the input reads as it did. -/
def genSafeSpec : ChangeSpec := { name := "genSafe", fn := fun _ => fun
  | [d1, d2, d3] => { results := [.lit (.bool true)], args := [d1, d2, d3] }
  | _ => none }
def genSafeRow : OpenClaim := { program := "yteghhajfkdbcdaa", sum := "ad8b45a263add687fdb96cee8d50762d8e4e79c49f7c5bb3ba64eef09e2f748f", func := "ragpicker/ragpickerkeep.GenSafe", spec := "genSafe", unfollowed := true, recurses := true, plainKeys := false, apart := false }
def GenSafeSaid : Prop := genSafeRow.holds Try.pinned (OpenSpec.ofChange genSafeSpec)

/-- ITS FALSE NEIGHBOUR: 'it returns false'. Refute it at one input. -/
def genSafeWrong : ChangeSpec := { name := "genSafe", fn := fun _ => fun
  | [d1, d2, d3] => { results := [.lit (.bool false)], args := [d1, d2, d3] }
  | _ => none }
def GenSafeWrongFalsely : Prop := genSafeRow.holds Try.pinned (OpenSpec.ofChange genSafeWrong)

/-- 'ragpickerkeep.GenClears': WHATEVER THE INPUT: true; the input reads as it did. -/
def genClearsSpec : ChangeSpec := { name := "genClears", fn := fun _ => fun
  | [d1, d2, d3] => { results := [.lit (.bool true)], args := [d1, d2, d3] }
  | _ => none }
def genClearsRow : OpenClaim := { program := "yteghhajfkdbcdaa", sum := "ad8b45a263add687fdb96cee8d50762d8e4e79c49f7c5bb3ba64eef09e2f748f", func := "ragpicker/ragpickerkeep.GenClears", spec := "genClears", unfollowed := true, recurses := true, plainKeys := false, apart := false }
def GenClearsSaid : Prop := genClearsRow.holds Try.pinned (OpenSpec.ofChange genClearsSpec)

/-- ITS FALSE NEIGHBOUR: 'it returns false'. Refute it at one input. -/
def genClearsWrong : ChangeSpec := { name := "genClears", fn := fun _ => fun
  | [d1, d2, d3] => { results := [.lit (.bool false)], args := [d1, d2, d3] }
  | _ => none }
def GenClearsWrongFalsely : Prop := genClearsRow.holds Try.pinned (OpenSpec.ofChange genClearsWrong)

/-- 'ragpickerkeep.TriSafe': WHATEVER THE INPUT: true; the input reads as it did. -/
def triSafeSpec : ChangeSpec := { name := "triSafe", fn := fun _ => fun
  | [d1, d2, d3] => { results := [.lit (.bool true)], args := [d1, d2, d3] }
  | _ => none }
def triSafeRow : OpenClaim := { program := "yteghhajfkdbcdaa", sum := "ad8b45a263add687fdb96cee8d50762d8e4e79c49f7c5bb3ba64eef09e2f748f", func := "ragpicker/ragpickerkeep.TriSafe", spec := "triSafe", unfollowed := true, recurses := true, plainKeys := false, apart := false }
def TriSafeSaid : Prop := triSafeRow.holds Try.pinned (OpenSpec.ofChange triSafeSpec)

/-- ITS FALSE NEIGHBOUR: 'it returns false'. Refute it at one input. -/
def triSafeWrong : ChangeSpec := { name := "triSafe", fn := fun _ => fun
  | [d1, d2, d3] => { results := [.lit (.bool false)], args := [d1, d2, d3] }
  | _ => none }
def TriSafeWrongFalsely : Prop := triSafeRow.holds Try.pinned (OpenSpec.ofChange triSafeWrong)

/-- 'ragpickerkeep.TriEnds': WHATEVER THE INPUT: true; the input reads as it did. -/
def triEndsSpec : ChangeSpec := { name := "triEnds", fn := fun _ => fun
  | [d1, d2, d3] => { results := [.lit (.bool true)], args := [d1, d2, d3] }
  | _ => none }
def triEndsRow : OpenClaim := { program := "yteghhajfkdbcdaa", sum := "ad8b45a263add687fdb96cee8d50762d8e4e79c49f7c5bb3ba64eef09e2f748f", func := "ragpicker/ragpickerkeep.TriEnds", spec := "triEnds", unfollowed := true, recurses := true, plainKeys := false, apart := false }
def TriEndsSaid : Prop := triEndsRow.holds Try.pinned (OpenSpec.ofChange triEndsSpec)

/-- ITS FALSE NEIGHBOUR: 'it returns false'. Refute it at one input. -/
def triEndsWrong : ChangeSpec := { name := "triEnds", fn := fun _ => fun
  | [d1, d2, d3] => { results := [.lit (.bool false)], args := [d1, d2, d3] }
  | _ => none }
def TriEndsWrongFalsely : Prop := triEndsRow.holds Try.pinned (OpenSpec.ofChange triEndsWrong)

/-- 'ragpickerkeep.CountAcyclic': WHATEVER THE INPUT: true; the input reads as it did. -/
def countAcyclicSpec : ChangeSpec := { name := "countAcyclic", fn := fun _ => fun
  | [d1, d2, d3] => { results := [.lit (.bool true)], args := [d1, d2, d3] }
  | _ => none }
def countAcyclicRow : OpenClaim := { program := "yteghhajfkdbcdaa", sum := "ad8b45a263add687fdb96cee8d50762d8e4e79c49f7c5bb3ba64eef09e2f748f", func := "ragpicker/ragpickerkeep.CountAcyclic", spec := "countAcyclic", unfollowed := true, recurses := true, plainKeys := false, apart := false }
def CountAcyclicSaid : Prop := countAcyclicRow.holds Try.pinned (OpenSpec.ofChange countAcyclicSpec)

/-- ITS FALSE NEIGHBOUR: 'it returns false'. Refute it at one input. -/
def countAcyclicWrong : ChangeSpec := { name := "countAcyclic", fn := fun _ => fun
  | [d1, d2, d3] => { results := [.lit (.bool false)], args := [d1, d2, d3] }
  | _ => none }
def CountAcyclicWrongFalsely : Prop := countAcyclicRow.holds Try.pinned (OpenSpec.ofChange countAcyclicWrong)

/- THE SECOND FORM. 'bulk': how many values and letters a reading holds, each counted each time it is reached (what is shared counts as often as it is met; a slice's spare places count too). A statement '..UptoSaid' is the law's where the arguments, and the package variables that the reading takes, are together of bulk at most 1048576: NARROWER than '..Said'. Prove '..Said' where nothing that the law and all that it calls make is longer than what came in: it says more and counts as full. Else prove '..UptoSaid'. A law counts once. -/
mutual
def uptoBulk {H : Type} : DataW H → Nat
  | .lit (.string bytes) => bytes.length + 1
  | .lit _ => 1
  | .nil => 1
  | .ptr d => uptoBulk d + 1
  | .slice elems spare => uptoBulkAll elems + uptoBulkAll spare + 1
  | .agg parts => uptoBulkAll parts + 1
  | .iface _ d => uptoBulk d + 1
  | .map entries => uptoBulkEntries entries + 1
  | .held _ => 1
def uptoBulkAll {H : Type} : List (DataW H) → Nat
  | [] => 0
  | d :: r => uptoBulk d + uptoBulkAll r
def uptoBulkEntries {H : Type} : List (Lit × DataW H) → Nat
  | [] => 0
  | x :: r => uptoBulkEntry x + uptoBulkEntries r
def uptoBulkEntry {H : Type} : Lit × DataW H → Nat
  | (.string bytes, d) => bytes.length + uptoBulk d + 1
  | (_, d) => uptoBulk d + 1
 end
def uptoSmall : (H : Type) → List (DataW H) → Bool := fun _ ds => decide (uptoBulkAll ds ≤ 1048576)
def OpenSpec.upto (s : _root_.Go.ChangeSpec) : _root_.Go.OpenSpec := { _root_.Go.OpenSpec.ofChange s with cond := some uptoSmall }

/-- 'ragpickertop.TopAlike', WHERE WHAT IT READS IS OF BULK AT MOST 1048576: true; the input reads as it did. -/
def topAlikeUptoRow : OpenClaim := { program := "yteghhajfkdbcdaa", sum := "ad8b45a263add687fdb96cee8d50762d8e4e79c49f7c5bb3ba64eef09e2f748f", func := "ragpicker/ragpickertop.TopAlike", spec := "topAlike", unfollowed := true, recurses := true, plainKeys := false, apart := false, narrowed := true }
def TopAlikeUptoSaid : Prop := topAlikeUptoRow.holds Try.pinned (OpenSpec.upto topAlikeSpec)

/-- 'ragpickertop.TopMore', WHERE WHAT IT READS IS OF BULK AT MOST 1048576: true; the input reads as it did. -/
def topMoreUptoRow : OpenClaim := { program := "yteghhajfkdbcdaa", sum := "ad8b45a263add687fdb96cee8d50762d8e4e79c49f7c5bb3ba64eef09e2f748f", func := "ragpicker/ragpickertop.TopMore", spec := "topMore", unfollowed := true, recurses := true, plainKeys := false, apart := false, narrowed := true }
def TopMoreUptoSaid : Prop := topMoreUptoRow.holds Try.pinned (OpenSpec.upto topMoreSpec)

/-- 'ragpickerkeep.WeakClears', WHERE WHAT IT READS IS OF BULK AT MOST 1048576: true; the input reads as it did. -/
def weakClearsUptoRow : OpenClaim := { program := "yteghhajfkdbcdaa", sum := "ad8b45a263add687fdb96cee8d50762d8e4e79c49f7c5bb3ba64eef09e2f748f", func := "ragpicker/ragpickerkeep.WeakClears", spec := "weakClears", unfollowed := true, recurses := true, plainKeys := false, apart := false, narrowed := true }
def WeakClearsUptoSaid : Prop := weakClearsUptoRow.holds Try.pinned (OpenSpec.upto weakClearsSpec)

/-- 'ragpickertop.TopFront', WHERE WHAT IT READS IS OF BULK AT MOST 1048576: true; the input reads as it did. -/
def topFrontUptoRow : OpenClaim := { program := "yteghhajfkdbcdaa", sum := "ad8b45a263add687fdb96cee8d50762d8e4e79c49f7c5bb3ba64eef09e2f748f", func := "ragpicker/ragpickertop.TopFront", spec := "topFront", unfollowed := true, recurses := true, plainKeys := false, apart := false, narrowed := true }
def TopFrontUptoSaid : Prop := topFrontUptoRow.holds Try.pinned (OpenSpec.upto topFrontSpec)

/-- 'ragpickerkeep.CountFront', WHERE WHAT IT READS IS OF BULK AT MOST 1048576: true; the input reads as it did. -/
def countFrontUptoRow : OpenClaim := { program := "yteghhajfkdbcdaa", sum := "ad8b45a263add687fdb96cee8d50762d8e4e79c49f7c5bb3ba64eef09e2f748f", func := "ragpicker/ragpickerkeep.CountFront", spec := "countFront", unfollowed := true, recurses := true, plainKeys := false, apart := false, narrowed := true }
def CountFrontUptoSaid : Prop := countFrontUptoRow.holds Try.pinned (OpenSpec.upto countFrontSpec)

/-- 'ragpickerkeep.IdealSplits', WHERE WHAT IT READS IS OF BULK AT MOST 1048576: true; the input reads as it did. -/
def idealSplitsUptoRow : OpenClaim := { program := "yteghhajfkdbcdaa", sum := "ad8b45a263add687fdb96cee8d50762d8e4e79c49f7c5bb3ba64eef09e2f748f", func := "ragpicker/ragpickerkeep.IdealSplits", spec := "idealSplits", unfollowed := true, recurses := true, plainKeys := false, apart := false, narrowed := true }
def IdealSplitsUptoSaid : Prop := idealSplitsUptoRow.holds Try.pinned (OpenSpec.upto idealSplitsSpec)

/-- 'ragpickerkeep.ReplicaFront', WHERE WHAT IT READS IS OF BULK AT MOST 1048576: true; the input reads as it did. -/
def replicaFrontUptoRow : OpenClaim := { program := "yteghhajfkdbcdaa", sum := "ad8b45a263add687fdb96cee8d50762d8e4e79c49f7c5bb3ba64eef09e2f748f", func := "ragpicker/ragpickerkeep.ReplicaFront", spec := "replicaFront", unfollowed := true, recurses := true, plainKeys := false, apart := false, narrowed := true }
def ReplicaFrontUptoSaid : Prop := replicaFrontUptoRow.holds Try.pinned (OpenSpec.upto replicaFrontSpec)

/-- 'ragpickerkeep.CountSafe', WHERE WHAT IT READS IS OF BULK AT MOST 1048576: true; the input reads as it did. -/
def countSafeUptoRow : OpenClaim := { program := "yteghhajfkdbcdaa", sum := "ad8b45a263add687fdb96cee8d50762d8e4e79c49f7c5bb3ba64eef09e2f748f", func := "ragpicker/ragpickerkeep.CountSafe", spec := "countSafe", unfollowed := true, recurses := true, plainKeys := false, apart := false, narrowed := true }
def CountSafeUptoSaid : Prop := countSafeUptoRow.holds Try.pinned (OpenSpec.upto countSafeSpec)

/-- 'ragpickerkeep.GenFront', WHERE WHAT IT READS IS OF BULK AT MOST 1048576: true; the input reads as it did. -/
def genFrontUptoRow : OpenClaim := { program := "yteghhajfkdbcdaa", sum := "ad8b45a263add687fdb96cee8d50762d8e4e79c49f7c5bb3ba64eef09e2f748f", func := "ragpicker/ragpickerkeep.GenFront", spec := "genFront", unfollowed := true, recurses := true, plainKeys := false, apart := false, narrowed := true }
def GenFrontUptoSaid : Prop := genFrontUptoRow.holds Try.pinned (OpenSpec.upto genFrontSpec)

/-- 'ragpickerkeep.ReplicaSafe', WHERE WHAT IT READS IS OF BULK AT MOST 1048576: true; the input reads as it did. -/
def replicaSafeUptoRow : OpenClaim := { program := "yteghhajfkdbcdaa", sum := "ad8b45a263add687fdb96cee8d50762d8e4e79c49f7c5bb3ba64eef09e2f748f", func := "ragpicker/ragpickerkeep.ReplicaSafe", spec := "replicaSafe", unfollowed := true, recurses := true, plainKeys := false, apart := false, narrowed := true }
def ReplicaSafeUptoSaid : Prop := replicaSafeUptoRow.holds Try.pinned (OpenSpec.upto replicaSafeSpec)

/-- 'ragpickerkeep.ReplicaEnds', WHERE WHAT IT READS IS OF BULK AT MOST 1048576: true; the input reads as it did. -/
def replicaEndsUptoRow : OpenClaim := { program := "yteghhajfkdbcdaa", sum := "ad8b45a263add687fdb96cee8d50762d8e4e79c49f7c5bb3ba64eef09e2f748f", func := "ragpicker/ragpickerkeep.ReplicaEnds", spec := "replicaEnds", unfollowed := true, recurses := true, plainKeys := false, apart := false, narrowed := true }
def ReplicaEndsUptoSaid : Prop := replicaEndsUptoRow.holds Try.pinned (OpenSpec.upto replicaEndsSpec)

/-- 'ragpickerkeep.DualCounts', WHERE WHAT IT READS IS OF BULK AT MOST 1048576: true; the input reads as it did. -/
def dualCountsUptoRow : OpenClaim := { program := "yteghhajfkdbcdaa", sum := "ad8b45a263add687fdb96cee8d50762d8e4e79c49f7c5bb3ba64eef09e2f748f", func := "ragpicker/ragpickerkeep.DualCounts", spec := "dualCounts", unfollowed := true, recurses := true, plainKeys := false, apart := false, narrowed := true }
def DualCountsUptoSaid : Prop := dualCountsUptoRow.holds Try.pinned (OpenSpec.upto dualCountsSpec)

/-- 'ragpickerkeep.TriAll', WHERE WHAT IT READS IS OF BULK AT MOST 1048576: true; the input reads as it did. -/
def triAllUptoRow : OpenClaim := { program := "yteghhajfkdbcdaa", sum := "ad8b45a263add687fdb96cee8d50762d8e4e79c49f7c5bb3ba64eef09e2f748f", func := "ragpicker/ragpickerkeep.TriAll", spec := "triAll", unfollowed := true, recurses := true, plainKeys := false, apart := false, narrowed := true }
def TriAllUptoSaid : Prop := triAllUptoRow.holds Try.pinned (OpenSpec.upto triAllSpec)

/-- 'ragpickerkeep.TriFront', WHERE WHAT IT READS IS OF BULK AT MOST 1048576: true; the input reads as it did. -/
def triFrontUptoRow : OpenClaim := { program := "yteghhajfkdbcdaa", sum := "ad8b45a263add687fdb96cee8d50762d8e4e79c49f7c5bb3ba64eef09e2f748f", func := "ragpicker/ragpickerkeep.TriFront", spec := "triFront", unfollowed := true, recurses := true, plainKeys := false, apart := false, narrowed := true }
def TriFrontUptoSaid : Prop := triFrontUptoRow.holds Try.pinned (OpenSpec.upto triFrontSpec)

/-- 'ragpickerkeep.GenSafe', WHERE WHAT IT READS IS OF BULK AT MOST 1048576: true; the input reads as it did. -/
def genSafeUptoRow : OpenClaim := { program := "yteghhajfkdbcdaa", sum := "ad8b45a263add687fdb96cee8d50762d8e4e79c49f7c5bb3ba64eef09e2f748f", func := "ragpicker/ragpickerkeep.GenSafe", spec := "genSafe", unfollowed := true, recurses := true, plainKeys := false, apart := false, narrowed := true }
def GenSafeUptoSaid : Prop := genSafeUptoRow.holds Try.pinned (OpenSpec.upto genSafeSpec)

/-- 'ragpickerkeep.GenClears', WHERE WHAT IT READS IS OF BULK AT MOST 1048576: true; the input reads as it did. -/
def genClearsUptoRow : OpenClaim := { program := "yteghhajfkdbcdaa", sum := "ad8b45a263add687fdb96cee8d50762d8e4e79c49f7c5bb3ba64eef09e2f748f", func := "ragpicker/ragpickerkeep.GenClears", spec := "genClears", unfollowed := true, recurses := true, plainKeys := false, apart := false, narrowed := true }
def GenClearsUptoSaid : Prop := genClearsUptoRow.holds Try.pinned (OpenSpec.upto genClearsSpec)

/-- 'ragpickerkeep.TriSafe', WHERE WHAT IT READS IS OF BULK AT MOST 1048576: true; the input reads as it did. -/
def triSafeUptoRow : OpenClaim := { program := "yteghhajfkdbcdaa", sum := "ad8b45a263add687fdb96cee8d50762d8e4e79c49f7c5bb3ba64eef09e2f748f", func := "ragpicker/ragpickerkeep.TriSafe", spec := "triSafe", unfollowed := true, recurses := true, plainKeys := false, apart := false, narrowed := true }
def TriSafeUptoSaid : Prop := triSafeUptoRow.holds Try.pinned (OpenSpec.upto triSafeSpec)

/-- 'ragpickerkeep.TriEnds', WHERE WHAT IT READS IS OF BULK AT MOST 1048576: true; the input reads as it did. -/
def triEndsUptoRow : OpenClaim := { program := "yteghhajfkdbcdaa", sum := "ad8b45a263add687fdb96cee8d50762d8e4e79c49f7c5bb3ba64eef09e2f748f", func := "ragpicker/ragpickerkeep.TriEnds", spec := "triEnds", unfollowed := true, recurses := true, plainKeys := false, apart := false, narrowed := true }
def TriEndsUptoSaid : Prop := triEndsUptoRow.holds Try.pinned (OpenSpec.upto triEndsSpec)

/-- 'ragpickerkeep.CountAcyclic', WHERE WHAT IT READS IS OF BULK AT MOST 1048576: true; the input reads as it did. -/
def countAcyclicUptoRow : OpenClaim := { program := "yteghhajfkdbcdaa", sum := "ad8b45a263add687fdb96cee8d50762d8e4e79c49f7c5bb3ba64eef09e2f748f", func := "ragpicker/ragpickerkeep.CountAcyclic", spec := "countAcyclic", unfollowed := true, recurses := true, plainKeys := false, apart := false, narrowed := true }
def CountAcyclicUptoSaid : Prop := countAcyclicUptoRow.holds Try.pinned (OpenSpec.upto countAcyclicSpec)

end Rows
end Go.Proofs.Yteghhajfkdbcdaa
