/-
  No cell of these rows narrows 'for every input' (looked for: loops, veiled, ifaces, maps, wideKeys, modest, calm, conditions, laid).
  DERIVED. THE GIVEN ROWS OF THIS SEAT. 15 by the template 'for every input the law returns true; each argument reads behind the call as it read before'; 0 by the template 'total and deterministic' (their statements: YtlddahcgaonlhaaTotals.lean).
  GIVEN WITH THE SEED: the statements are not yours to turn. If you find one false, say at which input.
  Laid BY PROGRAM, IN A SANDBOX (cutbox-rows.mjs): the forced cells as the released guide's own fill.sh prints them over the translation 98e3302c6991adb3… (all of the seat's roots in one cut). By AI agents, Wed Nov 11 2026. No macro, syntax, notation, axiom, sorry.
-/
import Derived.Test.YtlddahcgaonlhaaChecked
import GoSem.Claim
import GoSem.ClaimJoined
import GoSem.ClaimMapViews
import Derived.JoinedTies
import Derived.KernelRfl
namespace Go.Proofs.Ytlddahcgaonlhaa
/- THE CELL 'sum', in the pinned program and in every row, IS THE sha256 OF THE DUMP (.gsa) THAT YtlddahcgaonlhaaProg.lean LOADS. Nothing in Lean hashes anything: it is a label: what it is worth is what the hold of that sum in a sandbox is worth. -/
noncomputable def Try.pinned : Pinned := { name := "ytlddahcgaonlhaa", sum := "98e3302c6991adb3c21c01362bddc404905c884be4ea94739d8e18adea410475", checked := Try.checked }
namespace Rows
def none {H : Type} : Left H := { results := [], args := [] }

/-- 'lockboxlaw18.TreeTops': WHATEVER THE INPUT: true; the input reads as it did. -/
def treeTopsSpec : ChangeSpec := { name := "treeTops", fn := fun _ => fun
  | [d1, d2] => { results := [.lit (.bool true)], args := [d1, d2] }
  | _ => none }
def treeTopsRow : OpenClaim := { program := "ytlddahcgaonlhaa", sum := "98e3302c6991adb3c21c01362bddc404905c884be4ea94739d8e18adea410475", func := "lockbox/lockboxlaw18.TreeTops", spec := "treeTops", inPlace := ["internal/bytealg.MakeNoZero"], unfollowed := true, recurses := true, plainKeys := false, apart := false }
def TreeTopsSaid : Prop := treeTopsRow.holds Try.pinned (OpenSpec.ofChange treeTopsSpec)

/-- ITS FALSE NEIGHBOUR: 'it returns false'. Refute it at one input. -/
def treeTopsWrong : ChangeSpec := { name := "treeTops", fn := fun _ => fun
  | [d1, d2] => { results := [.lit (.bool false)], args := [d1, d2] }
  | _ => none }
def TreeTopsWrongFalsely : Prop := treeTopsRow.holds Try.pinned (OpenSpec.ofChange treeTopsWrong)

/-- 'lockboxlaw18.TreeOdd': WHATEVER THE INPUT: true; the input reads as it did. -/
def treeOddSpec : ChangeSpec := { name := "treeOdd", fn := fun _ => fun
  | [d1, d2] => { results := [.lit (.bool true)], args := [d1, d2] }
  | _ => none }
def treeOddRow : OpenClaim := { program := "ytlddahcgaonlhaa", sum := "98e3302c6991adb3c21c01362bddc404905c884be4ea94739d8e18adea410475", func := "lockbox/lockboxlaw18.TreeOdd", spec := "treeOdd", inPlace := ["internal/bytealg.MakeNoZero"], unfollowed := true, recurses := true, plainKeys := false, apart := false }
def TreeOddSaid : Prop := treeOddRow.holds Try.pinned (OpenSpec.ofChange treeOddSpec)

/-- ITS FALSE NEIGHBOUR: 'it returns false'. Refute it at one input. -/
def treeOddWrong : ChangeSpec := { name := "treeOdd", fn := fun _ => fun
  | [d1, d2] => { results := [.lit (.bool false)], args := [d1, d2] }
  | _ => none }
def TreeOddWrongFalsely : Prop := treeOddRow.holds Try.pinned (OpenSpec.ofChange treeOddWrong)

/-- 'lockboxlaw19.PathShort': WHATEVER THE INPUT: true; the input reads as it did. -/
def pathShortSpec : ChangeSpec := { name := "pathShort", fn := fun _ => fun
  | [d1, d2, d3] => { results := [.lit (.bool true)], args := [d1, d2, d3] }
  | _ => none }
def pathShortRow : OpenClaim := { program := "ytlddahcgaonlhaa", sum := "98e3302c6991adb3c21c01362bddc404905c884be4ea94739d8e18adea410475", func := "lockbox/lockboxlaw19.PathShort", spec := "pathShort", inPlace := ["internal/bytealg.MakeNoZero"], unfollowed := true, recurses := true, plainKeys := false, apart := false }
def PathShortSaid : Prop := pathShortRow.holds Try.pinned (OpenSpec.ofChange pathShortSpec)

/-- ITS FALSE NEIGHBOUR: 'it returns false'. Refute it at one input. -/
def pathShortWrong : ChangeSpec := { name := "pathShort", fn := fun _ => fun
  | [d1, d2, d3] => { results := [.lit (.bool false)], args := [d1, d2, d3] }
  | _ => none }
def PathShortWrongFalsely : Prop := pathShortRow.holds Try.pinned (OpenSpec.ofChange pathShortWrong)

/-- 'lockboxlaw19.PathTurned': WHATEVER THE INPUT: true; the input reads as it did. -/
def pathTurnedSpec : ChangeSpec := { name := "pathTurned", fn := fun _ => fun
  | [d1, d2, d3, d4] => { results := [.lit (.bool true)], args := [d1, d2, d3, d4] }
  | _ => none }
def pathTurnedRow : OpenClaim := { program := "ytlddahcgaonlhaa", sum := "98e3302c6991adb3c21c01362bddc404905c884be4ea94739d8e18adea410475", func := "lockbox/lockboxlaw19.PathTurned", spec := "pathTurned", inPlace := ["internal/bytealg.MakeNoZero"], unfollowed := true, recurses := true, plainKeys := false, apart := false }
def PathTurnedSaid : Prop := pathTurnedRow.holds Try.pinned (OpenSpec.ofChange pathTurnedSpec)

/-- ITS FALSE NEIGHBOUR: 'it returns false'. Refute it at one input. -/
def pathTurnedWrong : ChangeSpec := { name := "pathTurned", fn := fun _ => fun
  | [d1, d2, d3, d4] => { results := [.lit (.bool false)], args := [d1, d2, d3, d4] }
  | _ => none }
def PathTurnedWrongFalsely : Prop := pathTurnedRow.holds Try.pinned (OpenSpec.ofChange pathTurnedWrong)

/-- 'lockboxlaw8.LockReal': WHATEVER THE INPUT: true; the input reads as it did. -/
def lockRealSpec : ChangeSpec := { name := "lockReal", fn := fun _ => fun
  | [d1, d2, d3, d4, d5] => { results := [.lit (.bool true)], args := [d1, d2, d3, d4, d5] }
  | _ => none }
def lockRealRow : OpenClaim := { program := "ytlddahcgaonlhaa", sum := "98e3302c6991adb3c21c01362bddc404905c884be4ea94739d8e18adea410475", func := "lockbox/lockboxlaw8.LockReal", spec := "lockReal", inPlace := ["internal/bytealg.MakeNoZero"], unfollowed := true, recurses := true, plainKeys := false, apart := false }
def LockRealSaid : Prop := lockRealRow.holds Try.pinned (OpenSpec.ofChange lockRealSpec)

/-- ITS FALSE NEIGHBOUR: 'it returns false'. Refute it at one input. -/
def lockRealWrong : ChangeSpec := { name := "lockReal", fn := fun _ => fun
  | [d1, d2, d3, d4, d5] => { results := [.lit (.bool false)], args := [d1, d2, d3, d4, d5] }
  | _ => none }
def LockRealWrongFalsely : Prop := lockRealRow.holds Try.pinned (OpenSpec.ofChange lockRealWrong)

/-- 'lockboxlaw8.LockBack': WHATEVER THE INPUT: true; the input reads as it did. -/
def lockBackSpec : ChangeSpec := { name := "lockBack", fn := fun _ => fun
  | [d1, d2, d3, d4, d5] => { results := [.lit (.bool true)], args := [d1, d2, d3, d4, d5] }
  | _ => none }
def lockBackRow : OpenClaim := { program := "ytlddahcgaonlhaa", sum := "98e3302c6991adb3c21c01362bddc404905c884be4ea94739d8e18adea410475", func := "lockbox/lockboxlaw8.LockBack", spec := "lockBack", inPlace := ["internal/bytealg.MakeNoZero"], unfollowed := true, recurses := true, plainKeys := false, apart := false }
def LockBackSaid : Prop := lockBackRow.holds Try.pinned (OpenSpec.ofChange lockBackSpec)

/-- ITS FALSE NEIGHBOUR: 'it returns false'. Refute it at one input. -/
def lockBackWrong : ChangeSpec := { name := "lockBack", fn := fun _ => fun
  | [d1, d2, d3, d4, d5] => { results := [.lit (.bool false)], args := [d1, d2, d3, d4, d5] }
  | _ => none }
def LockBackWrongFalsely : Prop := lockBackRow.holds Try.pinned (OpenSpec.ofChange lockBackWrong)

/-- 'lockboxlaw8.LockTwice': WHATEVER THE INPUT: true; the input reads as it did. -/
def lockTwiceSpec : ChangeSpec := { name := "lockTwice", fn := fun _ => fun
  | [d1, d2, d3, d4] => { results := [.lit (.bool true)], args := [d1, d2, d3, d4] }
  | _ => none }
def lockTwiceRow : OpenClaim := { program := "ytlddahcgaonlhaa", sum := "98e3302c6991adb3c21c01362bddc404905c884be4ea94739d8e18adea410475", func := "lockbox/lockboxlaw8.LockTwice", spec := "lockTwice", inPlace := ["internal/bytealg.MakeNoZero"], unfollowed := true, recurses := true, plainKeys := false, apart := false }
def LockTwiceSaid : Prop := lockTwiceRow.holds Try.pinned (OpenSpec.ofChange lockTwiceSpec)

/-- ITS FALSE NEIGHBOUR: 'it returns false'. Refute it at one input. -/
def lockTwiceWrong : ChangeSpec := { name := "lockTwice", fn := fun _ => fun
  | [d1, d2, d3, d4] => { results := [.lit (.bool false)], args := [d1, d2, d3, d4] }
  | _ => none }
def LockTwiceWrongFalsely : Prop := lockTwiceRow.holds Try.pinned (OpenSpec.ofChange lockTwiceWrong)

/-- 'lockboxlaw8.LockPlays': WHATEVER THE INPUT: true; the input reads as it did. -/
def lockPlaysSpec : ChangeSpec := { name := "lockPlays", fn := fun _ => fun
  | [d1, d2] => { results := [.lit (.bool true)], args := [d1, d2] }
  | _ => none }
def lockPlaysRow : OpenClaim := { program := "ytlddahcgaonlhaa", sum := "98e3302c6991adb3c21c01362bddc404905c884be4ea94739d8e18adea410475", func := "lockbox/lockboxlaw8.LockPlays", spec := "lockPlays", inPlace := ["internal/bytealg.MakeNoZero"], unfollowed := true, recurses := true, plainKeys := false, apart := false }
def LockPlaysSaid : Prop := lockPlaysRow.holds Try.pinned (OpenSpec.ofChange lockPlaysSpec)

/-- ITS FALSE NEIGHBOUR: 'it returns false'. Refute it at one input. -/
def lockPlaysWrong : ChangeSpec := { name := "lockPlays", fn := fun _ => fun
  | [d1, d2] => { results := [.lit (.bool false)], args := [d1, d2] }
  | _ => none }
def LockPlaysWrongFalsely : Prop := lockPlaysRow.holds Try.pinned (OpenSpec.ofChange lockPlaysWrong)

/-- 'lockboxlaw8.LockOfNothing': WHATEVER THE INPUT: true; the input reads as it did. -/
def lockOfNothingSpec : ChangeSpec := { name := "lockOfNothing", fn := fun _ => fun
  | [d] => { results := [.lit (.bool true)], args := [d] }
  | _ => none }
def lockOfNothingRow : OpenClaim := { program := "ytlddahcgaonlhaa", sum := "98e3302c6991adb3c21c01362bddc404905c884be4ea94739d8e18adea410475", func := "lockbox/lockboxlaw8.LockOfNothing", spec := "lockOfNothing", inPlace := ["internal/bytealg.MakeNoZero"], unfollowed := true, recurses := true, plainKeys := false, apart := false }
def LockOfNothingSaid : Prop := lockOfNothingRow.holds Try.pinned (OpenSpec.ofChange lockOfNothingSpec)

/-- ITS FALSE NEIGHBOUR: 'it returns false'. Refute it at one input. -/
def lockOfNothingWrong : ChangeSpec := { name := "lockOfNothing", fn := fun _ => fun
  | [d] => { results := [.lit (.bool false)], args := [d] }
  | _ => none }
def LockOfNothingWrongFalsely : Prop := lockOfNothingRow.holds Try.pinned (OpenSpec.ofChange lockOfNothingWrong)

/-- 'lockboxlaw18.TreeHalves': WHATEVER THE INPUT: true; the input reads as it did. -/
def treeHalvesSpec : ChangeSpec := { name := "treeHalves", fn := fun _ => fun
  | [d1, d2] => { results := [.lit (.bool true)], args := [d1, d2] }
  | _ => none }
def treeHalvesRow : OpenClaim := { program := "ytlddahcgaonlhaa", sum := "98e3302c6991adb3c21c01362bddc404905c884be4ea94739d8e18adea410475", func := "lockbox/lockboxlaw18.TreeHalves", spec := "treeHalves", inPlace := ["internal/bytealg.MakeNoZero"], unfollowed := true, recurses := true, plainKeys := false, apart := false }
def TreeHalvesSaid : Prop := treeHalvesRow.holds Try.pinned (OpenSpec.ofChange treeHalvesSpec)

/-- ITS FALSE NEIGHBOUR: 'it returns false'. Refute it at one input. -/
def treeHalvesWrong : ChangeSpec := { name := "treeHalves", fn := fun _ => fun
  | [d1, d2] => { results := [.lit (.bool false)], args := [d1, d2] }
  | _ => none }
def TreeHalvesWrongFalsely : Prop := treeHalvesRow.holds Try.pinned (OpenSpec.ofChange treeHalvesWrong)

/-- 'lockboxlaw18.TreeBuilds': WHATEVER THE INPUT: true; the input reads as it did. -/
def treeBuildsSpec : ChangeSpec := { name := "treeBuilds", fn := fun _ => fun
  | [d1, d2] => { results := [.lit (.bool true)], args := [d1, d2] }
  | _ => none }
def treeBuildsRow : OpenClaim := { program := "ytlddahcgaonlhaa", sum := "98e3302c6991adb3c21c01362bddc404905c884be4ea94739d8e18adea410475", func := "lockbox/lockboxlaw18.TreeBuilds", spec := "treeBuilds", inPlace := ["internal/bytealg.MakeNoZero"], unfollowed := true, recurses := true, plainKeys := false, apart := false }
def TreeBuildsSaid : Prop := treeBuildsRow.holds Try.pinned (OpenSpec.ofChange treeBuildsSpec)

/-- ITS FALSE NEIGHBOUR: 'it returns false'. Refute it at one input. -/
def treeBuildsWrong : ChangeSpec := { name := "treeBuilds", fn := fun _ => fun
  | [d1, d2] => { results := [.lit (.bool false)], args := [d1, d2] }
  | _ => none }
def TreeBuildsWrongFalsely : Prop := treeBuildsRow.holds Try.pinned (OpenSpec.ofChange treeBuildsWrong)

/-- 'lockboxlaw19.PathChecks': WHATEVER THE INPUT: true; the input reads as it did. -/
def pathChecksSpec : ChangeSpec := { name := "pathChecks", fn := fun _ => fun
  | [d1, d2, d3, d4, d5, d6] => { results := [.lit (.bool true)], args := [d1, d2, d3, d4, d5, d6] }
  | _ => none }
def pathChecksRow : OpenClaim := { program := "ytlddahcgaonlhaa", sum := "98e3302c6991adb3c21c01362bddc404905c884be4ea94739d8e18adea410475", func := "lockbox/lockboxlaw19.PathChecks", spec := "pathChecks", inPlace := ["internal/bytealg.MakeNoZero"], unfollowed := true, recurses := true, plainKeys := false, apart := false }
def PathChecksSaid : Prop := pathChecksRow.holds Try.pinned (OpenSpec.ofChange pathChecksSpec)

/-- ITS FALSE NEIGHBOUR: 'it returns false'. Refute it at one input. -/
def pathChecksWrong : ChangeSpec := { name := "pathChecks", fn := fun _ => fun
  | [d1, d2, d3, d4, d5, d6] => { results := [.lit (.bool false)], args := [d1, d2, d3, d4, d5, d6] }
  | _ => none }
def PathChecksWrongFalsely : Prop := pathChecksRow.holds Try.pinned (OpenSpec.ofChange pathChecksWrong)

/-- 'lockboxlaw18.TreeAgain': WHATEVER THE INPUT: true; the input reads as it did. -/
def treeAgainSpec : ChangeSpec := { name := "treeAgain", fn := fun _ => fun
  | [d1, d2, d3] => { results := [.lit (.bool true)], args := [d1, d2, d3] }
  | _ => none }
def treeAgainRow : OpenClaim := { program := "ytlddahcgaonlhaa", sum := "98e3302c6991adb3c21c01362bddc404905c884be4ea94739d8e18adea410475", func := "lockbox/lockboxlaw18.TreeAgain", spec := "treeAgain", inPlace := ["internal/bytealg.MakeNoZero"], unfollowed := true, recurses := true, plainKeys := false, apart := false }
def TreeAgainSaid : Prop := treeAgainRow.holds Try.pinned (OpenSpec.ofChange treeAgainSpec)

/-- ITS FALSE NEIGHBOUR: 'it returns false'. Refute it at one input. -/
def treeAgainWrong : ChangeSpec := { name := "treeAgain", fn := fun _ => fun
  | [d1, d2, d3] => { results := [.lit (.bool false)], args := [d1, d2, d3] }
  | _ => none }
def TreeAgainWrongFalsely : Prop := treeAgainRow.holds Try.pinned (OpenSpec.ofChange treeAgainWrong)

/-- 'lockboxlaw18.TreeTurns': WHATEVER THE INPUT: true; the input reads as it did. -/
def treeTurnsSpec : ChangeSpec := { name := "treeTurns", fn := fun _ => fun
  | [d1, d2, d3, d4] => { results := [.lit (.bool true)], args := [d1, d2, d3, d4] }
  | _ => none }
def treeTurnsRow : OpenClaim := { program := "ytlddahcgaonlhaa", sum := "98e3302c6991adb3c21c01362bddc404905c884be4ea94739d8e18adea410475", func := "lockbox/lockboxlaw18.TreeTurns", spec := "treeTurns", inPlace := ["internal/bytealg.MakeNoZero"], unfollowed := true, recurses := true, plainKeys := false, apart := false }
def TreeTurnsSaid : Prop := treeTurnsRow.holds Try.pinned (OpenSpec.ofChange treeTurnsSpec)

/-- ITS FALSE NEIGHBOUR: 'it returns false'. Refute it at one input. -/
def treeTurnsWrong : ChangeSpec := { name := "treeTurns", fn := fun _ => fun
  | [d1, d2, d3, d4] => { results := [.lit (.bool false)], args := [d1, d2, d3, d4] }
  | _ => none }
def TreeTurnsWrongFalsely : Prop := treeTurnsRow.holds Try.pinned (OpenSpec.ofChange treeTurnsWrong)

/-- 'lockboxlaw19.PathHolds': WHATEVER THE INPUT: true; the input reads as it did. -/
def pathHoldsSpec : ChangeSpec := { name := "pathHolds", fn := fun _ => fun
  | [d1, d2, d3, d4] => { results := [.lit (.bool true)], args := [d1, d2, d3, d4] }
  | _ => none }
def pathHoldsRow : OpenClaim := { program := "ytlddahcgaonlhaa", sum := "98e3302c6991adb3c21c01362bddc404905c884be4ea94739d8e18adea410475", func := "lockbox/lockboxlaw19.PathHolds", spec := "pathHolds", inPlace := ["internal/bytealg.MakeNoZero"], unfollowed := true, recurses := true, plainKeys := false, apart := false }
def PathHoldsSaid : Prop := pathHoldsRow.holds Try.pinned (OpenSpec.ofChange pathHoldsSpec)

/-- ITS FALSE NEIGHBOUR: 'it returns false'. Refute it at one input. -/
def pathHoldsWrong : ChangeSpec := { name := "pathHolds", fn := fun _ => fun
  | [d1, d2, d3, d4] => { results := [.lit (.bool false)], args := [d1, d2, d3, d4] }
  | _ => none }
def PathHoldsWrongFalsely : Prop := pathHoldsRow.holds Try.pinned (OpenSpec.ofChange pathHoldsWrong)

/- THE SECOND FORM. 'bulk': how many values and letters a reading holds, each counted each time it is reached (what is shared counts as often as it is met; a slice's spare places count too). A statement '..UptoSaid' is the law's where the arguments, and the package variables that the reading takes, are together of bulk at most 1048576: NARROWER than '..Said'. Prove '..Said' where nothing that the law and all that it calls make is longer than what came in: it says more and counts as full. Else prove '..UptoSaid'. A law counts once. -/
mutual
def uptoBulk {H : Type} : DataW H → Nat
  | .lit (.string bytes) => bytes.length + 1
  | .lit _ => 1
  | .nil => 1
  | .ptr d => uptoBulk d + 1
  | .slice elems spare => uptoBulkAll elems + uptoBulkAll spare + 1
  | .agg parts => uptoBulkAll parts + 1
  | .iface _ d => uptoBulk d + 1
  | .map entries => uptoBulkEntries entries + 1
  | .held _ => 1
def uptoBulkAll {H : Type} : List (DataW H) → Nat
  | [] => 0
  | d :: r => uptoBulk d + uptoBulkAll r
def uptoBulkEntries {H : Type} : List (Lit × DataW H) → Nat
  | [] => 0
  | x :: r => uptoBulkEntry x + uptoBulkEntries r
def uptoBulkEntry {H : Type} : Lit × DataW H → Nat
  | (.string bytes, d) => bytes.length + uptoBulk d + 1
  | (_, d) => uptoBulk d + 1
 end
def uptoSmall : (H : Type) → List (DataW H) → Bool := fun _ ds => decide (uptoBulkAll ds ≤ 1048576)
def OpenSpec.upto (s : _root_.Go.ChangeSpec) : _root_.Go.OpenSpec := { _root_.Go.OpenSpec.ofChange s with cond := some uptoSmall }

/-- 'lockboxlaw18.TreeTops', WHERE WHAT IT READS IS OF BULK AT MOST 1048576: true; the input reads as it did. -/
def treeTopsUptoRow : OpenClaim := { program := "ytlddahcgaonlhaa", sum := "98e3302c6991adb3c21c01362bddc404905c884be4ea94739d8e18adea410475", func := "lockbox/lockboxlaw18.TreeTops", spec := "treeTops", inPlace := ["internal/bytealg.MakeNoZero"], unfollowed := true, recurses := true, plainKeys := false, apart := false, narrowed := true }
def TreeTopsUptoSaid : Prop := treeTopsUptoRow.holds Try.pinned (OpenSpec.upto treeTopsSpec)

/-- 'lockboxlaw18.TreeOdd', WHERE WHAT IT READS IS OF BULK AT MOST 1048576: true; the input reads as it did. -/
def treeOddUptoRow : OpenClaim := { program := "ytlddahcgaonlhaa", sum := "98e3302c6991adb3c21c01362bddc404905c884be4ea94739d8e18adea410475", func := "lockbox/lockboxlaw18.TreeOdd", spec := "treeOdd", inPlace := ["internal/bytealg.MakeNoZero"], unfollowed := true, recurses := true, plainKeys := false, apart := false, narrowed := true }
def TreeOddUptoSaid : Prop := treeOddUptoRow.holds Try.pinned (OpenSpec.upto treeOddSpec)

/-- 'lockboxlaw19.PathShort', WHERE WHAT IT READS IS OF BULK AT MOST 1048576: true; the input reads as it did. -/
def pathShortUptoRow : OpenClaim := { program := "ytlddahcgaonlhaa", sum := "98e3302c6991adb3c21c01362bddc404905c884be4ea94739d8e18adea410475", func := "lockbox/lockboxlaw19.PathShort", spec := "pathShort", inPlace := ["internal/bytealg.MakeNoZero"], unfollowed := true, recurses := true, plainKeys := false, apart := false, narrowed := true }
def PathShortUptoSaid : Prop := pathShortUptoRow.holds Try.pinned (OpenSpec.upto pathShortSpec)

/-- 'lockboxlaw19.PathTurned', WHERE WHAT IT READS IS OF BULK AT MOST 1048576: true; the input reads as it did. -/
def pathTurnedUptoRow : OpenClaim := { program := "ytlddahcgaonlhaa", sum := "98e3302c6991adb3c21c01362bddc404905c884be4ea94739d8e18adea410475", func := "lockbox/lockboxlaw19.PathTurned", spec := "pathTurned", inPlace := ["internal/bytealg.MakeNoZero"], unfollowed := true, recurses := true, plainKeys := false, apart := false, narrowed := true }
def PathTurnedUptoSaid : Prop := pathTurnedUptoRow.holds Try.pinned (OpenSpec.upto pathTurnedSpec)

/-- 'lockboxlaw8.LockReal', WHERE WHAT IT READS IS OF BULK AT MOST 1048576: true; the input reads as it did. -/
def lockRealUptoRow : OpenClaim := { program := "ytlddahcgaonlhaa", sum := "98e3302c6991adb3c21c01362bddc404905c884be4ea94739d8e18adea410475", func := "lockbox/lockboxlaw8.LockReal", spec := "lockReal", inPlace := ["internal/bytealg.MakeNoZero"], unfollowed := true, recurses := true, plainKeys := false, apart := false, narrowed := true }
def LockRealUptoSaid : Prop := lockRealUptoRow.holds Try.pinned (OpenSpec.upto lockRealSpec)

/-- 'lockboxlaw8.LockBack', WHERE WHAT IT READS IS OF BULK AT MOST 1048576: true; the input reads as it did. -/
def lockBackUptoRow : OpenClaim := { program := "ytlddahcgaonlhaa", sum := "98e3302c6991adb3c21c01362bddc404905c884be4ea94739d8e18adea410475", func := "lockbox/lockboxlaw8.LockBack", spec := "lockBack", inPlace := ["internal/bytealg.MakeNoZero"], unfollowed := true, recurses := true, plainKeys := false, apart := false, narrowed := true }
def LockBackUptoSaid : Prop := lockBackUptoRow.holds Try.pinned (OpenSpec.upto lockBackSpec)

/-- 'lockboxlaw8.LockTwice', WHERE WHAT IT READS IS OF BULK AT MOST 1048576: true; the input reads as it did. -/
def lockTwiceUptoRow : OpenClaim := { program := "ytlddahcgaonlhaa", sum := "98e3302c6991adb3c21c01362bddc404905c884be4ea94739d8e18adea410475", func := "lockbox/lockboxlaw8.LockTwice", spec := "lockTwice", inPlace := ["internal/bytealg.MakeNoZero"], unfollowed := true, recurses := true, plainKeys := false, apart := false, narrowed := true }
def LockTwiceUptoSaid : Prop := lockTwiceUptoRow.holds Try.pinned (OpenSpec.upto lockTwiceSpec)

/-- 'lockboxlaw8.LockPlays', WHERE WHAT IT READS IS OF BULK AT MOST 1048576: true; the input reads as it did. -/
def lockPlaysUptoRow : OpenClaim := { program := "ytlddahcgaonlhaa", sum := "98e3302c6991adb3c21c01362bddc404905c884be4ea94739d8e18adea410475", func := "lockbox/lockboxlaw8.LockPlays", spec := "lockPlays", inPlace := ["internal/bytealg.MakeNoZero"], unfollowed := true, recurses := true, plainKeys := false, apart := false, narrowed := true }
def LockPlaysUptoSaid : Prop := lockPlaysUptoRow.holds Try.pinned (OpenSpec.upto lockPlaysSpec)

/-- 'lockboxlaw8.LockOfNothing', WHERE WHAT IT READS IS OF BULK AT MOST 1048576: true; the input reads as it did. -/
def lockOfNothingUptoRow : OpenClaim := { program := "ytlddahcgaonlhaa", sum := "98e3302c6991adb3c21c01362bddc404905c884be4ea94739d8e18adea410475", func := "lockbox/lockboxlaw8.LockOfNothing", spec := "lockOfNothing", inPlace := ["internal/bytealg.MakeNoZero"], unfollowed := true, recurses := true, plainKeys := false, apart := false, narrowed := true }
def LockOfNothingUptoSaid : Prop := lockOfNothingUptoRow.holds Try.pinned (OpenSpec.upto lockOfNothingSpec)

/-- 'lockboxlaw18.TreeHalves', WHERE WHAT IT READS IS OF BULK AT MOST 1048576: true; the input reads as it did. -/
def treeHalvesUptoRow : OpenClaim := { program := "ytlddahcgaonlhaa", sum := "98e3302c6991adb3c21c01362bddc404905c884be4ea94739d8e18adea410475", func := "lockbox/lockboxlaw18.TreeHalves", spec := "treeHalves", inPlace := ["internal/bytealg.MakeNoZero"], unfollowed := true, recurses := true, plainKeys := false, apart := false, narrowed := true }
def TreeHalvesUptoSaid : Prop := treeHalvesUptoRow.holds Try.pinned (OpenSpec.upto treeHalvesSpec)

/-- 'lockboxlaw18.TreeBuilds', WHERE WHAT IT READS IS OF BULK AT MOST 1048576: true; the input reads as it did. -/
def treeBuildsUptoRow : OpenClaim := { program := "ytlddahcgaonlhaa", sum := "98e3302c6991adb3c21c01362bddc404905c884be4ea94739d8e18adea410475", func := "lockbox/lockboxlaw18.TreeBuilds", spec := "treeBuilds", inPlace := ["internal/bytealg.MakeNoZero"], unfollowed := true, recurses := true, plainKeys := false, apart := false, narrowed := true }
def TreeBuildsUptoSaid : Prop := treeBuildsUptoRow.holds Try.pinned (OpenSpec.upto treeBuildsSpec)

/-- 'lockboxlaw19.PathChecks', WHERE WHAT IT READS IS OF BULK AT MOST 1048576: true; the input reads as it did. -/
def pathChecksUptoRow : OpenClaim := { program := "ytlddahcgaonlhaa", sum := "98e3302c6991adb3c21c01362bddc404905c884be4ea94739d8e18adea410475", func := "lockbox/lockboxlaw19.PathChecks", spec := "pathChecks", inPlace := ["internal/bytealg.MakeNoZero"], unfollowed := true, recurses := true, plainKeys := false, apart := false, narrowed := true }
def PathChecksUptoSaid : Prop := pathChecksUptoRow.holds Try.pinned (OpenSpec.upto pathChecksSpec)

/-- 'lockboxlaw18.TreeAgain', WHERE WHAT IT READS IS OF BULK AT MOST 1048576: true; the input reads as it did. -/
def treeAgainUptoRow : OpenClaim := { program := "ytlddahcgaonlhaa", sum := "98e3302c6991adb3c21c01362bddc404905c884be4ea94739d8e18adea410475", func := "lockbox/lockboxlaw18.TreeAgain", spec := "treeAgain", inPlace := ["internal/bytealg.MakeNoZero"], unfollowed := true, recurses := true, plainKeys := false, apart := false, narrowed := true }
def TreeAgainUptoSaid : Prop := treeAgainUptoRow.holds Try.pinned (OpenSpec.upto treeAgainSpec)

/-- 'lockboxlaw18.TreeTurns', WHERE WHAT IT READS IS OF BULK AT MOST 1048576: true; the input reads as it did. -/
def treeTurnsUptoRow : OpenClaim := { program := "ytlddahcgaonlhaa", sum := "98e3302c6991adb3c21c01362bddc404905c884be4ea94739d8e18adea410475", func := "lockbox/lockboxlaw18.TreeTurns", spec := "treeTurns", inPlace := ["internal/bytealg.MakeNoZero"], unfollowed := true, recurses := true, plainKeys := false, apart := false, narrowed := true }
def TreeTurnsUptoSaid : Prop := treeTurnsUptoRow.holds Try.pinned (OpenSpec.upto treeTurnsSpec)

/-- 'lockboxlaw19.PathHolds', WHERE WHAT IT READS IS OF BULK AT MOST 1048576: true; the input reads as it did. -/
def pathHoldsUptoRow : OpenClaim := { program := "ytlddahcgaonlhaa", sum := "98e3302c6991adb3c21c01362bddc404905c884be4ea94739d8e18adea410475", func := "lockbox/lockboxlaw19.PathHolds", spec := "pathHolds", inPlace := ["internal/bytealg.MakeNoZero"], unfollowed := true, recurses := true, plainKeys := false, apart := false, narrowed := true }
def PathHoldsUptoSaid : Prop := pathHoldsUptoRow.holds Try.pinned (OpenSpec.upto pathHoldsSpec)

end Rows
end Go.Proofs.Ytlddahcgaonlhaa
