/-
  No cell of these rows narrows 'for every input' (looked for: loops, veiled, ifaces, maps, wideKeys, modest, calm, conditions, laid).
  DERIVED. THE GIVEN ROWS OF THIS SEAT. 5 by the template 'for every input the law returns true; each argument reads behind the call as it read before'; 0 by the template 'total and deterministic' (their statements: YtjehfcjfnmcjcaaGreatTotals.lean).
  GIVEN WITH THE SEED: the statements are not yours to turn. If you find one false, say at which input.
  Laid BY PROGRAM, IN A SANDBOX (cutbox-rows.mjs): the forced cells as the released guide's own fill.sh prints them over the translation 4a84e612be8c8fdc… (all of the seat's roots in one cut). By AI agents, Wed Nov 11 2026. No macro, syntax, notation, axiom, sorry.
-/
import Derived.Test.YtjehfcjfnmcjcaaGreatChecked
import GoSem.Claim
import GoSem.ClaimJoined
import GoSem.ClaimMapViews
import Derived.JoinedTies
import Derived.KernelRfl
namespace Go.Proofs.YtjehfcjfnmcjcaaGreat
/- THE CELL 'sum', in the pinned program and in every row, IS THE sha256 OF THE DUMP (.gsa) THAT YtjehfcjfnmcjcaaGreatProg.lean LOADS. Nothing in Lean hashes anything: it is a label: what it is worth is what the hold of that sum in a sandbox is worth. -/
noncomputable def Tryz.pinned : Pinned := { name := "ytjehfcjfnmcjcaagreat", sum := "4a84e612be8c8fdc56b3a6afd1628f3fda06fe81ba763c86cdcc46ef8357f659", checked := Tryz.checked }
namespace Rows
def none {H : Type} : Left H := { results := [], args := [] }

/-- 'lockboxlaw21.AreaWrites': WHATEVER THE INPUT: true; the input reads as it did. -/
def areaWritesSpec : ChangeSpec := { name := "areaWrites", fn := fun _ => fun
  | [d1, d2, d3, d4, d5] => { results := [.lit (.bool true)], args := [d1, d2, d3, d4, d5] }
  | _ => none }
def areaWritesRow : OpenClaim := { program := "ytjehfcjfnmcjcaagreat", sum := "4a84e612be8c8fdc56b3a6afd1628f3fda06fe81ba763c86cdcc46ef8357f659", func := "lockbox/lockboxlaw21.AreaWrites", spec := "areaWrites", inPlace := ["internal/bytealg.MakeNoZero"], unfollowed := true, recurses := true, plainKeys := false, apart := false }
def AreaWritesSaid : Prop := areaWritesRow.holds Tryz.pinned (OpenSpec.ofChange areaWritesSpec)

/-- ITS FALSE NEIGHBOUR: 'it returns false'. Refute it at one input. -/
def areaWritesWrong : ChangeSpec := { name := "areaWrites", fn := fun _ => fun
  | [d1, d2, d3, d4, d5] => { results := [.lit (.bool false)], args := [d1, d2, d3, d4, d5] }
  | _ => none }
def AreaWritesWrongFalsely : Prop := areaWritesRow.holds Tryz.pinned (OpenSpec.ofChange areaWritesWrong)

/-- 'lockboxlaw23.CommitEnds': WHATEVER THE INPUT: true; the input reads as it did. -/
def commitEndsSpec : ChangeSpec := { name := "commitEnds", fn := fun _ => fun
  | [d1, d2, d3] => { results := [.lit (.bool true)], args := [d1, d2, d3] }
  | _ => none }
def commitEndsRow : OpenClaim := { program := "ytjehfcjfnmcjcaagreat", sum := "4a84e612be8c8fdc56b3a6afd1628f3fda06fe81ba763c86cdcc46ef8357f659", func := "lockbox/lockboxlaw23.CommitEnds", spec := "commitEnds", inPlace := ["internal/bytealg.MakeNoZero"], unfollowed := true, recurses := true, plainKeys := false, apart := false }
def CommitEndsSaid : Prop := commitEndsRow.holds Tryz.pinned (OpenSpec.ofChange commitEndsSpec)

/-- ITS FALSE NEIGHBOUR: 'it returns false'. Refute it at one input. -/
def commitEndsWrong : ChangeSpec := { name := "commitEnds", fn := fun _ => fun
  | [d1, d2, d3] => { results := [.lit (.bool false)], args := [d1, d2, d3] }
  | _ => none }
def CommitEndsWrongFalsely : Prop := commitEndsRow.holds Tryz.pinned (OpenSpec.ofChange commitEndsWrong)

/-- 'lockboxlaw23.CommitCrash': WHATEVER THE INPUT: true; the input reads as it did. -/
def commitCrashSpec : ChangeSpec := { name := "commitCrash", fn := fun _ => fun
  | [d1, d2, d3, d4, d5, d6] => { results := [.lit (.bool true)], args := [d1, d2, d3, d4, d5, d6] }
  | _ => none }
def commitCrashRow : OpenClaim := { program := "ytjehfcjfnmcjcaagreat", sum := "4a84e612be8c8fdc56b3a6afd1628f3fda06fe81ba763c86cdcc46ef8357f659", func := "lockbox/lockboxlaw23.CommitCrash", spec := "commitCrash", inPlace := ["internal/bytealg.MakeNoZero"], unfollowed := true, recurses := true, plainKeys := false, apart := false }
def CommitCrashSaid : Prop := commitCrashRow.holds Tryz.pinned (OpenSpec.ofChange commitCrashSpec)

/-- ITS FALSE NEIGHBOUR: 'it returns false'. Refute it at one input. -/
def commitCrashWrong : ChangeSpec := { name := "commitCrash", fn := fun _ => fun
  | [d1, d2, d3, d4, d5, d6] => { results := [.lit (.bool false)], args := [d1, d2, d3, d4, d5, d6] }
  | _ => none }
def CommitCrashWrongFalsely : Prop := commitCrashRow.holds Tryz.pinned (OpenSpec.ofChange commitCrashWrong)

/-- 'lockboxlaw23.CommitFork': WHATEVER THE INPUT: true; the input reads as it did. -/
def commitForkSpec : ChangeSpec := { name := "commitFork", fn := fun _ => fun
  | [d1, d2, d3] => { results := [.lit (.bool true)], args := [d1, d2, d3] }
  | _ => none }
def commitForkRow : OpenClaim := { program := "ytjehfcjfnmcjcaagreat", sum := "4a84e612be8c8fdc56b3a6afd1628f3fda06fe81ba763c86cdcc46ef8357f659", func := "lockbox/lockboxlaw23.CommitFork", spec := "commitFork", inPlace := ["internal/bytealg.MakeNoZero"], unfollowed := true, recurses := true, plainKeys := false, apart := false }
def CommitForkSaid : Prop := commitForkRow.holds Tryz.pinned (OpenSpec.ofChange commitForkSpec)

/-- ITS FALSE NEIGHBOUR: 'it returns false'. Refute it at one input. -/
def commitForkWrong : ChangeSpec := { name := "commitFork", fn := fun _ => fun
  | [d1, d2, d3] => { results := [.lit (.bool false)], args := [d1, d2, d3] }
  | _ => none }
def CommitForkWrongFalsely : Prop := commitForkRow.holds Tryz.pinned (OpenSpec.ofChange commitForkWrong)

/-- 'lockboxlaw23.CommitFoe': WHATEVER THE INPUT: true; the input reads as it did. -/
def commitFoeSpec : ChangeSpec := { name := "commitFoe", fn := fun _ => fun
  | [d1, d2, d3, d4, d5, d6] => { results := [.lit (.bool true)], args := [d1, d2, d3, d4, d5, d6] }
  | _ => none }
def commitFoeRow : OpenClaim := { program := "ytjehfcjfnmcjcaagreat", sum := "4a84e612be8c8fdc56b3a6afd1628f3fda06fe81ba763c86cdcc46ef8357f659", func := "lockbox/lockboxlaw23.CommitFoe", spec := "commitFoe", inPlace := ["internal/bytealg.MakeNoZero"], unfollowed := true, recurses := true, plainKeys := false, apart := false }
def CommitFoeSaid : Prop := commitFoeRow.holds Tryz.pinned (OpenSpec.ofChange commitFoeSpec)

/-- ITS FALSE NEIGHBOUR: 'it returns false'. Refute it at one input. -/
def commitFoeWrong : ChangeSpec := { name := "commitFoe", fn := fun _ => fun
  | [d1, d2, d3, d4, d5, d6] => { results := [.lit (.bool false)], args := [d1, d2, d3, d4, d5, d6] }
  | _ => none }
def CommitFoeWrongFalsely : Prop := commitFoeRow.holds Tryz.pinned (OpenSpec.ofChange commitFoeWrong)

/- THE SECOND FORM. 'bulk': how many values and letters a reading holds, each counted each time it is reached (what is shared counts as often as it is met; a slice's spare places count too). A statement '..UptoSaid' is the law's where the arguments, and the package variables that the reading takes, are together of bulk at most 1048576: NARROWER than '..Said'. Prove '..Said' where nothing that the law and all that it calls make is longer than what came in: it says more and counts as full. Else prove '..UptoSaid'. A law counts once. -/
mutual
def uptoBulk {H : Type} : DataW H → Nat
  | .lit (.string bytes) => bytes.length + 1
  | .lit _ => 1
  | .nil => 1
  | .ptr d => uptoBulk d + 1
  | .slice elems spare => uptoBulkAll elems + uptoBulkAll spare + 1
  | .agg parts => uptoBulkAll parts + 1
  | .iface _ d => uptoBulk d + 1
  | .map entries => uptoBulkEntries entries + 1
  | .held _ => 1
def uptoBulkAll {H : Type} : List (DataW H) → Nat
  | [] => 0
  | d :: r => uptoBulk d + uptoBulkAll r
def uptoBulkEntries {H : Type} : List (Lit × DataW H) → Nat
  | [] => 0
  | x :: r => uptoBulkEntry x + uptoBulkEntries r
def uptoBulkEntry {H : Type} : Lit × DataW H → Nat
  | (.string bytes, d) => bytes.length + uptoBulk d + 1
  | (_, d) => uptoBulk d + 1
 end
def uptoSmall : (H : Type) → List (DataW H) → Bool := fun _ ds => decide (uptoBulkAll ds ≤ 1048576)
def OpenSpec.upto (s : _root_.Go.ChangeSpec) : _root_.Go.OpenSpec := { _root_.Go.OpenSpec.ofChange s with cond := some uptoSmall }

/-- 'lockboxlaw21.AreaWrites', WHERE WHAT IT READS IS OF BULK AT MOST 1048576: true; the input reads as it did. -/
def areaWritesUptoRow : OpenClaim := { program := "ytjehfcjfnmcjcaagreat", sum := "4a84e612be8c8fdc56b3a6afd1628f3fda06fe81ba763c86cdcc46ef8357f659", func := "lockbox/lockboxlaw21.AreaWrites", spec := "areaWrites", inPlace := ["internal/bytealg.MakeNoZero"], unfollowed := true, recurses := true, plainKeys := false, apart := false, narrowed := true }
def AreaWritesUptoSaid : Prop := areaWritesUptoRow.holds Tryz.pinned (OpenSpec.upto areaWritesSpec)

/-- 'lockboxlaw23.CommitEnds', WHERE WHAT IT READS IS OF BULK AT MOST 1048576: true; the input reads as it did. -/
def commitEndsUptoRow : OpenClaim := { program := "ytjehfcjfnmcjcaagreat", sum := "4a84e612be8c8fdc56b3a6afd1628f3fda06fe81ba763c86cdcc46ef8357f659", func := "lockbox/lockboxlaw23.CommitEnds", spec := "commitEnds", inPlace := ["internal/bytealg.MakeNoZero"], unfollowed := true, recurses := true, plainKeys := false, apart := false, narrowed := true }
def CommitEndsUptoSaid : Prop := commitEndsUptoRow.holds Tryz.pinned (OpenSpec.upto commitEndsSpec)

/-- 'lockboxlaw23.CommitCrash', WHERE WHAT IT READS IS OF BULK AT MOST 1048576: true; the input reads as it did. -/
def commitCrashUptoRow : OpenClaim := { program := "ytjehfcjfnmcjcaagreat", sum := "4a84e612be8c8fdc56b3a6afd1628f3fda06fe81ba763c86cdcc46ef8357f659", func := "lockbox/lockboxlaw23.CommitCrash", spec := "commitCrash", inPlace := ["internal/bytealg.MakeNoZero"], unfollowed := true, recurses := true, plainKeys := false, apart := false, narrowed := true }
def CommitCrashUptoSaid : Prop := commitCrashUptoRow.holds Tryz.pinned (OpenSpec.upto commitCrashSpec)

/-- 'lockboxlaw23.CommitFork', WHERE WHAT IT READS IS OF BULK AT MOST 1048576: true; the input reads as it did. -/
def commitForkUptoRow : OpenClaim := { program := "ytjehfcjfnmcjcaagreat", sum := "4a84e612be8c8fdc56b3a6afd1628f3fda06fe81ba763c86cdcc46ef8357f659", func := "lockbox/lockboxlaw23.CommitFork", spec := "commitFork", inPlace := ["internal/bytealg.MakeNoZero"], unfollowed := true, recurses := true, plainKeys := false, apart := false, narrowed := true }
def CommitForkUptoSaid : Prop := commitForkUptoRow.holds Tryz.pinned (OpenSpec.upto commitForkSpec)

/-- 'lockboxlaw23.CommitFoe', WHERE WHAT IT READS IS OF BULK AT MOST 1048576: true; the input reads as it did. -/
def commitFoeUptoRow : OpenClaim := { program := "ytjehfcjfnmcjcaagreat", sum := "4a84e612be8c8fdc56b3a6afd1628f3fda06fe81ba763c86cdcc46ef8357f659", func := "lockbox/lockboxlaw23.CommitFoe", spec := "commitFoe", inPlace := ["internal/bytealg.MakeNoZero"], unfollowed := true, recurses := true, plainKeys := false, apart := false, narrowed := true }
def CommitFoeUptoSaid : Prop := commitFoeUptoRow.holds Tryz.pinned (OpenSpec.upto commitFoeSpec)

end Rows
end Go.Proofs.YtjehfcjfnmcjcaaGreat
