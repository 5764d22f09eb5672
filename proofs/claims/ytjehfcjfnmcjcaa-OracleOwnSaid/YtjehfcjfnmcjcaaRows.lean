/-
  No cell of these rows narrows 'for every input' (looked for: loops, veiled, ifaces, maps, wideKeys, modest, calm, conditions, laid).
  DERIVED. THE GIVEN ROWS OF THIS SEAT. 11 by the template 'for every input the law returns true; each argument reads behind the call as it read before'; 0 by the template 'total and deterministic' (their statements: YtjehfcjfnmcjcaaTotals.lean).
  GIVEN WITH THE SEED: the statements are not yours to turn. If you find one false, say at which input.
  Laid BY PROGRAM, IN A SANDBOX (cutbox-rows.mjs): the forced cells as the released guide's own fill.sh prints them over the translation f3fb126019c56246… (all of the seat's roots in one cut). By AI agents, Wed Nov 11 2026. No macro, syntax, notation, axiom, sorry.
-/
import Derived.Test.YtjehfcjfnmcjcaaChecked
import GoSem.Claim
import GoSem.ClaimJoined
import GoSem.ClaimMapViews
import Derived.JoinedTies
import Derived.KernelRfl
namespace Go.Proofs.Ytjehfcjfnmcjcaa
/- THE CELL 'sum', in the pinned program and in every row, IS THE sha256 OF THE DUMP (.gsa) THAT YtjehfcjfnmcjcaaProg.lean LOADS. Nothing in Lean hashes anything: it is a label: what it is worth is what the hold of that sum in a sandbox is worth. -/
noncomputable def Try.pinned : Pinned := { name := "ytjehfcjfnmcjcaa", sum := "f3fb126019c5624678ed6a4408f1efbd78963fd64fc8fb28b26f96ed379664b4", checked := Try.checked }
namespace Rows
def none {H : Type} : Left H := { results := [], args := [] }

/-- 'lockboxlaw7.OracleOwn': WHATEVER THE INPUT: true; the input reads as it did. -/
def oracleOwnSpec : ChangeSpec := { name := "oracleOwn", fn := fun _ => fun
  | [d] => { results := [.lit (.bool true)], args := [d] }
  | _ => none }
def oracleOwnRow : OpenClaim := { program := "ytjehfcjfnmcjcaa", sum := "f3fb126019c5624678ed6a4408f1efbd78963fd64fc8fb28b26f96ed379664b4", func := "lockbox/lockboxlaw7.OracleOwn", spec := "oracleOwn", inPlace := ["internal/bytealg.MakeNoZero"], plainKeys := false, apart := false }
def OracleOwnSaid : Prop := oracleOwnRow.holds Try.pinned (OpenSpec.ofChange oracleOwnSpec)

/-- ITS FALSE NEIGHBOUR: 'it returns false'. Refute it at one input. -/
def oracleOwnWrong : ChangeSpec := { name := "oracleOwn", fn := fun _ => fun
  | [d] => { results := [.lit (.bool false)], args := [d] }
  | _ => none }
def OracleOwnWrongFalsely : Prop := oracleOwnRow.holds Try.pinned (OpenSpec.ofChange oracleOwnWrong)

/-- 'lockboxlaw20.WorldNew': WHATEVER THE INPUT: true; the input reads as it did. -/
def worldNewSpec : ChangeSpec := { name := "worldNew", fn := fun _ => fun
  | [d1, d2, d3] => { results := [.lit (.bool true)], args := [d1, d2, d3] }
  | _ => none }
def worldNewRow : OpenClaim := { program := "ytjehfcjfnmcjcaa", sum := "f3fb126019c5624678ed6a4408f1efbd78963fd64fc8fb28b26f96ed379664b4", func := "lockbox/lockboxlaw20.WorldNew", spec := "worldNew", inPlace := ["internal/bytealg.MakeNoZero"], unfollowed := true, recurses := true, plainKeys := false, apart := false }
def WorldNewSaid : Prop := worldNewRow.holds Try.pinned (OpenSpec.ofChange worldNewSpec)

/-- ITS FALSE NEIGHBOUR: 'it returns false'. Refute it at one input. -/
def worldNewWrong : ChangeSpec := { name := "worldNew", fn := fun _ => fun
  | [d1, d2, d3] => { results := [.lit (.bool false)], args := [d1, d2, d3] }
  | _ => none }
def WorldNewWrongFalsely : Prop := worldNewRow.holds Try.pinned (OpenSpec.ofChange worldNewWrong)

/-- 'lockboxlaw20.WorldCrash': WHATEVER THE INPUT: true; the input reads as it did. -/
def worldCrashSpec : ChangeSpec := { name := "worldCrash", fn := fun _ => fun
  | [d1, d2, d3, d4] => { results := [.lit (.bool true)], args := [d1, d2, d3, d4] }
  | _ => none }
def worldCrashRow : OpenClaim := { program := "ytjehfcjfnmcjcaa", sum := "f3fb126019c5624678ed6a4408f1efbd78963fd64fc8fb28b26f96ed379664b4", func := "lockbox/lockboxlaw20.WorldCrash", spec := "worldCrash", inPlace := ["internal/bytealg.MakeNoZero"], unfollowed := true, recurses := true, plainKeys := false, apart := false }
def WorldCrashSaid : Prop := worldCrashRow.holds Try.pinned (OpenSpec.ofChange worldCrashSpec)

/-- ITS FALSE NEIGHBOUR: 'it returns false'. Refute it at one input. -/
def worldCrashWrong : ChangeSpec := { name := "worldCrash", fn := fun _ => fun
  | [d1, d2, d3, d4] => { results := [.lit (.bool false)], args := [d1, d2, d3, d4] }
  | _ => none }
def WorldCrashWrongFalsely : Prop := worldCrashRow.holds Try.pinned (OpenSpec.ofChange worldCrashWrong)

/-- 'lockboxlaw20.WorldOne': WHATEVER THE INPUT: true; the input reads as it did. -/
def worldOneSpec : ChangeSpec := { name := "worldOne", fn := fun _ => fun
  | [d] => { results := [.lit (.bool true)], args := [d] }
  | _ => none }
def worldOneRow : OpenClaim := { program := "ytjehfcjfnmcjcaa", sum := "f3fb126019c5624678ed6a4408f1efbd78963fd64fc8fb28b26f96ed379664b4", func := "lockbox/lockboxlaw20.WorldOne", spec := "worldOne", inPlace := ["internal/bytealg.MakeNoZero"], unfollowed := true, recurses := true, plainKeys := false, apart := false }
def WorldOneSaid : Prop := worldOneRow.holds Try.pinned (OpenSpec.ofChange worldOneSpec)

/-- ITS FALSE NEIGHBOUR: 'it returns false'. Refute it at one input. -/
def worldOneWrong : ChangeSpec := { name := "worldOne", fn := fun _ => fun
  | [d] => { results := [.lit (.bool false)], args := [d] }
  | _ => none }
def WorldOneWrongFalsely : Prop := worldOneRow.holds Try.pinned (OpenSpec.ofChange worldOneWrong)

/-- 'lockboxlaw21.AreaTwo': WHATEVER THE INPUT: true; the input reads as it did. -/
def areaTwoSpec : ChangeSpec := { name := "areaTwo", fn := fun _ => fun
  | [d1, d2, d3, d4] => { results := [.lit (.bool true)], args := [d1, d2, d3, d4] }
  | _ => none }
def areaTwoRow : OpenClaim := { program := "ytjehfcjfnmcjcaa", sum := "f3fb126019c5624678ed6a4408f1efbd78963fd64fc8fb28b26f96ed379664b4", func := "lockbox/lockboxlaw21.AreaTwo", spec := "areaTwo", inPlace := ["internal/bytealg.MakeNoZero"], unfollowed := true, recurses := true, plainKeys := false, apart := false }
def AreaTwoSaid : Prop := areaTwoRow.holds Try.pinned (OpenSpec.ofChange areaTwoSpec)

/-- ITS FALSE NEIGHBOUR: 'it returns false'. Refute it at one input. -/
def areaTwoWrong : ChangeSpec := { name := "areaTwo", fn := fun _ => fun
  | [d1, d2, d3, d4] => { results := [.lit (.bool false)], args := [d1, d2, d3, d4] }
  | _ => none }
def AreaTwoWrongFalsely : Prop := areaTwoRow.holds Try.pinned (OpenSpec.ofChange areaTwoWrong)

/-- 'lockboxlaw22.LogRecords': WHATEVER THE INPUT: true; the input reads as it did. -/
def logRecordsSpec : ChangeSpec := { name := "logRecords", fn := fun _ => fun
  | [d1, d2, d3] => { results := [.lit (.bool true)], args := [d1, d2, d3] }
  | _ => none }
def logRecordsRow : OpenClaim := { program := "ytjehfcjfnmcjcaa", sum := "f3fb126019c5624678ed6a4408f1efbd78963fd64fc8fb28b26f96ed379664b4", func := "lockbox/lockboxlaw22.LogRecords", spec := "logRecords", inPlace := ["internal/bytealg.MakeNoZero"], unfollowed := true, recurses := true, plainKeys := false, apart := false }
def LogRecordsSaid : Prop := logRecordsRow.holds Try.pinned (OpenSpec.ofChange logRecordsSpec)

/-- ITS FALSE NEIGHBOUR: 'it returns false'. Refute it at one input. -/
def logRecordsWrong : ChangeSpec := { name := "logRecords", fn := fun _ => fun
  | [d1, d2, d3] => { results := [.lit (.bool false)], args := [d1, d2, d3] }
  | _ => none }
def LogRecordsWrongFalsely : Prop := logRecordsRow.holds Try.pinned (OpenSpec.ofChange logRecordsWrong)

/-- 'lockboxlaw22.LogOnly': WHATEVER THE INPUT: true; the input reads as it did. -/
def logOnlySpec : ChangeSpec := { name := "logOnly", fn := fun _ => fun
  | [d1, d2, d3, d4] => { results := [.lit (.bool true)], args := [d1, d2, d3, d4] }
  | _ => none }
def logOnlyRow : OpenClaim := { program := "ytjehfcjfnmcjcaa", sum := "f3fb126019c5624678ed6a4408f1efbd78963fd64fc8fb28b26f96ed379664b4", func := "lockbox/lockboxlaw22.LogOnly", spec := "logOnly", inPlace := ["internal/bytealg.MakeNoZero"], unfollowed := true, recurses := true, plainKeys := false, apart := false }
def LogOnlySaid : Prop := logOnlyRow.holds Try.pinned (OpenSpec.ofChange logOnlySpec)

/-- ITS FALSE NEIGHBOUR: 'it returns false'. Refute it at one input. -/
def logOnlyWrong : ChangeSpec := { name := "logOnly", fn := fun _ => fun
  | [d1, d2, d3, d4] => { results := [.lit (.bool false)], args := [d1, d2, d3, d4] }
  | _ => none }
def LogOnlyWrongFalsely : Prop := logOnlyRow.holds Try.pinned (OpenSpec.ofChange logOnlyWrong)

/-- 'lockboxlaw22.LogFoe': WHATEVER THE INPUT: true; the input reads as it did. -/
def logFoeSpec : ChangeSpec := { name := "logFoe", fn := fun _ => fun
  | [d1, d2] => { results := [.lit (.bool true)], args := [d1, d2] }
  | _ => none }
def logFoeRow : OpenClaim := { program := "ytjehfcjfnmcjcaa", sum := "f3fb126019c5624678ed6a4408f1efbd78963fd64fc8fb28b26f96ed379664b4", func := "lockbox/lockboxlaw22.LogFoe", spec := "logFoe", inPlace := ["internal/bytealg.MakeNoZero"], unfollowed := true, recurses := true, plainKeys := false, apart := false }
def LogFoeSaid : Prop := logFoeRow.holds Try.pinned (OpenSpec.ofChange logFoeSpec)

/-- ITS FALSE NEIGHBOUR: 'it returns false'. Refute it at one input. -/
def logFoeWrong : ChangeSpec := { name := "logFoe", fn := fun _ => fun
  | [d1, d2] => { results := [.lit (.bool false)], args := [d1, d2] }
  | _ => none }
def LogFoeWrongFalsely : Prop := logFoeRow.holds Try.pinned (OpenSpec.ofChange logFoeWrong)

/-- 'lockboxlaw21.AreaBack': WHATEVER THE INPUT: true; the input reads as it did. -/
def areaBackSpec : ChangeSpec := { name := "areaBack", fn := fun _ => fun
  | [d1, d2, d3, d4, d5] => { results := [.lit (.bool true)], args := [d1, d2, d3, d4, d5] }
  | _ => none }
def areaBackRow : OpenClaim := { program := "ytjehfcjfnmcjcaa", sum := "f3fb126019c5624678ed6a4408f1efbd78963fd64fc8fb28b26f96ed379664b4", func := "lockbox/lockboxlaw21.AreaBack", spec := "areaBack", inPlace := ["internal/bytealg.MakeNoZero"], unfollowed := true, recurses := true, plainKeys := false, apart := false }
def AreaBackSaid : Prop := areaBackRow.holds Try.pinned (OpenSpec.ofChange areaBackSpec)

/-- ITS FALSE NEIGHBOUR: 'it returns false'. Refute it at one input. -/
def areaBackWrong : ChangeSpec := { name := "areaBack", fn := fun _ => fun
  | [d1, d2, d3, d4, d5] => { results := [.lit (.bool false)], args := [d1, d2, d3, d4, d5] }
  | _ => none }
def AreaBackWrongFalsely : Prop := areaBackRow.holds Try.pinned (OpenSpec.ofChange areaBackWrong)

/-- 'lockboxlaw21.AreaFoe': WHATEVER THE INPUT: true; the input reads as it did. -/
def areaFoeSpec : ChangeSpec := { name := "areaFoe", fn := fun _ => fun
  | [d1, d2, d3, d4, d5] => { results := [.lit (.bool true)], args := [d1, d2, d3, d4, d5] }
  | _ => none }
def areaFoeRow : OpenClaim := { program := "ytjehfcjfnmcjcaa", sum := "f3fb126019c5624678ed6a4408f1efbd78963fd64fc8fb28b26f96ed379664b4", func := "lockbox/lockboxlaw21.AreaFoe", spec := "areaFoe", inPlace := ["internal/bytealg.MakeNoZero"], unfollowed := true, recurses := true, plainKeys := false, apart := false }
def AreaFoeSaid : Prop := areaFoeRow.holds Try.pinned (OpenSpec.ofChange areaFoeSpec)

/-- ITS FALSE NEIGHBOUR: 'it returns false'. Refute it at one input. -/
def areaFoeWrong : ChangeSpec := { name := "areaFoe", fn := fun _ => fun
  | [d1, d2, d3, d4, d5] => { results := [.lit (.bool false)], args := [d1, d2, d3, d4, d5] }
  | _ => none }
def AreaFoeWrongFalsely : Prop := areaFoeRow.holds Try.pinned (OpenSpec.ofChange areaFoeWrong)

/-- 'lockboxlaw22.LogKeys': WHATEVER THE INPUT: true; the input reads as it did. -/
def logKeysSpec : ChangeSpec := { name := "logKeys", fn := fun _ => fun
  | [d1, d2, d3] => { results := [.lit (.bool true)], args := [d1, d2, d3] }
  | _ => none }
def logKeysRow : OpenClaim := { program := "ytjehfcjfnmcjcaa", sum := "f3fb126019c5624678ed6a4408f1efbd78963fd64fc8fb28b26f96ed379664b4", func := "lockbox/lockboxlaw22.LogKeys", spec := "logKeys", inPlace := ["internal/bytealg.MakeNoZero"], unfollowed := true, recurses := true, plainKeys := false, apart := false }
def LogKeysSaid : Prop := logKeysRow.holds Try.pinned (OpenSpec.ofChange logKeysSpec)

/-- ITS FALSE NEIGHBOUR: 'it returns false'. Refute it at one input. -/
def logKeysWrong : ChangeSpec := { name := "logKeys", fn := fun _ => fun
  | [d1, d2, d3] => { results := [.lit (.bool false)], args := [d1, d2, d3] }
  | _ => none }
def LogKeysWrongFalsely : Prop := logKeysRow.holds Try.pinned (OpenSpec.ofChange logKeysWrong)

/- THE SECOND FORM. 'bulk': how many values and letters a reading holds, each counted each time it is reached (what is shared counts as often as it is met; a slice's spare places count too). A statement '..UptoSaid' is the law's where the arguments, and the package variables that the reading takes, are together of bulk at most 1048576: NARROWER than '..Said'. Prove '..Said' where nothing that the law and all that it calls make is longer than what came in: it says more and counts as full. Else prove '..UptoSaid'. A law counts once. -/
mutual
def uptoBulk {H : Type} : DataW H → Nat
  | .lit (.string bytes) => bytes.length + 1
  | .lit _ => 1
  | .nil => 1
  | .ptr d => uptoBulk d + 1
  | .slice elems spare => uptoBulkAll elems + uptoBulkAll spare + 1
  | .agg parts => uptoBulkAll parts + 1
  | .iface _ d => uptoBulk d + 1
  | .map entries => uptoBulkEntries entries + 1
  | .held _ => 1
def uptoBulkAll {H : Type} : List (DataW H) → Nat
  | [] => 0
  | d :: r => uptoBulk d + uptoBulkAll r
def uptoBulkEntries {H : Type} : List (Lit × DataW H) → Nat
  | [] => 0
  | x :: r => uptoBulkEntry x + uptoBulkEntries r
def uptoBulkEntry {H : Type} : Lit × DataW H → Nat
  | (.string bytes, d) => bytes.length + uptoBulk d + 1
  | (_, d) => uptoBulk d + 1
 end
def uptoSmall : (H : Type) → List (DataW H) → Bool := fun _ ds => decide (uptoBulkAll ds ≤ 1048576)
def OpenSpec.upto (s : _root_.Go.ChangeSpec) : _root_.Go.OpenSpec := { _root_.Go.OpenSpec.ofChange s with cond := some uptoSmall }

/-- 'lockboxlaw7.OracleOwn', WHERE WHAT IT READS IS OF BULK AT MOST 1048576: true; the input reads as it did. -/
def oracleOwnUptoRow : OpenClaim := { program := "ytjehfcjfnmcjcaa", sum := "f3fb126019c5624678ed6a4408f1efbd78963fd64fc8fb28b26f96ed379664b4", func := "lockbox/lockboxlaw7.OracleOwn", spec := "oracleOwn", inPlace := ["internal/bytealg.MakeNoZero"], plainKeys := false, apart := false, narrowed := true }
def OracleOwnUptoSaid : Prop := oracleOwnUptoRow.holds Try.pinned (OpenSpec.upto oracleOwnSpec)

/-- 'lockboxlaw20.WorldNew', WHERE WHAT IT READS IS OF BULK AT MOST 1048576: true; the input reads as it did. -/
def worldNewUptoRow : OpenClaim := { program := "ytjehfcjfnmcjcaa", sum := "f3fb126019c5624678ed6a4408f1efbd78963fd64fc8fb28b26f96ed379664b4", func := "lockbox/lockboxlaw20.WorldNew", spec := "worldNew", inPlace := ["internal/bytealg.MakeNoZero"], unfollowed := true, recurses := true, plainKeys := false, apart := false, narrowed := true }
def WorldNewUptoSaid : Prop := worldNewUptoRow.holds Try.pinned (OpenSpec.upto worldNewSpec)

/-- 'lockboxlaw20.WorldCrash', WHERE WHAT IT READS IS OF BULK AT MOST 1048576: true; the input reads as it did. -/
def worldCrashUptoRow : OpenClaim := { program := "ytjehfcjfnmcjcaa", sum := "f3fb126019c5624678ed6a4408f1efbd78963fd64fc8fb28b26f96ed379664b4", func := "lockbox/lockboxlaw20.WorldCrash", spec := "worldCrash", inPlace := ["internal/bytealg.MakeNoZero"], unfollowed := true, recurses := true, plainKeys := false, apart := false, narrowed := true }
def WorldCrashUptoSaid : Prop := worldCrashUptoRow.holds Try.pinned (OpenSpec.upto worldCrashSpec)

/-- 'lockboxlaw20.WorldOne', WHERE WHAT IT READS IS OF BULK AT MOST 1048576: true; the input reads as it did. -/
def worldOneUptoRow : OpenClaim := { program := "ytjehfcjfnmcjcaa", sum := "f3fb126019c5624678ed6a4408f1efbd78963fd64fc8fb28b26f96ed379664b4", func := "lockbox/lockboxlaw20.WorldOne", spec := "worldOne", inPlace := ["internal/bytealg.MakeNoZero"], unfollowed := true, recurses := true, plainKeys := false, apart := false, narrowed := true }
def WorldOneUptoSaid : Prop := worldOneUptoRow.holds Try.pinned (OpenSpec.upto worldOneSpec)

/-- 'lockboxlaw21.AreaTwo', WHERE WHAT IT READS IS OF BULK AT MOST 1048576: true; the input reads as it did. -/
def areaTwoUptoRow : OpenClaim := { program := "ytjehfcjfnmcjcaa", sum := "f3fb126019c5624678ed6a4408f1efbd78963fd64fc8fb28b26f96ed379664b4", func := "lockbox/lockboxlaw21.AreaTwo", spec := "areaTwo", inPlace := ["internal/bytealg.MakeNoZero"], unfollowed := true, recurses := true, plainKeys := false, apart := false, narrowed := true }
def AreaTwoUptoSaid : Prop := areaTwoUptoRow.holds Try.pinned (OpenSpec.upto areaTwoSpec)

/-- 'lockboxlaw22.LogRecords', WHERE WHAT IT READS IS OF BULK AT MOST 1048576: true; the input reads as it did. -/
def logRecordsUptoRow : OpenClaim := { program := "ytjehfcjfnmcjcaa", sum := "f3fb126019c5624678ed6a4408f1efbd78963fd64fc8fb28b26f96ed379664b4", func := "lockbox/lockboxlaw22.LogRecords", spec := "logRecords", inPlace := ["internal/bytealg.MakeNoZero"], unfollowed := true, recurses := true, plainKeys := false, apart := false, narrowed := true }
def LogRecordsUptoSaid : Prop := logRecordsUptoRow.holds Try.pinned (OpenSpec.upto logRecordsSpec)

/-- 'lockboxlaw22.LogOnly', WHERE WHAT IT READS IS OF BULK AT MOST 1048576: true; the input reads as it did. -/
def logOnlyUptoRow : OpenClaim := { program := "ytjehfcjfnmcjcaa", sum := "f3fb126019c5624678ed6a4408f1efbd78963fd64fc8fb28b26f96ed379664b4", func := "lockbox/lockboxlaw22.LogOnly", spec := "logOnly", inPlace := ["internal/bytealg.MakeNoZero"], unfollowed := true, recurses := true, plainKeys := false, apart := false, narrowed := true }
def LogOnlyUptoSaid : Prop := logOnlyUptoRow.holds Try.pinned (OpenSpec.upto logOnlySpec)

/-- 'lockboxlaw22.LogFoe', WHERE WHAT IT READS IS OF BULK AT MOST 1048576: true; the input reads as it did. -/
def logFoeUptoRow : OpenClaim := { program := "ytjehfcjfnmcjcaa", sum := "f3fb126019c5624678ed6a4408f1efbd78963fd64fc8fb28b26f96ed379664b4", func := "lockbox/lockboxlaw22.LogFoe", spec := "logFoe", inPlace := ["internal/bytealg.MakeNoZero"], unfollowed := true, recurses := true, plainKeys := false, apart := false, narrowed := true }
def LogFoeUptoSaid : Prop := logFoeUptoRow.holds Try.pinned (OpenSpec.upto logFoeSpec)

/-- 'lockboxlaw21.AreaBack', WHERE WHAT IT READS IS OF BULK AT MOST 1048576: true; the input reads as it did. -/
def areaBackUptoRow : OpenClaim := { program := "ytjehfcjfnmcjcaa", sum := "f3fb126019c5624678ed6a4408f1efbd78963fd64fc8fb28b26f96ed379664b4", func := "lockbox/lockboxlaw21.AreaBack", spec := "areaBack", inPlace := ["internal/bytealg.MakeNoZero"], unfollowed := true, recurses := true, plainKeys := false, apart := false, narrowed := true }
def AreaBackUptoSaid : Prop := areaBackUptoRow.holds Try.pinned (OpenSpec.upto areaBackSpec)

/-- 'lockboxlaw21.AreaFoe', WHERE WHAT IT READS IS OF BULK AT MOST 1048576: true; the input reads as it did. -/
def areaFoeUptoRow : OpenClaim := { program := "ytjehfcjfnmcjcaa", sum := "f3fb126019c5624678ed6a4408f1efbd78963fd64fc8fb28b26f96ed379664b4", func := "lockbox/lockboxlaw21.AreaFoe", spec := "areaFoe", inPlace := ["internal/bytealg.MakeNoZero"], unfollowed := true, recurses := true, plainKeys := false, apart := false, narrowed := true }
def AreaFoeUptoSaid : Prop := areaFoeUptoRow.holds Try.pinned (OpenSpec.upto areaFoeSpec)

/-- 'lockboxlaw22.LogKeys', WHERE WHAT IT READS IS OF BULK AT MOST 1048576: true; the input reads as it did. -/
def logKeysUptoRow : OpenClaim := { program := "ytjehfcjfnmcjcaa", sum := "f3fb126019c5624678ed6a4408f1efbd78963fd64fc8fb28b26f96ed379664b4", func := "lockbox/lockboxlaw22.LogKeys", spec := "logKeys", inPlace := ["internal/bytealg.MakeNoZero"], unfollowed := true, recurses := true, plainKeys := false, apart := false, narrowed := true }
def LogKeysUptoSaid : Prop := logKeysUptoRow.holds Try.pinned (OpenSpec.upto logKeysSpec)

end Rows
end Go.Proofs.Ytjehfcjfnmcjcaa
