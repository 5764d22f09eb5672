/-
  No cell of these rows narrows 'for every input' (looked for: loops, veiled, ifaces, maps, wideKeys, modest, calm, conditions, laid).
  DERIVED. THE GIVEN ROWS OF THIS SEAT. 6 by the template 'for every input the law returns true; each argument reads behind the call as it read before'; 0 by the template 'total and deterministic' (their statements: YtafkhpjnihnfpaaGreatTotals.lean).
  GIVEN WITH THE SEED: the statements are not yours to turn. If you find one false, say at which input.
  Laid BY PROGRAM, IN A SANDBOX (cutbox-rows.mjs): the forced cells as the released guide's own fill.sh prints them over the translation 5c9158d32151acad… (all of the seat's roots in one cut). By AI agents, Wed Nov 11 2026. No macro, syntax, notation, axiom, sorry.
-/
import Derived.Test.YtafkhpjnihnfpaaGreatChecked
import GoSem.Claim
import GoSem.ClaimJoined
import GoSem.ClaimMapViews
import Derived.JoinedTies
import Derived.KernelRfl
namespace Go.Proofs.YtafkhpjnihnfpaaGreat
/- THE CELL 'sum', in the pinned program and in every row, IS THE sha256 OF THE DUMP (.gsa) THAT YtafkhpjnihnfpaaGreatProg.lean LOADS. Nothing in Lean hashes anything: it is a label: what it is worth is what the hold of that sum in a sandbox is worth. -/
noncomputable def Tryz.pinned : Pinned := { name := "ytafkhpjnihnfpaagreat", sum := "5c9158d32151acad44a923380fe64cefa36aa34624d85d2869aea7da19b078a0", checked := Tryz.checked }
namespace Rows
def none {H : Type} : Left H := { results := [], args := [] }

/-- 'lockboxlaw30.AuditTraces': WHATEVER THE INPUT: true; the input reads as it did. -/
def auditTracesSpec : ChangeSpec := { name := "auditTraces", fn := fun _ => fun
  | [d1, d2, d3] => { results := [.lit (.bool true)], args := [d1, d2, d3] }
  | _ => none }
def auditTracesRow : OpenClaim := { program := "ytafkhpjnihnfpaagreat", sum := "5c9158d32151acad44a923380fe64cefa36aa34624d85d2869aea7da19b078a0", func := "lockbox/lockboxlaw30.AuditTraces", spec := "auditTraces", inPlace := ["internal/bytealg.MakeNoZero"], unfollowed := true, recurses := true, plainKeys := false, apart := false }
def AuditTracesSaid : Prop := auditTracesRow.holds Tryz.pinned (OpenSpec.ofChange auditTracesSpec)

/-- ITS FALSE NEIGHBOUR: 'it returns false'. Refute it at one input. -/
def auditTracesWrong : ChangeSpec := { name := "auditTraces", fn := fun _ => fun
  | [d1, d2, d3] => { results := [.lit (.bool false)], args := [d1, d2, d3] }
  | _ => none }
def AuditTracesWrongFalsely : Prop := auditTracesRow.holds Tryz.pinned (OpenSpec.ofChange auditTracesWrong)

/-- 'lockboxlaw29.PlayCrash': WHATEVER THE INPUT: true; the input reads as it did. -/
def playCrashSpec : ChangeSpec := { name := "playCrash", fn := fun _ => fun
  | [d1, d2, d3, d4] => { results := [.lit (.bool true)], args := [d1, d2, d3, d4] }
  | _ => none }
def playCrashRow : OpenClaim := { program := "ytafkhpjnihnfpaagreat", sum := "5c9158d32151acad44a923380fe64cefa36aa34624d85d2869aea7da19b078a0", func := "lockbox/lockboxlaw29.PlayCrash", spec := "playCrash", inPlace := ["internal/bytealg.MakeNoZero"], unfollowed := true, recurses := true, plainKeys := false, apart := false }
def PlayCrashSaid : Prop := playCrashRow.holds Tryz.pinned (OpenSpec.ofChange playCrashSpec)

/-- ITS FALSE NEIGHBOUR: 'it returns false'. Refute it at one input. -/
def playCrashWrong : ChangeSpec := { name := "playCrash", fn := fun _ => fun
  | [d1, d2, d3, d4] => { results := [.lit (.bool false)], args := [d1, d2, d3, d4] }
  | _ => none }
def PlayCrashWrongFalsely : Prop := playCrashRow.holds Tryz.pinned (OpenSpec.ofChange playCrashWrong)

/-- 'lockboxlaw29.PlayOfNothing': WHATEVER THE INPUT: true; the input reads as it did. -/
def playOfNothingSpec : ChangeSpec := { name := "playOfNothing", fn := fun _ => fun
  | [d] => { results := [.lit (.bool true)], args := [d] }
  | _ => none }
def playOfNothingRow : OpenClaim := { program := "ytafkhpjnihnfpaagreat", sum := "5c9158d32151acad44a923380fe64cefa36aa34624d85d2869aea7da19b078a0", func := "lockbox/lockboxlaw29.PlayOfNothing", spec := "playOfNothing", inPlace := ["internal/bytealg.MakeNoZero"], unfollowed := true, recurses := true, plainKeys := false, apart := false }
def PlayOfNothingSaid : Prop := playOfNothingRow.holds Tryz.pinned (OpenSpec.ofChange playOfNothingSpec)

/-- ITS FALSE NEIGHBOUR: 'it returns false'. Refute it at one input. -/
def playOfNothingWrong : ChangeSpec := { name := "playOfNothing", fn := fun _ => fun
  | [d] => { results := [.lit (.bool false)], args := [d] }
  | _ => none }
def PlayOfNothingWrongFalsely : Prop := playOfNothingRow.holds Tryz.pinned (OpenSpec.ofChange playOfNothingWrong)

/-- 'lockboxlaw29.PlayShut': WHATEVER THE INPUT: true; the input reads as it did. -/
def playShutSpec : ChangeSpec := { name := "playShut", fn := fun _ => fun
  | [d1, d2, d3] => { results := [.lit (.bool true)], args := [d1, d2, d3] }
  | _ => none }
def playShutRow : OpenClaim := { program := "ytafkhpjnihnfpaagreat", sum := "5c9158d32151acad44a923380fe64cefa36aa34624d85d2869aea7da19b078a0", func := "lockbox/lockboxlaw29.PlayShut", spec := "playShut", inPlace := ["internal/bytealg.MakeNoZero"], unfollowed := true, recurses := true, plainKeys := false, apart := false }
def PlayShutSaid : Prop := playShutRow.holds Tryz.pinned (OpenSpec.ofChange playShutSpec)

/-- ITS FALSE NEIGHBOUR: 'it returns false'. Refute it at one input. -/
def playShutWrong : ChangeSpec := { name := "playShut", fn := fun _ => fun
  | [d1, d2, d3] => { results := [.lit (.bool false)], args := [d1, d2, d3] }
  | _ => none }
def PlayShutWrongFalsely : Prop := playShutRow.holds Tryz.pinned (OpenSpec.ofChange playShutWrong)

/-- 'lockboxlaw30.AuditSecrets': WHATEVER THE INPUT: true; the input reads as it did. -/
def auditSecretsSpec : ChangeSpec := { name := "auditSecrets", fn := fun _ => fun
  | [d1, d2, d3] => { results := [.lit (.bool true)], args := [d1, d2, d3] }
  | _ => none }
def auditSecretsRow : OpenClaim := { program := "ytafkhpjnihnfpaagreat", sum := "5c9158d32151acad44a923380fe64cefa36aa34624d85d2869aea7da19b078a0", func := "lockbox/lockboxlaw30.AuditSecrets", spec := "auditSecrets", inPlace := ["internal/bytealg.MakeNoZero"], unfollowed := true, recurses := true, plainKeys := false, apart := false }
def AuditSecretsSaid : Prop := auditSecretsRow.holds Tryz.pinned (OpenSpec.ofChange auditSecretsSpec)

/-- ITS FALSE NEIGHBOUR: 'it returns false'. Refute it at one input. -/
def auditSecretsWrong : ChangeSpec := { name := "auditSecrets", fn := fun _ => fun
  | [d1, d2, d3] => { results := [.lit (.bool false)], args := [d1, d2, d3] }
  | _ => none }
def AuditSecretsWrongFalsely : Prop := auditSecretsRow.holds Tryz.pinned (OpenSpec.ofChange auditSecretsWrong)

/-- 'lockboxlaw30.AuditOwn': WHATEVER THE INPUT: true; the input reads as it did. -/
def auditOwnSpec : ChangeSpec := { name := "auditOwn", fn := fun _ => fun
  | [d] => { results := [.lit (.bool true)], args := [d] }
  | _ => none }
def auditOwnRow : OpenClaim := { program := "ytafkhpjnihnfpaagreat", sum := "5c9158d32151acad44a923380fe64cefa36aa34624d85d2869aea7da19b078a0", func := "lockbox/lockboxlaw30.AuditOwn", spec := "auditOwn", inPlace := ["internal/bytealg.MakeNoZero"], unfollowed := true, recurses := true, plainKeys := false, apart := false }
def AuditOwnSaid : Prop := auditOwnRow.holds Tryz.pinned (OpenSpec.ofChange auditOwnSpec)

/-- ITS FALSE NEIGHBOUR: 'it returns false'. Refute it at one input. -/
def auditOwnWrong : ChangeSpec := { name := "auditOwn", fn := fun _ => fun
  | [d] => { results := [.lit (.bool false)], args := [d] }
  | _ => none }
def AuditOwnWrongFalsely : Prop := auditOwnRow.holds Tryz.pinned (OpenSpec.ofChange auditOwnWrong)

/- THE SECOND FORM. 'bulk': how many values and letters a reading holds, each counted each time it is reached (what is shared counts as often as it is met; a slice's spare places count too). A statement '..UptoSaid' is the law's where the arguments, and the package variables that the reading takes, are together of bulk at most 1048576: NARROWER than '..Said'. Prove '..Said' where nothing that the law and all that it calls make is longer than what came in: it says more and counts as full. Else prove '..UptoSaid'. A law counts once. -/
mutual
def uptoBulk {H : Type} : DataW H → Nat
  | .lit (.string bytes) => bytes.length + 1
  | .lit _ => 1
  | .nil => 1
  | .ptr d => uptoBulk d + 1
  | .slice elems spare => uptoBulkAll elems + uptoBulkAll spare + 1
  | .agg parts => uptoBulkAll parts + 1
  | .iface _ d => uptoBulk d + 1
  | .map entries => uptoBulkEntries entries + 1
  | .held _ => 1
def uptoBulkAll {H : Type} : List (DataW H) → Nat
  | [] => 0
  | d :: r => uptoBulk d + uptoBulkAll r
def uptoBulkEntries {H : Type} : List (Lit × DataW H) → Nat
  | [] => 0
  | x :: r => uptoBulkEntry x + uptoBulkEntries r
def uptoBulkEntry {H : Type} : Lit × DataW H → Nat
  | (.string bytes, d) => bytes.length + uptoBulk d + 1
  | (_, d) => uptoBulk d + 1
 end
def uptoSmall : (H : Type) → List (DataW H) → Bool := fun _ ds => decide (uptoBulkAll ds ≤ 1048576)
def OpenSpec.upto (s : _root_.Go.ChangeSpec) : _root_.Go.OpenSpec := { _root_.Go.OpenSpec.ofChange s with cond := some uptoSmall }

/-- 'lockboxlaw30.AuditTraces', WHERE WHAT IT READS IS OF BULK AT MOST 1048576: true; the input reads as it did. -/
def auditTracesUptoRow : OpenClaim := { program := "ytafkhpjnihnfpaagreat", sum := "5c9158d32151acad44a923380fe64cefa36aa34624d85d2869aea7da19b078a0", func := "lockbox/lockboxlaw30.AuditTraces", spec := "auditTraces", inPlace := ["internal/bytealg.MakeNoZero"], unfollowed := true, recurses := true, plainKeys := false, apart := false, narrowed := true }
def AuditTracesUptoSaid : Prop := auditTracesUptoRow.holds Tryz.pinned (OpenSpec.upto auditTracesSpec)

/-- 'lockboxlaw29.PlayCrash', WHERE WHAT IT READS IS OF BULK AT MOST 1048576: true; the input reads as it did. -/
def playCrashUptoRow : OpenClaim := { program := "ytafkhpjnihnfpaagreat", sum := "5c9158d32151acad44a923380fe64cefa36aa34624d85d2869aea7da19b078a0", func := "lockbox/lockboxlaw29.PlayCrash", spec := "playCrash", inPlace := ["internal/bytealg.MakeNoZero"], unfollowed := true, recurses := true, plainKeys := false, apart := false, narrowed := true }
def PlayCrashUptoSaid : Prop := playCrashUptoRow.holds Tryz.pinned (OpenSpec.upto playCrashSpec)

/-- 'lockboxlaw29.PlayOfNothing', WHERE WHAT IT READS IS OF BULK AT MOST 1048576: true; the input reads as it did. -/
def playOfNothingUptoRow : OpenClaim := { program := "ytafkhpjnihnfpaagreat", sum := "5c9158d32151acad44a923380fe64cefa36aa34624d85d2869aea7da19b078a0", func := "lockbox/lockboxlaw29.PlayOfNothing", spec := "playOfNothing", inPlace := ["internal/bytealg.MakeNoZero"], unfollowed := true, recurses := true, plainKeys := false, apart := false, narrowed := true }
def PlayOfNothingUptoSaid : Prop := playOfNothingUptoRow.holds Tryz.pinned (OpenSpec.upto playOfNothingSpec)

/-- 'lockboxlaw29.PlayShut', WHERE WHAT IT READS IS OF BULK AT MOST 1048576: true; the input reads as it did. -/
def playShutUptoRow : OpenClaim := { program := "ytafkhpjnihnfpaagreat", sum := "5c9158d32151acad44a923380fe64cefa36aa34624d85d2869aea7da19b078a0", func := "lockbox/lockboxlaw29.PlayShut", spec := "playShut", inPlace := ["internal/bytealg.MakeNoZero"], unfollowed := true, recurses := true, plainKeys := false, apart := false, narrowed := true }
def PlayShutUptoSaid : Prop := playShutUptoRow.holds Tryz.pinned (OpenSpec.upto playShutSpec)

/-- 'lockboxlaw30.AuditSecrets', WHERE WHAT IT READS IS OF BULK AT MOST 1048576: true; the input reads as it did. -/
def auditSecretsUptoRow : OpenClaim := { program := "ytafkhpjnihnfpaagreat", sum := "5c9158d32151acad44a923380fe64cefa36aa34624d85d2869aea7da19b078a0", func := "lockbox/lockboxlaw30.AuditSecrets", spec := "auditSecrets", inPlace := ["internal/bytealg.MakeNoZero"], unfollowed := true, recurses := true, plainKeys := false, apart := false, narrowed := true }
def AuditSecretsUptoSaid : Prop := auditSecretsUptoRow.holds Tryz.pinned (OpenSpec.upto auditSecretsSpec)

/-- 'lockboxlaw30.AuditOwn', WHERE WHAT IT READS IS OF BULK AT MOST 1048576: true; the input reads as it did. -/
def auditOwnUptoRow : OpenClaim := { program := "ytafkhpjnihnfpaagreat", sum := "5c9158d32151acad44a923380fe64cefa36aa34624d85d2869aea7da19b078a0", func := "lockbox/lockboxlaw30.AuditOwn", spec := "auditOwn", inPlace := ["internal/bytealg.MakeNoZero"], unfollowed := true, recurses := true, plainKeys := false, apart := false, narrowed := true }
def AuditOwnUptoSaid : Prop := auditOwnUptoRow.holds Tryz.pinned (OpenSpec.upto auditOwnSpec)

end Rows
end Go.Proofs.YtafkhpjnihnfpaaGreat
