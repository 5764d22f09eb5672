/-
  No cell of these rows narrows 'for every input' (looked for: loops, veiled, ifaces, maps, wideKeys, modest, calm, conditions, laid).
  DERIVED. THE GIVEN ROWS OF THIS SEAT. 12 by the template 'for every input the law returns true; each argument reads behind the call as it read before'; 0 by the template 'total and deterministic' (their statements: YthblcmnhiccnhaaGreatTotals.lean).
  GIVEN WITH THE SEED: the statements are not yours to turn. If you find one false, say at which input.
  Laid BY PROGRAM, IN A SANDBOX (cutbox-rows.mjs): the forced cells as the released guide's own fill.sh prints them over the translation d145bd58a8c4b829… (all of the seat's roots in one cut). By AI agents, Wed Nov 11 2026. No macro, syntax, notation, axiom, sorry.
-/
import Derived.Test.YthblcmnhiccnhaaGreatChecked
import GoSem.Claim
import GoSem.ClaimJoined
import GoSem.ClaimMapViews
import Derived.JoinedTies
import Derived.KernelRfl
namespace Go.Proofs.YthblcmnhiccnhaaGreat
/- THE CELL 'sum', in the pinned program and in every row, IS THE sha256 OF THE DUMP (.gsa) THAT YthblcmnhiccnhaaGreatProg.lean LOADS. Nothing in Lean hashes anything: it is a label: what it is worth is what the hold of that sum in a sandbox is worth. -/
noncomputable def Tryz.pinned : Pinned := { name := "ythblcmnhiccnhaagreat", sum := "d145bd58a8c4b82922cfc44585254ad6a37c31872368234e1dc90f1be152b429", checked := Tryz.checked }
namespace Rows
def none {H : Type} : Left H := { results := [], args := [] }

/-- 'lockboxlaw29.PlayCrash': WHATEVER THE INPUT: true; the input reads as it did. -/
def playCrashSpec : ChangeSpec := { name := "playCrash", fn := fun _ => fun
  | [d1, d2, d3, d4] => { results := [.lit (.bool true)], args := [d1, d2, d3, d4] }
  | _ => none }
def playCrashRow : OpenClaim := { program := "ythblcmnhiccnhaagreat", sum := "d145bd58a8c4b82922cfc44585254ad6a37c31872368234e1dc90f1be152b429", func := "lockbox/lockboxlaw29.PlayCrash", spec := "playCrash", inPlace := ["internal/bytealg.MakeNoZero"], unfollowed := true, recurses := true, plainKeys := false, apart := false }
def PlayCrashSaid : Prop := playCrashRow.holds Tryz.pinned (OpenSpec.ofChange playCrashSpec)

/-- ITS FALSE NEIGHBOUR: 'it returns false'. Refute it at one input. -/
def playCrashWrong : ChangeSpec := { name := "playCrash", fn := fun _ => fun
  | [d1, d2, d3, d4] => { results := [.lit (.bool false)], args := [d1, d2, d3, d4] }
  | _ => none }
def PlayCrashWrongFalsely : Prop := playCrashRow.holds Tryz.pinned (OpenSpec.ofChange playCrashWrong)

/-- 'lockboxlaw30.AuditSecrets': WHATEVER THE INPUT: true; the input reads as it did. -/
def auditSecretsSpec : ChangeSpec := { name := "auditSecrets", fn := fun _ => fun
  | [d1, d2, d3] => { results := [.lit (.bool true)], args := [d1, d2, d3] }
  | _ => none }
def auditSecretsRow : OpenClaim := { program := "ythblcmnhiccnhaagreat", sum := "d145bd58a8c4b82922cfc44585254ad6a37c31872368234e1dc90f1be152b429", func := "lockbox/lockboxlaw30.AuditSecrets", spec := "auditSecrets", inPlace := ["internal/bytealg.MakeNoZero"], unfollowed := true, recurses := true, plainKeys := false, apart := false }
def AuditSecretsSaid : Prop := auditSecretsRow.holds Tryz.pinned (OpenSpec.ofChange auditSecretsSpec)

/-- ITS FALSE NEIGHBOUR: 'it returns false'. Refute it at one input. -/
def auditSecretsWrong : ChangeSpec := { name := "auditSecrets", fn := fun _ => fun
  | [d1, d2, d3] => { results := [.lit (.bool false)], args := [d1, d2, d3] }
  | _ => none }
def AuditSecretsWrongFalsely : Prop := auditSecretsRow.holds Tryz.pinned (OpenSpec.ofChange auditSecretsWrong)

/-- 'lockboxlaw28.CacheModel': WHATEVER THE INPUT: true; the input reads as it did. -/
def cacheModelSpec : ChangeSpec := { name := "cacheModel", fn := fun _ => fun
  | [d1, d2, d3] => { results := [.lit (.bool true)], args := [d1, d2, d3] }
  | _ => none }
def cacheModelRow : OpenClaim := { program := "ythblcmnhiccnhaagreat", sum := "d145bd58a8c4b82922cfc44585254ad6a37c31872368234e1dc90f1be152b429", func := "lockbox/lockboxlaw28.CacheModel", spec := "cacheModel", inPlace := ["internal/bytealg.MakeNoZero"], unfollowed := true, recurses := true, plainKeys := false, apart := false }
def CacheModelSaid : Prop := cacheModelRow.holds Tryz.pinned (OpenSpec.ofChange cacheModelSpec)

/-- ITS FALSE NEIGHBOUR: 'it returns false'. Refute it at one input. -/
def cacheModelWrong : ChangeSpec := { name := "cacheModel", fn := fun _ => fun
  | [d1, d2, d3] => { results := [.lit (.bool false)], args := [d1, d2, d3] }
  | _ => none }
def CacheModelWrongFalsely : Prop := cacheModelRow.holds Tryz.pinned (OpenSpec.ofChange cacheModelWrong)

/-- 'lockboxlaw28.CacheNumbers': WHATEVER THE INPUT: true; the input reads as it did. -/
def cacheNumbersSpec : ChangeSpec := { name := "cacheNumbers", fn := fun _ => fun
  | [d1, d2] => { results := [.lit (.bool true)], args := [d1, d2] }
  | _ => none }
def cacheNumbersRow : OpenClaim := { program := "ythblcmnhiccnhaagreat", sum := "d145bd58a8c4b82922cfc44585254ad6a37c31872368234e1dc90f1be152b429", func := "lockbox/lockboxlaw28.CacheNumbers", spec := "cacheNumbers", inPlace := ["internal/bytealg.MakeNoZero"], unfollowed := true, recurses := true, plainKeys := false, apart := false }
def CacheNumbersSaid : Prop := cacheNumbersRow.holds Tryz.pinned (OpenSpec.ofChange cacheNumbersSpec)

/-- ITS FALSE NEIGHBOUR: 'it returns false'. Refute it at one input. -/
def cacheNumbersWrong : ChangeSpec := { name := "cacheNumbers", fn := fun _ => fun
  | [d1, d2] => { results := [.lit (.bool false)], args := [d1, d2] }
  | _ => none }
def CacheNumbersWrongFalsely : Prop := cacheNumbersRow.holds Tryz.pinned (OpenSpec.ofChange cacheNumbersWrong)

/-- 'lockboxlaw28.CacheRotates': WHATEVER THE INPUT: true; the input reads as it did. -/
def cacheRotatesSpec : ChangeSpec := { name := "cacheRotates", fn := fun _ => fun
  | [d] => { results := [.lit (.bool true)], args := [d] }
  | _ => none }
def cacheRotatesRow : OpenClaim := { program := "ythblcmnhiccnhaagreat", sum := "d145bd58a8c4b82922cfc44585254ad6a37c31872368234e1dc90f1be152b429", func := "lockbox/lockboxlaw28.CacheRotates", spec := "cacheRotates", inPlace := ["internal/bytealg.MakeNoZero"], unfollowed := true, recurses := true, plainKeys := false, apart := false }
def CacheRotatesSaid : Prop := cacheRotatesRow.holds Tryz.pinned (OpenSpec.ofChange cacheRotatesSpec)

/-- ITS FALSE NEIGHBOUR: 'it returns false'. Refute it at one input. -/
def cacheRotatesWrong : ChangeSpec := { name := "cacheRotates", fn := fun _ => fun
  | [d] => { results := [.lit (.bool false)], args := [d] }
  | _ => none }
def CacheRotatesWrongFalsely : Prop := cacheRotatesRow.holds Tryz.pinned (OpenSpec.ofChange cacheRotatesWrong)

/-- 'lockboxlaw28.CacheKeeps': WHATEVER THE INPUT: true; the input reads as it did. -/
def cacheKeepsSpec : ChangeSpec := { name := "cacheKeeps", fn := fun _ => fun
  | [d1, d2] => { results := [.lit (.bool true)], args := [d1, d2] }
  | _ => none }
def cacheKeepsRow : OpenClaim := { program := "ythblcmnhiccnhaagreat", sum := "d145bd58a8c4b82922cfc44585254ad6a37c31872368234e1dc90f1be152b429", func := "lockbox/lockboxlaw28.CacheKeeps", spec := "cacheKeeps", inPlace := ["internal/bytealg.MakeNoZero"], unfollowed := true, recurses := true, plainKeys := false, apart := false }
def CacheKeepsSaid : Prop := cacheKeepsRow.holds Tryz.pinned (OpenSpec.ofChange cacheKeepsSpec)

/-- ITS FALSE NEIGHBOUR: 'it returns false'. Refute it at one input. -/
def cacheKeepsWrong : ChangeSpec := { name := "cacheKeeps", fn := fun _ => fun
  | [d1, d2] => { results := [.lit (.bool false)], args := [d1, d2] }
  | _ => none }
def CacheKeepsWrongFalsely : Prop := cacheKeepsRow.holds Tryz.pinned (OpenSpec.ofChange cacheKeepsWrong)

/-- 'lockboxlaw28.CacheTampers': WHATEVER THE INPUT: true; the input reads as it did. -/
def cacheTampersSpec : ChangeSpec := { name := "cacheTampers", fn := fun _ => fun
  | [d1, d2, d3, d4] => { results := [.lit (.bool true)], args := [d1, d2, d3, d4] }
  | _ => none }
def cacheTampersRow : OpenClaim := { program := "ythblcmnhiccnhaagreat", sum := "d145bd58a8c4b82922cfc44585254ad6a37c31872368234e1dc90f1be152b429", func := "lockbox/lockboxlaw28.CacheTampers", spec := "cacheTampers", inPlace := ["internal/bytealg.MakeNoZero"], unfollowed := true, recurses := true, plainKeys := false, apart := false }
def CacheTampersSaid : Prop := cacheTampersRow.holds Tryz.pinned (OpenSpec.ofChange cacheTampersSpec)

/-- ITS FALSE NEIGHBOUR: 'it returns false'. Refute it at one input. -/
def cacheTampersWrong : ChangeSpec := { name := "cacheTampers", fn := fun _ => fun
  | [d1, d2, d3, d4] => { results := [.lit (.bool false)], args := [d1, d2, d3, d4] }
  | _ => none }
def CacheTampersWrongFalsely : Prop := cacheTampersRow.holds Tryz.pinned (OpenSpec.ofChange cacheTampersWrong)

/-- 'lockboxlaw28.CacheFull': WHATEVER THE INPUT: true; the input reads as it did. -/
def cacheFullSpec : ChangeSpec := { name := "cacheFull", fn := fun _ => fun
  | [d1, d2, d3] => { results := [.lit (.bool true)], args := [d1, d2, d3] }
  | _ => none }
def cacheFullRow : OpenClaim := { program := "ythblcmnhiccnhaagreat", sum := "d145bd58a8c4b82922cfc44585254ad6a37c31872368234e1dc90f1be152b429", func := "lockbox/lockboxlaw28.CacheFull", spec := "cacheFull", inPlace := ["internal/bytealg.MakeNoZero"], unfollowed := true, recurses := true, plainKeys := false, apart := false }
def CacheFullSaid : Prop := cacheFullRow.holds Tryz.pinned (OpenSpec.ofChange cacheFullSpec)

/-- ITS FALSE NEIGHBOUR: 'it returns false'. Refute it at one input. -/
def cacheFullWrong : ChangeSpec := { name := "cacheFull", fn := fun _ => fun
  | [d1, d2, d3] => { results := [.lit (.bool false)], args := [d1, d2, d3] }
  | _ => none }
def CacheFullWrongFalsely : Prop := cacheFullRow.holds Tryz.pinned (OpenSpec.ofChange cacheFullWrong)

/-- 'lockboxlaw28.CacheArgs': WHATEVER THE INPUT: true; the input reads as it did. -/
def cacheArgsSpec : ChangeSpec := { name := "cacheArgs", fn := fun _ => fun
  | [d] => { results := [.lit (.bool true)], args := [d] }
  | _ => none }
def cacheArgsRow : OpenClaim := { program := "ythblcmnhiccnhaagreat", sum := "d145bd58a8c4b82922cfc44585254ad6a37c31872368234e1dc90f1be152b429", func := "lockbox/lockboxlaw28.CacheArgs", spec := "cacheArgs", inPlace := ["internal/bytealg.MakeNoZero"], unfollowed := true, recurses := true, plainKeys := false, apart := false }
def CacheArgsSaid : Prop := cacheArgsRow.holds Tryz.pinned (OpenSpec.ofChange cacheArgsSpec)

/-- ITS FALSE NEIGHBOUR: 'it returns false'. Refute it at one input. -/
def cacheArgsWrong : ChangeSpec := { name := "cacheArgs", fn := fun _ => fun
  | [d] => { results := [.lit (.bool false)], args := [d] }
  | _ => none }
def CacheArgsWrongFalsely : Prop := cacheArgsRow.holds Tryz.pinned (OpenSpec.ofChange cacheArgsWrong)

/-- 'lockboxlaw28.CacheCrash': WHATEVER THE INPUT: true; the input reads as it did. -/
def cacheCrashSpec : ChangeSpec := { name := "cacheCrash", fn := fun _ => fun
  | [d1, d2, d3, d4] => { results := [.lit (.bool true)], args := [d1, d2, d3, d4] }
  | _ => none }
def cacheCrashRow : OpenClaim := { program := "ythblcmnhiccnhaagreat", sum := "d145bd58a8c4b82922cfc44585254ad6a37c31872368234e1dc90f1be152b429", func := "lockbox/lockboxlaw28.CacheCrash", spec := "cacheCrash", inPlace := ["internal/bytealg.MakeNoZero"], unfollowed := true, recurses := true, plainKeys := false, apart := false }
def CacheCrashSaid : Prop := cacheCrashRow.holds Tryz.pinned (OpenSpec.ofChange cacheCrashSpec)

/-- ITS FALSE NEIGHBOUR: 'it returns false'. Refute it at one input. -/
def cacheCrashWrong : ChangeSpec := { name := "cacheCrash", fn := fun _ => fun
  | [d1, d2, d3, d4] => { results := [.lit (.bool false)], args := [d1, d2, d3, d4] }
  | _ => none }
def CacheCrashWrongFalsely : Prop := cacheCrashRow.holds Tryz.pinned (OpenSpec.ofChange cacheCrashWrong)

/-- 'lockboxlaw28.CacheHalf': WHATEVER THE INPUT: true; the input reads as it did. -/
def cacheHalfSpec : ChangeSpec := { name := "cacheHalf", fn := fun _ => fun
  | [d1, d2, d3, d4] => { results := [.lit (.bool true)], args := [d1, d2, d3, d4] }
  | _ => none }
def cacheHalfRow : OpenClaim := { program := "ythblcmnhiccnhaagreat", sum := "d145bd58a8c4b82922cfc44585254ad6a37c31872368234e1dc90f1be152b429", func := "lockbox/lockboxlaw28.CacheHalf", spec := "cacheHalf", inPlace := ["internal/bytealg.MakeNoZero"], unfollowed := true, recurses := true, plainKeys := false, apart := false }
def CacheHalfSaid : Prop := cacheHalfRow.holds Tryz.pinned (OpenSpec.ofChange cacheHalfSpec)

/-- ITS FALSE NEIGHBOUR: 'it returns false'. Refute it at one input. -/
def cacheHalfWrong : ChangeSpec := { name := "cacheHalf", fn := fun _ => fun
  | [d1, d2, d3, d4] => { results := [.lit (.bool false)], args := [d1, d2, d3, d4] }
  | _ => none }
def CacheHalfWrongFalsely : Prop := cacheHalfRow.holds Tryz.pinned (OpenSpec.ofChange cacheHalfWrong)

/-- 'lockboxlaw29.PlayTwins': WHATEVER THE INPUT: true; the input reads as it did. -/
def playTwinsSpec : ChangeSpec := { name := "playTwins", fn := fun _ => fun
  | [d1, d2, d3, d4] => { results := [.lit (.bool true)], args := [d1, d2, d3, d4] }
  | _ => none }
def playTwinsRow : OpenClaim := { program := "ythblcmnhiccnhaagreat", sum := "d145bd58a8c4b82922cfc44585254ad6a37c31872368234e1dc90f1be152b429", func := "lockbox/lockboxlaw29.PlayTwins", spec := "playTwins", inPlace := ["internal/bytealg.MakeNoZero"], unfollowed := true, recurses := true, plainKeys := false, apart := false }
def PlayTwinsSaid : Prop := playTwinsRow.holds Tryz.pinned (OpenSpec.ofChange playTwinsSpec)

/-- ITS FALSE NEIGHBOUR: 'it returns false'. Refute it at one input. -/
def playTwinsWrong : ChangeSpec := { name := "playTwins", fn := fun _ => fun
  | [d1, d2, d3, d4] => { results := [.lit (.bool false)], args := [d1, d2, d3, d4] }
  | _ => none }
def PlayTwinsWrongFalsely : Prop := playTwinsRow.holds Tryz.pinned (OpenSpec.ofChange playTwinsWrong)

/- THE SECOND FORM. 'bulk': how many values and letters a reading holds, each counted each time it is reached (what is shared counts as often as it is met; a slice's spare places count too). A statement '..UptoSaid' is the law's where the arguments, and the package variables that the reading takes, are together of bulk at most 1048576: NARROWER than '..Said'. Prove '..Said' where nothing that the law and all that it calls make is longer than what came in: it says more and counts as full. Else prove '..UptoSaid'. A law counts once. -/
mutual
def uptoBulk {H : Type} : DataW H → Nat
  | .lit (.string bytes) => bytes.length + 1
  | .lit _ => 1
  | .nil => 1
  | .ptr d => uptoBulk d + 1
  | .slice elems spare => uptoBulkAll elems + uptoBulkAll spare + 1
  | .agg parts => uptoBulkAll parts + 1
  | .iface _ d => uptoBulk d + 1
  | .map entries => uptoBulkEntries entries + 1
  | .held _ => 1
def uptoBulkAll {H : Type} : List (DataW H) → Nat
  | [] => 0
  | d :: r => uptoBulk d + uptoBulkAll r
def uptoBulkEntries {H : Type} : List (Lit × DataW H) → Nat
  | [] => 0
  | x :: r => uptoBulkEntry x + uptoBulkEntries r
def uptoBulkEntry {H : Type} : Lit × DataW H → Nat
  | (.string bytes, d) => bytes.length + uptoBulk d + 1
  | (_, d) => uptoBulk d + 1
 end
def uptoSmall : (H : Type) → List (DataW H) → Bool := fun _ ds => decide (uptoBulkAll ds ≤ 1048576)
def OpenSpec.upto (s : _root_.Go.ChangeSpec) : _root_.Go.OpenSpec := { _root_.Go.OpenSpec.ofChange s with cond := some uptoSmall }

/-- 'lockboxlaw29.PlayCrash', WHERE WHAT IT READS IS OF BULK AT MOST 1048576: true; the input reads as it did. -/
def playCrashUptoRow : OpenClaim := { program := "ythblcmnhiccnhaagreat", sum := "d145bd58a8c4b82922cfc44585254ad6a37c31872368234e1dc90f1be152b429", func := "lockbox/lockboxlaw29.PlayCrash", spec := "playCrash", inPlace := ["internal/bytealg.MakeNoZero"], unfollowed := true, recurses := true, plainKeys := false, apart := false, narrowed := true }
def PlayCrashUptoSaid : Prop := playCrashUptoRow.holds Tryz.pinned (OpenSpec.upto playCrashSpec)

/-- 'lockboxlaw30.AuditSecrets', WHERE WHAT IT READS IS OF BULK AT MOST 1048576: true; the input reads as it did. -/
def auditSecretsUptoRow : OpenClaim := { program := "ythblcmnhiccnhaagreat", sum := "d145bd58a8c4b82922cfc44585254ad6a37c31872368234e1dc90f1be152b429", func := "lockbox/lockboxlaw30.AuditSecrets", spec := "auditSecrets", inPlace := ["internal/bytealg.MakeNoZero"], unfollowed := true, recurses := true, plainKeys := false, apart := false, narrowed := true }
def AuditSecretsUptoSaid : Prop := auditSecretsUptoRow.holds Tryz.pinned (OpenSpec.upto auditSecretsSpec)

/-- 'lockboxlaw28.CacheModel', WHERE WHAT IT READS IS OF BULK AT MOST 1048576: true; the input reads as it did. -/
def cacheModelUptoRow : OpenClaim := { program := "ythblcmnhiccnhaagreat", sum := "d145bd58a8c4b82922cfc44585254ad6a37c31872368234e1dc90f1be152b429", func := "lockbox/lockboxlaw28.CacheModel", spec := "cacheModel", inPlace := ["internal/bytealg.MakeNoZero"], unfollowed := true, recurses := true, plainKeys := false, apart := false, narrowed := true }
def CacheModelUptoSaid : Prop := cacheModelUptoRow.holds Tryz.pinned (OpenSpec.upto cacheModelSpec)

/-- 'lockboxlaw28.CacheNumbers', WHERE WHAT IT READS IS OF BULK AT MOST 1048576: true; the input reads as it did. -/
def cacheNumbersUptoRow : OpenClaim := { program := "ythblcmnhiccnhaagreat", sum := "d145bd58a8c4b82922cfc44585254ad6a37c31872368234e1dc90f1be152b429", func := "lockbox/lockboxlaw28.CacheNumbers", spec := "cacheNumbers", inPlace := ["internal/bytealg.MakeNoZero"], unfollowed := true, recurses := true, plainKeys := false, apart := false, narrowed := true }
def CacheNumbersUptoSaid : Prop := cacheNumbersUptoRow.holds Tryz.pinned (OpenSpec.upto cacheNumbersSpec)

/-- 'lockboxlaw28.CacheRotates', WHERE WHAT IT READS IS OF BULK AT MOST 1048576: true; the input reads as it did. -/
def cacheRotatesUptoRow : OpenClaim := { program := "ythblcmnhiccnhaagreat", sum := "d145bd58a8c4b82922cfc44585254ad6a37c31872368234e1dc90f1be152b429", func := "lockbox/lockboxlaw28.CacheRotates", spec := "cacheRotates", inPlace := ["internal/bytealg.MakeNoZero"], unfollowed := true, recurses := true, plainKeys := false, apart := false, narrowed := true }
def CacheRotatesUptoSaid : Prop := cacheRotatesUptoRow.holds Tryz.pinned (OpenSpec.upto cacheRotatesSpec)

/-- 'lockboxlaw28.CacheKeeps', WHERE WHAT IT READS IS OF BULK AT MOST 1048576: true; the input reads as it did. -/
def cacheKeepsUptoRow : OpenClaim := { program := "ythblcmnhiccnhaagreat", sum := "d145bd58a8c4b82922cfc44585254ad6a37c31872368234e1dc90f1be152b429", func := "lockbox/lockboxlaw28.CacheKeeps", spec := "cacheKeeps", inPlace := ["internal/bytealg.MakeNoZero"], unfollowed := true, recurses := true, plainKeys := false, apart := false, narrowed := true }
def CacheKeepsUptoSaid : Prop := cacheKeepsUptoRow.holds Tryz.pinned (OpenSpec.upto cacheKeepsSpec)

/-- 'lockboxlaw28.CacheTampers', WHERE WHAT IT READS IS OF BULK AT MOST 1048576: true; the input reads as it did. -/
def cacheTampersUptoRow : OpenClaim := { program := "ythblcmnhiccnhaagreat", sum := "d145bd58a8c4b82922cfc44585254ad6a37c31872368234e1dc90f1be152b429", func := "lockbox/lockboxlaw28.CacheTampers", spec := "cacheTampers", inPlace := ["internal/bytealg.MakeNoZero"], unfollowed := true, recurses := true, plainKeys := false, apart := false, narrowed := true }
def CacheTampersUptoSaid : Prop := cacheTampersUptoRow.holds Tryz.pinned (OpenSpec.upto cacheTampersSpec)

/-- 'lockboxlaw28.CacheFull', WHERE WHAT IT READS IS OF BULK AT MOST 1048576: true; the input reads as it did. -/
def cacheFullUptoRow : OpenClaim := { program := "ythblcmnhiccnhaagreat", sum := "d145bd58a8c4b82922cfc44585254ad6a37c31872368234e1dc90f1be152b429", func := "lockbox/lockboxlaw28.CacheFull", spec := "cacheFull", inPlace := ["internal/bytealg.MakeNoZero"], unfollowed := true, recurses := true, plainKeys := false, apart := false, narrowed := true }
def CacheFullUptoSaid : Prop := cacheFullUptoRow.holds Tryz.pinned (OpenSpec.upto cacheFullSpec)

/-- 'lockboxlaw28.CacheArgs', WHERE WHAT IT READS IS OF BULK AT MOST 1048576: true; the input reads as it did. -/
def cacheArgsUptoRow : OpenClaim := { program := "ythblcmnhiccnhaagreat", sum := "d145bd58a8c4b82922cfc44585254ad6a37c31872368234e1dc90f1be152b429", func := "lockbox/lockboxlaw28.CacheArgs", spec := "cacheArgs", inPlace := ["internal/bytealg.MakeNoZero"], unfollowed := true, recurses := true, plainKeys := false, apart := false, narrowed := true }
def CacheArgsUptoSaid : Prop := cacheArgsUptoRow.holds Tryz.pinned (OpenSpec.upto cacheArgsSpec)

/-- 'lockboxlaw28.CacheCrash', WHERE WHAT IT READS IS OF BULK AT MOST 1048576: true; the input reads as it did. -/
def cacheCrashUptoRow : OpenClaim := { program := "ythblcmnhiccnhaagreat", sum := "d145bd58a8c4b82922cfc44585254ad6a37c31872368234e1dc90f1be152b429", func := "lockbox/lockboxlaw28.CacheCrash", spec := "cacheCrash", inPlace := ["internal/bytealg.MakeNoZero"], unfollowed := true, recurses := true, plainKeys := false, apart := false, narrowed := true }
def CacheCrashUptoSaid : Prop := cacheCrashUptoRow.holds Tryz.pinned (OpenSpec.upto cacheCrashSpec)

/-- 'lockboxlaw28.CacheHalf', WHERE WHAT IT READS IS OF BULK AT MOST 1048576: true; the input reads as it did. -/
def cacheHalfUptoRow : OpenClaim := { program := "ythblcmnhiccnhaagreat", sum := "d145bd58a8c4b82922cfc44585254ad6a37c31872368234e1dc90f1be152b429", func := "lockbox/lockboxlaw28.CacheHalf", spec := "cacheHalf", inPlace := ["internal/bytealg.MakeNoZero"], unfollowed := true, recurses := true, plainKeys := false, apart := false, narrowed := true }
def CacheHalfUptoSaid : Prop := cacheHalfUptoRow.holds Tryz.pinned (OpenSpec.upto cacheHalfSpec)

/-- 'lockboxlaw29.PlayTwins', WHERE WHAT IT READS IS OF BULK AT MOST 1048576: true; the input reads as it did. -/
def playTwinsUptoRow : OpenClaim := { program := "ythblcmnhiccnhaagreat", sum := "d145bd58a8c4b82922cfc44585254ad6a37c31872368234e1dc90f1be152b429", func := "lockbox/lockboxlaw29.PlayTwins", spec := "playTwins", inPlace := ["internal/bytealg.MakeNoZero"], unfollowed := true, recurses := true, plainKeys := false, apart := false, narrowed := true }
def PlayTwinsUptoSaid : Prop := playTwinsUptoRow.holds Tryz.pinned (OpenSpec.upto playTwinsSpec)

end Rows
end Go.Proofs.YthblcmnhiccnhaaGreat
