/-
  No cell of these rows narrows 'for every input' (looked for: loops, veiled, ifaces, maps, wideKeys, modest, calm, conditions, laid).
  DERIVED. THE GIVEN ROWS OF THIS SEAT. 7 by the template 'for every input the law returns true; each argument reads behind the call as it read before'; 0 by the template 'total and deterministic' (their statements: YtnihcakkhillcaaTotals.lean).
  GIVEN WITH THE SEED: the statements are not yours to turn. If you find one false, say at which input.
  Laid BY PROGRAM, IN A SANDBOX (cutbox-rows.mjs): the forced cells as the released guide's own fill.sh prints them over the translation 539a76127bfadef3… (all of the seat's roots in one cut). By AI agents, Wed Nov 11 2026. No macro, syntax, notation, axiom, sorry.
-/
import Derived.Test.YtnihcakkhillcaaChecked
import GoSem.Claim
import GoSem.ClaimJoined
import GoSem.ClaimMapViews
import Derived.JoinedTies
import Derived.KernelRfl
namespace Go.Proofs.Ytnihcakkhillcaa
/- THE CELL 'sum', in the pinned program and in every row, IS THE sha256 OF THE DUMP (.gsa) THAT YtnihcakkhillcaaProg.lean LOADS. Nothing in Lean hashes anything: it is a label: what it is worth is what the hold of that sum in a sandbox is worth. -/
noncomputable def Try.pinned : Pinned := { name := "ytnihcakkhillcaa", sum := "539a76127bfadef39428207835869ea3c18d5f564934d97960d3d0e66cca81d3", checked := Try.checked }
namespace Rows
def none {H : Type} : Left H := { results := [], args := [] }

/-- 'lockboxlaw19.PathOf': WHATEVER THE INPUT: true; the input reads as it did. -/
def pathOfSpec : ChangeSpec := { name := "pathOf", fn := fun _ => fun
  | [d1, d2] => { results := [.lit (.bool true)], args := [d1, d2] }
  | _ => none }
def pathOfRow : OpenClaim := { program := "ytnihcakkhillcaa", sum := "539a76127bfadef39428207835869ea3c18d5f564934d97960d3d0e66cca81d3", func := "lockbox/lockboxlaw19.PathOf", spec := "pathOf", plainKeys := false, apart := false }
def PathOfSaid : Prop := pathOfRow.holds Try.pinned (OpenSpec.ofChange pathOfSpec)

/-- ITS FALSE NEIGHBOUR: 'it returns false'. Refute it at one input. -/
def pathOfWrong : ChangeSpec := { name := "pathOf", fn := fun _ => fun
  | [d1, d2] => { results := [.lit (.bool false)], args := [d1, d2] }
  | _ => none }
def PathOfWrongFalsely : Prop := pathOfRow.holds Try.pinned (OpenSpec.ofChange pathOfWrong)

/-- 'lockboxlaw7.OracleBlind': WHATEVER THE INPUT: true; the input reads as it did. -/
def oracleBlindSpec : ChangeSpec := { name := "oracleBlind", fn := fun _ => fun
  | [d1, d2, d3, d4] => { results := [.lit (.bool true)], args := [d1, d2, d3, d4] }
  | _ => none }
def oracleBlindRow : OpenClaim := { program := "ytnihcakkhillcaa", sum := "539a76127bfadef39428207835869ea3c18d5f564934d97960d3d0e66cca81d3", func := "lockbox/lockboxlaw7.OracleBlind", spec := "oracleBlind", inPlace := ["internal/bytealg.MakeNoZero"], plainKeys := false, apart := false }
def OracleBlindSaid : Prop := oracleBlindRow.holds Try.pinned (OpenSpec.ofChange oracleBlindSpec)

/-- ITS FALSE NEIGHBOUR: 'it returns false'. Refute it at one input. -/
def oracleBlindWrong : ChangeSpec := { name := "oracleBlind", fn := fun _ => fun
  | [d1, d2, d3, d4] => { results := [.lit (.bool false)], args := [d1, d2, d3, d4] }
  | _ => none }
def OracleBlindWrongFalsely : Prop := oracleBlindRow.holds Try.pinned (OpenSpec.ofChange oracleBlindWrong)

/-- 'lockboxlaw7.OracleOnly': WHATEVER THE INPUT: true; the input reads as it did. -/
def oracleOnlySpec : ChangeSpec := { name := "oracleOnly", fn := fun _ => fun
  | [d1, d2, d3, d4, d5, d6] => { results := [.lit (.bool true)], args := [d1, d2, d3, d4, d5, d6] }
  | _ => none }
def oracleOnlyRow : OpenClaim := { program := "ytnihcakkhillcaa", sum := "539a76127bfadef39428207835869ea3c18d5f564934d97960d3d0e66cca81d3", func := "lockbox/lockboxlaw7.OracleOnly", spec := "oracleOnly", inPlace := ["internal/bytealg.MakeNoZero"], plainKeys := false, apart := false }
def OracleOnlySaid : Prop := oracleOnlyRow.holds Try.pinned (OpenSpec.ofChange oracleOnlySpec)

/-- ITS FALSE NEIGHBOUR: 'it returns false'. Refute it at one input. -/
def oracleOnlyWrong : ChangeSpec := { name := "oracleOnly", fn := fun _ => fun
  | [d1, d2, d3, d4, d5, d6] => { results := [.lit (.bool false)], args := [d1, d2, d3, d4, d5, d6] }
  | _ => none }
def OracleOnlyWrongFalsely : Prop := oracleOnlyRow.holds Try.pinned (OpenSpec.ofChange oracleOnlyWrong)

/-- 'lockboxlaw7.OracleMany': WHATEVER THE INPUT: true; the input reads as it did. -/
def oracleManySpec : ChangeSpec := { name := "oracleMany", fn := fun _ => fun
  | [d1, d2] => { results := [.lit (.bool true)], args := [d1, d2] }
  | _ => none }
def oracleManyRow : OpenClaim := { program := "ytnihcakkhillcaa", sum := "539a76127bfadef39428207835869ea3c18d5f564934d97960d3d0e66cca81d3", func := "lockbox/lockboxlaw7.OracleMany", spec := "oracleMany", inPlace := ["internal/bytealg.MakeNoZero"], plainKeys := false, apart := false }
def OracleManySaid : Prop := oracleManyRow.holds Try.pinned (OpenSpec.ofChange oracleManySpec)

/-- ITS FALSE NEIGHBOUR: 'it returns false'. Refute it at one input. -/
def oracleManyWrong : ChangeSpec := { name := "oracleMany", fn := fun _ => fun
  | [d1, d2] => { results := [.lit (.bool false)], args := [d1, d2] }
  | _ => none }
def OracleManyWrongFalsely : Prop := oracleManyRow.holds Try.pinned (OpenSpec.ofChange oracleManyWrong)

/-- 'lockboxlaw7.OracleSums': WHATEVER THE INPUT: true; the input reads as it did. -/
def oracleSumsSpec : ChangeSpec := { name := "oracleSums", fn := fun _ => fun
  | [d1, d2, d3] => { results := [.lit (.bool true)], args := [d1, d2, d3] }
  | _ => none }
def oracleSumsRow : OpenClaim := { program := "ytnihcakkhillcaa", sum := "539a76127bfadef39428207835869ea3c18d5f564934d97960d3d0e66cca81d3", func := "lockbox/lockboxlaw7.OracleSums", spec := "oracleSums", inPlace := ["internal/bytealg.MakeNoZero"], plainKeys := false, apart := false }
def OracleSumsSaid : Prop := oracleSumsRow.holds Try.pinned (OpenSpec.ofChange oracleSumsSpec)

/-- ITS FALSE NEIGHBOUR: 'it returns false'. Refute it at one input. -/
def oracleSumsWrong : ChangeSpec := { name := "oracleSums", fn := fun _ => fun
  | [d1, d2, d3] => { results := [.lit (.bool false)], args := [d1, d2, d3] }
  | _ => none }
def OracleSumsWrongFalsely : Prop := oracleSumsRow.holds Try.pinned (OpenSpec.ofChange oracleSumsWrong)

/-- 'lockboxlaw7.OraclePlays': WHATEVER THE INPUT: true; the input reads as it did. -/
def oraclePlaysSpec : ChangeSpec := { name := "oraclePlays", fn := fun _ => fun
  | [d] => { results := [.lit (.bool true)], args := [d] }
  | _ => none }
def oraclePlaysRow : OpenClaim := { program := "ytnihcakkhillcaa", sum := "539a76127bfadef39428207835869ea3c18d5f564934d97960d3d0e66cca81d3", func := "lockbox/lockboxlaw7.OraclePlays", spec := "oraclePlays", inPlace := ["internal/bytealg.MakeNoZero"], plainKeys := false, apart := false }
def OraclePlaysSaid : Prop := oraclePlaysRow.holds Try.pinned (OpenSpec.ofChange oraclePlaysSpec)

/-- ITS FALSE NEIGHBOUR: 'it returns false'. Refute it at one input. -/
def oraclePlaysWrong : ChangeSpec := { name := "oraclePlays", fn := fun _ => fun
  | [d] => { results := [.lit (.bool false)], args := [d] }
  | _ => none }
def OraclePlaysWrongFalsely : Prop := oraclePlaysRow.holds Try.pinned (OpenSpec.ofChange oraclePlaysWrong)

/-- 'lockboxlaw7.OracleOwn': WHATEVER THE INPUT: true; the input reads as it did. -/
def oracleOwnSpec : ChangeSpec := { name := "oracleOwn", fn := fun _ => fun
  | [d] => { results := [.lit (.bool true)], args := [d] }
  | _ => none }
def oracleOwnRow : OpenClaim := { program := "ytnihcakkhillcaa", sum := "539a76127bfadef39428207835869ea3c18d5f564934d97960d3d0e66cca81d3", func := "lockbox/lockboxlaw7.OracleOwn", spec := "oracleOwn", inPlace := ["internal/bytealg.MakeNoZero"], plainKeys := false, apart := false }
def OracleOwnSaid : Prop := oracleOwnRow.holds Try.pinned (OpenSpec.ofChange oracleOwnSpec)

/-- ITS FALSE NEIGHBOUR: 'it returns false'. Refute it at one input. -/
def oracleOwnWrong : ChangeSpec := { name := "oracleOwn", fn := fun _ => fun
  | [d] => { results := [.lit (.bool false)], args := [d] }
  | _ => none }
def OracleOwnWrongFalsely : Prop := oracleOwnRow.holds Try.pinned (OpenSpec.ofChange oracleOwnWrong)

/- THE SECOND FORM. 'bulk': how many values and letters a reading holds, each counted each time it is reached (what is shared counts as often as it is met; a slice's spare places count too). A statement '..UptoSaid' is the law's where the arguments, and the package variables that the reading takes, are together of bulk at most 1048576: NARROWER than '..Said'. Prove '..Said' where nothing that the law and all that it calls make is longer than what came in: it says more and counts as full. Else prove '..UptoSaid'. A law counts once. -/
mutual
def uptoBulk {H : Type} : DataW H → Nat
  | .lit (.string bytes) => bytes.length + 1
  | .lit _ => 1
  | .nil => 1
  | .ptr d => uptoBulk d + 1
  | .slice elems spare => uptoBulkAll elems + uptoBulkAll spare + 1
  | .agg parts => uptoBulkAll parts + 1
  | .iface _ d => uptoBulk d + 1
  | .map entries => uptoBulkEntries entries + 1
  | .held _ => 1
def uptoBulkAll {H : Type} : List (DataW H) → Nat
  | [] => 0
  | d :: r => uptoBulk d + uptoBulkAll r
def uptoBulkEntries {H : Type} : List (Lit × DataW H) → Nat
  | [] => 0
  | x :: r => uptoBulkEntry x + uptoBulkEntries r
def uptoBulkEntry {H : Type} : Lit × DataW H → Nat
  | (.string bytes, d) => bytes.length + uptoBulk d + 1
  | (_, d) => uptoBulk d + 1
 end
def uptoSmall : (H : Type) → List (DataW H) → Bool := fun _ ds => decide (uptoBulkAll ds ≤ 1048576)
def OpenSpec.upto (s : _root_.Go.ChangeSpec) : _root_.Go.OpenSpec := { _root_.Go.OpenSpec.ofChange s with cond := some uptoSmall }

/-- 'lockboxlaw19.PathOf', WHERE WHAT IT READS IS OF BULK AT MOST 1048576: true; the input reads as it did. -/
def pathOfUptoRow : OpenClaim := { program := "ytnihcakkhillcaa", sum := "539a76127bfadef39428207835869ea3c18d5f564934d97960d3d0e66cca81d3", func := "lockbox/lockboxlaw19.PathOf", spec := "pathOf", plainKeys := false, apart := false, narrowed := true }
def PathOfUptoSaid : Prop := pathOfUptoRow.holds Try.pinned (OpenSpec.upto pathOfSpec)

/-- 'lockboxlaw7.OracleBlind', WHERE WHAT IT READS IS OF BULK AT MOST 1048576: true; the input reads as it did. -/
def oracleBlindUptoRow : OpenClaim := { program := "ytnihcakkhillcaa", sum := "539a76127bfadef39428207835869ea3c18d5f564934d97960d3d0e66cca81d3", func := "lockbox/lockboxlaw7.OracleBlind", spec := "oracleBlind", inPlace := ["internal/bytealg.MakeNoZero"], plainKeys := false, apart := false, narrowed := true }
def OracleBlindUptoSaid : Prop := oracleBlindUptoRow.holds Try.pinned (OpenSpec.upto oracleBlindSpec)

/-- 'lockboxlaw7.OracleOnly', WHERE WHAT IT READS IS OF BULK AT MOST 1048576: true; the input reads as it did. -/
def oracleOnlyUptoRow : OpenClaim := { program := "ytnihcakkhillcaa", sum := "539a76127bfadef39428207835869ea3c18d5f564934d97960d3d0e66cca81d3", func := "lockbox/lockboxlaw7.OracleOnly", spec := "oracleOnly", inPlace := ["internal/bytealg.MakeNoZero"], plainKeys := false, apart := false, narrowed := true }
def OracleOnlyUptoSaid : Prop := oracleOnlyUptoRow.holds Try.pinned (OpenSpec.upto oracleOnlySpec)

/-- 'lockboxlaw7.OracleMany', WHERE WHAT IT READS IS OF BULK AT MOST 1048576: true; the input reads as it did. -/
def oracleManyUptoRow : OpenClaim := { program := "ytnihcakkhillcaa", sum := "539a76127bfadef39428207835869ea3c18d5f564934d97960d3d0e66cca81d3", func := "lockbox/lockboxlaw7.OracleMany", spec := "oracleMany", inPlace := ["internal/bytealg.MakeNoZero"], plainKeys := false, apart := false, narrowed := true }
def OracleManyUptoSaid : Prop := oracleManyUptoRow.holds Try.pinned (OpenSpec.upto oracleManySpec)

/-- 'lockboxlaw7.OracleSums', WHERE WHAT IT READS IS OF BULK AT MOST 1048576: true; the input reads as it did. -/
def oracleSumsUptoRow : OpenClaim := { program := "ytnihcakkhillcaa", sum := "539a76127bfadef39428207835869ea3c18d5f564934d97960d3d0e66cca81d3", func := "lockbox/lockboxlaw7.OracleSums", spec := "oracleSums", inPlace := ["internal/bytealg.MakeNoZero"], plainKeys := false, apart := false, narrowed := true }
def OracleSumsUptoSaid : Prop := oracleSumsUptoRow.holds Try.pinned (OpenSpec.upto oracleSumsSpec)

/-- 'lockboxlaw7.OraclePlays', WHERE WHAT IT READS IS OF BULK AT MOST 1048576: true; the input reads as it did. -/
def oraclePlaysUptoRow : OpenClaim := { program := "ytnihcakkhillcaa", sum := "539a76127bfadef39428207835869ea3c18d5f564934d97960d3d0e66cca81d3", func := "lockbox/lockboxlaw7.OraclePlays", spec := "oraclePlays", inPlace := ["internal/bytealg.MakeNoZero"], plainKeys := false, apart := false, narrowed := true }
def OraclePlaysUptoSaid : Prop := oraclePlaysUptoRow.holds Try.pinned (OpenSpec.upto oraclePlaysSpec)

/-- 'lockboxlaw7.OracleOwn', WHERE WHAT IT READS IS OF BULK AT MOST 1048576: true; the input reads as it did. -/
def oracleOwnUptoRow : OpenClaim := { program := "ytnihcakkhillcaa", sum := "539a76127bfadef39428207835869ea3c18d5f564934d97960d3d0e66cca81d3", func := "lockbox/lockboxlaw7.OracleOwn", spec := "oracleOwn", inPlace := ["internal/bytealg.MakeNoZero"], plainKeys := false, apart := false, narrowed := true }
def OracleOwnUptoSaid : Prop := oracleOwnUptoRow.holds Try.pinned (OpenSpec.upto oracleOwnSpec)

end Rows
end Go.Proofs.Ytnihcakkhillcaa
