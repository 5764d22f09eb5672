/- Exclusive-or against a number. -/
import Derived.Test.YtlddahcgaonlhaaK0
set_option linter.all false
namespace Go.Proofs.Ytlddahcgaonlhaa
open Go Go.Abs

theorem ofInt_toNat {w : Nat} {a : Int} (ha : 0 ≤ a ∧ a < ((2 ^ w : Nat) : Int)) : ((BitVec.ofInt w a).toNat : Int) = a := by
  rw [BitVec.toNat_ofInt, Int.emod_eq_of_lt ha.1 ha.2]; omega
theorem xor_bv {w : Nat} {a b : Int} (ha : 0 ≤ a ∧ a < ((2 ^ w : Nat) : Int)) (hb : 0 ≤ b ∧ b < ((2 ^ w : Nat) : Int)) : (((BitVec.ofInt w a ^^^ BitVec.ofInt w b).toNat : Nat) : Int) = a ↔ b = 0 := by
  constructor
  · intro h
    have h1 := ofInt_toNat ha
    have h2 : BitVec.ofInt w a ^^^ BitVec.ofInt w b = BitVec.ofInt w a := BitVec.eq_of_toNat_eq (by omega)
    have h3 : BitVec.ofInt w b = 0#w := by
      have : BitVec.ofInt w a ^^^ (BitVec.ofInt w a ^^^ BitVec.ofInt w b) = BitVec.ofInt w a ^^^ BitVec.ofInt w a := by rw [h2]
      rw [← BitVec.xor_assoc, BitVec.xor_self, BitVec.zero_xor] at this
      exact this
    have h4 := ofInt_toNat hb
    rw [h3] at h4
    simpa using h4.symm
  · rintro rfl
    have h1 := ofInt_toNat ha
    simpa using h1
theorem xor_u64 {a b : Int} (ha : 0 ≤ a ∧ a < 18446744073709551616) (hb : 0 ≤ b ∧ b < 18446744073709551616) : bits .xor .u64 a b = a ↔ b = 0 := by
  have h1 : bits .xor .u64 a b = (((BitVec.ofInt 64 a ^^^ BitVec.ofInt 64 b).toNat : Nat) : Int) := by
    show IntKind.u64.wrap (((BitVec.ofInt 64 a ^^^ BitVec.ofInt 64 b).toNat : Nat) : Int) = _
    have := (BitVec.ofInt 64 a ^^^ BitVec.ofInt 64 b).isLt
    exact IntWalk.u64_in _ (by omega)
  rw [h1]
  exact xor_bv (by simpa using ha) (by simpa using hb)
theorem xor_u8 {a b : Int} (ha : 0 ≤ a ∧ a < 256) (hb : 0 ≤ b ∧ b < 256) : bits .xor .u8 a b = a ↔ b = 0 := by
  have h1 : bits .xor .u8 a b = (((BitVec.ofInt 8 a ^^^ BitVec.ofInt 8 b).toNat : Nat) : Int) := by
    show IntKind.u8.wrap (((BitVec.ofInt 8 a ^^^ BitVec.ofInt 8 b).toNat : Nat) : Int) = _
    have := (BitVec.ofInt 8 a ^^^ BitVec.ofInt 8 b).isLt
    exact IntWalk.u8_in _ (by omega)
  rw [h1]
  exact xor_bv (by simpa using ha) (by simpa using hb)
theorem xor_u32 {a b : Int} (ha : 0 ≤ a ∧ a < 4294967296) (hb : 0 ≤ b ∧ b < 4294967296) : bits .xor .u32 a b = a ↔ b = 0 := by
  have h1 : bits .xor .u32 a b = (((BitVec.ofInt 32 a ^^^ BitVec.ofInt 32 b).toNat : Nat) : Int) := by
    show IntKind.u32.wrap (((BitVec.ofInt 32 a ^^^ BitVec.ofInt 32 b).toNat : Nat) : Int) = _
    have := (BitVec.ofInt 32 a ^^^ BitVec.ofInt 32 b).isLt
    exact IntWalk.u32_in _ (by omega)
  rw [h1]
  exact xor_bv (by simpa using ha) (by simpa using hb)
end Go.Proofs.Ytlddahcgaonlhaa
