/- OracleBlind as it is handed values. -/
import Derived.Test.YtnihcakkhillcaaF14
namespace Go.Proofs.Ytnihcakkhillcaa
open Go Go.Abs

theorem nonce_of {cells : List AV} (h : TypL [.i .u32, .i .u32, .i .u64] cells) : ∃ n : Nn, cells = encN n := by
  obtain ⟨v, vs, rfl, h1, h2⟩ := h.cons_inv
  obtain ⟨u, us, rfl, h3, h4⟩ := h2.cons_inv
  obtain ⟨t, ts, rfl, h5, h6⟩ := h4.cons_inv
  obtain rfl := h6.nil_inv
  obtain ⟨x, rfl, _⟩ := h1.int_inv
  obtain ⟨y, rfl, _⟩ := h3.int_inv
  obtain ⟨z, rfl, _⟩ := h5.int_inv
  exact ⟨(x, y, z), rfl⟩
theorem top_OracleBlind (c0 : List AV) (t0 : TypL [.i .u64, .i .u64] c0) (c1 : List AV) (t1 : TypL [.i .u32, .i .u32, .i .u64] c1) (c2 : List AV) (t2 : TypL [.sl [.i .u8]] c2) (c3 : List AV) (t3 : TypL [.sl [.i .u8]] c3) :
    AE Try.prog 4 [.agg c0, .agg c1, c2.headD .nilp, c3.headD .nilp] noHeap (.bool true) noHeap := by
  obtain ⟨k, rfl⟩ := pair_of t0
  obtain ⟨n, rfl⟩ := nonce_of t1
  obtain ⟨a, rfl⟩ := bytes_of t2
  obtain ⟨b, rfl⟩ := bytes_of t3
  exact law7_OracleBlind_ae k n a b noHeap
end Go.Proofs.Ytnihcakkhillcaa
