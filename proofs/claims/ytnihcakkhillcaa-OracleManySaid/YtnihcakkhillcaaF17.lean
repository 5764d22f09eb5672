/- OracleMany as it is handed values. -/
import Derived.Test.YtnihcakkhillcaaF16
namespace Go.Proofs.Ytnihcakkhillcaa
open Go Go.Abs

theorem rows_of {cells : List AV} (h : TypL [.sl [.sl [.i .u8]]] cells) : ∃ D : List Bs, cells = [.imm 1 (D.map encR)] := by
  obtain ⟨v, vs, rfl, h1, h2⟩ := h.cons_inv
  obtain rfl := h2.nil_inv
  obtain ⟨c, rfl, _, hc⟩ := h1.sl_inv
  obtain ⟨l, rfl⟩ := map_of (f := encR) (fun _ => bytes_of) hc
  exact ⟨l, rfl⟩
theorem top_OracleMany (c0 : List AV) (t0 : TypL [.sl [.sl [.i .u8]]] c0) (c1 : List AV) (t1 : TypL [.i .u64, .i .u64] c1) :
    AE Try.prog 6 [c0.headD .nilp, .agg c1] noHeap (.bool true) noHeap := by
  obtain ⟨D, rfl⟩ := rows_of t0
  obtain ⟨k, rfl⟩ := pair_of t1
  exact law7_OracleMany_ae D k noHeap
end Go.Proofs.Ytnihcakkhillcaa
