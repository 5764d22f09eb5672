/- The laws of the first functions, as they are handed values. -/
import Derived.Test.YtnihcakkhillcaaF3
import Derived.Test.YtnihcakkhillcaaA22
namespace Go.Proofs.Ytnihcakkhillcaa
open Go Go.Abs

theorem pair_of {cells : List AV} (h : TypL [.i .u64, .i .u64] cells) : ∃ p : Pr, cells = encP p := by
  obtain ⟨v, vs, rfl, h1, h2⟩ := h.cons_inv
  obtain ⟨u, us, rfl, h3, h4⟩ := h2.cons_inv
  obtain rfl := h4.nil_inv
  obtain ⟨x, rfl, _⟩ := h1.int_inv
  obtain ⟨y, rfl, _⟩ := h3.int_inv
  exact ⟨(x, y), rfl⟩
theorem pairs_of {cells : List AV} (h : TypL [.sl [.i .u64, .i .u64]] cells) : ∃ l : List Pr, cells = [.imm 2 (l.map encP)] ∧ l.length ≤ maxLen := by
  obtain ⟨v, vs, rfl, h1, h2⟩ := h.cons_inv
  obtain rfl := h2.nil_inv
  obtain ⟨c, rfl, hl, hc⟩ := h1.sl_inv
  obtain ⟨l, rfl⟩ := map_of (f := encP) (fun cells => pair_of) hc
  exact ⟨l, rfl, by simpa using hl⟩
theorem int_of {k : IntKind} {cells : List AV} (h : TypL [.i k] cells) : ∃ n : Int, cells = [.int k n] ∧ (Lit.int k n).wf = true := by
  obtain ⟨v, vs, rfl, h1, h2⟩ := h.cons_inv
  obtain rfl := h2.nil_inv
  obtain ⟨x, rfl, hw⟩ := h1.int_inv
  exact ⟨x, rfl, hw⟩

theorem top_PathOf (c0 : List AV) (t0 : TypL [.sl [.i .u64, .i .u64]] c0) (c1 : List AV) (t1 : TypL [.i .i64] c1) :
    AE Try.prog 3 [c0.headD .nilp, c1.headD .nilp] noHeap (.bool true) noHeap := by
  obtain ⟨l, rfl, _⟩ := pairs_of t0
  obtain ⟨i, rfl, _⟩ := int_of t1
  exact law19_PathOf_ae l i noHeap
end Go.Proofs.Ytnihcakkhillcaa
