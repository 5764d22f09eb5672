/- OraclePlays as it is handed values. -/
import Derived.Test.YtnihcakkhillcaaF19
namespace Go.Proofs.Ytnihcakkhillcaa
open Go Go.Abs

theorem sl_of {v : AV} {vs : List AV} {cs : List CS} (h : TypL (.sl [.i .u8] :: cs) (v :: vs)) : (∃ b : Bs, v = .imm 1 (b.map encB)) ∧ TypL cs vs := by
  obtain ⟨v', vs', e, h1, h2⟩ := h.cons_inv
  cases e
  obtain ⟨c, rfl, _, hc⟩ := h1.sl_inv
  obtain ⟨l, rfl⟩ := map_of (f := encB) (fun _ => byte_of) hc
  exact ⟨⟨l, rfl⟩, h2⟩
theorem act_of {cells : List AV} (h : TypL [.i .i64, .i .u64, .i .u64, .i .u32, .i .u32, .i .u64, .sl [.i .u8], .sl [.i .u8], .i .i64, .i .u64] cells) : ∃ a : Act7, cells = encA a := by
  obtain ⟨v0, vs0, rfl, h0, t0⟩ := h.cons_inv
  obtain ⟨v1, vs1, rfl, h1, t1⟩ := t0.cons_inv
  obtain ⟨v2, vs2, rfl, h2, t2⟩ := t1.cons_inv
  obtain ⟨v3, vs3, rfl, h3, t3⟩ := t2.cons_inv
  obtain ⟨v4, vs4, rfl, h4, t4⟩ := t3.cons_inv
  obtain ⟨v5, vs5, rfl, h5, t5⟩ := t4.cons_inv
  obtain ⟨v6, vs6, rfl, _, _⟩ := t5.cons_inv
  obtain ⟨⟨b6, rfl⟩, t6⟩ := sl_of t5
  obtain ⟨v7, vs7, rfl, _, _⟩ := t6.cons_inv
  obtain ⟨⟨b7, rfl⟩, t7⟩ := sl_of t6
  obtain ⟨v8, vs8, rfl, h8, t8⟩ := t7.cons_inv
  obtain ⟨v9, vs9, rfl, h9, t9⟩ := t8.cons_inv
  obtain rfl := t9.nil_inv
  obtain ⟨x0, rfl, _⟩ := h0.int_inv
  obtain ⟨x1, rfl, _⟩ := h1.int_inv
  obtain ⟨x2, rfl, _⟩ := h2.int_inv
  obtain ⟨x3, rfl, _⟩ := h3.int_inv
  obtain ⟨x4, rfl, _⟩ := h4.int_inv
  obtain ⟨x5, rfl, _⟩ := h5.int_inv
  obtain ⟨x8, rfl, _⟩ := h8.int_inv
  obtain ⟨x9, rfl, _⟩ := h9.int_inv
  exact ⟨⟨x0, (x1, x2), (x3, x4, x5), b6, b7, x8, x9⟩, rfl⟩
theorem acts_of {cells : List AV} (h : TypL [.sl [.i .i64, .i .u64, .i .u64, .i .u32, .i .u32, .i .u64, .sl [.i .u8], .sl [.i .u8], .i .i64, .i .u64]] cells) : ∃ A : List Act7, cells = [.imm 10 (A.map encA)] := by
  obtain ⟨v, vs, rfl, h1, h2⟩ := h.cons_inv
  obtain rfl := h2.nil_inv
  obtain ⟨c, rfl, _, hc⟩ := h1.sl_inv
  obtain ⟨l, rfl⟩ := map_of (f := encA) (fun _ => act_of) hc
  exact ⟨l, rfl⟩
theorem top_OraclePlays (c0 : List AV) (t0 : TypL [.sl [.i .i64, .i .u64, .i .u64, .i .u32, .i .u32, .i .u64, .sl [.i .u8], .sl [.i .u8], .i .i64, .i .u64]] c0) :
    AE Try.prog 8 [c0.headD .nilp] noHeap (.bool true) noHeap := by
  obtain ⟨A, rfl⟩ := acts_of t0
  exact law7_OraclePlays_ae A noHeap
end Go.Proofs.Ytnihcakkhillcaa
