/- OracleOnly as it is handed values. -/
import Derived.Test.YtnihcakkhillcaaF22
namespace Go.Proofs.Ytnihcakkhillcaa
open Go Go.Abs

theorem wf64 {n : Int} (hw : (Lit.int .u64 n).wf = true) : Wf64 n := by
  simp only [Lit.wf, Bool.and_eq_true, decide_eq_true_eq] at hw
  have m1 : IntKind.u64.min = 0 := by decide
  have m2 : IntKind.u64.max = 18446744073709551615 := by decide
  rw [m1, m2] at hw
  exact ⟨hw.1, by omega⟩
theorem wf32 {n : Int} (hw : (Lit.int .u32 n).wf = true) : Wf32 n := by
  simp only [Lit.wf, Bool.and_eq_true, decide_eq_true_eq] at hw
  have m1 : IntKind.u32.min = 0 := by decide
  have m2 : IntKind.u32.max = 4294967295 := by decide
  rw [m1, m2] at hw
  exact ⟨hw.1, by omega⟩
theorem pair_ofW {cells : List AV} (h : TypL [.i .u64, .i .u64] cells) : ∃ p : Pr, cells = encP p ∧ Wf64 p.1 ∧ Wf64 p.2 := by
  obtain ⟨v, vs, rfl, h1, h2⟩ := h.cons_inv
  obtain ⟨u, us, rfl, h3, h4⟩ := h2.cons_inv
  obtain rfl := h4.nil_inv
  obtain ⟨x, rfl, w1⟩ := h1.int_inv
  obtain ⟨y, rfl, w2⟩ := h3.int_inv
  exact ⟨(x, y), rfl, wf64 w1, wf64 w2⟩
theorem nonce_ofW {cells : List AV} (h : TypL [.i .u32, .i .u32, .i .u64] cells) : ∃ n : Nn, cells = encN n ∧ Wf32 n.1 ∧ Wf32 n.2.1 ∧ Wf64 n.2.2 := by
  obtain ⟨v, vs, rfl, h1, h2⟩ := h.cons_inv
  obtain ⟨u, us, rfl, h3, h4⟩ := h2.cons_inv
  obtain ⟨t, ts, rfl, h5, h6⟩ := h4.cons_inv
  obtain rfl := h6.nil_inv
  obtain ⟨x, rfl, w1⟩ := h1.int_inv
  obtain ⟨y, rfl, w2⟩ := h3.int_inv
  obtain ⟨z, rfl, w3⟩ := h5.int_inv
  exact ⟨(x, y, z), rfl, wf32 w1, wf32 w2, wf64 w3⟩
theorem top_OracleOnly (c0 : List AV) (t0 : TypL [.i .u64, .i .u64] c0) (c1 : List AV) (t1 : TypL [.i .u32, .i .u32, .i .u64] c1) (c2 : List AV) (t2 : TypL [.sl [.i .u8]] c2) (c3 : List AV) (t3 : TypL [.sl [.i .u8]] c3) (c4 : List AV) (t4 : TypL [.i .i64] c4) (c5 : List AV) (t5 : TypL [.i .u8] c5) :
    AE Try.prog 5 [.agg c0, .agg c1, c2.headD .nilp, c3.headD .nilp, c4.headD .nilp, c5.headD .nilp] noHeap (.bool true) noHeap := by
  obtain ⟨k, rfl, k1, _⟩ := pair_ofW t0
  obtain ⟨n, rfl, _, n1, n2⟩ := nonce_ofW t1
  obtain ⟨a, rfl⟩ := bytes_of t2
  obtain ⟨b, rfl⟩ := bytes_of t3
  obtain ⟨i, rfl, _⟩ := int_of t4
  obtain ⟨x, rfl⟩ := byte_of t5
  have := x.toNat_lt
  exact law7_OracleOnly_ae k k1 n ⟨n1, n2⟩ a b i _ (by omega) noHeap
end Go.Proofs.Ytnihcakkhillcaa
