/- What the laws are handed. -/
import Derived.Test.YtnihcakkhillcaaF12
import Derived.Test.YtnihcakkhillcaaA22
namespace Go.Proofs.Ytnihcakkhillcaa
open Go Go.Abs

theorem pair_of {cells : List AV} (h : TypL [.i .u64, .i .u64] cells) : ∃ p : Pr, cells = encP p := by
  obtain ⟨v, vs, rfl, h1, h2⟩ := h.cons_inv
  obtain ⟨u, us, rfl, h3, h4⟩ := h2.cons_inv
  obtain rfl := h4.nil_inv
  obtain ⟨x, rfl, _⟩ := h1.int_inv
  obtain ⟨y, rfl, _⟩ := h3.int_inv
  exact ⟨(x, y), rfl⟩
theorem pairs_of {cells : List AV} (h : TypL [.sl [.i .u64, .i .u64]] cells) : ∃ l : List Pr, cells = [.imm 2 (l.map encP)] ∧ l.length ≤ maxLen := by
  obtain ⟨v, vs, rfl, h1, h2⟩ := h.cons_inv
  obtain rfl := h2.nil_inv
  obtain ⟨c, rfl, hl, hc⟩ := h1.sl_inv
  obtain ⟨l, rfl⟩ := map_of (f := encP) (fun cells => pair_of) hc
  exact ⟨l, rfl, by simpa using hl⟩
theorem int_of {k : IntKind} {cells : List AV} (h : TypL [.i k] cells) : ∃ n : Int, cells = [.int k n] ∧ (Lit.int k n).wf = true := by
  obtain ⟨v, vs, rfl, h1, h2⟩ := h.cons_inv
  obtain rfl := h2.nil_inv
  obtain ⟨x, rfl, hw⟩ := h1.int_inv
  exact ⟨x, rfl, hw⟩

theorem byte_of {cells : List AV} (h : TypL [.i .u8] cells) : ∃ b : UInt8, cells = encB b := by
  obtain ⟨n, rfl, hw⟩ := int_of h
  have hn : 0 ≤ n ∧ n < 256 := by
    have := hw
    simp only [Lit.wf, Bool.and_eq_true, decide_eq_true_eq] at this
    have m1 : IntKind.u8.min = 0 := by decide
    have m2 : IntKind.u8.max = 255 := by decide
    omega
  refine ⟨UInt8.ofNat n.toNat, ?_⟩
  simp only [encB, List.cons.injEq, AV.int.injEq, true_and, and_true]
  have : (UInt8.ofNat n.toNat).toNat = n.toNat := by
    rw [UInt8.toNat_ofNat']; omega
  rw [this]; omega
theorem bytes_of {cells : List AV} (h : TypL [.sl [.i .u8]] cells) : ∃ b : Bs, cells = [.imm 1 (b.map encB)] := by
  obtain ⟨v, vs, rfl, h1, h2⟩ := h.cons_inv
  obtain rfl := h2.nil_inv
  obtain ⟨c, rfl, hl, hc⟩ := h1.sl_inv
  obtain ⟨l, rfl⟩ := map_of (f := encB) (fun cells => byte_of) hc
  exact ⟨l, rfl⟩
theorem top_OracleSums (c0 : List AV) (t0 : TypL [.sl [.i .u8]] c0) (c1 : List AV) (t1 : TypL [.sl [.i .u8]] c1) (c2 : List AV) (t2 : TypL [.i .i64] c2) :
    AE Try.prog 7 [c0.headD .nilp, c1.headD .nilp, c2.headD .nilp] noHeap (.bool true) noHeap := by
  obtain ⟨a, rfl⟩ := bytes_of t0
  obtain ⟨b, rfl⟩ := bytes_of t1
  obtain ⟨i, rfl, _⟩ := int_of t2
  exact law7_OracleSums_ae a b i noHeap
end Go.Proofs.Ytnihcakkhillcaa
