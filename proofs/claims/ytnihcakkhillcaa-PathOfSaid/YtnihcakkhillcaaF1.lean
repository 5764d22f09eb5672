/- A tree's top; a leaf's neighbours. -/
import Derived.Test.YtnihcakkhillcaaF0
import Derived.Test.YtnihcakkhillcaaA18
namespace Go.Proofs.Ytnihcakkhillcaa
open Go Go.Abs

theorem xor1_lt (k n : Nat) (hk : k < 2 * n) : k ^^^ 1 < 2 * n := by
  have : (k ^^^ 1) / 2 = k / 2 := by
    rw [Nat.xor_div_two]; simp
  omega

/-- A tree's top. -/
def topP (l : List Pr) : Pr := if isT l.length then l.getD 1 (0, 0) else (0, 0)
theorem isT_two {n : Nat} (h : isT n = true) : n = 8 ∨ n = 16 ∨ n = 32 := by
  simp [isT, isG] at h
  omega
theorem encP_flat (p : Pr) : ∀ v ∈ encP p, AV.flat v = true := by simp [encP, AV.flat]

theorem tree_Top_ae (l : List Pr) (hl : l.length ≤ 1000000) (h : AHeap) : AE Try.prog 28 [.imm 2 (l.map encP)] h (.tup [.agg (encP (topP l)), .bool (isT l.length)]) h := by
  refine AE.pureQ is_tree_Top (by simp) ?_
  unfold c_tree_Top
  (repeat first | refine AL.go ?_ | refine DW.go ?_ | refine AW.seq ?_ | refine AW.reg ?_ | refine AL.nil ?_ | refine DW.endL ?_ | refine AW.skip ?_ | refine AW.block ?_ | refine AW.exit ?_ | refine AW.condT rfl ?_ | refine AW.condF rfl ?_ | refine AW.draw mo (by kernel_rfl) ?_)
  refine AL.callM rfl (by first | exact True.intro | exact rfl) (AE.use (tree_is_ae l hl _) ?_)
  (repeat first | refine AL.go ?_ | refine DW.go ?_ | refine AW.seq ?_ | refine AW.reg ?_ | refine AL.nil ?_ | refine DW.endL ?_ | refine AW.skip ?_ | refine AW.block ?_ | refine AW.exit ?_ | refine AW.condT rfl ?_ | refine AW.condF rfl ?_ | refine AW.draw mo (by kernel_rfl) ?_)
  (refine AW.condB rfl (fun hz => ?_) (fun hz => ?_) <;> try simp only [decide_eq_true_eq, decide_eq_false_iff_not, beq_iff_eq, beq_eq_false_iff_ne, bne_iff_ne, bne_eq_false_iff_eq, Bool.not_eq_true', Bool.not_eq_false', Bool.not_eq_true, Bool.not_eq_false, Int.not_lt, Int.not_le, ne_eq, ge_iff_le, gt_iff_lt] at hz) <;> (repeat first | refine AL.go ?_ | refine DW.go ?_ | refine AW.seq ?_ | refine AW.reg ?_ | refine AL.nil ?_ | refine DW.endL ?_ | refine AW.skip ?_ | refine AW.block ?_ | refine AW.exit ?_ | refine AW.condT rfl ?_ | refine AW.condF rfl ?_ | refine AW.draw mo (by kernel_rfl) ?_)
  · have h0 : isT l.length = false := by simpa using hz
    refine AW.ret (PureQ.fin (.inl rfl) (by repeat first | with_reducible exact Keeps.refl _ | with_reducible refine Keeps.put ?_ (by omega) _ | with_reducible refine Keeps.set ?_ (by omega) _ | assumption) (by repeat first | exact resA_nil | (apply resA_t; exact rfl) | (apply resA_c; exact rfl; exact (by repeat first | with_reducible exact get_put_same | with_reducible exact get_set_same | assumption | with_reducible apply get_put_neE (by omega) | with_reducible apply get_set_neE (by omega)); exact (by first | exact getC_at rfl rfl | exact getC_all rfl | exact getC_sub (by simp) rfl))) ?_)
    exact Fz.tup2 (fz_agg (by simp [topP, h0, encP, putC, AV.cs]) (by simp [putC, AV.cs, AV.flat])) (fz_b (by simp [h0]))
  · have h0 : isT l.length = true := by simpa using hz
    have h1 := isT_two h0
    refine AL.auto (Stp.iaddrI (i := 1) rfl rfl rfl (by simp; omega) trivial) ?_
    refine AL.auto (Stp.loadi rfl (map_at (List.getElem?_eq_getElem (by omega))) (getC_all rfl) trivial) ?_
    (repeat first | refine AL.go ?_ | refine DW.go ?_ | refine AW.seq ?_ | refine AW.reg ?_ | refine AL.nil ?_ | refine DW.endL ?_ | refine AW.skip ?_ | refine AW.block ?_ | refine AW.exit ?_ | refine AW.condT rfl ?_ | refine AW.condF rfl ?_ | refine AW.draw mo (by kernel_rfl) ?_)
    refine AW.ret (PureQ.fin (.inl rfl) (by repeat first | with_reducible exact Keeps.refl _ | with_reducible refine Keeps.put ?_ (by omega) _ | with_reducible refine Keeps.set ?_ (by omega) _ | assumption) (by repeat first | exact resA_nil | (apply resA_t; exact rfl) | (apply resA_c; exact rfl; exact (by repeat first | with_reducible exact get_put_same | with_reducible exact get_set_same | assumption | with_reducible apply get_put_neE (by omega) | with_reducible apply get_set_neE (by omega)); exact (by first | exact getC_at rfl rfl | exact getC_all rfl | exact getC_sub (by simp) rfl))) ?_)
    exact Fz.tup2 (fz_agg (by simp [topP, h0, encP, putC, AV.cs]; simp [show 1 < l.length by omega]) (by simp [putC, AV.cs, AV.flat, encP])) (fz_b (by simp [h0]))
end Go.Proofs.Ytnihcakkhillcaa
