/- First functions: which numbers of slots may be; is it a tree; its top. -/
import Derived.Test.YtnihcakkhillcaaC
import Derived.Test.YtnihcakkhillcaaA18
namespace Go.Proofs.Ytnihcakkhillcaa
open Go Go.Abs

def isG (n : Int) : Bool := n == 4 || n == 8 || n == 16



theorem geom_Is_ae (n : Int) (h : AHeap) : AE Try.prog 42 [.int .i64 n] h (.bool (isG n)) h := by
  refine AE.pureQ is_geom_Is (by simp) ?_
  unfold c_geom_Is
  (repeat first | refine AL.go ?_ | refine DW.go ?_ | refine AW.seq ?_ | refine AW.reg ?_ | refine AL.nil ?_ | refine DW.endL ?_ | refine AW.skip ?_ | refine AW.block ?_ | refine AW.exit ?_ | refine AW.condT rfl ?_ | refine AW.condF rfl ?_ | refine AW.draw mo (by kernel_rfl) ?_)
  (refine AL.split rfl (fun hz => ?_) (fun hz => ?_) <;> try simp only [decide_eq_true_eq, decide_eq_false_iff_not, beq_iff_eq, beq_eq_false_iff_ne, bne_iff_ne, bne_eq_false_iff_eq, Bool.not_eq_true', Bool.not_eq_false', Bool.not_eq_true, Bool.not_eq_false, Int.not_lt, Int.not_le, ne_eq, ge_iff_le, gt_iff_lt] at hz) <;> (repeat first | refine AL.go ?_ | refine DW.go ?_ | refine AW.seq ?_ | refine AW.reg ?_ | refine AL.nil ?_ | refine DW.endL ?_ | refine AW.skip ?_ | refine AW.block ?_ | refine AW.exit ?_ | refine AW.condT rfl ?_ | refine AW.condF rfl ?_ | refine AW.draw mo (by kernel_rfl) ?_)
  · refine AW.ret (PureQ.fin (.inl rfl) (by repeat first | with_reducible exact Keeps.refl _ | with_reducible refine Keeps.put ?_ (by omega) _ | with_reducible refine Keeps.set ?_ (by omega) _ | assumption) (by repeat first | exact resA_nil | (apply resA_t; exact rfl) | (apply resA_c; exact rfl; exact (by repeat first | with_reducible exact get_put_same | with_reducible exact get_set_same | assumption | with_reducible apply get_put_neE (by omega) | with_reducible apply get_set_neE (by omega)); exact (by first | exact getC_at rfl rfl | exact getC_all rfl | exact getC_sub (by simp) rfl))) ?_)
    exact fz_b (by simp [isG, hz])
  (refine AL.split rfl (fun hz8 => ?_) (fun hz8 => ?_) <;> try simp only [decide_eq_true_eq, decide_eq_false_iff_not, beq_iff_eq, beq_eq_false_iff_ne, bne_iff_ne, bne_eq_false_iff_eq, Bool.not_eq_true', Bool.not_eq_false', Bool.not_eq_true, Bool.not_eq_false, Int.not_lt, Int.not_le, ne_eq, ge_iff_le, gt_iff_lt] at hz8) <;> (repeat first | refine AL.go ?_ | refine DW.go ?_ | refine AW.seq ?_ | refine AW.reg ?_ | refine AL.nil ?_ | refine DW.endL ?_ | refine AW.skip ?_ | refine AW.block ?_ | refine AW.exit ?_ | refine AW.condT rfl ?_ | refine AW.condF rfl ?_ | refine AW.draw mo (by kernel_rfl) ?_)
  all_goals
    refine AW.ret (PureQ.fin (.inl rfl) (by repeat first | with_reducible exact Keeps.refl _ | with_reducible refine Keeps.put ?_ (by omega) _ | with_reducible refine Keeps.set ?_ (by omega) _ | assumption) (by repeat first | exact resA_nil | (apply resA_t; exact rfl) | (apply resA_c; exact rfl; exact (by repeat first | with_reducible exact get_put_same | with_reducible exact get_set_same | assumption | with_reducible apply get_put_neE (by omega) | with_reducible apply get_set_neE (by omega)); exact (by first | exact getC_at rfl rfl | exact getC_all rfl | exact getC_sub (by simp) rfl))) ?_)
    exact fz_b (by simp [isG, hz, hz8])

theorem ref17_Is_ae (n : Int) (h : AHeap) : AE Try.prog 38 [.int .i64 n] h (.bool (isG n)) h := by
  refine AE.pureQ is_ref17_Is (by simp) ?_
  unfold c_ref17_Is
  (repeat first | refine AL.go ?_ | refine DW.go ?_ | refine AW.seq ?_ | refine AW.reg ?_ | refine AL.nil ?_ | refine DW.endL ?_ | refine AW.skip ?_ | refine AW.block ?_ | refine AW.exit ?_ | refine AW.condT rfl ?_ | refine AW.condF rfl ?_ | refine AW.draw mo (by kernel_rfl) ?_)
  (refine AL.split rfl (fun hz => ?_) (fun hz => ?_) <;> try simp only [decide_eq_true_eq, decide_eq_false_iff_not, beq_iff_eq, beq_eq_false_iff_ne, bne_iff_ne, bne_eq_false_iff_eq, Bool.not_eq_true', Bool.not_eq_false', Bool.not_eq_true, Bool.not_eq_false, Int.not_lt, Int.not_le, ne_eq, ge_iff_le, gt_iff_lt] at hz) <;> (repeat first | refine AL.go ?_ | refine DW.go ?_ | refine AW.seq ?_ | refine AW.reg ?_ | refine AL.nil ?_ | refine DW.endL ?_ | refine AW.skip ?_ | refine AW.block ?_ | refine AW.exit ?_ | refine AW.condT rfl ?_ | refine AW.condF rfl ?_ | refine AW.draw mo (by kernel_rfl) ?_)
  · refine AW.ret (PureQ.fin (.inl rfl) (by repeat first | with_reducible exact Keeps.refl _ | with_reducible refine Keeps.put ?_ (by omega) _ | with_reducible refine Keeps.set ?_ (by omega) _ | assumption) (by repeat first | exact resA_nil | (apply resA_t; exact rfl) | (apply resA_c; exact rfl; exact (by repeat first | with_reducible exact get_put_same | with_reducible exact get_set_same | assumption | with_reducible apply get_put_neE (by omega) | with_reducible apply get_set_neE (by omega)); exact (by first | exact getC_at rfl rfl | exact getC_all rfl | exact getC_sub (by simp) rfl))) ?_)
    exact fz_b (by simp [isG, hz])
  (refine AL.split rfl (fun hz8 => ?_) (fun hz8 => ?_) <;> try simp only [decide_eq_true_eq, decide_eq_false_iff_not, beq_iff_eq, beq_eq_false_iff_ne, bne_iff_ne, bne_eq_false_iff_eq, Bool.not_eq_true', Bool.not_eq_false', Bool.not_eq_true, Bool.not_eq_false, Int.not_lt, Int.not_le, ne_eq, ge_iff_le, gt_iff_lt] at hz8) <;> (repeat first | refine AL.go ?_ | refine DW.go ?_ | refine AW.seq ?_ | refine AW.reg ?_ | refine AL.nil ?_ | refine DW.endL ?_ | refine AW.skip ?_ | refine AW.block ?_ | refine AW.exit ?_ | refine AW.condT rfl ?_ | refine AW.condF rfl ?_ | refine AW.draw mo (by kernel_rfl) ?_)
  all_goals
    refine AW.ret (PureQ.fin (.inl rfl) (by repeat first | with_reducible exact Keeps.refl _ | with_reducible refine Keeps.put ?_ (by omega) _ | with_reducible refine Keeps.set ?_ (by omega) _ | assumption) (by repeat first | exact resA_nil | (apply resA_t; exact rfl) | (apply resA_c; exact rfl; exact (by repeat first | with_reducible exact get_put_same | with_reducible exact get_set_same | assumption | with_reducible apply get_put_neE (by omega) | with_reducible apply get_set_neE (by omega)); exact (by first | exact getC_at rfl rfl | exact getC_all rfl | exact getC_sub (by simp) rfl))) ?_)
    exact fz_b (by simp [isG, hz, hz8])

/-- Two numbers as one value. -/
abbrev Pr := Int × Int
def encP (p : Pr) : List AV := [.int .u64 p.1, .int .u64 p.2]
def isT (n : Nat) : Bool := n % 2 == 0 && isG (n / 2 : Nat)

theorem tree_is_ae (l : List Pr) (hl : l.length ≤ 1000000) (h : AHeap) : AE Try.prog 37 [.imm 2 (l.map encP)] h (.bool (isT l.length)) h := by
  refine AE.pureQ is_tree_is (by simp) ?_
  unfold c_tree_is
  (repeat first | refine AL.go ?_ | refine DW.go ?_ | refine AW.seq ?_ | refine AW.reg ?_ | refine AL.nil ?_ | refine DW.endL ?_ | refine AW.skip ?_ | refine AW.block ?_ | refine AW.exit ?_ | refine AW.condT rfl ?_ | refine AW.condF rfl ?_ | refine AW.draw mo (by kernel_rfl) ?_)
  (refine AL.split rfl (fun hz => ?_) (fun hz => ?_) <;> try simp only [decide_eq_true_eq, decide_eq_false_iff_not, beq_iff_eq, beq_eq_false_iff_ne, bne_iff_ne, bne_eq_false_iff_eq, Bool.not_eq_true', Bool.not_eq_false', Bool.not_eq_true, Bool.not_eq_false, Int.not_lt, Int.not_le, ne_eq, ge_iff_le, gt_iff_lt] at hz) <;> (repeat first | refine AL.go ?_ | refine DW.go ?_ | refine AW.seq ?_ | refine AW.reg ?_ | refine AL.nil ?_ | refine DW.endL ?_ | refine AW.skip ?_ | refine AW.block ?_ | refine AW.exit ?_ | refine AW.condT rfl ?_ | refine AW.condF rfl ?_ | refine AW.draw mo (by kernel_rfl) ?_)
  · refine AL.callM rfl (by first | exact True.intro | exact rfl) (AE.use (geom_Is_ae _ _) ?_)
    (repeat first | refine AL.go ?_ | refine DW.go ?_ | refine AW.seq ?_ | refine AW.reg ?_ | refine AL.nil ?_ | refine DW.endL ?_ | refine AW.skip ?_ | refine AW.block ?_ | refine AW.exit ?_ | refine AW.condT rfl ?_ | refine AW.condF rfl ?_ | refine AW.draw mo (by kernel_rfl) ?_)
    refine AW.ret (PureQ.fin (.inl rfl) (by repeat first | with_reducible exact Keeps.refl _ | with_reducible refine Keeps.put ?_ (by omega) _ | with_reducible refine Keeps.set ?_ (by omega) _ | assumption) (by repeat first | exact resA_nil | (apply resA_t; exact rfl) | (apply resA_c; exact rfl; exact (by repeat first | with_reducible exact get_put_same | with_reducible exact get_set_same | assumption | with_reducible apply get_put_neE (by omega) | with_reducible apply get_set_neE (by omega)); exact (by first | exact getC_at rfl rfl | exact getC_all rfl | exact getC_sub (by simp) rfl))) ?_)
    refine fz_b ?_
    have h2 : l.length % 2 = 0 := by omega
    simp [isT, h2]
  · refine AW.ret (PureQ.fin (.inl rfl) (by repeat first | with_reducible exact Keeps.refl _ | with_reducible refine Keeps.put ?_ (by omega) _ | with_reducible refine Keeps.set ?_ (by omega) _ | assumption) (by repeat first | exact resA_nil | (apply resA_t; exact rfl) | (apply resA_c; exact rfl; exact (by repeat first | with_reducible exact get_put_same | with_reducible exact get_set_same | assumption | with_reducible apply get_put_neE (by omega) | with_reducible apply get_set_neE (by omega)); exact (by first | exact getC_at rfl rfl | exact getC_all rfl | exact getC_sub (by simp) rfl))) ?_)
    refine fz_b ?_
    have h2 : l.length % 2 ≠ 0 := by omega
    simp [isT, h2]
theorem ref18_Is_ae (l : List Pr) (hl : l.length ≤ 1000000) (h : AHeap) : AE Try.prog 29 [.imm 2 (l.map encP)] h (.bool (isT l.length)) h := by
  refine AE.pureQ is_ref18_Is (by simp) ?_
  unfold c_ref18_Is
  (repeat first | refine AL.go ?_ | refine DW.go ?_ | refine AW.seq ?_ | refine AW.reg ?_ | refine AL.nil ?_ | refine DW.endL ?_ | refine AW.skip ?_ | refine AW.block ?_ | refine AW.exit ?_ | refine AW.condT rfl ?_ | refine AW.condF rfl ?_ | refine AW.draw mo (by kernel_rfl) ?_)
  (refine AL.split rfl (fun hz => ?_) (fun hz => ?_) <;> try simp only [decide_eq_true_eq, decide_eq_false_iff_not, beq_iff_eq, beq_eq_false_iff_ne, bne_iff_ne, bne_eq_false_iff_eq, Bool.not_eq_true', Bool.not_eq_false', Bool.not_eq_true, Bool.not_eq_false, Int.not_lt, Int.not_le, ne_eq, ge_iff_le, gt_iff_lt] at hz) <;> (repeat first | refine AL.go ?_ | refine DW.go ?_ | refine AW.seq ?_ | refine AW.reg ?_ | refine AL.nil ?_ | refine DW.endL ?_ | refine AW.skip ?_ | refine AW.block ?_ | refine AW.exit ?_ | refine AW.condT rfl ?_ | refine AW.condF rfl ?_ | refine AW.draw mo (by kernel_rfl) ?_)
  · refine AL.callM rfl (by first | exact True.intro | exact rfl) (AE.use (ref17_Is_ae _ _) ?_)
    (repeat first | refine AL.go ?_ | refine DW.go ?_ | refine AW.seq ?_ | refine AW.reg ?_ | refine AL.nil ?_ | refine DW.endL ?_ | refine AW.skip ?_ | refine AW.block ?_ | refine AW.exit ?_ | refine AW.condT rfl ?_ | refine AW.condF rfl ?_ | refine AW.draw mo (by kernel_rfl) ?_)
    refine AW.ret (PureQ.fin (.inl rfl) (by repeat first | with_reducible exact Keeps.refl _ | with_reducible refine Keeps.put ?_ (by omega) _ | with_reducible refine Keeps.set ?_ (by omega) _ | assumption) (by repeat first | exact resA_nil | (apply resA_t; exact rfl) | (apply resA_c; exact rfl; exact (by repeat first | with_reducible exact get_put_same | with_reducible exact get_set_same | assumption | with_reducible apply get_put_neE (by omega) | with_reducible apply get_set_neE (by omega)); exact (by first | exact getC_at rfl rfl | exact getC_all rfl | exact getC_sub (by simp) rfl))) ?_)
    refine fz_b ?_
    have h2 : l.length % 2 = 0 := by omega
    simp [isT, h2]
  · refine AW.ret (PureQ.fin (.inl rfl) (by repeat first | with_reducible exact Keeps.refl _ | with_reducible refine Keeps.put ?_ (by omega) _ | with_reducible refine Keeps.set ?_ (by omega) _ | assumption) (by repeat first | exact resA_nil | (apply resA_t; exact rfl) | (apply resA_c; exact rfl; exact (by repeat first | with_reducible exact get_put_same | with_reducible exact get_set_same | assumption | with_reducible apply get_put_neE (by omega) | with_reducible apply get_set_neE (by omega)); exact (by first | exact getC_at rfl rfl | exact getC_all rfl | exact getC_sub (by simp) rfl))) ?_)
    refine fz_b ?_
    have h2 : l.length % 2 ≠ 0 := by omega
    simp [isT, h2]
end Go.Proofs.Ytnihcakkhillcaa
