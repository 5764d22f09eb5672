/- Are two rows of pairs one? -/
import Derived.Test.YtnihcakkhillcaaF2
import Derived.Test.YtnihcakkhillcaaA21
namespace Go.Proofs.Ytnihcakkhillcaa
open Go Go.Abs
theorem mo : Try.prog.follows .mixedOrders = true := by kernel_rfl

theorem ref18_Same_ae (a b : List Pr) (ha : a.length ≤ 1000000) (hb : b.length ≤ 1000000) (h : AHeap) : AE Try.prog 12 [.imm 2 (a.map encP), .imm 2 (b.map encP)] h (.bool (a == b)) h := by
  refine AE.pureQ is_ref18_Same (by simp) ?_
  unfold c_ref18_Same
  (repeat first | refine AL.go ?_ | refine DW.go ?_ | refine AW.seq ?_ | refine AW.reg ?_ | refine AL.nil ?_ | refine DW.endL ?_ | refine AW.skip ?_ | refine AW.block ?_ | refine AW.exit ?_ | refine AW.condT rfl ?_ | refine AW.condF rfl ?_ | refine AW.draw mo (by kernel_rfl) ?_)
  (refine AW.condB rfl (fun hz1 => ?_) (fun hz1 => ?_) <;> try simp only [decide_eq_true_eq, decide_eq_false_iff_not, beq_iff_eq, beq_eq_false_iff_ne, bne_iff_ne, bne_eq_false_iff_eq, Bool.not_eq_true', Bool.not_eq_false', Bool.not_eq_true, Bool.not_eq_false, Int.not_lt, Int.not_le, ne_eq, ge_iff_le, gt_iff_lt] at hz1) <;> (repeat first | refine AL.go ?_ | refine DW.go ?_ | refine AW.seq ?_ | refine AW.reg ?_ | refine AL.nil ?_ | refine DW.endL ?_ | refine AW.skip ?_ | refine AW.block ?_ | refine AW.exit ?_ | refine AW.condT rfl ?_ | refine AW.condF rfl ?_ | refine AW.draw mo (by kernel_rfl) ?_)
  · refine AW.ret (PureQ.fin (.inl rfl) (by repeat first | with_reducible exact Keeps.refl _ | with_reducible refine Keeps.put ?_ (by omega) _ | with_reducible refine Keeps.set ?_ (by omega) _ | assumption) (by repeat first | exact resA_nil | (apply resA_t; exact rfl) | (apply resA_c; exact rfl; exact (by repeat first | with_reducible exact get_put_same | with_reducible exact get_set_same | assumption | with_reducible apply get_put_neE (by omega) | with_reducible apply get_set_neE (by omega)); exact (by first | exact getC_at rfl rfl | exact getC_all rfl | exact getC_sub (by simp) rfl))) ?_)
    refine fz_b ?_
    have : a ≠ b := fun e => hz1 (by rw [e])
    simp [this]
  refine AW.loopE (fun (s : Nat) => [(0, some (.imm 2 (a.map encP))), (1, some (.imm 2 (b.map encP))), (5, some (.int .i64 s))])
    (fun s h' => h' = h ∧ s ≤ a.length ∧ a.take s = b.take s) (fun s => a.length - s) 0 (by repeat first | exact subE.nil _ | refine subE.cons rfl ?_ | refine subE.cons (by simp [lk]) ?_) ⟨rfl, by simp, rfl⟩ ?_
  rintro i h' ⟨g1, g2, g3⟩
  subst g1
  (repeat first | refine AL.go ?_ | refine DW.go ?_ | refine AW.seq ?_ | refine AW.reg ?_ | refine AL.nil ?_ | refine DW.endL ?_ | refine AW.skip ?_ | refine AW.block ?_ | refine AW.exit ?_ | refine AW.condT rfl ?_ | refine AW.condF rfl ?_ | refine AW.draw mo (by kernel_rfl) ?_)
  (refine AW.condB rfl (fun hz2 => ?_) (fun hz2 => ?_) <;> try simp only [decide_eq_true_eq, decide_eq_false_iff_not, beq_iff_eq, beq_eq_false_iff_ne, bne_iff_ne, bne_eq_false_iff_eq, Bool.not_eq_true', Bool.not_eq_false', Bool.not_eq_true, Bool.not_eq_false, Int.not_lt, Int.not_le, ne_eq, ge_iff_le, gt_iff_lt] at hz2) <;> (repeat first | refine AL.go ?_ | refine DW.go ?_ | refine AW.seq ?_ | refine AW.reg ?_ | refine AL.nil ?_ | refine DW.endL ?_ | refine AW.skip ?_ | refine AW.block ?_ | refine AW.exit ?_ | refine AW.condT rfl ?_ | refine AW.condF rfl ?_ | refine AW.draw mo (by kernel_rfl) ?_)
  · (refine AW.condB rfl (fun hz3 => ?_) (fun hz3 => ?_) <;> try simp only [decide_eq_true_eq, decide_eq_false_iff_not, beq_iff_eq, beq_eq_false_iff_ne, bne_iff_ne, bne_eq_false_iff_eq, Bool.not_eq_true', Bool.not_eq_false', Bool.not_eq_true, Bool.not_eq_false, Int.not_lt, Int.not_le, ne_eq, ge_iff_le, gt_iff_lt] at hz3) <;> (repeat first | refine AL.go ?_ | refine DW.go ?_ | refine AW.seq ?_ | refine AW.reg ?_ | refine AL.nil ?_ | refine DW.endL ?_ | refine AW.skip ?_ | refine AW.block ?_ | refine AW.exit ?_ | refine AW.condT rfl ?_ | refine AW.condF rfl ?_ | refine AW.draw mo (by kernel_rfl) ?_)
    · refine AW.ret (PureQ.fin (.inl rfl) (by repeat first | with_reducible exact Keeps.refl _ | with_reducible refine Keeps.put ?_ (by omega) _ | with_reducible refine Keeps.set ?_ (by omega) _ | assumption) (by repeat first | exact resA_nil | (apply resA_t; exact rfl) | (apply resA_c; exact rfl; exact (by repeat first | with_reducible exact get_put_same | with_reducible exact get_set_same | assumption | with_reducible apply get_put_neE (by omega) | with_reducible apply get_set_neE (by omega)); exact (by first | exact getC_at rfl rfl | exact getC_all rfl | exact getC_sub (by simp) rfl))) ?_)
      refine fz_b ?_
      have : a ≠ b := fun e => by subst e; simp at hz3
      simp [this]
    · refine thenN ⟨i + 1, (by repeat first | exact subE.nil _ | refine subE.cons rfl ?_ | refine subE.cons (by simp [lk]) ?_), ⟨rfl, by omega, ?_⟩, by omega⟩
      rw [List.take_add_one, List.take_add_one, g3, List.getElem?_eq_getElem (by omega), List.getElem?_eq_getElem (by omega)]
      simp at hz3
      have : a[i] = b[i] := Prod.ext hz3.1 hz3.2
      rw [this]
  · refine AW.ret (PureQ.fin (.inl rfl) (by repeat first | with_reducible exact Keeps.refl _ | with_reducible refine Keeps.put ?_ (by omega) _ | with_reducible refine Keeps.set ?_ (by omega) _ | assumption) (by repeat first | exact resA_nil | (apply resA_t; exact rfl) | (apply resA_c; exact rfl; exact (by repeat first | with_reducible exact get_put_same | with_reducible exact get_set_same | assumption | with_reducible apply get_put_neE (by omega) | with_reducible apply get_set_neE (by omega)); exact (by first | exact getC_at rfl rfl | exact getC_all rfl | exact getC_sub (by simp) rfl))) ?_)
    refine fz_b ?_
    rw [List.take_of_length_le (by omega), List.take_of_length_le (by omega)] at g3
    simp [g3]

/-! ### the law's own -/
def z16 : List Pr := List.replicate 16 (0, 0)
theorem z16_in : pathIn z16 5 = true := by decide
theorem z16_len : (pathL z16 5).length = 3 := by
  rw [pathL, if_pos z16_in, show (((z16.length : Int) / 2) + (5 : Int)).toNat = 13 by decide, upL_more (by decide), upL_more (by decide), upL_more (by decide), upL_one (by decide)]
  rfl
theorem upL_len (l : List Pr) (k : Nat) : (upL l k).length ≤ k := by
  induction k using Nat.strongRecOn with
  | ind k ih =>
    by_cases hk : k ≤ 1
    · rw [upL_one hk]; simp
    · rw [upL_more (by omega)]; have := ih (k / 2) (by omega); simp; omega
theorem law19_known_ae (h : AHeap) : AE Try.prog 13 [] h (.bool true) h := by
  refine AE.pureQ is_law19_known (by simp) ?_
  unfold c_law19_known
  (repeat first | refine AL.go ?_ | refine DW.go ?_ | refine AW.seq ?_ | refine AW.reg ?_ | refine AL.nil ?_ | refine DW.endL ?_ | refine AW.skip ?_ | refine AW.block ?_ | refine AW.exit ?_ | refine AW.condT rfl ?_ | refine AW.condF rfl ?_ | refine AW.draw mo (by kernel_rfl) ?_)
  refine AL.cvt (frz_eq (s := 4) (c' := z16.map encP) rfl get_put_same rfl rfl) ?_
  refine AL.callM rfl (by first | exact True.intro | exact rfl) (AE.use (path_Of_ae z16 (by decide) 5 _) ?_)
  rw [z16_in]
  (repeat first | refine AL.go ?_ | refine DW.go ?_ | refine AW.seq ?_ | refine AW.reg ?_ | refine AL.nil ?_ | refine DW.endL ?_ | refine AW.skip ?_ | refine AW.block ?_ | refine AW.exit ?_ | refine AW.condT rfl ?_ | refine AW.condF rfl ?_ | refine AW.draw mo (by kernel_rfl) ?_)
  refine AW.ret (PureQ.fin (.inl rfl) (by repeat first | with_reducible exact Keeps.refl _ | with_reducible refine Keeps.put ?_ (by omega) _ | with_reducible refine Keeps.set ?_ (by omega) _ | assumption) (by repeat first | exact resA_nil | (apply resA_t; exact rfl) | (apply resA_c; exact rfl; exact (by repeat first | with_reducible exact get_put_same | with_reducible exact get_set_same | assumption | with_reducible apply get_put_neE (by omega) | with_reducible apply get_set_neE (by omega)); exact (by first | exact getC_at rfl rfl | exact getC_all rfl | exact getC_sub (by simp) rfl))) ?_)
  exact fz_b (by rw [z16_len]; rfl)
theorem law19_PathOf_ae (l : List Pr) (i : Int) (h : AHeap) : AE Try.prog 3 [.imm 2 (l.map encP), .int .i64 i] h (.bool true) h := by
  refine AE.pureQ is_law19_PathOf (by simp) ?_
  unfold c_law19_PathOf
  (repeat first | refine AL.go ?_ | refine DW.go ?_ | refine AW.seq ?_ | refine AW.reg ?_ | refine AL.nil ?_ | refine DW.endL ?_ | refine AW.skip ?_ | refine AW.block ?_ | refine AW.exit ?_ | refine AW.condT rfl ?_ | refine AW.condF rfl ?_ | refine AW.draw mo (by kernel_rfl) ?_)
  (refine AW.condB rfl (fun hz1 => ?_) (fun hz1 => ?_) <;> try simp only [decide_eq_true_eq, decide_eq_false_iff_not, beq_iff_eq, beq_eq_false_iff_ne, bne_iff_ne, bne_eq_false_iff_eq, Bool.not_eq_true', Bool.not_eq_false', Bool.not_eq_true, Bool.not_eq_false, Int.not_lt, Int.not_le, ne_eq, ge_iff_le, gt_iff_lt] at hz1) <;> (repeat first | refine AL.go ?_ | refine DW.go ?_ | refine AW.seq ?_ | refine AW.reg ?_ | refine AL.nil ?_ | refine DW.endL ?_ | refine AW.skip ?_ | refine AW.block ?_ | refine AW.exit ?_ | refine AW.condT rfl ?_ | refine AW.condF rfl ?_ | refine AW.draw mo (by kernel_rfl) ?_)
  · refine AW.ret (PureQ.fin (.inl rfl) (by repeat first | with_reducible exact Keeps.refl _ | with_reducible refine Keeps.put ?_ (by omega) _ | with_reducible refine Keeps.set ?_ (by omega) _ | assumption) (by repeat first | exact resA_nil | (apply resA_t; exact rfl) | (apply resA_c; exact rfl; exact (by repeat first | with_reducible exact get_put_same | with_reducible exact get_set_same | assumption | with_reducible apply get_put_neE (by omega) | with_reducible apply get_set_neE (by omega)); exact (by first | exact getC_at rfl rfl | exact getC_all rfl | exact getC_sub (by simp) rfl))) ?_)
    exact fz_b rfl
  have hlen : (pathL l i).length ≤ 1000000 := by
    rw [pathL]; split
    · refine Nat.le_trans (upL_len l _) ?_; rename_i hp; simp [pathIn] at hp; omega
    · simp
  refine AL.callM rfl (by first | exact True.intro | exact rfl) (AE.use (path_Of_ae l (by omega) i _) ?_)
  (repeat first | refine AL.go ?_ | refine DW.go ?_ | refine AW.seq ?_ | refine AW.reg ?_ | refine AL.nil ?_ | refine DW.endL ?_ | refine AW.skip ?_ | refine AW.block ?_ | refine AW.exit ?_ | refine AW.condT rfl ?_ | refine AW.condF rfl ?_ | refine AW.draw mo (by kernel_rfl) ?_)
  refine AL.callM rfl (by first | exact True.intro | exact rfl) (AE.use (ref19_Of_ae l (by omega) i _) ?_)
  (repeat first | refine AL.go ?_ | refine DW.go ?_ | refine AW.seq ?_ | refine AW.reg ?_ | refine AL.nil ?_ | refine DW.endL ?_ | refine AW.skip ?_ | refine AW.block ?_ | refine AW.exit ?_ | refine AW.condT rfl ?_ | refine AW.condF rfl ?_ | refine AW.draw mo (by kernel_rfl) ?_)
  (refine AL.split rfl (fun hz2 => ?_) (fun hz2 => ?_) <;> try simp only [decide_eq_true_eq, decide_eq_false_iff_not, beq_iff_eq, beq_eq_false_iff_ne, bne_iff_ne, bne_eq_false_iff_eq, Bool.not_eq_true', Bool.not_eq_false', Bool.not_eq_true, Bool.not_eq_false, Int.not_lt, Int.not_le, ne_eq, ge_iff_le, gt_iff_lt] at hz2) <;> (repeat first | refine AL.go ?_ | refine DW.go ?_ | refine AW.seq ?_ | refine AW.reg ?_ | refine AL.nil ?_ | refine DW.endL ?_ | refine AW.skip ?_ | refine AW.block ?_ | refine AW.exit ?_ | refine AW.condT rfl ?_ | refine AW.condF rfl ?_ | refine AW.draw mo (by kernel_rfl) ?_)
  · refine AL.callM rfl (by first | exact True.intro | exact rfl) (AE.use (ref18_Same_ae (pathL l i) (pathL l i) hlen hlen _) ?_)
    (repeat first | refine AL.go ?_ | refine DW.go ?_ | refine AW.seq ?_ | refine AW.reg ?_ | refine AL.nil ?_ | refine DW.endL ?_ | refine AW.skip ?_ | refine AW.block ?_ | refine AW.exit ?_ | refine AW.condT rfl ?_ | refine AW.condF rfl ?_ | refine AW.draw mo (by kernel_rfl) ?_)
    (refine AL.split rfl (fun hz3 => ?_) (fun hz3 => ?_) <;> try simp only [decide_eq_true_eq, decide_eq_false_iff_not, beq_iff_eq, beq_eq_false_iff_ne, bne_iff_ne, bne_eq_false_iff_eq, Bool.not_eq_true', Bool.not_eq_false', Bool.not_eq_true, Bool.not_eq_false, Int.not_lt, Int.not_le, ne_eq, ge_iff_le, gt_iff_lt] at hz3) <;> (repeat first | refine AL.go ?_ | refine DW.go ?_ | refine AW.seq ?_ | refine AW.reg ?_ | refine AL.nil ?_ | refine DW.endL ?_ | refine AW.skip ?_ | refine AW.block ?_ | refine AW.exit ?_ | refine AW.condT rfl ?_ | refine AW.condF rfl ?_ | refine AW.draw mo (by kernel_rfl) ?_)
    · refine AL.callM rfl (by first | exact True.intro | exact rfl) (AE.use (law19_known_ae _) ?_)
      (repeat first | refine AL.go ?_ | refine DW.go ?_ | refine AW.seq ?_ | refine AW.reg ?_ | refine AL.nil ?_ | refine DW.endL ?_ | refine AW.skip ?_ | refine AW.block ?_ | refine AW.exit ?_ | refine AW.condT rfl ?_ | refine AW.condF rfl ?_ | refine AW.draw mo (by kernel_rfl) ?_)
      refine AW.ret (PureQ.fin (.inl rfl) (by repeat first | with_reducible exact Keeps.refl _ | with_reducible refine Keeps.put ?_ (by omega) _ | with_reducible refine Keeps.set ?_ (by omega) _ | assumption) (by repeat first | exact resA_nil | (apply resA_t; exact rfl) | (apply resA_c; exact rfl; exact (by repeat first | with_reducible exact get_put_same | with_reducible exact get_set_same | assumption | with_reducible apply get_put_neE (by omega) | with_reducible apply get_set_neE (by omega)); exact (by first | exact getC_at rfl rfl | exact getC_all rfl | exact getC_sub (by simp) rfl))) ?_)
      exact fz_b rfl
    · simp at hz3
  · simp at hz2
end Go.Proofs.Ytnihcakkhillcaa
