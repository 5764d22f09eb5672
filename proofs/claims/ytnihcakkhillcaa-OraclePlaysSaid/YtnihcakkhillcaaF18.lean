/- OraclePlays: long. -/
import Derived.Test.YtnihcakkhillcaaF13
namespace Go.Proofs.Ytnihcakkhillcaa
open Go Go.Abs

def longB (A : List Act7) : Bool := (A.take 80).any (fun a => decide (100 < a.head.length) || decide (100 < a.data.length)) || decide (80 ≤ A.length)
theorem long_drop {A : List Act7} {i : Nat} (hi : i < A.length) (h8 : i < 80) (h : ∀ a ∈ A.take i, a.head.length ≤ 100 ∧ a.data.length ≤ 100) (h2 : A[i].head.length ≤ 100 ∧ A[i].data.length ≤ 100) : ∀ a ∈ A.take (i + 1), a.head.length ≤ 100 ∧ a.data.length ≤ 100 := by
  intro a ha
  rw [List.take_succ_eq_append_getElem hi] at ha
  rcases List.mem_append.1 ha with ha | ha
  · exact h a ha
  · rw [List.mem_singleton] at ha; subst ha; exact h2

set_option maxHeartbeats 4000000 in
/-- `long` answers false only where all is short. -/
theorem law7_long_ae (A : List Act7) (h : AHeap) : ∃ b : Bool, AE Try.prog 21 [.imm 10 (A.map encA)] h (.bool b) h ∧ (b = false → A.length < 80 ∧ ∀ a ∈ A, a.head.length ≤ 100 ∧ a.data.length ≤ 100) := by
  refine ⟨longB A, ?_, fun hb => ?_⟩
  · refine AE.pureW is_law7_long (by simp) ?_
    unfold c_law7_long
    (refine go ?_)
    refine WW.loopE (fun (i : Nat) => [(0, some (.imm 10 (A.map encA))), (3, some (.int .i64 i))])
      (fun i h' => h = h' ∧ i ≤ A.length ∧ i ≤ 80 ∧ ∀ a ∈ A.take i, a.head.length ≤ 100 ∧ a.data.length ≤ 100) (fun i => A.length - i) 0 (by repeat first | exact subE.nil _ | (apply subE.cons; focus (first | exact rfl | (simp [lk_cons]; done) | (simp [lk_cons]; omega)))) ⟨rfl, Nat.zero_le _, by omega, by simp⟩ ?_
    rintro i h' ⟨rfl, g1, g2, g3⟩
    (refine go ?_)
    (apply WL.andB; exact rfl; exact rfl; exact rfl; exact BP.of; intro hz1)
    · (repeat first | (apply GW.goS; exact Stp.auto) | apply GW.nil | exact rfl)
    (refine go ?_)
    (refine WW.ifB rfl (fun hz2 => ?_) (fun hz2 => ?_))
    · simp at hz2
      have hi : i < A.length := by omega
      (refine go ?_)
      (apply WL.orB; exact rfl; exact rfl; exact rfl; exact BP.of; intro hz3)
      · (repeat first | (apply GW.goS; exact Stp.auto) | apply GW.nil | exact rfl)
      (refine go ?_)
      (refine WW.ifB rfl (fun hz4 => ?_) (fun hz4 => ?_))
      · (refine go ?_)
        refine WW.ret (PureQ.finD ?_)
        simp at hz4
        have hany : (A.take 80).any (fun a => decide (100 < a.head.length) || decide (100 < a.data.length)) = true :=
          List.any_eq_true.2 ⟨A[i], List.mem_iff_getElem.2 ⟨i, by simp; omega, by simp⟩, by simp; omega⟩
        exact fz_b (by rw [longB, hany]; rfl)
      · (refine go ?_)
        simp at hz4
        refine ⟨i + 1, (by repeat first | exact subE.nil _ | (apply subE.cons; focus (first | exact rfl | (simp [lk_cons]; done) | (simp [lk_cons]; omega)))), ⟨rfl, by omega, by omega, long_drop hi (by omega) g3 ⟨by omega, by omega⟩⟩, by omega⟩
    · simp at hz2
      (refine go ?_)
      refine WW.ret (PureQ.finD ?_)
      have ht : A.take 80 = A.take i := by
        rcases Nat.lt_or_ge i A.length with h1 | h1
        · rw [show i = 80 by omega]
        · rw [List.take_of_length_le h1, List.take_of_length_le (by omega)]
      have hany : (A.take 80).any (fun a => decide (100 < a.head.length) || decide (100 < a.data.length)) = false := by
        rw [ht]
        refine List.any_eq_false.2 fun a ha => ?_
        have := g3 a ha
        simp; omega
      exact fz_b (by rw [longB, hany, Bool.false_or, Bool.eq_iff_iff]; simp; omega)
  · simp only [longB, Bool.or_eq_false_iff, decide_eq_false_iff_not, Nat.not_le] at hb
    refine ⟨hb.2, fun a ha => ?_⟩
    have := List.any_eq_false.1 hb.1 a (by rw [List.take_of_length_le (by omega)]; exact ha)
    simp at this
    omega
end Go.Proofs.Ytnihcakkhillcaa
