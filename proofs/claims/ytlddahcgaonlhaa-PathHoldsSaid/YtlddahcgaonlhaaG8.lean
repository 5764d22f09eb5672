/- The laws' own functions, chapter 19. -/
import Derived.Test.YtlddahcgaonlhaaG7
import Derived.Test.YtlddahcgaonlhaaCL19
set_option linter.all false
namespace Go.Proofs.Ytlddahcgaonlhaa
open Go Go.Abs

theorem law19_long_ae (l : List Bs) (hl : l.length ≤ maxLen) (h : AHeap) : AE Try.prog 25 [.imm 1 (l.map encR)] h (.bool (longF l)) h := by
  refine AE.pureW is_law19_long (by simp) ?_
  unfold c_law19_long
  have hmx : l.length ≤ 9223372036854775807 := hl
  (refine go ?_)
  refine WW.loopE (fun (i : Nat) => [(0, some (.imm 1 (l.map encR))), (3, some (.int .i64 i))])
    (fun i h' => h' = h ∧ i ≤ l.length ∧ i ≤ 20 ∧ (l.take i).any (fun b => decide (100 < b.length)) = false) (fun i => l.length - i) 0 (by repeat first | exact subE.nil _ | (apply subE.cons; focus (first | exact rfl | (simp [lk_cons]; done) | (simp [lk_cons]; omega)))) ⟨rfl, Nat.zero_le _, by omega, by simp⟩ ?_
  rintro i h' ⟨rfl, c1, c2, c3⟩
  (refine go ?_)
  (apply WL.andB; exact rfl; exact rfl; exact rfl; exact BP.of; intro hz1)
  · (repeat first | (apply GW.goS; exact Stp.auto) | apply GW.nil | exact rfl)
  (refine go ?_)
  (refine WW.ifB rfl (fun hz2 => ?_) (fun hz2 => ?_))
  · have hi : i < l.length ∧ i < 20 := by simp at hz2; omega
    (refine go ?_)
    (refine WW.ifB rfl (fun hz3 => ?_) (fun hz3 => ?_))
    · (refine go ?_)
      refine WW.ret (PureQ.finD ?_)
      refine fz_b ?_
      rw [longF]
      have : (l.take 20).any (fun b => decide (100 < b.length)) = true := by
        rw [List.any_eq_true]
        refine ⟨l[i], ?_, by simp; omega⟩
        rw [List.mem_take_iff_getElem]
        exact ⟨i, by omega, rfl⟩
      rw [this]; rfl
    · (refine go ?_)
      refine ⟨i + 1, (by repeat first | exact subE.nil _ | (apply subE.cons; focus (first | exact rfl | (simp [lk_cons]; done) | (simp [lk_cons]; omega)))), ⟨rfl, by omega, by omega, ?_⟩, by omega⟩
      rw [List.take_succ_eq_append_getElem hi.1, List.any_append, c3]
      simp; omega
  · have hi : i = l.length ∨ i = 20 := by simp at hz2; omega
    (refine go ?_)
    refine WW.ret (PureQ.finD ?_)
    refine fz_b ?_
    rw [longF]
    have : (l.take 20).any (fun b => decide (100 < b.length)) = false := by
      rcases hi with rfl | rfl
      · rw [List.take_length] at c3; rw [List.take_of_length_le c2]; exact c3
      · exact c3
    rw [this]; simp; omega

theorem z16_in : pathIn z16 5 = true := by decide
theorem z16_len : (pathL z16 5).length = 3 := by
  rw [pathL, if_pos z16_in, show (((z16.length : Int) / 2) + (5 : Int)).toNat = 13 by decide, upL_more (by decide), upL_more (by decide), upL_more (by decide), upL_one (by decide)]
  rfl
theorem law19_known_ae (h : AHeap) : AE Try.prog 28 [] h (.bool true) h := by
  refine AE.pureW is_law19_known (by simp) ?_
  unfold c_law19_known
  (refine go ?_)
  refine WL.cvt (frz_eq (s := 4) (c' := z16.map encP) rfl get_put_same rfl rfl) ?_
  refine WL.call rfl (by first | exact True.intro | exact rfl) (by repeat first | exact SubL.nil | refine SubL.cons (SubV.refl _) ?_ | refine SubL.cons SubV.app ?_ | refine SubL.cons SubV.nil ?_) (path_Of_ae z16 (by decide) 5 _) ?_
  rw [z16_in]
  (refine go ?_)
  refine WW.ret (PureQ.finD ?_)
  exact fz_b (by rw [z16_len]; rfl)
end Go.Proofs.Ytlddahcgaonlhaa
