/- LockReal. -/
import Derived.Test.YtlddahcgaonlhaaX10
import Derived.Test.YtlddahcgaonlhaaK1
set_option linter.all false
namespace Go.Proofs.Ytlddahcgaonlhaa
open Go Go.Abs

attribute [local irreducible] digestF gcmB gcmT
theorem law8_known_ae (h : AHeap) : AE Try.prog 33 [] h (.bool true) h := by
  obtain ⟨d, hd⟩ : ∃ d, digestF [97] = d := ⟨_, rfl⟩
  refine AE.pureW is_law8_known (by simp) ?_
  unfold c_law8_known
  (refine go ?_)
  refine WL.call rfl (by first | exact True.intro | exact rfl) (by repeat first | exact SubL.nil | refine SubL.cons (SubV.refl _) ?_ | refine SubL.cons SubV.app ?_ | refine SubL.cons SubV.nil ?_) (lock_Real_ae (nx := h.next) gN) ?_
  refine WL.fx1 (FX.bslN (n := 1) rfl rfl rfl gN (by first | exact True.intro | exact rfl)) ?_
  refine WL.fx1 (FX.strish rfl gH rfl (by decide) (by first | exact True.intro | exact rfl)) ?_
  (refine go ?_)
  have c1 : ∀ h2 : AHeap, h2.get h.next = some (.mem 5 [reC]) → AE Try.prog 41 [.ptr h.next 0 0, .imm 1 ([[97]].map encR)] h2 (.agg (encP d)) h2 := fun h2 hg => by
    rw [← hd]; exact lock_SumR_ae hg [[97]] (by simp) (by simp)
  refine WL.call rfl (by first | exact True.intro | exact rfl) (by repeat first | exact SubL.nil | refine SubL.cons (SubV.refl _) ?_ | refine SubL.cons SubV.app ?_ | refine SubL.cons SubV.nil ?_) (c1 _ gH) ?_
  refine WL.fx1 (FX.bslN (n := 1) rfl rfl rfl gN (by first | exact True.intro | exact rfl)) ?_
  refine WL.fx1 (FX.strish rfl gH rfl (by decide) (by first | exact True.intro | exact rfl)) ?_
  have c2 : ∀ h2 : AHeap, AE Try.prog 71 [.imm 1 ([97].map encB)] h2 (.agg (encP d)) h2 := fun h2 => by
    rw [← hd]; exact ref6_Sum_ae [97] (by simp) h2
  refine WL.call rfl (by first | exact True.intro | exact rfl) (by repeat first | exact SubL.nil | refine SubL.cons (SubV.refl _) ?_ | refine SubL.cons SubV.app ?_ | refine SubL.cons SubV.nil ?_) (c2 _) ?_
  (refine go ?_)
  rw [show ((fun r => d.1 == d.1 && r) ((fun r => d.2 == d.2 && r) true)) = true by simp]
  (refine go ?_)
  refine WL.named (fun h2 => h2.next = h.next + 3 ∧ Keeps h h2) ⟨gN, (by repeat first | with_reducible exact Keeps.refl _ | with_reducible refine Keeps.put ?_ (by omega) _ | with_reducible refine Keeps.set ?_ (by omega) _ | assumption)⟩ ?_
  rintro h1 ⟨n1, k1⟩
  refine WL.call rfl (by first | exact True.intro | exact rfl) (by repeat first | exact SubL.nil | refine SubL.cons (SubV.refl _) ?_ | refine SubL.cons SubV.app ?_ | refine SubL.cons SubV.nil ?_) (lock_Ideal_ae n1) ?_
  obtain ⟨h2, e2, o2, n2, m2, k2⟩ := newL_ex (h := h1) n1
  replace k2 := k2 h k1
  rw [e2]
  refine WL.fx1 (FX.bslN (n := 1) rfl rfl rfl n2 (by first | exact True.intro | exact rfl)) ?_
  refine WL.fx1 (FX.strish rfl gH rfl (by decide) (by first | exact True.intro | exact rfl)) ?_
  (refine go ?_)
  have o3 : IdAt ((h2.put (h.next + 3 + 4) (.mem 1 [[.int .u8 97]])).set (h.next + 3 + 4) none) (h.next + 3 + 3) (h.next + 3 + 1) (h.next + 3 + 2) (h.next + 3) 0 [] [] := by
    obtain ⟨o4, o5⟩ := o2
    exact ⟨gH, (orAt_get o5 (by repeat first | with_reducible apply get_put_neE (by omega) | with_reducible apply get_set_neE (by omega) | with_reducible apply get_keepE | exact rfl) (by repeat first | with_reducible apply get_put_neE (by omega) | with_reducible apply get_set_neE (by omega) | with_reducible apply get_keepE | exact rfl) (by repeat first | with_reducible apply get_put_neE (by omega) | with_reducible apply get_set_neE (by omega) | with_reducible apply get_keepE | exact rfl))⟩
  refine WL.call rfl (by first | exact True.intro | exact rfl) (by repeat first | exact SubL.nil | refine SubL.cons (SubV.refl _) ?_ | refine SubL.cons SubV.app ?_ | refine SubL.cons SubV.nil ?_) (lock_SumI_ae o3 (by simp) [[97]] (by simp) (by simp)) ?_
  (refine go ?_)
  refine WW.ret (PureQ.finD ?_)
  exact fz_b rfl
theorem law8_LockReal_ae (k : Pr) (n : Nn) (a b : Bs) (t : Int) (h : AHeap) : AE Try.prog 7 [.agg (encP k), .agg (encN n), .imm 1 (a.map encB), .imm 1 (b.map encB), .int .i64 t] h (.bool true) h := by
  refine AE.pureW is_law8_LockReal (by simp) ?_
  unfold c_law8_LockReal
  (refine go ?_)
  (apply WL.orB; exact rfl; exact rfl; exact rfl; exact BP.of; intro hz1)
  · (repeat first | (apply GW.goS; exact Stp.auto) | apply GW.nil | exact rfl)
  (refine go ?_)
  (apply WL.orB; exact rfl; exact rfl; exact rfl; exact BP.of; intro hz2)
  · (repeat first | (apply GW.goS; exact Stp.auto) | apply GW.nil | exact rfl)
  (refine go ?_)
  (apply WL.orB; exact rfl; exact rfl; exact rfl; exact BP.of; intro hz3)
  · (repeat first | (apply GW.goS; exact Stp.auto) | apply GW.nil | exact rfl)
  (refine go ?_)
  (refine WW.ifB rfl (fun hz4 => ?_) (fun hz4 => ?_))
  · (refine go ?_)
    refine WW.ret (PureQ.finD ?_)
    exact fz_b rfl
  have hb : a.length ≤ 100 ∧ b.length ≤ 100 ∧ 0 ≤ t ∧ t ≤ 5 := by simp at hz4; omega
  obtain ⟨b1, b2, b3, b4⟩ := hb
  (refine go ?_)
  refine WL.call rfl (by first | exact True.intro | exact rfl) (by repeat first | exact SubL.nil | refine SubL.cons (SubV.refl _) ?_ | refine SubL.cons SubV.app ?_ | refine SubL.cons SubV.nil ?_) (lock_Real_ae (nx := h.next + 2) gN) ?_
  (refine go ?_)
  refine WW.loopE (fun (i : Nat) => [(2, some (.imm 1 (a.map encB))), (3, some (.imm 1 (b.map encB))), (4, some (.int .i64 t)), (5, some (.ptr h.next 0 0)), (6, some (.ptr (h.next + 1) 0 0)), (11, some (.ptr (h.next + 2) 0 0)), (12, some (.int .i64 i))])
    (fun i h' => h'.get h.next = some (.mem 2 [encP k]) ∧ h'.get (h.next + 1) = some (.mem 3 [encN n]) ∧ h'.get (h.next + 2) = some (.mem 5 [reC]) ∧ h'.next = h.next + 3 ∧ Keeps h h' ∧ i ≤ 5) (fun i => 5 - i) 0 (by repeat first | exact subE.nil _ | (apply subE.cons; focus (first | exact rfl | (simp [lk_cons]; done) | (simp [lk_cons]; omega)))) ⟨gH, gH, gH, gN, (by repeat first | with_reducible exact Keeps.refl _ | with_reducible refine Keeps.put ?_ (by omega) _ | with_reducible refine Keeps.set ?_ (by omega) _ | assumption), by omega⟩ ?_
  rintro i h' ⟨g1, g2, g3, g4, g5, g6⟩
  (refine go ?_)
  (refine WW.ifB rfl (fun hz5 => ?_) (fun hz5 => ?_))
  · (refine go ?_)
    refine WL.call rfl (by first | exact True.intro | exact rfl) (by repeat first | exact SubL.nil | refine SubL.cons (SubV.refl _) ?_ | refine SubL.cons SubV.app ?_ | refine SubL.cons SubV.nil ?_) (lock_SealR_ae g3 k n a [] (by omega) (by simp)) ?_
    (refine go ?_)
    refine ⟨i + 1, (by repeat first | exact subE.nil _ | (apply subE.cons; focus (first | exact rfl | (simp [lk_cons]; done) | (simp [lk_cons]; omega)))), ⟨gH, gH, gH, gN, (by repeat first | with_reducible exact Keeps.refl _ | with_reducible refine Keeps.put ?_ (by omega) _ | with_reducible refine Keeps.set ?_ (by omega) _ | assumption), by omega⟩, by omega⟩
  · (refine go ?_)
    refine WL.call rfl (by first | exact True.intro | exact rfl) (by repeat first | exact SubL.nil | refine SubL.cons (SubV.refl _) ?_ | refine SubL.cons SubV.app ?_ | refine SubL.cons SubV.nil ?_) (lock_SealR_ae g3 k n a b (by omega) (by omega)) ?_
    (refine go ?_)
    refine WL.call rfl (by first | exact True.intro | exact rfl) (by repeat first | exact SubL.nil | refine SubL.cons (SubV.refl _) ?_ | refine SubL.cons SubV.app ?_ | refine SubL.cons SubV.nil ?_) (ref5_Seal_ae k n a b (by omega) (by omega) _) ?_
    (refine go ?_)
    refine WL.call rfl (by first | exact True.intro | exact rfl) (by repeat first | exact SubL.nil | refine SubL.cons (SubV.refl _) ?_ | refine SubL.cons SubV.app ?_ | refine SubL.cons SubV.nil ?_) (ref5_Same_ae _ _ _ _ _) ?_
    (refine go ?_)
    rw [show (gcmB k n b == gcmB k n b && gcmT k n a (gcmB k n b) == gcmT k n a (gcmB k n b)) = true by simp]
    (refine go ?_)
    refine WL.call rfl (by first | exact True.intro | exact rfl) (by repeat first | exact SubL.nil | refine SubL.cons (SubV.refl _) ?_ | refine SubL.cons SubV.app ?_ | refine SubL.cons SubV.nil ?_) (law8_known_ae _) ?_
    (refine go ?_)
    refine WW.ret (PureQ.finD ?_)
    exact fz_b rfl
theorem top_LockReal (c0 : List AV) (t0 : TypL [.i .u64, .i .u64] c0) (c1 : List AV) (t1 : TypL [.i .u32, .i .u32, .i .u64] c1) (c2 : List AV) (t2 : TypL [.sl [.i .u8]] c2) (c3 : List AV) (t3 : TypL [.sl [.i .u8]] c3) (c4 : List AV) (t4 : TypL [.i .i64] c4) :
    AE Try.prog 7 [.agg c0, .agg c1, c2.headD .nilp, c3.headD .nilp, c4.headD .nilp] noHeap (.bool true) noHeap := by
  obtain ⟨k, rfl⟩ := pair_of t0
  obtain ⟨n, rfl⟩ := nonce_of t1
  obtain ⟨a, rfl⟩ := bytes_of t2
  obtain ⟨b, rfl⟩ := bytes_of t3
  obtain ⟨t, rfl, _⟩ := int_of t4
  exact law8_LockReal_ae k n a b t noHeap
end Go.Proofs.Ytlddahcgaonlhaa
