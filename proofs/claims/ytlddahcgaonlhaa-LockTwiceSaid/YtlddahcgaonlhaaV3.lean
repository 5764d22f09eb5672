/- LockTwice. -/
import Derived.Test.YtlddahcgaonlhaaX12
import Derived.Test.YtlddahcgaonlhaaV1
set_option linter.all false
namespace Go.Proofs.Ytlddahcgaonlhaa
open Go Go.Abs

theorem dup2 (a b : Pr) (n m : Nn) (i j : Nat) (x y u v : Bs) : dupB (([newI i a n x y] ++ [newI j b m u v]).map kn) = (a == b && n == m) := by
  show (!decide ([(a, n), (b, m)] : List KN).Nodup) = _
  by_cases e : a = b ∧ n = m
  · obtain ⟨rfl, rfl⟩ := e; simp
  · have : ([(a, n), (b, m)] : List KN).Nodup := by simp; intro h1; exact fun h2 => e ⟨h1, h2⟩
    rw [decide_eq_true this]
    rw [Bool.eq_iff_iff]
    simp
    intro h1 h2; exact e ⟨h1, h2⟩
attribute [local irreducible] digestF gcmB gcmT
theorem law8_LockTwice_ae (a b : Pr) (n m : Nn) (h : AHeap) : AE Try.prog 9 [.agg (encP a), .agg (encP b), .agg (encN n), .agg (encN m)] h (.bool true) h := by
  refine AE.pureW is_law8_LockTwice (by simp) ?_
  unfold c_law8_LockTwice
  (refine go ?_)
  refine WL.named (fun h1 => h1.next = h.next + 4 ∧ h1.get h.next = some (.mem 2 [encP a]) ∧ h1.get (h.next + 1) = some (.mem 2 [encP b]) ∧ h1.get (h.next + 2) = some (.mem 3 [encN n]) ∧ h1.get (h.next + 3) = some (.mem 3 [encN m]) ∧ Keeps h h1) ⟨gN, gH, gH, gH, gH, (by repeat first | with_reducible exact Keeps.refl _ | with_reducible refine Keeps.put ?_ (by omega) _ | with_reducible refine Keeps.set ?_ (by omega) _ | assumption)⟩ ?_
  rintro h1 ⟨n1, a1, a2, a3, a4, k1⟩
  refine WL.call rfl (by first | exact True.intro | exact rfl) (by repeat first | exact SubL.nil | refine SubL.cons (SubV.refl _) ?_ | refine SubL.cons SubV.app ?_ | refine SubL.cons SubV.nil ?_) (lock_Ideal_ae n1) ?_
  obtain ⟨h2, e2, o2, n2, m2, k2⟩ := newL_ex (h := h1) n1
  replace k2 := k2 h k1
  rw [e2]
  replace a1 := (m2 _ (by omega)).trans a1
  replace a2 := (m2 _ (by omega)).trans a2
  replace a3 := (m2 _ (by omega)).trans a3
  replace a4 := (m2 _ (by omega)).trans a4
  clear e2 m2 k1
  refine WL.call rfl (by first | exact True.intro | exact rfl) (by repeat first | exact SubL.nil | refine SubL.cons (SubV.refl _) ?_ | refine SubL.cons SubV.app ?_ | refine SubL.cons SubV.nil ?_) (lock_Real_ae n2) ?_
  (repeat first | refine WW.seq ?_ | refine WW.reg ?_ | refine WL.nil ?_ | refine WW.skip ?_ | refine WW.block ?_ | refine thenN ?_ | refine blkN ?_); iterate 2 (refine WL.go ?_)
  (repeat first | refine WW.seq ?_ | refine WW.reg ?_ | refine WL.nil ?_ | refine WW.skip ?_ | refine WW.block ?_ | refine thenN ?_ | refine blkN ?_); iterate 6 (refine WL.go ?_)
  (repeat first | refine WW.seq ?_ | refine WW.reg ?_ | refine WL.nil ?_ | refine WW.skip ?_ | refine WW.block ?_ | refine thenN ?_ | refine blkN ?_)
  refine WW.condF rfl ?_
  (repeat first | refine WW.seq ?_ | refine WW.reg ?_ | refine WL.nil ?_ | refine WW.skip ?_ | refine WW.block ?_ | refine thenN ?_ | refine blkN ?_); iterate 3 (refine WL.go ?_)
  refine WL.fx1 (FX.bslN (n := 1) rfl rfl rfl gN (by first | exact True.intro | exact rfl)) ?_
  refine WL.fx1 (FX.strish rfl gH rfl (by decide) (by first | exact True.intro | exact rfl)) ?_
  refine WL.named (fun h3 => h3.next = h.next + 10 ∧ IdAt h3 (h.next + 7) (h.next + 5) (h.next + 6) (h.next + 4) 0 [] [] ∧ h3.get (h.next + 8) = some (.mem 5 [reC]) ∧ h3.get h.next = some (.mem 2 [encP a]) ∧ h3.get (h.next + 1) = some (.mem 2 [encP b]) ∧ h3.get (h.next + 2) = some (.mem 3 [encN n]) ∧ h3.get (h.next + 3) = some (.mem 3 [encN m]) ∧ Keeps h h3) ⟨gN, ⟨by have := o2.cells; exact gH, (orAt_get o2.ora (by repeat first | with_reducible apply get_put_neE (by omega) | with_reducible apply get_set_neE (by omega) | with_reducible apply get_keepE | exact rfl) (by repeat first | with_reducible apply get_put_neE (by omega) | with_reducible apply get_set_neE (by omega) | with_reducible apply get_keepE | exact rfl) (by repeat first | with_reducible apply get_put_neE (by omega) | with_reducible apply get_set_neE (by omega) | with_reducible apply get_keepE | exact rfl))⟩, gH, gH, gH, gH, gH, (by repeat first | with_reducible exact Keeps.refl _ | with_reducible refine Keeps.put ?_ (by omega) _ | with_reducible refine Keeps.set ?_ (by omega) _ | assumption)⟩ ?_
  clear a1 a2 a3 a4 k2 n2 o2
  rintro h3 ⟨n3, o3, r3, a1, a2, a3, a4, k3⟩
  refine WL.call rfl (by first | exact True.intro | exact rfl) (by repeat first | exact SubL.nil | refine SubL.cons (SubV.refl _) ?_ | refine SubL.cons SubV.app ?_ | refine SubL.cons SubV.nil ?_) (lock_SealI_ae o3 (by simp) a n [] [112] (by simp) (by simp)) ?_
  obtain ⟨h4, e4, o4, n4, m4, k4⟩ := sealedL o3 a n [] [112]
  replace n4 := n4 _ n3
  replace k4 := k4 h k3 (by omega) (by omega)
  replace a1 := (m4 _ (by omega) (by omega)).trans a1
  replace a2 := (m4 _ (by omega) (by omega)).trans a2
  replace a3 := (m4 _ (by omega) (by omega)).trans a3
  replace a4 := (m4 _ (by omega) (by omega)).trans a4
  replace r3 := (m4 _ (by omega) (by omega)).trans r3
  rw [e4]
  clear e4 m4 o3 k3
  (repeat first | refine WW.seq ?_ | refine WW.reg ?_ | refine WL.nil ?_ | refine WW.skip ?_ | refine WW.block ?_ | refine thenN ?_ | refine blkN ?_); iterate 3 (refine WL.go ?_)
  refine WL.fx1 (FX.bslN (n := 1) rfl rfl rfl n4 (by first | exact True.intro | exact rfl)) ?_
  refine WL.fx1 (FX.strish rfl gH rfl (by decide) (by first | exact True.intro | exact rfl)) ?_
  have o5 : IdAt ((h4.put (h.next + 10) (.mem 1 [[.int .u8 113]])).set (h.next + 10) none) (h.next + 7) (h.next + 5) (h.next + 6) (h.next + 4) 0 _ [] := ⟨by have := o4.cells; exact gH, (orAt_get o4.ora (by repeat first | with_reducible apply get_put_neE (by omega) | with_reducible apply get_set_neE (by omega) | with_reducible apply get_keepE | exact rfl) (by repeat first | with_reducible apply get_put_neE (by omega) | with_reducible apply get_set_neE (by omega) | with_reducible apply get_keepE | exact rfl) (by repeat first | with_reducible apply get_put_neE (by omega) | with_reducible apply get_set_neE (by omega) | with_reducible apply get_keepE | exact rfl))⟩
  refine WL.call rfl (by first | exact True.intro | exact rfl) (by repeat first | exact SubL.nil | refine SubL.cons (SubV.refl _) ?_ | refine SubL.cons SubV.app ?_ | refine SubL.cons SubV.nil ?_) (lock_SealI_ae o5 (by simp) b m [] [113] (by simp) (by simp)) ?_
  obtain ⟨h6, e6, o6, n6, m6, k6⟩ := sealedL o5 b m [] [113]
  replace n6 := n6 (h.next + 11) gN
  replace k6 := k6 h (by repeat first | with_reducible exact Keeps.refl _ | with_reducible refine Keeps.put ?_ (by omega) _ | with_reducible refine Keeps.set ?_ (by omega) _ | assumption) (by omega) (by omega)
  replace a1 : h6.get h.next = _ := (m6 _ (by omega) (by omega)).trans gH
  replace a2 : h6.get (h.next + 1) = _ := (m6 _ (by omega) (by omega)).trans gH
  replace a3 : h6.get (h.next + 2) = _ := (m6 _ (by omega) (by omega)).trans gH
  replace a4 : h6.get (h.next + 3) = _ := (m6 _ (by omega) (by omega)).trans gH
  replace r3 : h6.get (h.next + 8) = _ := (m6 _ (by omega) (by omega)).trans gH
  rw [e6]
  clear e6 m6 o4 o5 k4
  (repeat first | refine WW.seq ?_ | refine WW.reg ?_ | refine WL.nil ?_ | refine WW.skip ?_ | refine WW.block ?_ | refine thenN ?_ | refine blkN ?_); iterate 3 (refine WL.go ?_)
  refine WL.fx1 (FX.bslN (n := 1) rfl rfl rfl n6 (by first | exact True.intro | exact rfl)) ?_
  refine WL.fx1 (FX.strish rfl gH rfl (by decide) (by first | exact True.intro | exact rfl)) ?_
  refine WL.call rfl (by first | exact True.intro | exact rfl) (by repeat first | exact SubL.nil | refine SubL.cons (SubV.refl _) ?_ | refine SubL.cons SubV.app ?_ | refine SubL.cons SubV.nil ?_) (lock_SealR_ae gH a n [] [112] (by simp) (by simp)) ?_
  (repeat first | refine WW.seq ?_ | refine WW.reg ?_ | refine WL.nil ?_ | refine WW.skip ?_ | refine WW.block ?_ | refine thenN ?_ | refine blkN ?_); iterate 3 (refine WL.go ?_)
  refine WL.fx1 (FX.bslN (n := 1) rfl rfl rfl gN (by first | exact True.intro | exact rfl)) ?_
  refine WL.fx1 (FX.strish rfl gH rfl (by decide) (by first | exact True.intro | exact rfl)) ?_
  refine WL.call rfl (by first | exact True.intro | exact rfl) (by repeat first | exact SubL.nil | refine SubL.cons (SubV.refl _) ?_ | refine SubL.cons SubV.app ?_ | refine SubL.cons SubV.nil ?_) (lock_SealR_ae gH a n [] [113] (by simp) (by simp)) ?_
  (refine go ?_)
  have hdup := dup2 a b n m (([] : List Iss).length + 1) (([newI (([] : List Iss).length + 1) a n [] [112]]).length + 1) [] [112] [] [113]
  have o7 := lock_TwiceI_ae o6 (by simp)
  refine DW.callS rfl (by first | exact True.intro | exact rfl) (by repeat first | exact SubL.nil | refine SubL.cons (SubV.refl _) ?_ | refine SubL.cons SubV.app ?_ | refine SubL.cons SubV.nil ?_) rfl (lock_TwiceI_ae (L := [newI (([] : List Iss).length + 1) a n [] [112]] ++ [newI (([newI (([] : List Iss).length + 1) a n [] [112]]).length + 1) b m [] [113]]) (S := []) (g := 0) (o := h.next + 5) (t := h.next + 6) (s := h.next + 4) ⟨by have := o6.cells; exact gH, (orAt_get o6.ora (by repeat first | with_reducible apply get_put_neE (by omega) | with_reducible apply get_set_neE (by omega) | with_reducible apply get_keepE | exact rfl) (by repeat first | with_reducible apply get_put_neE (by omega) | with_reducible apply get_set_neE (by omega) | with_reducible apply get_keepE | exact rfl) (by repeat first | with_reducible apply get_put_neE (by omega) | with_reducible apply get_set_neE (by omega) | with_reducible apply get_keepE | exact rfl))⟩ (by simp)) ?_
  rw [hdup]
  (refine go ?_)
  (refine DW.spB rfl (fun hz1 => ?_) (fun hz1 => ?_))
  all_goals
    (refine go ?_)
    (refine DW.spB rfl (fun hz2 => ?_) (fun hz2 => ?_))
    · (refine go ?_)
      refine DW.callS rfl (by first | exact True.intro | exact rfl) (by repeat first | exact SubL.nil | refine SubL.cons (SubV.refl _) ?_ | refine SubL.cons SubV.app ?_ | refine SubL.cons SubV.nil ?_) rfl (lock_TwiceR_ae gH) ?_
      (refine go ?_)
      refine DW.callS rfl (by first | exact True.intro | exact rfl) (by repeat first | exact SubL.nil | refine SubL.cons (SubV.refl _) ?_ | refine SubL.cons SubV.app ?_ | refine SubL.cons SubV.nil ?_) rfl (lock_IssuedR_ae gH) ?_
      (refine go ?_)
      refine DW.callS rfl (by first | exact True.intro | exact rfl) (by repeat first | exact SubL.nil | refine SubL.cons (SubV.refl _) ?_ | refine SubL.cons SubV.app ?_ | refine SubL.cons SubV.nil ?_) rfl (lock_IssuedI_ae (L := [newI (([] : List Iss).length + 1) a n [] [112]] ++ [newI (([newI (([] : List Iss).length + 1) a n [] [112]]).length + 1) b m [] [113]]) (S := []) (g := 0) (o := h.next + 5) (t := h.next + 6) (s := h.next + 4) ⟨by have := o6.cells; exact gH, (orAt_get o6.ora (by repeat first | with_reducible apply get_put_neE (by omega) | with_reducible apply get_set_neE (by omega) | with_reducible apply get_keepE | exact rfl) (by repeat first | with_reducible apply get_put_neE (by omega) | with_reducible apply get_set_neE (by omega) | with_reducible apply get_keepE | exact rfl) (by repeat first | with_reducible apply get_put_neE (by omega) | with_reducible apply get_set_neE (by omega) | with_reducible apply get_keepE | exact rfl))⟩ (by simp) (by simp [newI, sealB, rep_len])) ?_
      (refine go ?_)
      refine DW.callS rfl (by first | exact True.intro | exact rfl) (by repeat first | exact SubL.nil | refine SubL.cons (SubV.refl _) ?_ | refine SubL.cons SubV.app ?_ | refine SubL.cons SubV.nil ?_) rfl (law8_known_ae _) ?_
      (refine go ?_)
      refine WW.ret (PureQ.finD ?_)
      exact fz_b rfl
    · exfalso
      first
        | (have e1 : (a == b) = true := by rw [← pr_beq]; exact hz1
           exact hz2 (by rw [e1, Bool.true_and]; exact (nn_beq n m).symm))
        | (have e1 : (a == b) = false := by rw [← pr_beq]; exact hz1
           exact hz2 (by rw [e1]; rfl))
theorem top_LockTwice (c0 : List AV) (t0 : TypL [.i .u64, .i .u64] c0) (c1 : List AV) (t1 : TypL [.i .u64, .i .u64] c1) (c2 : List AV) (t2 : TypL [.i .u32, .i .u32, .i .u64] c2) (c3 : List AV) (t3 : TypL [.i .u32, .i .u32, .i .u64] c3) :
    AE Try.prog 9 [.agg c0, .agg c1, .agg c2, .agg c3] noHeap (.bool true) noHeap := by
  obtain ⟨a, rfl⟩ := pair_of t0
  obtain ⟨b, rfl⟩ := pair_of t1
  obtain ⟨n, rfl⟩ := nonce_of t2
  obtain ⟨m, rfl⟩ := nonce_of t3
  exact law8_LockTwice_ae a b n m noHeap
end Go.Proofs.Ytlddahcgaonlhaa
