/- LockBack. -/
import Derived.Test.YtlddahcgaonlhaaX12
import Derived.Test.YtlddahcgaonlhaaV1
set_option linter.all false
namespace Go.Proofs.Ytlddahcgaonlhaa
open Go Go.Abs

theorem law8_ofR_ae {h : AHeap} {nx : Nat} (hn : h.next = nx) : AE Try.prog 34 [.bool false] h (.ptr nx 0 0) (h.put nx (.mem 5 [reC])) := by
  subst hn
  refine AC.introW is_law8_of (by simp) ?_
  unfold c_law8_of
  (refine go ?_)
  refine WL.call rfl (by first | exact True.intro | exact rfl) (by repeat first | exact SubL.nil | refine SubL.cons (SubV.refl _) ?_ | refine SubL.cons SubV.app ?_ | refine SubL.cons SubV.nil ?_) (lock_Real_ae rfl) ?_
  (refine go ?_)
  exact WW.ret ⟨.inl rfl, _, (by repeat first | exact resA_nil | (apply resA_t; exact rfl) | (apply resA_c; exact rfl; exact gH; exact (by first | exact getC_at rfl rfl | exact getC_all rfl | exact getC_sub (Nat.le_of_ble_eq_true rfl) (by first | (simp only [putC, AV.cs, encP, encN, encI, encS, encA, List.take_succ_cons, List.take_zero, List.take_nil, List.drop_succ_cons, List.drop_zero, List.drop_nil, List.cons_append, List.nil_append, List.append_nil, List.length_cons, List.length_nil, Nat.zero_add, Nat.add_zero, Nat.reduceAdd]; exact rfl) | exact rfl) | exact getC_sub (by simp) (by first | (simp only [putC, AV.cs, encP, encN, encI, encS, encA, List.take_succ_cons, List.take_zero, List.take_nil, List.drop_succ_cons, List.drop_zero, List.drop_nil, List.cons_append, List.nil_append, List.append_nil, List.length_cons, List.length_nil, Nat.zero_add, Nat.add_zero, Nat.reduceAdd]; exact rfl) | exact rfl)))), rfl, rfl⟩
theorem law8_ofI_ae {h : AHeap} {nx : Nat} (hn : h.next = nx) : AE Try.prog 34 [.bool true] h (.ptr (nx + 3) 0 0) ((newO h).put (nx + 3) (.mem 5 [idC (nx + 1)])) := by
  subst hn
  refine AC.introW is_law8_of (by simp) ?_
  unfold c_law8_of
  (refine go ?_)
  refine WL.call rfl (by first | exact True.intro | exact rfl) (by repeat first | exact SubL.nil | refine SubL.cons (SubV.refl _) ?_ | refine SubL.cons SubV.app ?_ | refine SubL.cons SubV.nil ?_) (lock_Ideal_ae rfl) ?_
  generalize newO h = h1 at *
  (refine go ?_)
  exact WW.ret ⟨.inl rfl, _, (by repeat first | exact resA_nil | (apply resA_t; exact rfl) | (apply resA_c; exact rfl; exact gH; exact (by first | exact getC_at rfl rfl | exact getC_all rfl | exact getC_sub (Nat.le_of_ble_eq_true rfl) (by first | (simp only [putC, AV.cs, encP, encN, encI, encS, encA, List.take_succ_cons, List.take_zero, List.take_nil, List.drop_succ_cons, List.drop_zero, List.drop_nil, List.cons_append, List.nil_append, List.append_nil, List.length_cons, List.length_nil, Nat.zero_add, Nat.add_zero, Nat.reduceAdd]; exact rfl) | exact rfl) | exact getC_sub (by simp) (by first | (simp only [putC, AV.cs, encP, encN, encI, encS, encA, List.take_succ_cons, List.take_zero, List.take_nil, List.drop_succ_cons, List.drop_zero, List.drop_nil, List.cons_append, List.nil_append, List.append_nil, List.length_cons, List.length_nil, Nat.zero_add, Nat.add_zero, Nat.reduceAdd]; exact rfl) | exact rfl)))), rfl, rfl⟩
theorem xorB_xorB : ∀ (a f : Bs), f.length = a.length → xorB (xorB a f) f = a
  | [], [], _ => rfl
  | x :: a, y :: f, h => by
    have ih := xorB_xorB a f (by simpa using h)
    simp only [xorB, List.zipWith_cons_cons] at ih ⊢
    rw [ih, UInt8.xor_assoc, UInt8.xor_self, UInt8.xor_zero]
  | [], _ :: _, h => by simp at h
  | _ :: _, [], h => by simp at h
theorem gcmB_back (k : Pr) (n : Nn) (d : Bs) : gcmB k n (gcmB k n d) = d := by
  rw [gcmB, gcmB_len, gcmB, xorB_xorB _ _ (flowF_len _ _)]
theorem gcmO_back (k : Pr) (n : Nn) (head d : Bs) (h1 : head.length ≤ 4000) (h2 : d.length ≤ 4000) : gcmO k n head (gcmB k n d) (gcmT k n head (gcmB k n d)) = some d := by
  rw [gcmO_T h1 (by rw [gcmB_len]; exact h2) rfl, gcmB_back]
attribute [local irreducible] digestF gcmB gcmT gcmO
theorem law8_LockBackR_ae (k : Pr) (n : Nn) (a b : Bs) (h : AHeap) : AE Try.prog 8 [.bool false, .agg (encP k), .agg (encN n), .imm 1 (a.map encB), .imm 1 (b.map encB)] h (.bool true) h := by
  refine AE.pureW is_law8_LockBack (by simp) ?_
  unfold c_law8_LockBack
  (refine go ?_)
  (apply WL.orB; exact rfl; exact rfl; exact rfl; exact BP.of; intro hz1)
  · (repeat first | (apply GW.goS; exact Stp.auto) | apply GW.nil | exact rfl)
  (refine go ?_)
  (refine WW.ifB rfl (fun hz2 => ?_) (fun hz2 => ?_))
  · (refine go ?_)
    refine WW.ret (PureQ.finD ?_)
    exact fz_b rfl
  have hb : a.length ≤ 100 ∧ b.length ≤ 100 := by simp at hz2; omega
  obtain ⟨b1, b2⟩ := hb
  (refine go ?_)
  refine WL.call rfl (by first | exact True.intro | exact rfl) (by repeat first | exact SubL.nil | refine SubL.cons (SubV.refl _) ?_ | refine SubL.cons SubV.app ?_ | refine SubL.cons SubV.nil ?_) (law8_ofR_ae (nx := h.next + 2) gN) ?_
  (refine go ?_)
  refine WL.call rfl (by first | exact True.intro | exact rfl) (by repeat first | exact SubL.nil | refine SubL.cons (SubV.refl _) ?_ | refine SubL.cons SubV.app ?_ | refine SubL.cons SubV.nil ?_) (lock_SealR_ae gH k n a b (by omega) (by omega)) ?_
  (refine go ?_)
  refine WL.call rfl (by first | exact True.intro | exact rfl) (by repeat first | exact SubL.nil | refine SubL.cons (SubV.refl _) ?_ | refine SubL.cons SubV.app ?_ | refine SubL.cons SubV.nil ?_) (lock_OpenR_ae gH k n a (gcmB k n b) (gcmT k n a (gcmB k n b)) (by omega) (by rw [gcmB_len]; omega)) ?_
  rw [gcmO_back k n a b (by omega) (by omega)]
  (repeat first | refine WL.go ?_ | refine WW.seq ?_ | refine WW.reg ?_ | refine WL.nil ?_ | refine WW.skip ?_ | refine WW.block ?_ | refine WW.exit ?_ | refine WW.condT rfl ?_ | refine WW.condF rfl ?_ | refine WL.gox ?_ | refine thenN ?_ | refine blkN ?_)
  refine WW.dregX [5, 7] [1, 2, 8] [] gN (by decide +kernel) ?_
  (refine go ?_)
  rw [show a.map encB ++ [[AV.int IntKind.u8 1]] = (a ++ [1]).map encB by simp [encB]]
  refine DW.callS rfl (by first | exact True.intro | exact rfl) (by repeat first | exact SubL.nil | refine SubL.cons (SubV.refl _) ?_ | refine SubL.cons SubV.app ?_ | refine SubL.cons SubV.nil ?_) rfl (lock_OpenR_ae gH k n (a ++ [1]) (gcmB k n b) (gcmT k n a (gcmB k n b)) (by simp; omega) (by rw [gcmB_len]; omega)) ?_
  generalize gcmO k n (a ++ [1]) (gcmB k n b) (gcmT k n a (gcmB k n b)) = odd
  (refine go ?_)
  (refine WL.spB rfl (fun hz3 => ?_) (fun hz3 => ?_))
  rotate_left
  · exfalso; simp at hz3
  (refine go ?_)
  refine WL.call rfl (by first | exact True.intro | exact rfl) (by repeat first | exact SubL.nil | refine SubL.cons (SubV.refl _) ?_ | refine SubL.cons SubV.app ?_ | refine SubL.cons SubV.nil ?_) (lock_TwiceR_ae gH) ?_
  (refine go ?_)
  refine WL.call rfl (by first | exact True.intro | exact rfl) (by repeat first | exact SubL.nil | refine SubL.cons (SubV.refl _) ?_ | refine SubL.cons SubV.app ?_ | refine SubL.cons SubV.nil ?_) (law8_known_ae _) ?_
  (refine go ?_)
  refine WW.ret (PureQ.finD ?_)
  exact fz_b rfl
theorem openO_back (k : Pr) (n : Nn) (a b : Bs) : openO [newI 1 k n a b] k n a (newI 1 k n a b).out (newI 1 k n a b).tag = some b := by
  simp [openO, isI, newI]
theorem openO_odd (k : Pr) (n : Nn) (a b : Bs) : openO [newI 1 k n a b] k n (a ++ [1]) (newI 1 k n a b).out (newI 1 k n a b).tag = none := by
  simp [openO, isI, newI]
theorem law8_LockBackI_ae (k : Pr) (n : Nn) (a b : Bs) (h : AHeap) : AE Try.prog 8 [.bool true, .agg (encP k), .agg (encN n), .imm 1 (a.map encB), .imm 1 (b.map encB)] h (.bool true) h := by
  refine AE.pureW is_law8_LockBack (by simp) ?_
  unfold c_law8_LockBack
  (refine go ?_)
  (apply WL.orB; exact rfl; exact rfl; exact rfl; exact BP.of; intro hz1)
  · (repeat first | (apply GW.goS; exact Stp.auto) | apply GW.nil | exact rfl)
  (refine go ?_)
  (refine WW.ifB rfl (fun hz2 => ?_) (fun hz2 => ?_))
  · (refine go ?_)
    refine WW.ret (PureQ.finD ?_)
    exact fz_b rfl
  have hb : a.length ≤ 100 ∧ b.length ≤ 100 := by simp at hz2; omega
  obtain ⟨b1, b2⟩ := hb
  (refine go ?_)
  refine WL.named (fun h1 => h1.next = h.next + 2 ∧ h1.get h.next = some (.mem 2 [encP k]) ∧ h1.get (h.next + 1) = some (.mem 3 [encN n]) ∧ Keeps h h1) ⟨gN, gH, gH, (by repeat first | with_reducible exact Keeps.refl _ | with_reducible refine Keeps.put ?_ (by omega) _ | with_reducible refine Keeps.set ?_ (by omega) _ | assumption)⟩ ?_
  rintro h1 ⟨n1, a1, a2, k1⟩
  refine WL.call rfl (by first | exact True.intro | exact rfl) (by repeat first | exact SubL.nil | refine SubL.cons (SubV.refl _) ?_ | refine SubL.cons SubV.app ?_ | refine SubL.cons SubV.nil ?_) (law8_ofI_ae n1) ?_
  obtain ⟨h2, e2, o2, n2, m2, k2⟩ := newL_ex (h := h1) n1
  replace k2 := k2 h k1
  rw [e2]
  replace a1 := (m2 _ (by omega)).trans a1
  replace a2 := (m2 _ (by omega)).trans a2
  clear e2 m2 k1
  (refine go ?_)
  refine WL.call rfl (by first | exact True.intro | exact rfl) (by repeat first | exact SubL.nil | refine SubL.cons (SubV.refl _) ?_ | refine SubL.cons SubV.app ?_ | refine SubL.cons SubV.nil ?_) (lock_SealI_ae o2 (by simp) k n a b (by omega) (by omega)) ?_
  obtain ⟨h4, e4, o4, n4, m4, k4⟩ := sealedL o2 k n a b
  replace n4 := n4 _ n2
  replace k4 := k4 h k2 (by omega) (by omega)
  replace a1 := (m4 _ (by omega) (by omega)).trans a1
  replace a2 := (m4 _ (by omega) (by omega)).trans a2
  rw [e4]
  clear e4 m4 o2 k2
  have hob := openO_back k n a b
  have hoo := openO_odd k n a b
  have hdd : ∀ x ∈ [newI 1 k n a b], x.data.length ≤ 1000000 := by simp [newI]; omega
  change IdAt h4 _ _ _ _ _ [newI 1 k n a b] [] at o4
  rw [show ([] : List Iss).length + 1 = 1 from rfl]
  have hdup : dupB ([newI 1 k n a b].map kn) = false := by simp [dupB]
  generalize newI 1 k n a b = x at *
  (refine go ?_)
  refine WL.call rfl (by first | exact True.intro | exact rfl) (by repeat first | exact SubL.nil | refine SubL.cons (SubV.refl _) ?_ | refine SubL.cons SubV.app ?_ | refine SubL.cons SubV.nil ?_) (lock_OpenI_ae (L := [x]) (S := []) (g := 0) (o := h.next + 2 + 1) (t := h.next + 2 + 2) (s := h.next + 2) ⟨by have := o4.cells; exact gH, (orAt_get o4.ora (by repeat first | with_reducible apply get_put_neE (by omega) | with_reducible apply get_set_neE (by omega) | with_reducible apply get_keepE | exact rfl) (by repeat first | with_reducible apply get_put_neE (by omega) | with_reducible apply get_set_neE (by omega) | with_reducible apply get_keepE | exact rfl) (by repeat first | with_reducible apply get_put_neE (by omega) | with_reducible apply get_set_neE (by omega) | with_reducible apply get_keepE | exact rfl))⟩ (by simp) hdd k n a x.out x.tag) ?_
  rw [hob]
  (repeat first | refine WL.go ?_ | refine WW.seq ?_ | refine WW.reg ?_ | refine WL.nil ?_ | refine WW.skip ?_ | refine WW.block ?_ | refine WW.exit ?_ | refine WW.condT rfl ?_ | refine WW.condF rfl ?_ | refine WL.gox ?_ | refine thenN ?_ | refine blkN ?_)
  refine WW.dregX [5, 7] [1, 2, 8] [] gN (by decide +kernel) ?_
  (refine go ?_)
  rw [show a.map encB ++ [[AV.int IntKind.u8 1]] = (a ++ [1]).map encB by simp [encB]]
  refine DW.callS rfl (by first | exact True.intro | exact rfl) (by repeat first | exact SubL.nil | refine SubL.cons (SubV.refl _) ?_ | refine SubL.cons SubV.app ?_ | refine SubL.cons SubV.nil ?_) rfl (lock_OpenI_ae (L := [x]) (S := []) (g := 0) (o := h.next + 2 + 1) (t := h.next + 2 + 2) (s := h.next + 2) ⟨by have := o4.cells; exact gH, (orAt_get o4.ora (by repeat first | with_reducible apply get_put_neE (by omega) | with_reducible apply get_set_neE (by omega) | with_reducible apply get_keepE | exact rfl) (by repeat first | with_reducible apply get_put_neE (by omega) | with_reducible apply get_set_neE (by omega) | with_reducible apply get_keepE | exact rfl) (by repeat first | with_reducible apply get_put_neE (by omega) | with_reducible apply get_set_neE (by omega) | with_reducible apply get_keepE | exact rfl))⟩ (by simp) hdd k n (a ++ [1]) x.out x.tag) ?_
  rw [hoo]
  (refine go ?_)
  (refine WL.spB rfl (fun hz3 => ?_) (fun hz3 => ?_))
  rotate_left
  · exfalso; simp at hz3
  (refine go ?_)
  refine WL.call rfl (by first | exact True.intro | exact rfl) (by repeat first | exact SubL.nil | refine SubL.cons (SubV.refl _) ?_ | refine SubL.cons SubV.app ?_ | refine SubL.cons SubV.nil ?_) (lock_TwiceI_ae (L := [x]) (S := []) (g := 0) (o := h.next + 2 + 1) (t := h.next + 2 + 2) (s := h.next + 2) ⟨by have := o4.cells; exact gH, (orAt_get o4.ora (by repeat first | with_reducible apply get_put_neE (by omega) | with_reducible apply get_set_neE (by omega) | with_reducible apply get_keepE | exact rfl) (by repeat first | with_reducible apply get_put_neE (by omega) | with_reducible apply get_set_neE (by omega) | with_reducible apply get_keepE | exact rfl) (by repeat first | with_reducible apply get_put_neE (by omega) | with_reducible apply get_set_neE (by omega) | with_reducible apply get_keepE | exact rfl))⟩ (by simp)) ?_
  rw [hdup]
  (refine go ?_)
  refine WL.call rfl (by first | exact True.intro | exact rfl) (by repeat first | exact SubL.nil | refine SubL.cons (SubV.refl _) ?_ | refine SubL.cons SubV.app ?_ | refine SubL.cons SubV.nil ?_) (law8_known_ae _) ?_
  (refine go ?_)
  refine WW.ret (PureQ.finD ?_)
  exact fz_b rfl
theorem bool_of8 {c : List AV} (t : TypL [.b] c) : ∃ v : Bool, c = [.bool v] := by
  obtain ⟨v, vs, rfl, h1, h2⟩ := t.cons_inv
  obtain rfl := h2.nil_inv
  obtain ⟨x, rfl⟩ := h1.bool_inv
  exact ⟨x, rfl⟩
theorem top_LockBack (c0 : List AV) (t0 : TypL [.b] c0) (c1 : List AV) (t1 : TypL [.i .u64, .i .u64] c1) (c2 : List AV) (t2 : TypL [.i .u32, .i .u32, .i .u64] c2) (c3 : List AV) (t3 : TypL [.sl [.i .u8]] c3) (c4 : List AV) (t4 : TypL [.sl [.i .u8]] c4) :
    AE Try.prog 8 [c0.headD .nilp, .agg c1, .agg c2, c3.headD .nilp, c4.headD .nilp] noHeap (.bool true) noHeap := by
  obtain ⟨v, rfl⟩ := bool_of8 t0
  obtain ⟨k, rfl⟩ := pair_of t1
  obtain ⟨n, rfl⟩ := nonce_of t2
  obtain ⟨a, rfl⟩ := bytes_of t3
  obtain ⟨b, rfl⟩ := bytes_of t4
  cases v with
  | true => exact law8_LockBackI_ae k n a b noHeap
  | false => exact law8_LockBackR_ae k n a b noHeap
end Go.Proofs.Ytlddahcgaonlhaa
