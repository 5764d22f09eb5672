/- TreeOdd. -/
import Derived.Test.YtlddahcgaonlhaaT4
set_option linter.all false
namespace Go.Proofs.Ytlddahcgaonlhaa
open Go Go.Abs

def nilsF (n : Nat) : List Bs := List.replicate n []
theorem isG_nat (n : Nat) : isG (n : Int) = (decide (n = 4) || decide (n = 8) || decide (n = 16)) := by
  rw [Bool.eq_iff_iff]; simp [isG]; omega
theorem nilRowsB {n : Nat} : SubV (.imm 1 (List.replicate n [.nils])) (.imm 1 ((List.replicate n ([] : Bs)).map encR)) := by
  rw [List.map_replicate]; exact SubV.nilRows
theorem zeroRowsB {n : Nat} : SubV (.imm 2 (List.replicate n [.int .u64 0, .int .u64 0])) (.imm 2 ((List.replicate n ((0, 0) : Pr)).map encP)) := by
  rw [← rep_map]; exact SubV.refl _
set_option maxHeartbeats 8000000 in
theorem law18_TreeOdd_ae (n i : Int) (hi : -9223372036854775808 ≤ i ∧ i ≤ 9223372036854775807) (h : AHeap) : AE Try.prog 4 [.int .i64 n, .int .i64 i] h (.bool true) h := by
  refine AE.pureW is_law18_TreeOdd (by simp) ?_
  unfold c_law18_TreeOdd
  (refine go ?_)
  (apply WL.orB; exact rfl; exact rfl; exact rfl; exact BP.of; intro hz1)
  · (repeat first | (apply GW.goS; exact Stp.auto) | apply GW.nil | exact rfl)
  (refine go ?_)
  (refine WW.ifB rfl (fun hz2 => ?_) (fun hz2 => ?_))
  · (refine go ?_)
    refine WW.ret (PureQ.finD ?_)
    exact fz_b rfl
  have hn : 0 ≤ n ∧ n ≤ 40 := by simp at hz2; omega
  obtain ⟨n, rfl⟩ := Int.eq_ofNat_of_zero_le hn.1
  have hn2 : n ≤ 40 := by omega
  obtain ⟨h1, e1, o1, n1, m1, k1⟩ := newL_ex (h := h) (nx := h.next) rfl
  (repeat first | refine WL.go ?_ | refine WW.seq ?_ | refine WW.reg ?_ | refine WL.nil ?_ | refine WW.skip ?_ | refine WW.block ?_ | refine WW.exit ?_ | refine WW.condT rfl ?_ | refine WW.condF rfl ?_ | refine WL.gox ?_ | refine thenN ?_ | refine blkN ?_)
  refine WW.mid (fun e3 h3 => subE [(0, some (.int .i64 n)), (1, some (.int .i64 i)), (6, some (.bool (isG n)))] e3 ∧ (∃ l : List Pr, lk 5 e3 = some (.imm 2 (l.map encP)) ∧ (isG n = false → l = [])) ∧ h3.next = h.next + 4 ∧ Keeps h h3) ?_ ?_
  · refine WW.dregX [0, 3] [2] [] gN (by decide +kernel) ?_
    refine DW.callSW rfl (by first | exact True.intro | exact rfl) (by repeat first | exact SubL.nil | refine SubL.cons (SubV.refl _) ?_ | refine SubL.cons SubV.app ?_ | refine SubL.cons SubV.nil ?_) rfl rfl (fun hp => PhiW.put (by omega) (phi_newO (Nat.le_refl _) hp)) (lock_Ideal_ae rfl) ?_
    rw [e1]
    (repeat first | refine DW.go ?_ | refine DW.goWP ?_ | refine DW.goF ?_ | refine DW.endL ?_ | refine thenN ?_ | refine blkN ?_)
    refine DW.fxF0 (fun id hi _ => m1 id hi) (fun h2 => FX.mkslI (n := n) rfl rfl rfl rfl (by omega) (by first | exact True.intro | exact rfl)) rfl ?_
    cases hG : isG n with
    | true =>
      have hn16 : n ≤ 16 := by simp [isG] at hG; omega
      refine DW.callSW rfl (by first | exact True.intro | exact rfl) (SubL.cons (SubV.refl _) (SubL.cons nilRowsB SubL.nil)) rfl rfl (fun hp => PhiW.setN (by omega) hp) (tree_Build_ae o1 (by simp) (List.replicate n []) (by simpa using hG) (by simp)) ?_
      (repeat first | refine DW.go ?_ | refine DW.goWP ?_ | refine DW.goF ?_ | refine DW.endL ?_ | refine thenN ?_ | refine blkN ?_)
      exact ⟨rfl, (by repeat first | exact subE.nil _ | (apply subE.cons; focus (first | exact rfl | (simp [lk_cons]; done) | (simp [lk_cons]; omega)))), ⟨_, rfl, by simp⟩, gN, (k1 h (Keeps.refl _)).set (Nat.le_refl _) _⟩
    | false =>
      refine DW.callS rfl (by first | exact True.intro | exact rfl) (SubL.cons (SubV.refl _) (SubL.cons nilRowsB SubL.nil)) rfl (tree_Build_no (List.replicate n []) (by simp; omega) (by simpa using hG) _) ?_
      (repeat first | refine DW.go ?_ | refine DW.goWP ?_ | refine DW.goF ?_ | refine DW.endL ?_ | refine thenN ?_ | refine blkN ?_)
      exact ⟨rfl, (by repeat first | exact subE.nil _ | (apply subE.cons; focus (first | exact rfl | (simp [lk_cons]; done) | (simp [lk_cons]; omega)))), ⟨[], rfl, by simp⟩, gN, k1 h (Keeps.refl _)⟩
  clear e1 o1 n1 m1 k1
  rintro e3 h3 ⟨hs3, ⟨l, hl5, hl0⟩, n3, k3⟩
  refine WW.cvt (Cvt.sub (subE.cons hl5 hs3)) ?_
  clear hs3 hl5
  (refine go ?_)
  refine WL.cvt (frz_eq (s := 27) (c' := (List.replicate n ((0, 0) : Pr)).map encP) rfl gH (by simp) rep_map) ?_
  refine WL.call rfl (by first | exact True.intro | exact rfl) (by repeat first | exact SubL.nil | refine SubL.cons (SubV.refl _) ?_ | refine SubL.cons SubV.app ?_ | refine SubL.cons SubV.nil ?_) (tree_Top_ae (List.replicate n (0, 0)) (by simp; omega) _) ?_
  rw [List.length_replicate]
  (repeat first | refine WL.go ?_ | refine WW.seq ?_ | refine WW.reg ?_ | refine WL.nil ?_ | refine WW.skip ?_ | refine WW.block ?_ | refine WW.exit ?_ | refine WW.condT rfl ?_ | refine WW.condF rfl ?_ | refine WL.gox ?_ | refine thenN ?_ | refine blkN ?_)
  refine WW.named (fun h4 => h4.next = h.next + 6 ∧ Keeps h h4) ⟨gN, (by repeat first | with_reducible exact Keeps.refl _ | with_reducible refine Keeps.put ?_ (by omega) _ | with_reducible refine Keeps.set ?_ (by omega) _ | assumption)⟩ ?_
  clear n3 k3
  rintro h4 ⟨n4, k4⟩
  obtain ⟨h5, e5, o5, n5, m5, k5⟩ := newL_ex (h := h4) (nx := h.next + 6) n4
  refine WW.mid (fun e6 h6 => subE [(0, some (.int .i64 n)), (1, some (.int .i64 i)), (5, some (.imm 2 (l.map encP))), (6, some (.bool (isG n))), (8, some (.bool (isT n))), (10, some (.bool (isT n && decide (0 ≤ i) && decide (i < (n / 2 : Nat)))))] e6 ∧ Keeps h h6) ?_ ?_
  · refine WW.dregX [0, 4] [2] [] gN (by decide +kernel) ?_
    refine DW.callSW rfl (by first | exact True.intro | exact rfl) (by repeat first | exact SubL.nil | refine SubL.cons (SubV.refl _) ?_ | refine SubL.cons SubV.app ?_ | refine SubL.cons SubV.nil ?_) rfl rfl (fun hp => PhiW.put (by omega) (phi_newO (by omega) hp)) (lock_Ideal_ae n4) ?_
    rw [e5]
    (repeat first | refine DW.go ?_ | refine DW.goWP ?_ | refine DW.goF ?_ | refine DW.endL ?_ | refine thenN ?_ | refine blkN ?_)
    refine DW.fxF0 (fun id hi _ => m5 id (by omega)) (fun h2 => FX.mkslI (n := n) rfl rfl rfl rfl (by omega) (by first | exact True.intro | exact rfl)) rfl ?_
    (repeat first | refine DW.go ?_ | refine DW.goWP ?_ | refine DW.goF ?_ | refine DW.endL ?_ | refine thenN ?_ | refine blkN ?_)
    cases hin : (isT n && decide (0 ≤ i) && decide (i < (n / 2 : Nat))) with
    | true =>
      simp only [Bool.and_eq_true, decide_eq_true_eq] at hin
      obtain ⟨⟨hT, i1⟩, i2⟩ := hin
      obtain ⟨i, rfl⟩ := Int.eq_ofNat_of_zero_le i1
      refine DW.callSW rfl (by first | exact True.intro | exact rfl) (SubL.cons (SubV.refl _) (SubL.cons zeroRowsB (SubL.cons (SubV.refl _) (SubL.cons SubV.nil SubL.nil)))) rfl rfl (fun hp => PhiW.setN (by omega) hp) (tree_Turn_ae o5 (by simp) (List.replicate n (0, 0)) i [] (by simpa using hT) (by simp; omega) (by simp)) ?_
      (repeat first | refine DW.go ?_ | refine DW.goWP ?_ | refine DW.goF ?_ | refine DW.endL ?_ | refine thenN ?_ | refine blkN ?_)
      exact ⟨rfl, (by repeat first | exact subE.nil _ | (apply subE.cons; focus (first | exact rfl | (simp [lk_cons]; done) | (simp [lk_cons]; omega)))), (k5 h k4).set (by omega) _⟩
    | false =>
      refine DW.callS rfl (by first | exact True.intro | exact rfl) (SubL.cons (SubV.refl _) (SubL.cons zeroRowsB (SubL.cons (SubV.refl _) (SubL.cons (SubV.refl _) SubL.nil)))) rfl (tree_Turn_no (List.replicate n (0, 0)) (by simp; omega) i (by simpa using hin) _) ?_
      (repeat first | refine DW.go ?_ | refine DW.goWP ?_ | refine DW.goF ?_ | refine DW.endL ?_ | refine thenN ?_ | refine blkN ?_)
      exact ⟨rfl, (by repeat first | exact subE.nil _ | (apply subE.cons; focus (first | exact rfl | (simp [lk_cons]; done) | (simp [lk_cons]; omega)))), k5 h k4⟩
  clear e5 o5 n5 m5 k5 n4 k4
  rintro e6 h6 ⟨hs6, k6⟩
  refine WW.cvt (Cvt.sub hs6) ?_
  clear hs6
  (refine go ?_)
  (apply WL.andB; exact rfl; exact rfl; exact rfl; exact BP.of; intro hz3)
  · (repeat first | (apply GW.goS; exact Stp.auto) | apply GW.nil | exact rfl)
    refine GW.call rfl (by first | exact True.intro | exact rfl) (by repeat first | exact SubL.nil | refine SubL.cons (SubV.refl _) ?_ | refine SubL.cons SubV.app ?_ | refine SubL.cons SubV.nil ?_) (ref17_Is_ae _ _) ?_
    (repeat first | (apply GW.goS; exact Stp.auto) | apply GW.nil | exact rfl)
  (refine go ?_)
  refine WL.call rfl (by first | exact True.intro | exact rfl) (by repeat first | exact SubL.nil | refine SubL.cons (SubV.refl _) ?_ | refine SubL.cons SubV.app ?_ | refine SubL.cons SubV.nil ?_) (ref17_Is_ae _ _) ?_
  have e0 : (isG n == isG n) = true := by simp
  have e11 : (((n : Int) % 2 == 0) && isG ((n / 2 : Nat) : Int)) = isT n := by
    unfold isT
    congr 1
    rw [Bool.eq_iff_iff]
    simp only [beq_iff_eq]
    omega
  iterate 2 (refine WL.go ?_)
  rw [e0, e11]
  cases hG : isG n with
  | true =>
    cases hT : isT n with
    | true =>
      simp only [Bool.true_and]
      (refine go ?_)
      (refine WL.spB rfl (fun hz4 => ?_) (fun hz4 => ?_))
      · (refine go ?_)
        rw [show ((decide (0 ≤ i) && decide (i < ↑(n / 2))) == decide (i < ↑(n / 2))) = true by simp [hz4]]
        refine WL.call rfl (by first | exact True.intro | exact rfl) (by repeat first | exact SubL.nil | refine SubL.cons (SubV.refl _) ?_ | refine SubL.cons SubV.app ?_ | refine SubL.cons SubV.nil ?_) (law18_known_ae _) ?_
        (refine go ?_)
        refine WW.ret (PureQ.finD ?_)
        exact fz_b rfl
      · (refine go ?_)
        rw [show ((decide (0 ≤ i) && decide (i < ↑(n / 2))) == false) = true by simp; omega]
        refine WL.call rfl (by first | exact True.intro | exact rfl) (by repeat first | exact SubL.nil | refine SubL.cons (SubV.refl _) ?_ | refine SubL.cons SubV.app ?_ | refine SubL.cons SubV.nil ?_) (law18_known_ae _) ?_
        (refine go ?_)
        refine WW.ret (PureQ.finD ?_)
        exact fz_b rfl
    | false =>
      simp only [Bool.false_and]
      (refine go ?_)
      refine WL.call rfl (by first | exact True.intro | exact rfl) (by repeat first | exact SubL.nil | refine SubL.cons (SubV.refl _) ?_ | refine SubL.cons SubV.app ?_ | refine SubL.cons SubV.nil ?_) (law18_known_ae _) ?_
      (refine go ?_)
      refine WW.ret (PureQ.finD ?_)
      exact fz_b rfl
  | false =>
    obtain rfl := hl0 hG
    cases hT : isT n with
    | true =>
      simp only [Bool.true_and]
      (refine go ?_)
      (refine WL.spB rfl (fun hz4 => ?_) (fun hz4 => ?_))
      · (refine go ?_)
        rw [show ((decide (0 ≤ i) && decide (i < ↑(n / 2))) == decide (i < ↑(n / 2))) = true by simp [hz4]]
        refine WL.call rfl (by first | exact True.intro | exact rfl) (by repeat first | exact SubL.nil | refine SubL.cons (SubV.refl _) ?_ | refine SubL.cons SubV.app ?_ | refine SubL.cons SubV.nil ?_) (law18_known_ae _) ?_
        (refine go ?_)
        refine WW.ret (PureQ.finD ?_)
        exact fz_b rfl
      · (refine go ?_)
        rw [show ((decide (0 ≤ i) && decide (i < ↑(n / 2))) == false) = true by simp; omega]
        refine WL.call rfl (by first | exact True.intro | exact rfl) (by repeat first | exact SubL.nil | refine SubL.cons (SubV.refl _) ?_ | refine SubL.cons SubV.app ?_ | refine SubL.cons SubV.nil ?_) (law18_known_ae _) ?_
        (refine go ?_)
        refine WW.ret (PureQ.finD ?_)
        exact fz_b rfl
    | false =>
      simp only [Bool.false_and]
      (refine go ?_)
      refine WL.call rfl (by first | exact True.intro | exact rfl) (by repeat first | exact SubL.nil | refine SubL.cons (SubV.refl _) ?_ | refine SubL.cons SubV.app ?_ | refine SubL.cons SubV.nil ?_) (law18_known_ae _) ?_
      (refine go ?_)
      refine WW.ret (PureQ.finD ?_)
      exact fz_b rfl
theorem wfi {n : Int} (hw : (Lit.int .i64 n).wf = true) : -9223372036854775808 ≤ n ∧ n ≤ 9223372036854775807 := by
  simp only [Lit.wf, Bool.and_eq_true, decide_eq_true_eq] at hw
  have m1 : IntKind.i64.min = -9223372036854775808 := by decide
  have m2 : IntKind.i64.max = 9223372036854775807 := by decide
  rw [m1, m2] at hw
  exact hw
theorem top_TreeOdd (c0 : List AV) (t0 : TypL [.i .i64] c0) (c1 : List AV) (t1 : TypL [.i .i64] c1) :
    AE Try.prog 4 [c0.headD .nilp, c1.headD .nilp] noHeap (.bool true) noHeap := by
  obtain ⟨n, rfl, _⟩ := int_of t0
  obtain ⟨i, rfl, hi⟩ := int_of t1
  exact law18_TreeOdd_ae n i (wfi hi) noHeap
end Go.Proofs.Ytlddahcgaonlhaa
