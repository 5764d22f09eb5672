/- TreeAgain. -/
import Derived.Test.YtlddahcgaonlhaaG9
set_option linter.all false
namespace Go.Proofs.Ytlddahcgaonlhaa
open Go Go.Abs

theorem lfF_zero (md : Bool) : ∀ (r : List Bs) (k : Nat) (N : List Pr) (S : List Bs), 0 < k → nd (lfF md r k N S).1 0 = nd N 0
  | [], _, _, _, _ => rfl
  | b :: r, k, N, S, hk => by
    rw [lfF, lfF_zero md r (k + 1) _ _ (by omega), nd_set, if_neg (by omega)]
theorem upF_zero (md : Bool) : ∀ (i : Nat) (N : List Pr) (S : List Bs), nd (upF md i N S).1 0 = nd N 0
  | 0, _, _ => rfl
  | i + 1, N, S => by rw [upF, upF_zero md i, nd_set, if_neg (by omega)]
theorem buildF_zero (md : Bool) (lv : List Bs) (S : List Bs) (hl : 1 ≤ lv.length) : nd (buildF md lv S).1 0 = (0, 0) := by
  rw [buildF, upF_zero, lfF_zero _ _ _ _ _ (by omega)]
  simp only [nd, List.getD_eq_getElem?_getD, List.getElem?_replicate]
  split <;> rfl
/-- A tree but for the nodes on the way up from node k. -/
structure TreeX (md : Bool) (S : List Bs) (lv : List Bs) (N : List Pr) (k : Nat) : Prop where
  len : N.length = 2 * lv.length
  leaf : ∀ i (hi : i < lv.length), IsG md S (leafK lv[i]) (nd N (lv.length + i))
  node : ∀ j, 1 ≤ j → j < lv.length → (∀ m, k / 2 ^ m ≠ j) → IsG md S (nodeK (nd N (2 * j)) (nd N (2 * j + 1))) (nd N j)
theorem tuF_tree (md : Bool) (lv : List Bs) : ∀ (k : Nat) (N : List Pr) (S : List Bs), k < lv.length → TreeX md S lv N k → Tree md (tuF md k N S).2 lv (tuF md k N S).1 ∧ nd (tuF md k N S).1 0 = nd N 0 := fun k => by
  induction k using Nat.strongRecOn with
  | ind k ih =>
    intro N S hk hT
    by_cases h0 : k = 0
    · subst h0
      rw [tuF_zero]
      exact ⟨⟨hT.len, hT.leaf, fun j h1 h2 => hT.node j h1 h2 (fun m => by simp; omega)⟩, rfl⟩
    · rw [tuF_more md (by omega)]
      have hpre := gS_pre md S (kidK N k)
      have hl := hT.len
      have hX : TreeX md (gS md S (kidK N k)) lv (N.set k (gP md S (kidK N k))) (k / 2) := by
        refine ⟨by simpa using hT.len, fun i hi => ?_, fun j h1 h2 hm => ?_⟩
        · rw [nd_set, if_neg (by omega)]
          exact (hT.leaf i hi).pre hpre
        · by_cases hj : j = k
          · subst hj
            rw [nd_set (j := j), if_pos ⟨rfl, by omega⟩, nd_set, if_neg (by omega), nd_set, if_neg (by omega)]
            exact isG_sum md S (kidK N j)
          · have n1 : 2 * j ≠ k := fun e => hm 0 (by simp; omega)
            have n2 : 2 * j + 1 ≠ k := fun e => hm 0 (by simp; omega)
            rw [nd_set (j := j), if_neg (by omega), nd_set, if_neg (by omega), nd_set, if_neg (by omega)]
            refine (hT.node j h1 h2 fun m e => ?_).pre hpre
            cases m with
            | zero => simp at e; omega
            | succ m => exact hm m (by rw [Nat.div_div_eq_div_mul]; rw [Nat.pow_succ, Nat.mul_comm] at e; exact e)
      obtain ⟨q1, q2⟩ := ih (k / 2) (by omega) (N.set k (gP md S (kidK N k))) (gS md S (kidK N k)) (by omega) hX
      exact ⟨q1, by rw [q2, nd_set, if_neg (by omega)]⟩
/-- A tree with a leaf turned is the tree of the leaves with that one turned. -/
theorem turn_build (lv : List Bs) (i : Nat) (b : Bs) (hi : i < lv.length) : (turnF false (buildF false lv []).1 i b []).1 = (buildF false (lv.set i b) []).1 := by
  obtain ⟨_, t1⟩ := buildF_tree false lv [] (by omega)
  obtain ⟨_, t2⟩ := buildF_tree false (lv.set i b) [] (by simp; omega)
  obtain ⟨l1, _⟩ := buildF_len false lv []
  obtain ⟨l2, _⟩ := buildF_len false (lv.set i b) []
  have z1 := buildF_zero false lv [] (by omega)
  have z2 := buildF_zero false (lv.set i b) [] (by simp; omega)
  have s1 : ∀ S, IsG false S = IsG false [] := fun S => rfl
  generalize (buildF false lv []).2 = S1 at *
  generalize (buildF false (lv.set i b) []).2 = S2 at *
  generalize (buildF false lv []).1 = N at *
  generalize (buildF false (lv.set i b) []).1 = M at *
  rw [List.length_set] at l2
  have hT : TreeX false [] (lv.set i b) (N.set (N.length / 2 + i) (gP false [] (leafK b))) ((N.length / 2 + i) / 2) := by
    refine ⟨by simp; omega, fun j hj => ?_, fun j h1 h2 hm => ?_⟩
    · rw [List.length_set] at hj ⊢
      rw [nd_set]
      by_cases e : i = j
      · subst e
        rw [if_pos ⟨by omega, by omega⟩]
        simp only [List.getElem_set_self]
        exact rfl
      · rw [if_neg (by omega)]
        rw [List.getElem_set_ne e]
        exact t1.leaf j hj
    · rw [List.length_set] at h2
      have n0 : N.length / 2 + i ≠ j := by omega
      have n1 : N.length / 2 + i ≠ 2 * j := fun e => hm 0 (by simp; omega)
      have n2 : N.length / 2 + i ≠ 2 * j + 1 := fun e => hm 0 (by simp; omega)
      rw [nd_set, if_neg (by omega), nd_set, if_neg (by omega), nd_set, if_neg (by omega)]
      exact t1.node j h1 h2
  obtain ⟨t3, z3⟩ := tuF_tree false (lv.set i b) ((N.length / 2 + i) / 2) _ [] (by simp; omega) hT
  have l3 := tuF_len false ((N.length / 2 + i) / 2) (N.set (N.length / 2 + i) (gP false [] (leafK b))) []
  rw [turnF]
  have hg : gS false [] (leafK b) = [] := rfl
  rw [hg]
  rw [nd_set, if_neg (by omega), z1] at z3
  generalize (tuF false ((N.length / 2 + i) / 2) (N.set (N.length / 2 + i) (gP false [] (leafK b))) []).1 = T at *
  have t3' : Tree false S2 (lv.set i b) T := ⟨t3.len, t3.leaf, t3.node⟩
  rw [List.length_set] at l3
  refine List.ext_getElem (by omega) fun j h1 h2 => ?_
  have key : nd T j = nd M j := by
    by_cases hj : j = 0
    · rw [hj, z3, z2]
    · exact Tree.same t3' t2 (2 * lv.length) j (by rw [List.length_set]; omega) (by omega) (by rw [List.length_set]; omega)
  simpa [nd, List.getD_eq_getElem?_getD, List.getElem?_eq_getElem h1, List.getElem?_eq_getElem h2] using key
set_option maxHeartbeats 4000000 in
theorem law18_TreeAgain_ae (a : List Bs) (hla : a.length ≤ maxLen) (i : Int) (b : Bs) (h : AHeap) : AE Try.prog 15 [.imm 1 (a.map encR), .int .i64 i, .imm 1 (b.map encB)] h (.bool true) h := by
  refine AE.pureW is_law18_TreeAgain (by simp) ?_
  unfold c_law18_TreeAgain
  (refine go ?_)
  refine WL.call rfl (by first | exact True.intro | exact rfl) (by repeat first | exact SubL.nil | refine SubL.cons (SubV.refl _) ?_ | refine SubL.cons SubV.app ?_ | refine SubL.cons SubV.nil ?_) (law18_long_ae a hla h) ?_
  (refine go ?_)
  (apply WL.orB; exact rfl; exact rfl; exact rfl; exact BP.of; intro hz1)
  · (repeat first | (apply GW.goS; exact Stp.auto) | apply GW.nil | exact rfl)
  (refine go ?_)
  (apply WL.orB; exact rfl; exact rfl; exact rfl; exact BP.of; intro hz2)
  · (repeat first | (apply GW.goS; exact Stp.auto) | apply GW.nil | exact rfl)
    refine GW.call rfl (by first | exact True.intro | exact rfl) (by repeat first | exact SubL.nil | refine SubL.cons (SubV.refl _) ?_ | refine SubL.cons SubV.app ?_ | refine SubL.cons SubV.nil ?_) (ref17_Is_ae _ _) ?_
    (repeat first | (apply GW.goS; exact Stp.auto) | apply GW.nil | exact rfl)
  (refine go ?_)
  (apply WL.orB; exact rfl; exact rfl; exact rfl; exact BP.of; intro hz3)
  · (repeat first | (apply GW.goS; exact Stp.auto) | apply GW.nil | exact rfl)
  (refine go ?_)
  (apply WL.orB; exact rfl; exact rfl; exact rfl; exact BP.of; intro hz4)
  · (repeat first | (apply GW.goS; exact Stp.auto) | apply GW.nil | exact rfl)
  (refine go ?_)
  (refine WW.ifB rfl (fun hz5 => ?_) (fun hz5 => ?_))
  · (refine go ?_)
    refine WW.ret (PureQ.finD ?_)
    exact fz_b rfl
  have hh : longF a = false ∧ b.length ≤ 100 ∧ isG a.length = true ∧ 0 ≤ i ∧ i < a.length := by
    simp at hz5
    exact ⟨hz5.1.1.1.1, by omega, hz5.1.1.2, by omega, by omega⟩
  obtain ⟨ha, hb, hG, i0, i1⟩ := hh
  obtain ⟨a1, a2⟩ := longF_no ha
  obtain ⟨k, rfl⟩ : ∃ k : Nat, i = k := ⟨i.toNat, (Int.toNat_of_nonneg i0).symm⟩
  (refine go ?_)
  refine WL.callA rfl (by first | exact True.intro | exact rfl) (by repeat first | exact SubL.nil | refine SubL.cons (SubV.refl _) ?_ | refine SubL.cons SubV.app ?_ | refine SubL.cons SubV.nil ?_) (AC.used (lock_Real_ac _)) ?_
  rintro _ h1 ⟨⟨l, s, rfl, oL, sL, nL, kL, _⟩, _, hu⟩
  replace kL := kL h (Keeps.refl _)
  (refine go ?_)
  refine WL.call rfl (by first | exact True.intro | exact rfl) (by repeat first | exact SubL.nil | refine SubL.cons (SubV.refl _) ?_ | refine SubL.cons SubV.app ?_ | refine SubL.cons SubV.nil ?_) (tree_Build_ae oL (by simp) a hG (fun x hx => by have := a2 x hx; omega)) ?_
  have hlt := buildF_len false a []
  obtain ⟨l1, _⟩ := hlt
  have hTB := turn_build a k b (by omega)
  have l2 : (buildF false (a.set k b) []).1.length = 2 * a.length := by rw [(buildF_len false (a.set k b) []).1, List.length_set]
  rw [show gO false (buildF false a []).2 = none from rfl, set_none oL.sm]
  generalize (buildF false a []).1 = N at *
  (refine go ?_)
  refine WL.call rfl (by first | exact True.intro | exact rfl) (by repeat first | exact SubL.nil | refine SubL.cons (SubV.refl _) ?_ | refine SubL.cons SubV.app ?_ | refine SubL.cons SubV.nil ?_) (tree_Turn_ae oL (by simp) N k b (by rw [l1]; exact isT_twice hG) (by omega) (by omega)) ?_
  rw [show gO false (turnF false N k b []).2 = none from rfl, set_none oL.sm, hTB]
  have hne : a.map encR ≠ [] := by intro e; have := congrArg List.length e; simp at this; subst this; simp at i1; omega
  (repeat first | refine WW.seq ?_ | refine WW.reg ?_ | refine WL.nil ?_ | refine WW.skip ?_ | refine WW.block ?_ | refine thenN ?_ | refine blkN ?_); iterate 5 (refine WL.go ?_)
  (repeat first | refine WW.seq ?_ | refine WW.reg ?_ | refine WL.nil ?_ | refine WW.skip ?_ | refine WW.block ?_ | refine thenN ?_ | refine blkN ?_); iterate 2 (refine WL.go ?_)
  refine WL.fx1 (FX.appM (nm := h1.next) (c := a.map encR) (fun hu => Nat.lt_irrefl _ hu.1) rfl rfl rfl hne (by simp; omega) (by first | exact True.intro | exact rfl)) ?_
  rw [List.length_map]
  (repeat first | refine WW.seq ?_ | refine WW.reg ?_ | refine WL.nil ?_ | refine WW.skip ?_ | refine WW.block ?_ | refine thenN ?_ | refine blkN ?_); iterate 1 (refine WL.go ?_)
  (repeat first | refine WW.seq ?_ | refine WW.reg ?_ | refine WL.nil ?_ | refine WW.skip ?_ | refine WW.block ?_ | refine thenN ?_ | refine blkN ?_); iterate 5 (refine WL.go ?_)
  (repeat first | refine WW.seq ?_ | refine WW.reg ?_ | refine WL.nil ?_ | refine WW.skip ?_ | refine WW.block ?_ | refine thenN ?_ | refine blkN ?_)
  refine WL.cvt (Cvt.frzE (s := 12) (c' := (a.set k b).map encR) rfl gH (by rw [List.drop_zero, List.take_of_length_le (by simp), List.map_set]; simp only [Nat.zero_add]; rfl)) ?_
  obtain ⟨w1, w4, w5, w6⟩ := oL.lt
  (refine go ?_)
  refine WL.call rfl (by first | exact True.intro | exact rfl) (by repeat first | exact SubL.nil | refine SubL.cons (SubV.refl _) ?_ | refine SubL.cons SubV.app ?_ | refine SubL.cons SubV.nil ?_) (tree_Build_ae (oL.frame hu (by repeat first | exact KeepsB.refl | assumption | with_reducible refine KeepsB.keep ?_ _ | with_reducible refine KeepsB.put ?_ (by omega) _ | with_reducible refine KeepsB.setN ?_ (by omega) _ | with_reducible refine KeepsB.setW ?_ (by simp; done) _) gH) (by simp) (a.set k b) (by simpa using hG) (fun x hx => by
    rcases List.mem_or_eq_of_mem_set hx with h | h
    · have := a2 x h; omega
    · subst h; omega)) ?_
  generalize (buildF false (a.set k b) []).1 = M at *
  have k3 := kL.1
  refine WL.named (fun h2 => Keeps h h2) (by repeat first | with_reducible exact Keeps.refl _ | with_reducible refine Keeps.put ?_ (by omega) _ | with_reducible refine Keeps.set ?_ (by omega) _ | assumption) ?_
  rintro h2 k2
  (refine go ?_)
  refine WL.call rfl (by first | exact True.intro | exact rfl) (by repeat first | exact SubL.nil | refine SubL.cons (SubV.refl _) ?_ | refine SubL.cons SubV.app ?_ | refine SubL.cons SubV.nil ?_) (ref18_Same_ae M M (by omega) (by omega) _) ?_
  rw [show (M == M) = true by simp]
  (refine go ?_)
  refine WL.call rfl (by first | exact True.intro | exact rfl) (by repeat first | exact SubL.nil | refine SubL.cons (SubV.refl _) ?_ | refine SubL.cons SubV.app ?_ | refine SubL.cons SubV.nil ?_) (law18_known_ae _) ?_
  (refine go ?_)
  refine WW.ret (PureQ.finD ?_)
  exact fz_b rfl
theorem top_TreeAgain (c0 : List AV) (t0 : TypL [.sl [.sl [.i .u8]]] c0) (c1 : List AV) (t1 : TypL [.i .i64] c1) (c2 : List AV) (t2 : TypL [.sl [.i .u8]] c2) :
    AE Try.prog 15 [c0.headD .nilp, c1.headD .nilp, c2.headD .nilp] noHeap (.bool true) noHeap := by
  obtain ⟨a, rfl, ha⟩ := rows_ofL t0
  obtain ⟨i, rfl, _⟩ := int_of t1
  obtain ⟨b, rfl⟩ := bytes_of t2
  exact law18_TreeAgain_ae a ha i b noHeap
end Go.Proofs.Ytlddahcgaonlhaa
