/- PathShort. -/
import Derived.Test.YtlddahcgaonlhaaT7
set_option linter.all false
namespace Go.Proofs.Ytlddahcgaonlhaa
open Go Go.Abs

set_option maxHeartbeats 8000000 in
theorem law19_PathShort_ae (a : List Bs) (hla : a.length ≤ maxLen) (i n : Int) (h : AHeap) : AE Try.prog 5 [.imm 1 (a.map encR), .int .i64 i, .int .i64 n] h (.bool true) h := by
  refine AE.pureW is_law19_PathShort (by simp) ?_
  unfold c_law19_PathShort
  (refine go ?_)
  refine WL.call rfl (by first | exact True.intro | exact rfl) (by repeat first | exact SubL.nil | refine SubL.cons (SubV.refl _) ?_ | refine SubL.cons SubV.app ?_ | refine SubL.cons SubV.nil ?_) (law19_long_ae a hla h) ?_
  (refine go ?_)
  (apply WL.orB; exact rfl; exact rfl; exact rfl; exact BP.of; intro hz1)
  · (repeat first | (apply GW.goS; exact Stp.auto) | apply GW.nil | exact rfl)
    refine GW.call rfl (by first | exact True.intro | exact rfl) (by repeat first | exact SubL.nil | refine SubL.cons (SubV.refl _) ?_ | refine SubL.cons SubV.app ?_ | refine SubL.cons SubV.nil ?_) (ref17_Is_ae _ _) ?_
    (repeat first | (apply GW.goS; exact Stp.auto) | apply GW.nil | exact rfl)
  (refine go ?_)
  (apply WL.orB; exact rfl; exact rfl; exact rfl; exact BP.of; intro hz2)
  · (repeat first | (apply GW.goS; exact Stp.auto) | apply GW.nil | exact rfl)
  (refine go ?_)
  (apply WL.orB; exact rfl; exact rfl; exact rfl; exact BP.of; intro hz3)
  · (repeat first | (apply GW.goS; exact Stp.auto) | apply GW.nil | exact rfl)
  (refine go ?_)
  (apply WL.orB; exact rfl; exact rfl; exact rfl; exact BP.of; intro hz4)
  · (repeat first | (apply GW.goS; exact Stp.auto) | apply GW.nil | exact rfl)
  (refine go ?_)
  (apply WL.orB; exact rfl; exact rfl; exact rfl; exact BP.of; intro hz5)
  · (repeat first | (apply GW.goS; exact Stp.auto) | apply GW.nil | exact rfl)
  (refine go ?_)
  (refine WW.ifB rfl (fun hz6 => ?_) (fun hz6 => ?_))
  · (refine go ?_)
    refine WW.ret (PureQ.finD ?_)
    exact fz_b rfl
  have hh : longF a = false ∧ isG a.length = true ∧ 0 ≤ i ∧ i < a.length ∧ 0 ≤ n ∧ n ≤ 8 := by
    simp at hz6
    obtain ⟨⟨⟨⟨⟨h1, h2⟩, h3⟩, h4⟩, h5⟩, h6⟩ := hz6
    exact ⟨h1, h2, h3, h4, h5, h6⟩
  obtain ⟨ha, hG, hi0, hi1, hn0, hn1⟩ := hh
  obtain ⟨i, rfl⟩ := Int.eq_ofNat_of_zero_le hi0
  obtain ⟨n, rfl⟩ := Int.eq_ofNat_of_zero_le hn0
  have hi : i < a.length := by omega
  obtain ⟨a1, a2⟩ := longF_no ha
  obtain ⟨e, he, he2, he4⟩ := isG_pow hG
  (refine go ?_)
  refine WL.call rfl (by first | exact True.intro | exact rfl) (by repeat first | exact SubL.nil | refine SubL.cons (SubV.refl _) ?_ | refine SubL.cons SubV.app ?_ | refine SubL.cons SubV.nil ?_) (lock_Ideal_ae rfl) ?_
  obtain ⟨h1, e1, o1, n1, m1, k1⟩ := newL_ex (h := h) (nx := h.next) rfl
  rw [e1]
  (refine go ?_)
  refine WL.call rfl (by first | exact True.intro | exact rfl) (by repeat first | exact SubL.nil | refine SubL.cons (SubV.refl _) ?_ | refine SubL.cons SubV.app ?_ | refine SubL.cons SubV.nil ?_) (tree_Build_ae o1 (by simp) a hG (fun x hx => by have := a2 x hx; omega)) ?_
  have o2 := idAt_sum o1 (buildF a []).2
  obtain ⟨_, t1⟩ := buildF_tree a [] (by omega)
  obtain ⟨l1, s1⟩ := buildF_len a []
  generalize (buildF a []).1 = N at *
  generalize (buildF a []).2 = S at *
  simp only [List.length_nil, Nat.zero_add] at s1
  refine WL.named (fun h2 => IdAt h2 (h.next + 3) (h.next + 1) (h.next + 2) h.next 0 [] S ∧ h2.next = h.next + 4 ∧ Keeps h h2) ⟨o2, gN, (k1 h (Keeps.refl _)).set (Nat.le_refl _) _⟩ ?_
  clear o1 e1 n1 m1 k1 o2
  rintro h2 ⟨o2, n2, k2⟩
  (refine go ?_)
  refine WL.call rfl (by first | exact True.intro | exact rfl) (by repeat first | exact SubL.nil | refine SubL.cons (SubV.refl _) ?_ | refine SubL.cons SubV.app ?_ | refine SubL.cons SubV.nil ?_) (tree_Top_ae N (by omega) _) ?_
  have hT : isT N.length = true := by rw [l1]; exact isT_twice hG
  rw [hT]
  obtain ⟨p1, p2⟩ := path_tree t1 he hG hi
  have hlen : (upL N (2 ^ e + i)).length = e := upL_len N e i (by omega)
  (refine go ?_)
  refine WL.call rfl (by first | exact True.intro | exact rfl) (by repeat first | exact SubL.nil | refine SubL.cons (SubV.refl _) ?_ | refine SubL.cons SubV.app ?_ | refine SubL.cons SubV.nil ?_) (path_Of_ae N (by omega) i _) ?_
  rw [p1, p2]
  generalize hU : upL N (2 ^ e + i) = U at *
  (repeat first | refine WL.go ?_ | refine WW.seq ?_ | refine WW.reg ?_ | refine WL.nil ?_ | refine WW.skip ?_ | refine WW.block ?_ | refine WW.exit ?_ | refine WW.condT rfl ?_ | refine WW.condF rfl ?_ | refine WL.gox ?_ | refine thenN ?_ | refine blkN ?_)
  refine WW.cvt (frz_eq (s := 15) (c' := (U.take n ++ List.replicate (n - e) (0, 0)).map encP) rfl gH ?_ ?_) ?_
  · simp; omega
  · simp only [List.take_zero, List.nil_append, Nat.zero_add, List.length_map, hlen, List.map_append, List.map_take, List.drop_replicate, List.map_replicate]
    congr 1
    · rcases Nat.le_total e n with h3 | h3
      · rw [Nat.min_eq_left h3, List.take_of_length_le (by simp; omega), List.take_of_length_le (by simp; omega)]
      · rw [Nat.min_eq_right h3]
    · rw [show n - min e n = n - e by omega]; rfl
  obtain ⟨nx, hnx⟩ : ∃ nx, h2.next = nx := ⟨_, rfl⟩
  refine WW.named (fun h3 => IdAt h3 (h.next + 3) (h.next + 1) (h.next + 2) h.next 0 [] S ∧ h3.get (h.next + 4) = some (.mem 2 [encP (topP N)]) ∧ h3.next = h.next + 6 ∧ Keeps h h3) ⟨idAt_get o2 (by repeat first | with_reducible apply get_put_neE (by omega) | with_reducible apply get_set_neE (by omega) | with_reducible apply get_keepE | exact rfl) (by repeat first | with_reducible apply get_put_neE (by omega) | with_reducible apply get_set_neE (by omega) | with_reducible apply get_keepE | exact rfl) (by repeat first | with_reducible apply get_put_neE (by omega) | with_reducible apply get_set_neE (by omega) | with_reducible apply get_keepE | exact rfl) (by repeat first | with_reducible apply get_put_neE (by omega) | with_reducible apply get_set_neE (by omega) | with_reducible apply get_keepE | exact rfl), gH, gN, (by repeat first | with_reducible exact Keeps.refl _ | with_reducible refine Keeps.put ?_ (by omega) _ | with_reducible refine Keeps.set ?_ (by omega) _ | assumption)⟩ ?_
  clear o2 n2 k2 hnx
  rintro h3 ⟨o3, g3, n3, k3⟩
  have htop : topP N = nd N 1 := by rw [topP, if_pos hT]
  by_cases hne : n = e
  · subst hne
    rw [Nat.sub_self, List.replicate_zero, List.append_nil, List.take_of_length_le (by omega)]
    refine WW.dregX [9] [] [h.next] gN (by decide +kernel) ?_
    (refine go ?_)
    have hcon := path_Check_ae o3 (by omega) a.length i a[i] (by have := a2 _ (List.getElem_mem hi); omega) U (by omega) (topP N) (by simp [ckOk, hG, hi, hlen]; exact_mod_cast he)
    rw [show ckF U i (sumP S (leafK a[i])) (sumS S (leafK a[i])) = (nd N 1, S) by rw [← hU]; exact ck_tree t1 he hi] at hcon
    rw [htop, beq_self_eq_true, set_same o3.ora.sums] at hcon
    rw [htop]
    refine DW.callS rfl (by first | exact True.intro | exact rfl) (by repeat first | exact SubL.nil | refine SubL.cons (SubV.refl _) ?_ | refine SubL.cons SubV.app ?_ | refine SubL.cons SubV.nil ?_) rfl (hcon) ?_
    (refine go ?_)
    rw [show ((true : Bool) == ((n : Int) == (U.length : Int))) = true by simp [hlen]]
    refine DW.callS rfl (by first | exact True.intro | exact rfl) (by repeat first | exact SubL.nil | refine SubL.cons (SubV.refl _) ?_ | refine SubL.cons SubV.app ?_ | refine SubL.cons SubV.nil ?_) rfl (law19_known_ae _) ?_
    (refine go ?_)
    refine WW.ret (PureQ.finD ?_)
    exact fz_b rfl
  · have hql : (U.take n ++ List.replicate (n - e) ((0, 0) : Pr)).length = n := by simp; omega
    generalize U.take n ++ List.replicate (n - e) ((0, 0) : Pr) = q at *
    refine WW.dregX [] [] [] gN (by decide +kernel) ?_
    (refine go ?_)
    have hno : ckOk a.length i q.length = false := by
      rw [Bool.eq_false_iff]
      intro hok
      simp only [ckOk, Bool.and_eq_true, decide_eq_true_eq] at hok
      have h4 : a.length = 2 ^ n := by rw [hql] at hok; exact_mod_cast hok.2
      rw [he] at h4
      exact hne ((Nat.pow_right_inj (by decide)).1 h4).symm
    refine DW.callS rfl (by first | exact True.intro | exact rfl) (by repeat first | exact SubL.nil | refine SubL.cons (SubV.refl _) ?_ | refine SubL.cons SubV.app ?_ | refine SubL.cons SubV.nil ?_) rfl (path_Check_no (p := .ptr (h.next + 3) 0 0) a.length i q (by omega) (topP N) hno _) ?_
    (refine go ?_)
    rw [show ((false : Bool) == ((n : Int) == (U.length : Int))) = true by simp [hlen]; omega]
    refine DW.callS rfl (by first | exact True.intro | exact rfl) (by repeat first | exact SubL.nil | refine SubL.cons (SubV.refl _) ?_ | refine SubL.cons SubV.app ?_ | refine SubL.cons SubV.nil ?_) rfl (law19_known_ae _) ?_
    (refine go ?_)
    refine WW.ret (PureQ.finD ?_)
    exact fz_b rfl
theorem top_PathShort (c0 : List AV) (t0 : TypL [.sl [.sl [.i .u8]]] c0) (c1 : List AV) (t1 : TypL [.i .i64] c1) (c2 : List AV) (t2 : TypL [.i .i64] c2) :
    AE Try.prog 5 [c0.headD .nilp, c1.headD .nilp, c2.headD .nilp] noHeap (.bool true) noHeap := by
  obtain ⟨a, rfl, ha⟩ := rows_ofL t0
  obtain ⟨i, rfl, _⟩ := int_of t1
  obtain ⟨n, rfl, _⟩ := int_of t2
  exact law19_PathShort_ae a ha i n noHeap
end Go.Proofs.Ytlddahcgaonlhaa
