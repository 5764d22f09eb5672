/- TreeTops. -/
import Derived.Test.YtlddahcgaonlhaaT4
set_option linter.all false
namespace Go.Proofs.Ytlddahcgaonlhaa
open Go Go.Abs

set_option maxHeartbeats 8000000 in
theorem law18_TreeTops_ae (a b : List Bs) (hla : a.length ≤ maxLen) (hlb : b.length ≤ maxLen) (h : AHeap) : AE Try.prog 3 [.imm 1 (a.map encR), .imm 1 (b.map encR)] h (.bool true) h := by
  refine AE.pureW is_law18_TreeTops (by simp) ?_
  unfold c_law18_TreeTops
  (refine go ?_)
  refine WL.call rfl (by first | exact True.intro | exact rfl) (by repeat first | exact SubL.nil | refine SubL.cons (SubV.refl _) ?_ | refine SubL.cons SubV.app ?_ | refine SubL.cons SubV.nil ?_) (law18_long_ae a hla h) ?_
  (refine go ?_)
  (apply WL.orB; exact rfl; exact rfl; exact rfl; exact BP.of; intro hz1)
  · (repeat first | (apply GW.goS; exact Stp.auto) | apply GW.nil | exact rfl)
    refine GW.call rfl (by first | exact True.intro | exact rfl) (by repeat first | exact SubL.nil | refine SubL.cons (SubV.refl _) ?_ | refine SubL.cons SubV.app ?_ | refine SubL.cons SubV.nil ?_) (law18_long_ae b hlb _) ?_
    (repeat first | (apply GW.goS; exact Stp.auto) | apply GW.nil | exact rfl)
  (refine go ?_)
  (apply WL.orB; exact rfl; exact rfl; exact rfl; exact BP.of; intro hz2)
  · (repeat first | (apply GW.goS; exact Stp.auto) | apply GW.nil | exact rfl)
  (refine go ?_)
  (apply WL.orB; exact rfl; exact rfl; exact rfl; exact BP.of; intro hz3)
  · (repeat first | (apply GW.goS; exact Stp.auto) | apply GW.nil | exact rfl)
    refine GW.call rfl (by first | exact True.intro | exact rfl) (by repeat first | exact SubL.nil | refine SubL.cons (SubV.refl _) ?_ | refine SubL.cons SubV.app ?_ | refine SubL.cons SubV.nil ?_) (ref17_Is_ae _ _) ?_
    (repeat first | (apply GW.goS; exact Stp.auto) | apply GW.nil | exact rfl)
  (refine go ?_)
  (refine WW.ifB rfl (fun hz4 => ?_) (fun hz4 => ?_))
  · (refine go ?_)
    refine WW.ret (PureQ.finD ?_)
    exact fz_b rfl
  have hh : longF a = false ∧ longF b = false ∧ a.length = b.length ∧ isG a.length = true := by
    simp at hz4
    exact ⟨hz4.1.1.1, hz4.1.1.2, by omega, hz4.2⟩
  obtain ⟨ha, hb, hab, hG⟩ := hh
  obtain ⟨a1, a2⟩ := longF_no ha
  obtain ⟨b1, b2⟩ := longF_no hb
  (refine go ?_)
  refine WL.call rfl (by first | exact True.intro | exact rfl) (by repeat first | exact SubL.nil | refine SubL.cons (SubV.refl _) ?_ | refine SubL.cons SubV.app ?_ | refine SubL.cons SubV.nil ?_) (lock_Ideal_ae rfl) ?_
  obtain ⟨h1, e1, o1, n1, m1, k1⟩ := newL_ex (h := h) (nx := h.next) rfl
  rw [e1]
  (refine go ?_)
  refine WL.call rfl (by first | exact True.intro | exact rfl) (by repeat first | exact SubL.nil | refine SubL.cons (SubV.refl _) ?_ | refine SubL.cons SubV.app ?_ | refine SubL.cons SubV.nil ?_) (tree_Build_ae o1 (by simp) a hG (fun x hx => by have := a2 x hx; omega)) ?_
  have o2 := idAt_sum o1 (buildF a []).2
  have q1 : a.length ≥ 1 := by simp [isG] at hG; omega
  obtain ⟨p1, t1⟩ := buildF_tree a [] q1
  obtain ⟨l1, s1⟩ := buildF_len a []
  refine WL.named (fun h2 => IdAt h2 (h.next + 3) (h.next + 1) (h.next + 2) h.next 0 [] (buildF a []).2 ∧ h2.next = h.next + 4 ∧ Keeps h h2) ⟨o2, gN, (k1 h (Keeps.refl _)).set (Nat.le_refl _) _⟩ ?_
  clear o1 e1 n1 m1 k1 o2
  rintro h2 ⟨o2, n2, k2⟩
  (refine go ?_)
  refine WL.call rfl (by first | exact True.intro | exact rfl) (by repeat first | exact SubL.nil | refine SubL.cons (SubV.refl _) ?_ | refine SubL.cons SubV.app ?_ | refine SubL.cons SubV.nil ?_) (tree_Build_ae o2 (by simp at s1; omega) b (by rw [← hab]; exact hG) (fun x hx => by have := b2 x hx; omega)) ?_
  obtain ⟨p2, t2⟩ := buildF_tree b (buildF a []).2 (by omega)
  obtain ⟨l2, s2⟩ := buildF_len b (buildF a []).2
  replace t1 := t1.pre p2
  generalize (buildF b (buildF a []).2).1 = M at *
  generalize (buildF b (buildF a []).2).2 = S2 at *
  generalize (buildF a []).1 = N at *
  generalize (buildF a []).2 = S1 at *
  refine WL.named (fun h3 => h3.next = h.next + 4 ∧ Keeps h h3) ⟨gN, k2.set (Nat.le_refl _) _⟩ ?_
  clear o2 n2 k2
  rintro h3 ⟨n3, k3⟩
  (refine go ?_)
  refine WL.call rfl (by first | exact True.intro | exact rfl) (by repeat first | exact SubL.nil | refine SubL.cons (SubV.refl _) ?_ | refine SubL.cons SubV.app ?_ | refine SubL.cons SubV.nil ?_) (tree_Top_ae N (by omega) _) ?_
  rw [show isT N.length = true by rw [l1]; exact isT_twice hG]
  (refine go ?_)
  refine WL.call rfl (by first | exact True.intro | exact rfl) (by repeat first | exact SubL.nil | refine SubL.cons (SubV.refl _) ?_ | refine SubL.cons SubV.app ?_ | refine SubL.cons SubV.nil ?_) (tree_Top_ae M (by omega) _) ?_
  rw [show isT M.length = true by rw [l2]; exact isT_twice (by rw [← hab]; exact hG)]
  (refine go ?_)
  refine WW.loopE (fun (i : Nat) => [(0, some (.imm 1 (a.map encR))), (1, some (.imm 1 (b.map encR))), (10, some (.ptr (h.next + 4) 0 0)), (11, some (.bool true)), (12, some (.ptr (h.next + 5) 0 0)), (13, some (.bool true)), (14, some (.bool (decide (a.take i = b.take i)))), (15, some (.int .i64 i))])
    (fun i h' => h'.get (h.next + 4) = some (.mem 2 [encP (topP N)]) ∧ h'.get (h.next + 5) = some (.mem 2 [encP (topP M)]) ∧ h.next + 6 ≤ h'.next ∧ Keeps h h' ∧ i ≤ a.length) (fun i => a.length - i) 0 (by repeat first | exact subE.nil _ | (apply subE.cons; focus (first | exact rfl | (simp [lk_cons]; done) | (simp [lk_cons]; omega)))) ⟨gH, gH, (leN gN (by omega)), (by repeat first | with_reducible exact Keeps.refl _ | with_reducible refine Keeps.put ?_ (by omega) _ | with_reducible refine Keeps.set ?_ (by omega) _ | assumption), Nat.zero_le _⟩ ?_
  rintro i h' ⟨g1, g2, g3, g4, g5⟩
  (refine go ?_)
  (refine WW.ifB rfl (fun hz5 => ?_) (fun hz5 => ?_))
  · have hi : i < a.length := by omega
    (refine go ?_)
    have e2 : List.take (i + 1) a = List.take (i + 1) b ↔ List.take i a = List.take i b ∧ a[i] = b[i] := by
      rw [List.take_succ_eq_append_getElem hi, List.take_succ_eq_append_getElem (show i < b.length by omega)]
      constructor
      · intro e
        obtain ⟨e1, e2⟩ := List.append_inj' e rfl
        exact ⟨e1, by simpa using e2⟩
      · rintro ⟨e1, e2⟩; rw [e1, e2]
    (refine DW.spB rfl (fun hz6 => ?_) (fun hz6 => ?_))
    · have e3 : (a[i] == b[i]) = decide (List.take (i + 1) a = List.take (i + 1) b) := by
        rw [Bool.eq_iff_iff]; simp [e2, hz6]
      (refine go ?_)
      rw [e3]
      exact ⟨i + 1, (by repeat first | exact subE.nil _ | (apply subE.cons; focus (first | exact rfl | (simp [lk_cons]; done) | (simp [lk_cons]; omega)))), ⟨gH, gH, (by repeat first | exact Nat.le_refl _ | refine next_le_put ?_ | refine next_le_set ?_ | assumption), (by repeat first | with_reducible exact Keeps.refl _ | with_reducible refine Keeps.put ?_ (by omega) _ | with_reducible refine Keeps.set ?_ (by omega) _ | assumption), by omega⟩, by omega⟩
    · (refine go ?_)
      exact ⟨i + 1, (by repeat first | exact subE.nil _ | (apply subE.cons; focus (first | exact rfl | (simp [lk_cons, e2, hz6]; done) | (simp [lk_cons, e2, hz6]; omega)))), ⟨gH, gH, (by repeat first | exact Nat.le_refl _ | refine next_le_put ?_ | refine next_le_set ?_ | assumption), (by repeat first | with_reducible exact Keeps.refl _ | with_reducible refine Keeps.put ?_ (by omega) _ | with_reducible refine Keeps.set ?_ (by omega) _ | assumption), by omega⟩, by omega⟩
  · have hi : i = a.length := by omega
    (refine go ?_)
    have ht : ∀ {c : List Bs} {K : List Pr}, isG c.length = true → K.length = 2 * c.length → topP K = nd K 1 := fun hg hl => by
      rw [topP, hl, if_pos (isT_twice hg)]
    have e1 : (topP N == topP M) = decide (List.take i a = List.take i b) := by
      rw [ht hG l1, ht (c := b) (by rw [← hab]; exact hG) l2, hi, List.take_length, hab, List.take_length, Bool.eq_iff_iff]
      simp only [beq_iff_eq, decide_eq_true_eq]
      constructor
      · exact fun e => Tree.leaves (by simp at s1; omega) t1 t2 hab q1 e
      · rintro rfl
        exact Tree.same t1 t2 (2 * a.length) 1 (by omega) (by omega) (by omega)
    dsimp only
    rw [pr_beq, e1, beq_self_eq_true]
    refine WL.call rfl (by first | exact True.intro | exact rfl) (by repeat first | exact SubL.nil | refine SubL.cons (SubV.refl _) ?_ | refine SubL.cons SubV.app ?_ | refine SubL.cons SubV.nil ?_) (law18_known_ae _) ?_
    (refine go ?_)
    refine WW.ret (PureQ.finD ?_)
    exact fz_b rfl
theorem rows_ofL {cells : List AV} (h : TypL [.sl [.sl [.i .u8]]] cells) : ∃ D : List Bs, cells = [.imm 1 (D.map encR)] ∧ D.length ≤ maxLen := by
  obtain ⟨v, vs, rfl, h1, h2⟩ := h.cons_inv
  obtain rfl := h2.nil_inv
  obtain ⟨c, rfl, hl, hc⟩ := h1.sl_inv
  obtain ⟨l, rfl⟩ := map_of (f := encR) (fun _ => bytes_of) hc
  exact ⟨l, rfl, by simpa using hl⟩
theorem top_TreeTops (c0 : List AV) (t0 : TypL [.sl [.sl [.i .u8]]] c0) (c1 : List AV) (t1 : TypL [.sl [.sl [.i .u8]]] c1) :
    AE Try.prog 3 [c0.headD .nilp, c1.headD .nilp] noHeap (.bool true) noHeap := by
  obtain ⟨a, rfl, ha⟩ := rows_ofL t0
  obtain ⟨b, rfl, hb⟩ := rows_ofL t1
  exact law18_TreeTops_ae a b ha hb noHeap
end Go.Proofs.Ytlddahcgaonlhaa
