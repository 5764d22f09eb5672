/- The document's sealer: Twice, Same. -/
import Derived.Test.YtlddahcgaonlhaaF9
set_option linter.all false
namespace Go.Proofs.Ytlddahcgaonlhaa
open Go Go.Abs

def ND (L : List Iss) (i : Nat) : Prop := ∀ a b x y, a < b → b < i → L[a]? = some x → L[b]? = some y → kn x ≠ kn y
def NJ (L : List Iss) (i j : Nat) : Prop := ∀ a x y, a < j → L[a]? = some x → L[i]? = some y → kn x ≠ kn y
theorem nd_all {L : List Iss} (h : ND L L.length) : dupB (L.map kn) = false := by
  have : (L.map kn).Nodup := by
    rw [List.Nodup, List.pairwise_iff_getElem]
    intro i j hi hj hij
    rw [List.getElem_map, List.getElem_map]
    rw [List.length_map] at hi hj
    exact h i j _ _ hij hj (List.getElem?_eq_getElem hi) (List.getElem?_eq_getElem hj)
  simp [dupB, this]
theorem nd_hit {L : List Iss} {i j : Nat} (hj : j < i) (hi : i < L.length) (he : kn L[i] = kn (L[j]'(by omega))) : dupB (L.map kn) = true := by
  have : ¬ (L.map kn).Nodup := by
    rw [List.Nodup, List.pairwise_iff_getElem]
    intro h
    have := h j i (by simp; omega) (by simp; omega) hj
    rw [List.getElem_map, List.getElem_map] at this
    exact this he.symm
  simp [dupB, this]
theorem kn_eq {x y : Iss} (h1 : (x.key.1 == y.key.1 && (x.key.2 == y.key.2 && true)) = true) (h2 : (x.n.1 == y.n.1 && (x.n.2.1 == y.n.2.1 && (x.n.2.2 == y.n.2.2 && true))) = true) : kn x = kn y := by
  rw [pr_beq] at h1; rw [nn_beq] at h2
  rw [kn, kn, eq_of_beq h1, eq_of_beq h2]
theorem kn_ne1 {x y : Iss} (h1 : (x.key.1 == y.key.1 && (x.key.2 == y.key.2 && true)) = false) : kn x ≠ kn y := by
  rw [pr_beq] at h1
  intro h; rw [kn, kn, Prod.mk.injEq] at h; rw [h.1] at h1; simp at h1
theorem kn_ne2 {x y : Iss} (h2 : (x.n.1 == y.n.1 && (x.n.2.1 == y.n.2.1 && (x.n.2.2 == y.n.2.2 && true))) = false) : kn x ≠ kn y := by
  rw [nn_beq] at h2
  intro h; rw [kn, kn, Prod.mk.injEq] at h; rw [h.2] at h2; simp at h2
theorem nj_succ {L : List Iss} {i j : Nat} (h : NJ L i j) (hi : i < L.length) (hj : j < L.length) (hne : kn L[i] ≠ kn L[j]) : NJ L i (j + 1) := by
  intro a x y ha hx hy
  by_cases e : a = j
  · subst e
    rw [List.getElem?_eq_getElem hj] at hx; rw [List.getElem?_eq_getElem hi] at hy
    cases hx; cases hy; exact fun e => hne e.symm
  · exact h a x y (by omega) hx hy
theorem nd_succ {L : List Iss} {i : Nat} (h : ND L i) (h1 : NJ L i i) : ND L (i + 1) := by
  intro a b x y hab hb hx hy
  by_cases e : b = i
  · subst e; exact h1 a x y hab hx hy
  · exact h a b x y hab (by omega) hx hy

deriving instance DecidableEq for Iss
theorem iss_ext {x y : Iss} (h1 : kn x = kn y) (h2 : x.head = y.head) (h3 : x.data = y.data) (h4 : (x.out == y.out && x.tag == y.tag) = true) : x = y := by
  obtain ⟨a, b, c, d, e, f⟩ := x
  obtain ⟨a', b', c', d', e', f'⟩ := y
  rw [Bool.and_eq_true] at h4
  have h5 := eq_of_beq h4.1
  have h6 := eq_of_beq h4.2
  simp only [kn, Prod.mk.injEq] at h1 h2 h3 h5 h6
  obtain ⟨h1, h7⟩ := h1
  subst h1 h2 h3 h5 h6 h7
  rfl

set_option maxHeartbeats 4000000 in
theorem ref7_Same_ae (L M : List Iss) (hL : L.length ≤ 1000000) (hM : M.length ≤ 1000000) (h : AHeap) :
    AE Try.prog 43 [.imm 10 (L.map encI), .imm 10 (M.map encI)] h (.bool (decide (L = M))) h := by
  refine AE.pureW is_ref7_Same (by simp) ?_
  unfold c_ref7_Same
  (refine go ?_)
  (refine WW.ifB rfl (fun hz1 => ?_) (fun hz1 => ?_))
  · (refine go ?_)
    refine WW.ret (PureQ.finD ?_)
    exact fz_b (decide_eq_false (fun e => by rw [e] at hz1; simp at hz1)).symm
  · have he : L.length = M.length := by omega
    (refine go ?_)
    refine WW.loopE (fun (i : Nat) => [(0, some (.imm 10 (L.map encI))), (1, some (.imm 10 (M.map encI))), (5, some (.int .i64 i))])
      (fun i h' => h' = h ∧ i ≤ L.length ∧ L.take i = M.take i) (fun i => L.length - i) 0 (by repeat first | exact subE.nil _ | (apply subE.cons; focus (first | exact rfl | (simp [lk_cons]; done) | (simp [lk_cons]; omega)))) ⟨rfl, Nat.zero_le _, by simp⟩ ?_
    rintro i h' ⟨rfl, g2, g3⟩
    (refine go ?_)
    (refine WW.ifB rfl (fun hz2 => ?_) (fun hz2 => ?_))
    · have hi : i < L.length := by omega
      have hi2 : i < M.length := by omega
      have hne : ¬ (L[i] = M[i]) → decide (L = M) = false := fun hn => decide_eq_false (fun e => hn (by subst e; rfl))
      (refine go ?_)
      (refine DW.spB rfl (fun hz3 => ?_) (fun hz3 => ?_))
      · (refine go ?_)
        refine WW.ret (PureQ.finD ?_)
        exact fz_b (hne (fun e => by rw [e] at hz3; simp at hz3)).symm
      (refine go ?_)
      (refine DW.spB rfl (fun hz4 => ?_) (fun hz4 => ?_))
      · (refine go ?_)
        refine WW.ret (PureQ.finD ?_)
        exact fz_b (hne (fun e => by rw [e] at hz4; simp at hz4)).symm
      (refine go ?_)
      (refine DW.spB rfl (fun hz5 => ?_) (fun hz5 => ?_))
      · (refine go ?_)
        refine WW.ret (PureQ.finD ?_)
        exact fz_b (hne (fun e => by rw [e] at hz5; simp at hz5)).symm
      (refine go ?_)
      (refine DW.spB rfl (fun hz6 => ?_) (fun hz6 => ?_))
      · (refine go ?_)
        refine WW.ret (PureQ.finD ?_)
        exact fz_b (hne (fun e => by rw [e] at hz6; simp at hz6)).symm
      (refine go ?_)
      refine DW.callS rfl (by first | exact True.intro | exact rfl) (by repeat first | exact SubL.nil | refine SubL.cons (SubV.refl _) ?_ | refine SubL.cons SubV.app ?_ | refine SubL.cons SubV.nil ?_) rfl (ref5_Same_ae L[i].out M[i].out L[i].tag M[i].tag _) ?_
      (refine go ?_)
      (refine WW.ifB rfl (fun hz7 => ?_) (fun hz7 => ?_))
      · (refine go ?_)
        refine WW.ret (PureQ.finD ?_)
        exact fz_b (hne (fun e => by rw [e] at hz7; simp at hz7)).symm
      · (refine go ?_)
        refine ⟨i + 1, (by repeat first | exact subE.nil _ | (apply subE.cons; focus (first | exact rfl | (simp [lk_cons]; done) | (simp [lk_cons]; omega)))), ⟨rfl, by omega, ?_⟩, by omega⟩
        have e : L[i] = M[i] := iss_ext (kn_eq hz3 hz4) hz5 hz6 hz7
        rw [List.take_succ_eq_append_getElem hi, List.take_succ_eq_append_getElem hi2, g3, e]
    · have hi : i = L.length := by omega
      subst hi
      (refine go ?_)
      refine WW.ret (PureQ.finD ?_)
      rw [List.take_length, he, List.take_length] at g3
      exact fz_b (decide_eq_true g3).symm
end Go.Proofs.Ytlddahcgaonlhaa
