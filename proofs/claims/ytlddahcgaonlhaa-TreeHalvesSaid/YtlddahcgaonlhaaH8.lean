/- TreeHalves. -/
import Derived.Test.YtlddahcgaonlhaaG9
set_option linter.all false
namespace Go.Proofs.Ytlddahcgaonlhaa
open Go Go.Abs

/-- Halves that are one have one sum. -/
theorem Tree.halves {md : Bool} {S : List Bs} {lv : List Bs} {N : List Pr} (hT : Tree md S lv N) {e : Nat} (he : lv.length = 2 ^ (e + 1)) (hh : ∀ i (hi : i < 2 ^ e), lv[i]? = lv[i + 2 ^ e]?) : ∀ k d, d + k = e → ∀ j, 2 ^ (d + 1) ≤ j → j < 2 ^ (d + 1) + 2 ^ d → nd N j = nd N (j + 2 ^ d)
  | 0, d, hd, j, h1, h2 => by
    obtain rfl : d = e := by omega
    have hp : 2 ^ (d + 1) = 2 * 2 ^ d := by rw [Nat.pow_succ]; omega
    have k1 := hT.leaf (j - lv.length) (by omega)
    have k2 := hT.leaf (j - lv.length + 2 ^ d) (by omega)
    have h3 := hh (j - lv.length) (by omega)
    rw [List.getElem?_eq_getElem (by omega), List.getElem?_eq_getElem (by omega)] at h3
    rw [← Option.some.inj h3, show lv.length + (j - lv.length + 2 ^ d) = j + 2 ^ d by omega] at k2
    rw [show lv.length + (j - lv.length) = j by omega] at k1
    exact k1.fn k2
  | k + 1, d, hd, j, h1, h2 => by
    have hp : 2 ^ (d + 1) = 2 * 2 ^ d := by rw [Nat.pow_succ]; omega
    have hp2 : 2 ^ (d + 1 + 1) = 2 * 2 ^ (d + 1) := by rw [Nat.pow_succ]; omega
    have hpos : 0 < 2 ^ d := Nat.two_pow_pos d
    have hle : 2 ^ (d + 1 + 1) ≤ 2 ^ (e + 1) := Nat.pow_le_pow_right (by decide) (by omega)
    have ih := Tree.halves hT he hh k (d + 1) (by omega)
    have k1 := hT.node j (by omega) (by omega)
    have k2 := hT.node (j + 2 ^ d) (by omega) (by omega)
    rw [show 2 * (j + 2 ^ d) = 2 * j + 2 ^ (d + 1) by omega, show 2 * j + 2 ^ (d + 1) + 1 = (2 * j + 1) + 2 ^ (d + 1) by omega, ← ih (2 * j) (by omega) (by omega), ← ih (2 * j + 1) (by omega) (by omega)] at k2
    exact k1.fn k2
set_option maxHeartbeats 4000000 in
theorem law18_TreeHalves_ae (md : Bool) (a : List Bs) (hla : a.length ≤ 1000000) (h : AHeap) : AE Try.prog 12 [.bool md, .imm 1 (a.map encR)] h (.bool true) h := by
  refine AE.pureW is_law18_TreeHalves (by simp) ?_
  unfold c_law18_TreeHalves
  (refine go ?_)
  refine WL.call rfl (by first | exact True.intro | exact rfl) (by repeat first | exact SubL.nil | refine SubL.cons (SubV.refl _) ?_ | refine SubL.cons SubV.app ?_ | refine SubL.cons SubV.nil ?_) (law18_long_ae a (Nat.le_trans hla (by decide)) h) ?_
  (refine go ?_)
  (apply WL.orB; exact rfl; exact rfl; exact rfl; exact BP.of; intro hz1)
  · (repeat first | (apply GW.goS; exact Stp.auto) | apply GW.nil | exact rfl)
    refine GW.call rfl (by first | exact True.intro | exact rfl) (by repeat first | exact SubL.nil | refine SubL.cons (SubV.refl _) ?_ | refine SubL.cons SubV.app ?_ | refine SubL.cons SubV.nil ?_) (ref17_Is_ae _ _) ?_
    (repeat first | (apply GW.goS; exact Stp.auto) | apply GW.nil | exact rfl)
  (refine go ?_)
  (refine WW.ifB rfl (fun hz2 => ?_) (fun hz2 => ?_))
  · (refine go ?_)
    refine WW.ret (PureQ.finD ?_)
    exact fz_b rfl
  have hh : longF a = false ∧ isG (2 * a.length : Nat) = true := by simpa using hz2
  obtain ⟨ha, hG⟩ := hh
  obtain ⟨a1, a2⟩ := longF_no ha
  (refine go ?_)
  refine WL.callA rfl (by first | exact True.intro | exact rfl) (by repeat first | exact SubL.nil | refine SubL.cons (SubV.refl _) ?_ | refine SubL.cons SubV.app ?_ | refine SubL.cons SubV.nil ?_) (AC.used (law18_of_ac md _)) ?_
  rintro _ h1 ⟨⟨l, s, rfl, oL, sL, nL, kL, _⟩, _, hu⟩
  replace kL := kL h (Keeps.refl _)
  obtain ⟨w1, w4, w5, w6⟩ := oL.lt
  (refine go ?_)
  rw [show a.map encR ++ a.map encR = (a ++ a).map encR by simp]
  have hlen : (a ++ a).length = 2 * a.length := by simp; omega
  have hG2 : isG (a ++ a).length = true := by rw [hlen]; exact hG
  refine WL.call rfl (by first | exact True.intro | exact rfl) (by repeat first | exact SubL.nil | refine SubL.cons (SubV.refl _) ?_ | refine SubL.cons SubV.app ?_ | refine SubL.cons SubV.nil ?_) (tree_Build_ae (oL.frame hu (by repeat first | exact KeepsB.refl | assumption | with_reducible refine KeepsB.keep ?_ _ | with_reducible refine KeepsB.put ?_ (by omega) _ | with_reducible refine KeepsB.setN ?_ (by omega) _ | with_reducible refine KeepsB.setW ?_ (by simp; done) _) gH) (by simp) (a ++ a) hG2 (fun x hx => by have := a2 x (by simpa using hx); omega)) ?_
  obtain ⟨p1, t1⟩ := buildF_tree md (a ++ a) [] (by simp [isG] at hG; omega)
  obtain ⟨l1, s1⟩ := buildF_len md (a ++ a) []
  refine WL.named (fun h2 => Keeps h h2) ?_ ?_
  · have := kL.1
    exact (by repeat first | with_reducible exact Keeps.refl _ | with_reducible refine Keeps.put ?_ (by omega) _ | with_reducible refine Keeps.set ?_ (by omega) _ | assumption)
  rintro h2 k2
  generalize (buildF md (a ++ a) []).1 = N at *
  generalize (buildF md (a ++ a) []).2 = S2 at *
  have hN : N.length = 4 * a.length := by omega
  have h4 : 2 ≤ a.length := by simp [isG] at hG; omega
  obtain ⟨e, he⟩ : ∃ e, a.length = 2 ^ e := by
    have : a.length = 2 ∨ a.length = 4 ∨ a.length = 8 := by simp [isG] at hG; omega
    rcases this with h | h | h
    · exact ⟨1, h⟩
    · exact ⟨2, h⟩
    · exact ⟨3, h⟩
  have hhv := t1.halves (e := e) (by rw [hlen, he, Nat.pow_succ]; omega) (fun i hi => by
    rw [← he] at hi ⊢
    rw [List.getElem?_append_left hi, List.getElem?_append_right (by omega), Nat.add_sub_cancel])
  have hp : 2 ^ (e + 1) = 2 * 2 ^ e := by rw [Nat.pow_succ]; omega
  have e23 : N[2]'(by omega) = N[3]'(by omega) := by
    have := hhv e 0 (by omega) 2 (by decide) (by decide)
    simpa [nd, List.getD_eq_getElem?_getD, List.getElem?_eq_getElem (show 2 < N.length by omega), List.getElem?_eq_getElem (show 3 < N.length by omega)] using this
  have eI : ∀ i (hi : i < a.length), N[2 * a.length + i]'(by omega) = N[2 * a.length + a.length + i]'(by omega) := fun i hi => by
    have := hhv 0 e (by omega) (2 ^ (e + 1) + i) (by omega) (by omega)
    rw [hp, ← he] at this
    simpa [nd, List.getD_eq_getElem?_getD, List.getElem?_eq_getElem (show 2 * a.length + i < N.length by omega), show 2 * a.length + i + a.length = 2 * a.length + a.length + i by omega, List.getElem?_eq_getElem (show 2 * a.length + a.length + i < N.length by omega)] using this
  (repeat first | refine WL.go ?_ | refine WW.seq ?_ | refine WW.reg ?_ | refine WL.nil ?_ | refine WW.skip ?_ | refine WW.block ?_ | refine WW.exit ?_ | refine WW.condT rfl ?_ | refine WW.condF rfl ?_ | refine WL.gox ?_ | refine thenN ?_ | refine blkN ?_)
  refine WW.dregX [] [] [] gN (by decide +kernel) ?_
  (refine go ?_)
  (refine DW.spB rfl (fun hz3 => ?_) (fun hz3 => ?_))
  · exfalso; omega
  (refine go ?_)
  refine DW.go (hs := Stp.loadi rfl (map_at (List.getElem?_eq_getElem (show 2 < N.length by omega))) (getC_all rfl) (by first | exact True.intro | exact rfl)) ?_
  (refine go ?_)
  refine DW.go (hs := Stp.loadi rfl (map_at (List.getElem?_eq_getElem (show 3 < N.length by omega))) (getC_all rfl) (by first | exact True.intro | exact rfl)) ?_
  (refine go ?_)
  (refine WW.ifB rfl (fun hz4 => ?_) (fun hz4 => ?_))
  · exfalso; simp [e23] at hz4
  (refine go ?_)
  have k3 := k2.1
  refine WW.loopE (fun (i : Nat) => [(1, some (.imm 1 (a.map encR))), (5, some (.int .i64 ((2 * a.length : Nat) : Int))), (6, some (.imm 2 (N.map encP))), (8, some (.int .i64 i))])
    (fun i h' => h' = h2 ∧ i ≤ a.length) (fun i => a.length - i) 0 (by repeat first | exact subE.nil _ | (apply subE.cons; focus (first | exact rfl | (simp [lk_cons]; done) | (simp [lk_cons]; omega)))) ⟨rfl, Nat.zero_le _⟩ ?_
  rintro i h' ⟨rfl, c1⟩
  (refine go ?_)
  (refine WW.ifB rfl (fun hz5 => ?_) (fun hz5 => ?_))
  · have hi : i < a.length := by omega
    (repeat first | refine WL.go ?_ | refine WW.seq ?_ | refine WW.reg ?_ | refine WL.nil ?_ | refine WW.skip ?_ | refine WW.block ?_ | refine WW.exit ?_ | refine WW.condT rfl ?_ | refine WW.condF rfl ?_ | refine WL.gox ?_ | refine thenN ?_ | refine blkN ?_)
    refine WW.dregX [] [] [] gN (by decide +kernel) ?_
    (refine go ?_)
    (refine WW.ifB rfl (fun hz6 => ?_) (fun hz6 => ?_))
    · exfalso
      simp [eI i hi] at hz6
    (refine go ?_)
    exact ⟨i + 1, (by repeat first | exact subE.nil _ | (apply subE.cons; focus (first | exact rfl | (simp [lk_cons]; done) | (simp [lk_cons]; omega)))), ⟨rfl, by omega⟩, by omega⟩
  · (refine go ?_)
    refine WL.call rfl (by first | exact True.intro | exact rfl) (by repeat first | exact SubL.nil | refine SubL.cons (SubV.refl _) ?_ | refine SubL.cons SubV.app ?_ | refine SubL.cons SubV.nil ?_) (law18_known_ae _) ?_
    (refine go ?_)
    refine WW.ret (PureQ.finD ?_)
    exact fz_b rfl
theorem law18_TreeHalves_long (md : Bool) (a : List Bs) (hla : a.length ≤ maxLen) (hl : 20 < a.length) (h : AHeap) : AE Try.prog 12 [.bool md, .imm 1 (a.map encR)] h (.bool true) h := by
  refine AE.pureW is_law18_TreeHalves (by simp) ?_
  unfold c_law18_TreeHalves
  (refine go ?_)
  refine WL.call rfl (by first | exact True.intro | exact rfl) (by repeat first | exact SubL.nil | refine SubL.cons (SubV.refl _) ?_ | refine SubL.cons SubV.app ?_ | refine SubL.cons SubV.nil ?_) (law18_long_ae a hla h) ?_
  rw [show longF a = true by simp [longF, hl]]
  (refine go ?_)
  refine WW.ret (PureQ.finD ?_)
  exact fz_b rfl
theorem top_TreeHalves (c0 : List AV) (t0 : TypL [.b] c0) (c1 : List AV) (t1 : TypL [.sl [.sl [.i .u8]]] c1) :
    AE Try.prog 12 [c0.headD .nilp, c1.headD .nilp] noHeap (.bool true) noHeap := by
  obtain ⟨v, rfl⟩ := bool_of8 t0
  obtain ⟨a, rfl, ha⟩ := rows_ofL t1
  rcases Nat.lt_or_ge 20 a.length with h | h
  · exact law18_TreeHalves_long v a ha h noHeap
  · exact law18_TreeHalves_ae v a (by omega) noHeap
end Go.Proofs.Ytlddahcgaonlhaa
