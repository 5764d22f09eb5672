/- TreeTurns. -/
import Derived.Test.YtlddahcgaonlhaaG9
set_option linter.all false
namespace Go.Proofs.Ytlddahcgaonlhaa
open Go Go.Abs

set_option maxHeartbeats 4000000 in
theorem law18_TreeTurns_ae (md : Bool) (N : List Pr) (i : Int) (b : Bs) (h : AHeap) : AE Try.prog 16 [.bool md, .imm 2 (N.map encP), .int .i64 i, .imm 1 (b.map encB)] h (.bool true) h := by
  refine AE.pureW is_law18_TreeTurns (by simp) ?_
  unfold c_law18_TreeTurns
  (refine go ?_)
  (apply WL.orB; exact rfl; exact rfl; exact rfl; exact BP.of; intro hz1)
  · (repeat first | (apply GW.goS; exact Stp.auto) | apply GW.nil | exact rfl)
  (refine go ?_)
  (refine WW.ifB rfl (fun hz2 => ?_) (fun hz2 => ?_))
  · (refine go ?_)
    refine WW.ret (PureQ.finD ?_)
    exact fz_b rfl
  have hh : N.length ≤ 40 ∧ b.length ≤ 100 := by simp at hz2; omega
  obtain ⟨hN, hb⟩ := hh
  (refine go ?_)
  refine WL.callA rfl (by first | exact True.intro | exact rfl) (by repeat first | exact SubL.nil | refine SubL.cons (SubV.refl _) ?_ | refine SubL.cons SubV.app ?_ | refine SubL.cons SubV.nil ?_) (law18_of_ac md _) ?_
  rintro _ h1 ⟨l, s, rfl, oL, sL, nL, kL, _, _, _⟩
  replace kL := kL h (Keeps.refl _)
  (refine go ?_)
  cases hin : (isT N.length && decide (0 ≤ i) && decide (i < N.length / 2)) with
  | true =>
    have hi : isT N.length = true ∧ 0 ≤ i ∧ i < N.length / 2 := by simpa [and_assoc] using hin
    obtain ⟨hT, i0, i1⟩ := hi
    obtain ⟨k, rfl⟩ : ∃ k : Nat, i = k := ⟨i.toNat, (Int.toNat_of_nonneg i0).symm⟩
    refine WL.call rfl (by first | exact True.intro | exact rfl) (by repeat first | exact SubL.nil | refine SubL.cons (SubV.refl _) ?_ | refine SubL.cons SubV.app ?_ | refine SubL.cons SubV.nil ?_) (tree_Turn_ae oL (by simp) N k b hT (by omega) (by omega)) ?_
    have l1 : (turnF md N k b []).1.length = N.length := by rw [turnF, tuF_len]; simp
    refine WL.named (fun h2 => Keeps h h2) (kL.set sL _) ?_
    rintro h2 k2
    (refine go ?_)
    refine WL.callA rfl (by first | exact True.intro | exact rfl) (by repeat first | exact SubL.nil | refine SubL.cons (SubV.refl _) ?_ | refine SubL.cons SubV.app ?_ | refine SubL.cons SubV.nil ?_) (ref8_NewG_ac md _) ?_
    rintro _ h3 ⟨l3, o3, t1, t2, rfl, oR, oo, ot, nR, kR, _⟩
    replace kR := kR h k2
    have n2 := k2.1
    (refine go ?_)
    refine WL.call rfl (by first | exact True.intro | exact rfl) (by repeat first | exact SubL.nil | refine SubL.cons (SubV.refl _) ?_ | refine SubL.cons SubV.app ?_ | refine SubL.cons SubV.nil ?_) (ref18_Turn_ae oR (by simp) N k b hT (by omega) (by omega)) ?_
    refine WL.named (fun h4 => Keeps h h4) ((kR.set (by omega) _).set (by omega) _) ?_
    rintro h4 k4
    generalize (turnF md N k b []).1 = M at *
    (refine go ?_)
    refine WL.call rfl (by first | exact True.intro | exact rfl) (by repeat first | exact SubL.nil | refine SubL.cons (SubV.refl _) ?_ | refine SubL.cons SubV.app ?_ | refine SubL.cons SubV.nil ?_) (tree_Top_ae N (by omega) _) ?_
    have k5 := k4.1
    (refine go ?_)
    refine WL.call rfl (by first | exact True.intro | exact rfl) (by repeat first | exact SubL.nil | refine SubL.cons (SubV.refl _) ?_ | refine SubL.cons SubV.app ?_ | refine SubL.cons SubV.nil ?_) (ref18_Same_ae M M (by omega) (by omega) _) ?_
    rw [show (M == M) = true by simp]
    (refine go ?_)
    refine WL.call rfl (by first | exact True.intro | exact rfl) (by repeat first | exact SubL.nil | refine SubL.cons (SubV.refl _) ?_ | refine SubL.cons SubV.app ?_ | refine SubL.cons SubV.nil ?_) (ref18_Is_ae N (by omega) _) ?_
    rw [hT]
    (refine go ?_)
    refine WL.call rfl (by first | exact True.intro | exact rfl) (by repeat first | exact SubL.nil | refine SubL.cons (SubV.refl _) ?_ | refine SubL.cons SubV.app ?_ | refine SubL.cons SubV.nil ?_) (law18_known_ae _) ?_
    (refine go ?_)
    refine WW.ret (PureQ.finD ?_)
    exact fz_b rfl
  | false =>
    refine WL.call rfl (by first | exact True.intro | exact rfl) (by repeat first | exact SubL.nil | refine SubL.cons (SubV.refl _) ?_ | refine SubL.cons SubV.app ?_ | refine SubL.cons SubV.nil ?_) (tree_Turn_no N (by omega) i hin _) ?_
    (refine go ?_)
    refine WL.callA rfl (by first | exact True.intro | exact rfl) (by repeat first | exact SubL.nil | refine SubL.cons (SubV.refl _) ?_ | refine SubL.cons SubV.app ?_ | refine SubL.cons SubV.nil ?_) (ref8_NewG_ac md _) ?_
    rintro _ h3 ⟨l3, o3, t1, t2, rfl, oR, oo, ot, nR, kR, _⟩
    replace kR := kR h kL
    (refine go ?_)
    refine WL.call rfl (by first | exact True.intro | exact rfl) (by repeat first | exact SubL.nil | refine SubL.cons (SubV.refl _) ?_ | refine SubL.cons SubV.app ?_ | refine SubL.cons SubV.nil ?_) (ref18_Turn_no N (by omega) i hin _) ?_
    (refine go ?_)
    refine WL.call rfl (by first | exact True.intro | exact rfl) (by repeat first | exact SubL.nil | refine SubL.cons (SubV.refl _) ?_ | refine SubL.cons SubV.app ?_ | refine SubL.cons SubV.nil ?_) (tree_Top_ae N (by omega) _) ?_
    have k5 := kR.1
    (refine go ?_)
    refine WL.call rfl (by first | exact True.intro | exact rfl) (by repeat first | exact SubL.nil | refine SubL.cons (SubV.refl _) ?_ | refine SubL.cons SubV.app ?_ | refine SubL.cons SubV.nil ?_) (ref18_Same_ae [] [] (by simp) (by simp) _) ?_
    rw [show (([] : List Pr) == []) = true by simp]
    (refine go ?_)
    refine WL.call rfl (by first | exact True.intro | exact rfl) (by repeat first | exact SubL.nil | refine SubL.cons (SubV.refl _) ?_ | refine SubL.cons SubV.app ?_ | refine SubL.cons SubV.nil ?_) (ref18_Is_ae N (by omega) _) ?_
    (refine go ?_)
    (refine WL.spB rfl (fun hz3 => ?_) (fun hz3 => ?_))
    rotate_left
    · exfalso; simp at hz3
    (refine go ?_)
    refine WL.call rfl (by first | exact True.intro | exact rfl) (by repeat first | exact SubL.nil | refine SubL.cons (SubV.refl _) ?_ | refine SubL.cons SubV.app ?_ | refine SubL.cons SubV.nil ?_) (law18_known_ae _) ?_
    (refine go ?_)
    refine WW.ret (PureQ.finD ?_)
    exact fz_b rfl
theorem top_TreeTurns (c0 : List AV) (t0 : TypL [.b] c0) (c1 : List AV) (t1 : TypL [.sl [.i .u64, .i .u64]] c1) (c2 : List AV) (t2 : TypL [.i .i64] c2) (c3 : List AV) (t3 : TypL [.sl [.i .u8]] c3) :
    AE Try.prog 16 [c0.headD .nilp, c1.headD .nilp, c2.headD .nilp, c3.headD .nilp] noHeap (.bool true) noHeap := by
  obtain ⟨v, rfl⟩ := bool_of8 t0
  obtain ⟨N, rfl, _⟩ := pairs_of t1
  obtain ⟨i, rfl, _⟩ := int_of t2
  obtain ⟨b, rfl⟩ := bytes_of t3
  exact law18_TreeTurns_ae v N i b noHeap
end Go.Proofs.Ytlddahcgaonlhaa
