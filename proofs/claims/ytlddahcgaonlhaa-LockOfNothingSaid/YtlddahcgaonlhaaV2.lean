/- LockOfNothing. -/
import Derived.Test.YtlddahcgaonlhaaX11
import Derived.Test.YtlddahcgaonlhaaV1
set_option linter.all false
namespace Go.Proofs.Ytlddahcgaonlhaa
open Go Go.Abs

theorem law8_LockOfNothing_ae (b : Bs) (h : AHeap) : AE Try.prog 11 [.imm 1 (b.map encB)] h (.bool true) h := by
  refine AE.pureW is_law8_LockOfNothing (by simp) ?_
  unfold c_law8_LockOfNothing
  (refine go ?_)
  (refine WW.ifB rfl (fun hz1 => ?_) (fun hz1 => ?_))
  · (refine go ?_)
    refine WW.ret (PureQ.finD ?_)
    exact fz_b rfl
  (refine go ?_)
  refine WL.call rfl (by first | exact True.intro | exact rfl) (by repeat first | exact SubL.nil | refine SubL.cons (SubV.refl _) ?_ | refine SubL.cons SubV.app ?_ | refine SubL.cons SubV.nil ?_) (lock_SealN_ae (0, 0) (0, 0, 0) _ _ _) ?_
  (refine go ?_)
  refine WL.call rfl (by first | exact True.intro | exact rfl) (SubL.cons (SubV.refl _) (SubL.cons (SubV.refl _) (SubL.cons (SubV.refl _) (SubL.cons (SubV.refl _) (SubL.cons (SubV.refl _) SubL.nil))))) (lock_OpenN_ae (0, 0) (0, 0, 0) _ _ (0, 0) _) ?_
  (refine go ?_)
  refine WL.call rfl (by first | exact True.intro | exact rfl) (by repeat first | exact SubL.nil | refine SubL.cons (SubV.refl _) ?_ | refine SubL.cons SubV.app ?_ | refine SubL.cons SubV.nil ?_) (lock_SumN_ae _ _) ?_
  (refine go ?_)
  refine WL.call rfl (by first | exact True.intro | exact rfl) (by repeat first | exact SubL.nil | refine SubL.cons (SubV.refl _) ?_ | refine SubL.cons SubV.app ?_ | refine SubL.cons SubV.nil ?_) (lock_IssuedN_ae _) ?_
  (refine go ?_)
  refine WL.call rfl (by first | exact True.intro | exact rfl) (by repeat first | exact SubL.nil | refine SubL.cons (SubV.refl _) ?_ | refine SubL.cons SubV.app ?_ | refine SubL.cons SubV.nil ?_) (lock_TwiceN_ae _) ?_
  (refine go ?_)
  refine WL.call rfl (by first | exact True.intro | exact rfl) (by repeat first | exact SubL.nil | refine SubL.cons (SubV.refl _) ?_ | refine SubL.cons SubV.app ?_ | refine SubL.cons SubV.nil ?_) (law8_known_ae _) ?_
  (refine go ?_)
  refine WW.ret (PureQ.finD ?_)
  exact fz_b rfl
theorem top_LockOfNothing (c0 : List AV) (t0 : TypL [.sl [.i .u8]] c0) :
    AE Try.prog 11 [c0.headD .nilp] noHeap (.bool true) noHeap := by
  obtain ⟨a, rfl⟩ := bytes_of t0
  exact law8_LockOfNothing_ae a noHeap
end Go.Proofs.Ytlddahcgaonlhaa
