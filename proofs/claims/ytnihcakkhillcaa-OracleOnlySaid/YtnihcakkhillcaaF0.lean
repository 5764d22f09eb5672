/- First functions: which numbers of slots may be; is it a tree; its top. -/
import Derived.Test.YtnihcakkhillcaaC
import Derived.Test.YtnihcakkhillcaaA29
namespace Go.Proofs.Ytnihcakkhillcaa
open Go Go.Abs
instance moI : MO Try.prog := ⟨by kernel_rfl⟩

def isG (n : Int) : Bool := n == 4 || n == 8 || n == 16



theorem geom_Is_ae (n : Int) (h : AHeap) : AE Try.prog 42 [.int .i64 n] h (.bool (isG n)) h := by
  refine AE.pureW is_geom_Is (by simp) ?_
  unfold c_geom_Is
  (refine go ?_)
  (refine WL.spB rfl (fun hz => ?_) (fun hz => ?_)) <;> (refine go ?_)
  · refine WW.ret (PureQ.finD ?_)
    exact fz_b (by simp [isG, hz])
  (refine WL.spB rfl (fun hz8 => ?_) (fun hz8 => ?_)) <;> (refine go ?_)
  all_goals
    refine WW.ret (PureQ.finD ?_)
    exact fz_b (by simp [isG, hz, hz8])

theorem ref17_Is_ae (n : Int) (h : AHeap) : AE Try.prog 38 [.int .i64 n] h (.bool (isG n)) h := by
  refine AE.pureW is_ref17_Is (by simp) ?_
  unfold c_ref17_Is
  (refine go ?_)
  (refine WL.spB rfl (fun hz => ?_) (fun hz => ?_)) <;> (refine go ?_)
  · refine WW.ret (PureQ.finD ?_)
    exact fz_b (by simp [isG, hz])
  (refine WL.spB rfl (fun hz8 => ?_) (fun hz8 => ?_)) <;> (refine go ?_)
  all_goals
    refine WW.ret (PureQ.finD ?_)
    exact fz_b (by simp [isG, hz, hz8])

def isT (n : Nat) : Bool := n % 2 == 0 && isG (n / 2 : Nat)

theorem tree_is_ae (l : List Pr) (hl : l.length ≤ 1000000) (h : AHeap) : AE Try.prog 37 [.imm 2 (l.map encP)] h (.bool (isT l.length)) h := by
  refine AE.pureW is_tree_is (by simp) ?_
  unfold c_tree_is
  (refine go ?_)
  (refine WL.spB rfl (fun hz => ?_) (fun hz => ?_)) <;> (refine go ?_)
  · refine WL.call rfl (by first | exact True.intro | exact rfl) (by repeat first | exact SubL.nil | refine SubL.cons (SubV.refl _) ?_ | refine SubL.cons SubV.app ?_ | refine SubL.cons SubV.nil ?_) (geom_Is_ae _ _) ?_
    (refine go ?_)
    refine WW.ret (PureQ.finD ?_)
    refine fz_b ?_
    have h2 : l.length % 2 = 0 := by omega
    simp [isT, h2]
  · refine WW.ret (PureQ.finD ?_)
    refine fz_b ?_
    have h2 : l.length % 2 ≠ 0 := by omega
    simp [isT, h2]
theorem ref18_Is_ae (l : List Pr) (hl : l.length ≤ 1000000) (h : AHeap) : AE Try.prog 29 [.imm 2 (l.map encP)] h (.bool (isT l.length)) h := by
  refine AE.pureW is_ref18_Is (by simp) ?_
  unfold c_ref18_Is
  (refine go ?_)
  (refine WL.spB rfl (fun hz => ?_) (fun hz => ?_)) <;> (refine go ?_)
  · refine WL.call rfl (by first | exact True.intro | exact rfl) (by repeat first | exact SubL.nil | refine SubL.cons (SubV.refl _) ?_ | refine SubL.cons SubV.app ?_ | refine SubL.cons SubV.nil ?_) (ref17_Is_ae _ _) ?_
    (refine go ?_)
    refine WW.ret (PureQ.finD ?_)
    refine fz_b ?_
    have h2 : l.length % 2 = 0 := by omega
    simp [isT, h2]
  · refine WW.ret (PureQ.finD ?_)
    refine fz_b ?_
    have h2 : l.length % 2 ≠ 0 := by omega
    simp [isT, h2]
end Go.Proofs.Ytnihcakkhillcaa
