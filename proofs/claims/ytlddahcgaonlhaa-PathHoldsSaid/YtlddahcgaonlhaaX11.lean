/- A nil lock, a nil sealer; what a lock of either kind remembers. -/
import Derived.Test.YtlddahcgaonlhaaX10
import Derived.Test.YtlddahcgaonlhaaK1
set_option linter.all false
namespace Go.Proofs.Ytlddahcgaonlhaa
open Go Go.Abs

theorem lock_SealN_ae (key : Pr) (n : Nn) (a b : AV) (h : AHeap) : AE Try.prog 30 [.nilp, .agg (encP key), .agg (encN n), a, b] h (.tup [.agg [.nils, .int .u64 0, .int .u64 0], .bool false]) h := by
  refine AE.pureW is_lock_Lock_Seal (by simp) ?_
  unfold c_lock_Lock_Seal
  (refine go ?_)
  refine WW.ret (PureQ.finD ?_)
  exact Fz.tup2 (.clo _ (.agg _ fun v hv => by
    simp only [List.mem_cons, List.not_mem_nil, or_false] at hv
    rcases hv with rfl | rfl | rfl
    · exact .nils
    · exact .int _ _
    · exact .int _ _)) (fz_b rfl)
theorem lock_OpenN_ae (key : Pr) (n : Nn) (a b : AV) (t : Pr) (h : AHeap) : AE Try.prog 35 [.nilp, .agg (encP key), .agg (encN n), a, .agg [b, .int .u64 t.1, .int .u64 t.2]] h (.tup [.imm 1 [], .bool false]) h := by
  refine AE.pureW is_lock_Lock_Open (by simp) ?_
  unfold c_lock_Lock_Open
  (refine go ?_)
  refine WW.ret (PureQ.finD ?_)
  exact Fz.tup2 (.nil _) (fz_b rfl)
theorem lock_SumN_ae (a : AV) (h : AHeap) : AE Try.prog 41 [.nilp, a] h (.agg (encP (0, 0))) h := by
  refine AE.pureW is_lock_Lock_Sum (by simp) ?_
  unfold c_lock_Lock_Sum
  (refine go ?_)
  refine WW.ret (PureQ.finD ?_)
  exact fz_agg rfl (flatP (0, 0))
theorem lock_IssuedN_ae (h : AHeap) : AE Try.prog 37 [.nilp] h (.imm 10 []) h := by
  refine AE.pureW is_lock_Lock_Issued (by simp) ?_
  unfold c_lock_Lock_Issued
  (refine go ?_)
  refine WW.ret (PureQ.finD ?_)
  exact .nil _
theorem lock_TwiceN_ae (h : AHeap) : AE Try.prog 36 [.nilp] h (.bool false) h := by
  refine AE.pureW is_lock_Lock_Twice (by simp) ?_
  unfold c_lock_Lock_Twice
  (refine go ?_)
  refine WW.ret (PureQ.finD ?_)
  exact fz_b rfl
theorem oracle_IssuedN_ae (h : AHeap) : AE Try.prog 56 [.nilp] h (.imm 10 []) h := by
  refine AE.pureW is_oracle_Oracle_Issued (by simp) ?_
  unfold c_oracle_Oracle_Issued
  (refine go ?_)
  refine WW.ret (PureQ.finD ?_)
  exact .nil _
theorem oracle_TwiceN_ae (h : AHeap) : AE Try.prog 57 [.nilp] h (.bool false) h := by
  refine AE.pureW is_oracle_Oracle_Twice (by simp) ?_
  unfold c_oracle_Oracle_Twice
  (refine go ?_)
  refine WW.ret (PureQ.finD ?_)
  exact fz_b rfl
theorem lock_IssuedR_ae {h : AHeap} {l : Nat} (hl : h.get l = some (.mem 5 [reC])) : AE Try.prog 37 [.ptr l 0 0] h (.imm 10 []) h := by
  refine AE.pureW is_lock_Lock_Issued (by simp) ?_
  unfold c_lock_Lock_Issued
  simp only [reC] at hl
  (refine go ?_)
  refine WL.fx1 (FX.callv rfl rfl (by first | exact True.intro | exact rfl) (by kernel_rfl) (oracle_IssuedN_ae _)) ?_
  (refine go ?_)
  refine WW.ret (PureQ.finD ?_)
  exact fz_imm rfl (by simp [flatC])
theorem lock_TwiceR_ae {h : AHeap} {l : Nat} (hl : h.get l = some (.mem 5 [reC])) : AE Try.prog 36 [.ptr l 0 0] h (.bool false) h := by
  refine AE.pureW is_lock_Lock_Twice (by simp) ?_
  unfold c_lock_Lock_Twice
  simp only [reC] at hl
  (refine go ?_)
  refine WL.fx1 (FX.callv rfl rfl (by first | exact True.intro | exact rfl) (by kernel_rfl) (oracle_TwiceN_ae _)) ?_
  (refine go ?_)
  refine WW.ret (PureQ.finD ?_)
  exact fz_b rfl
theorem lock_TwiceI_ae {h : AHeap} {l o t s g : Nat} {L : List Iss} {S : List Bs} (hl : IdAt h l o t s g L S) (hL : L.length ≤ 1000000) : AE Try.prog 36 [.ptr l 0 0] h (.bool (dupB (L.map kn))) h := by
  obtain ⟨q0, hO⟩ := hl
  refine AE.pureW is_lock_Lock_Twice (by simp) ?_
  unfold c_lock_Lock_Twice
  simp only [idC] at q0
  (refine go ?_)
  refine WL.fx1 (FX.callv rfl rfl (by first | exact True.intro | exact rfl) (by kernel_rfl) (oracle_Twice_ae hO hL)) ?_
  (refine go ?_)
  refine WW.ret (PureQ.finD ?_)
  exact fz_b rfl
end Go.Proofs.Ytlddahcgaonlhaa
