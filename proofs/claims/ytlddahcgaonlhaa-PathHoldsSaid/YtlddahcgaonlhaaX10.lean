/- The real lock. -/
import Derived.Test.YtlddahcgaonlhaaX9
import Derived.Test.YtlddahcgaonlhaaAD
import Derived.Test.YtlddahcgaonlhaaCL8
set_option linter.all false
namespace Go.Proofs.Ytlddahcgaonlhaa
open Go Go.Abs

/-- A real lock's cells. -/
def reC : List AV := [.func (.func 64) [] [], .func (.func 65) [] [], .func (.func 66) [] [], .func (.func 56) [.nilp] [], .func (.func 57) [.nilp] []]
theorem lock_Real_ae {h : AHeap} {nx : Nat} (hn : h.next = nx) : AE Try.prog 29 [] h (.ptr nx 0 0) (h.put nx (.mem 5 [reC])) := by
  subst hn
  refine AC.introW is_lock_Real (by simp) ?_
  unfold c_lock_Real
  (refine go ?_)
  exact WW.ret ⟨.inl rfl, _, (by repeat first | exact resA_nil | (apply resA_t; exact rfl) | (apply resA_c; exact rfl; exact gH; exact (by first | exact getC_at rfl rfl | exact getC_all rfl | exact getC_sub (Nat.le_of_ble_eq_true rfl) (by first | (simp only [putC, AV.cs, encP, encN, encI, encS, encA, List.take_succ_cons, List.take_zero, List.take_nil, List.drop_succ_cons, List.drop_zero, List.drop_nil, List.cons_append, List.nil_append, List.append_nil, List.length_cons, List.length_nil, Nat.zero_add, Nat.add_zero, Nat.reduceAdd]; exact rfl) | exact rfl) | exact getC_sub (by simp) (by first | (simp only [putC, AV.cs, encP, encN, encI, encS, encA, List.take_succ_cons, List.take_zero, List.take_nil, List.drop_succ_cons, List.drop_zero, List.drop_nil, List.cons_append, List.nil_append, List.append_nil, List.length_cons, List.length_nil, Nat.zero_add, Nat.add_zero, Nat.reduceAdd]; exact rfl) | exact rfl)))), rfl, rfl⟩
theorem lock_SumR_ae {h : AHeap} {l : Nat} (hl : h.get l = some (.mem 5 [reC])) (rows : List Bs) (hr1 : rows.length ≤ 1000000) (hr2 : rows.flatten.length ≤ 1000000) :
    AE Try.prog 41 [.ptr l 0 0, .imm 1 (rows.map encR)] h (.agg (encP (digestF rows.flatten))) h := by
  refine AE.wf fun hwf => ?_
  have h0 := hwf _ _ hl
  refine AE.pureW is_lock_Lock_Sum (by simp) ?_
  unfold c_lock_Lock_Sum
  simp only [reC] at hl
  (refine go ?_)
  refine WL.fx1 (FX.callv rfl rfl (by first | exact True.intro | exact rfl) (by kernel_rfl) (digest_Sum_ae rows hr1 hr2 _)) ?_
  generalize rows.flatten = p at *
  (refine go ?_)
  refine WW.ret (PureQ.finD ?_)
  exact fz_agg rfl (flatP (digestF p))
theorem lock_SealR_ae {h : AHeap} {l : Nat} (hl : h.get l = some (.mem 5 [reC])) (key : Pr) (n : Nn) (head data : Bs) (h1 : head.length ≤ 4000) (h2 : data.length ≤ 4000) :
    AE Try.prog 30 [.ptr l 0 0, .agg (encP key), .agg (encN n), .imm 1 (head.map encB), .imm 1 (data.map encB)] h (.tup [.agg (encS (gcmB key n data) (gcmT key n head (gcmB key n data))), .bool true]) h := by
  refine AE.wf fun hwf => ?_
  have h0 := hwf _ _ hl
  refine AE.pureW is_lock_Lock_Seal (by simp) ?_
  unfold c_lock_Lock_Seal
  simp only [reC] at hl
  (refine go ?_)
  refine DW.fxR (FX.callv rfl rfl (by first | exact True.intro | exact rfl) (by kernel_rfl) (gcm_Seal_ae key n head data h1 h2 _)) rfl rfl ?_
  (refine go ?_)
  refine WW.ret (PureQ.finD ?_)
  exact fz_seal _ _
theorem lock_OpenR_ae {h : AHeap} {l : Nat} (hl : h.get l = some (.mem 5 [reC])) (key : Pr) (n : Nn) (head b : Bs) (tg : Pr) (h1 : head.length ≤ 4000) (h2 : b.length ≤ 4000) :
    AE Try.prog 35 [.ptr l 0 0, .agg (encP key), .agg (encN n), .imm 1 (head.map encB), .agg (encS b tg)] h (.tup [.imm 1 (((gcmO key n head b tg).getD []).map encB), .bool (gcmO key n head b tg).isSome]) h := by
  refine AE.wf fun hwf => ?_
  have h0 := hwf _ _ hl
  refine AE.pureW is_lock_Lock_Open (by simp) ?_
  unfold c_lock_Lock_Open
  simp only [reC] at hl
  (refine go ?_)
  refine DW.fxR (FX.callv rfl rfl (by first | exact True.intro | exact rfl) (by kernel_rfl) (gcm_Open_ae key n head b tg h1 h2 _)) rfl rfl ?_
  (refine go ?_)
  refine WW.ret (PureQ.finD ?_)
  exact Fz.tup2 (fz_immB rfl) (fz_b rfl)
end Go.Proofs.Ytlddahcgaonlhaa
