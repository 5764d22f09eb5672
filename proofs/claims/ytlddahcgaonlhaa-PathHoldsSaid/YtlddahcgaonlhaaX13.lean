/- The document's lock. -/
import Derived.Test.YtlddahcgaonlhaaX12
set_option linter.all false
namespace Go.Proofs.Ytlddahcgaonlhaa
open Go Go.Abs

theorem ref8_NewR_ae {h : AHeap} {nx : Nat} (hn : h.next = nx) : AE Try.prog 38 [.bool false] h (.ptr nx 0 0) (h.put nx (.mem 1 [[.nilp]])) := by
  subst hn
  refine AC.introW is_ref8_New (by simp) ?_
  unfold c_ref8_New
  (refine go ?_)
  exact WW.ret ⟨.inl rfl, _, (by repeat first | exact resA_nil | (apply resA_t; exact rfl) | (apply resA_c; exact rfl; exact gH; exact (by first | exact getC_at rfl rfl | exact getC_all rfl | exact getC_sub (Nat.le_of_ble_eq_true rfl) (by first | (simp only [putC, AV.cs, encP, encN, encI, encS, encA, List.take_succ_cons, List.take_zero, List.take_nil, List.drop_succ_cons, List.drop_zero, List.drop_nil, List.cons_append, List.nil_append, List.append_nil, List.length_cons, List.length_nil, Nat.zero_add, Nat.add_zero, Nat.reduceAdd]; exact rfl) | exact rfl) | exact getC_sub (by simp) (by first | (simp only [putC, AV.cs, encP, encN, encI, encS, encA, List.take_succ_cons, List.take_zero, List.take_nil, List.drop_succ_cons, List.drop_zero, List.drop_nil, List.cons_append, List.nil_append, List.append_nil, List.length_cons, List.length_nil, Nat.zero_add, Nat.add_zero, Nat.reduceAdd]; exact rfl) | exact rfl)))), rfl, rfl⟩
theorem ref8_SealR_ae {h : AHeap} {l : Nat} (hl : h.get l = some (.mem 1 [[.nilp]])) (key : Pr) (n : Nn) (head data : Bs) (h1 : head.length ≤ 4000) (h2 : data.length ≤ 4000) :
    AE Try.prog 39 [.ptr l 0 0, .agg (encP key), .agg (encN n), .imm 1 (head.map encB), .imm 1 (data.map encB)] h (.tup [.agg (encS (gcmB key n data) (gcmT key n head (gcmB key n data))), .bool true]) h := by
  refine AE.wf fun hwf => ?_
  have h0 := hwf _ _ hl
  refine AE.pureW is_ref8_Lock_Seal (by simp) ?_
  unfold c_ref8_Lock_Seal
  (refine go ?_)
  refine WL.call rfl (by first | exact True.intro | exact rfl) (by repeat first | exact SubL.nil | refine SubL.cons (SubV.refl _) ?_ | refine SubL.cons SubV.app ?_ | refine SubL.cons SubV.nil ?_) (ref5_Seal_ae key n head data h1 h2 _) ?_
  (refine go ?_)
  refine WW.ret (PureQ.finD ?_)
  exact fz_seal _ _
theorem ref8_OpenR_ae {h : AHeap} {l : Nat} (hl : h.get l = some (.mem 1 [[.nilp]])) (key : Pr) (n : Nn) (head b : Bs) (tg : Pr) (h1 : head.length ≤ 4000) (h2 : b.length ≤ 4000) :
    AE Try.prog 40 [.ptr l 0 0, .agg (encP key), .agg (encN n), .imm 1 (head.map encB), .agg (encS b tg)] h (.tup [.imm 1 (((gcmO key n head b tg).getD []).map encB), .bool (gcmO key n head b tg).isSome]) h := by
  refine AE.wf fun hwf => ?_
  have h0 := hwf _ _ hl
  refine AE.pureW is_ref8_Lock_Open (by simp) ?_
  unfold c_ref8_Lock_Open
  (refine go ?_)
  refine WL.call rfl (by first | exact True.intro | exact rfl) (by repeat first | exact SubL.nil | refine SubL.cons (SubV.refl _) ?_ | refine SubL.cons SubV.app ?_ | refine SubL.cons SubV.nil ?_) (ref5_Open_ae key n head b tg h1 h2 _) ?_
  (refine go ?_)
  refine WW.ret (PureQ.finD ?_)
  exact Fz.tup2 (fz_immB rfl) (fz_b rfl)
theorem ref8_SumR_ae {h : AHeap} {l : Nat} (hl : h.get l = some (.mem 1 [[.nilp]])) (p : Bs) (hp : p.length ≤ 1000000) :
    AE Try.prog 42 [.ptr l 0 0, .imm 1 (p.map encB)] h (.agg (encP (digestF p))) h := by
  refine AE.wf fun hwf => ?_
  have h0 := hwf _ _ hl
  refine AE.pureW is_ref8_Lock_Sum (by simp) ?_
  unfold c_ref8_Lock_Sum
  (refine go ?_)
  refine WL.call rfl (by first | exact True.intro | exact rfl) (by repeat first | exact SubL.nil | refine SubL.cons (SubV.refl _) ?_ | refine SubL.cons SubV.app ?_ | refine SubL.cons SubV.nil ?_) (ref6_Sum_ae p hp _) ?_
  (refine go ?_)
  refine WW.ret (PureQ.finD ?_)
  exact fz_agg rfl (flatP (digestF p))
theorem ref8_IssuedR_ae {h : AHeap} {l : Nat} (hl : h.get l = some (.mem 1 [[.nilp]])) : AE Try.prog 44 [.ptr l 0 0] h (.imm 10 []) h := by
  refine AE.pureW is_ref8_Lock_Issued (by simp) ?_
  unfold c_ref8_Lock_Issued
  (refine go ?_)
  refine WW.ret (PureQ.finD ?_)
  exact .nil _
end Go.Proofs.Ytlddahcgaonlhaa
