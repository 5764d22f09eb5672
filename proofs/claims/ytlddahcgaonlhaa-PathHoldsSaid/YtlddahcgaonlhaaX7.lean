/- Seal, Open: the code's and the document's. -/
import Derived.Test.YtlddahcgaonlhaaX6
set_option linter.all false
namespace Go.Proofs.Ytlddahcgaonlhaa
open Go Go.Abs

theorem gcm_may_ae (a b : Bs) (h1 : a.length ≤ 4000) (h2 : b.length ≤ 4000) (h : AHeap) : AE Try.prog 84 [.imm 1 (a.map encB), .imm 1 (b.map encB)] h (.bool true) h := by
  refine AE.pureW is_gcm_may (by simp) ?_
  unfold c_gcm_may
  (refine go ?_)
  (apply WL.andB; exact rfl; exact rfl; exact rfl; exact BP.of; intro hz1)
  · (repeat first | (apply GW.goS; exact Stp.auto) | apply GW.nil | exact rfl)
  (refine go ?_)
  refine WW.ret (PureQ.finD ?_)
  exact fz_b (by simp; omega)
theorem gcmB_len (key : Pr) (n : Nn) (data : Bs) : (gcmB key n data).length = data.length := by rw [gcmB, xorB_len (flowF_len _ _)]
theorem fz_seal {h h1 : AHeap} (b : Bs) (t : Pr) : Fz h h1 (.tup [.agg (encS b t), .bool true]) (.tup [.agg (encS b t), .bool true]) := Fz.tup2 (.clo _ (.agg _ (clo_encS b t))) (fz_b rfl)
attribute [local irreducible] encF mulF addF evalF pairsF tagL subF flowF tagF xorB
theorem gcm_Seal_ae (key : Pr) (n : Nn) (head data : Bs) (h1 : head.length ≤ 4000) (h2 : data.length ≤ 4000) (h : AHeap) : AE Try.prog 64 [.agg (encP key), .agg (encN n), .imm 1 (head.map encB), .imm 1 (data.map encB)] h (.tup [.agg (encS (gcmB key n data) (gcmT key n head (gcmB key n data))), .bool true]) h := by
  refine AE.pureW is_gcm_Seal (by simp) ?_
  unfold c_gcm_Seal
  (refine go ?_)
  refine WL.call rfl (by first | exact True.intro | exact rfl) (by repeat first | exact SubL.nil | refine SubL.cons (SubV.refl _) ?_ | refine SubL.cons SubV.app ?_ | refine SubL.cons SubV.nil ?_) (gcm_may_ae head data h1 h2 _) ?_
  (refine go ?_)
  refine WL.call rfl (by first | exact True.intro | exact rfl) (by repeat first | exact SubL.nil | refine SubL.cons (SubV.refl _) ?_ | refine SubL.cons SubV.app ?_ | refine SubL.cons SubV.nil ?_) (flow_Sub_ae key n _) ?_
  (refine go ?_)
  refine WL.call rfl (by first | exact True.intro | exact rfl) (by repeat first | exact SubL.nil | refine SubL.cons (SubV.refl _) ?_ | refine SubL.cons SubV.app ?_ | refine SubL.cons SubV.nil ?_) (flow_Bytes_ae (subF key n) data.length h2 _) ?_
  (refine go ?_)
  refine WL.call rfl (by first | exact True.intro | exact rfl) (by repeat first | exact SubL.nil | refine SubL.cons (SubV.refl _) ?_ | refine SubL.cons SubV.app ?_ | refine SubL.cons SubV.nil ?_) (flow_Xor_ae data (flowF (subF key n) data.length) (flowF_len _ _) h2 _) ?_
  (refine go ?_)
  refine WL.call rfl (by first | exact True.intro | exact rfl) (by repeat first | exact SubL.nil | refine SubL.cons (SubV.refl _) ?_ | refine SubL.cons SubV.app ?_ | refine SubL.cons SubV.nil ?_) (gcm_Tag_ae (subF key n) head (xorB data (flowF (subF key n) data.length)) h1 (by rw [xorB_len (flowF_len _ _)]; exact h2) _) ?_
  (refine go ?_)
  refine WW.ret (PureQ.finD ?_)
  exact fz_seal (gcmB key n data) (gcmT key n head (gcmB key n data))
theorem ref5_Seal_ae (key : Pr) (n : Nn) (head data : Bs) (h1 : head.length ≤ 4000) (h2 : data.length ≤ 4000) (h : AHeap) : AE Try.prog 31 [.agg (encP key), .agg (encN n), .imm 1 (head.map encB), .imm 1 (data.map encB)] h (.tup [.agg (encS (gcmB key n data) (gcmT key n head (gcmB key n data))), .bool true]) h := by
  refine AE.pureW is_ref5_Seal (by simp) ?_
  unfold c_ref5_Seal
  (refine go ?_)
  (apply WL.orB; exact rfl; exact rfl; exact rfl; exact BP.of; intro hz1)
  · (repeat first | (apply GW.goS; exact Stp.auto) | apply GW.nil | exact rfl)
  refine WL.nil ?_
  (repeat first | refine WW.seq ?_ | refine WW.reg ?_ | refine WL.nil ?_ | refine WW.skip ?_ | refine WW.block ?_ | refine thenN ?_ | refine blkN ?_)
  (refine WW.ifB rfl (fun hz2 => ?_) (fun hz2 => ?_))
  · exfalso; simp at hz2; omega
  (refine go ?_)
  refine WL.call rfl (by first | exact True.intro | exact rfl) (by repeat first | exact SubL.nil | refine SubL.cons (SubV.refl _) ?_ | refine SubL.cons SubV.app ?_ | refine SubL.cons SubV.nil ?_) (ref4_Sub_ae key n _) ?_
  (refine go ?_)
  refine WL.call rfl (by first | exact True.intro | exact rfl) (by repeat first | exact SubL.nil | refine SubL.cons (SubV.refl _) ?_ | refine SubL.cons SubV.app ?_ | refine SubL.cons SubV.nil ?_) (ref4_Bytes_ae (subF key n) data.length h2 _) ?_
  (refine go ?_)
  refine WL.call rfl (by first | exact True.intro | exact rfl) (by repeat first | exact SubL.nil | refine SubL.cons (SubV.refl _) ?_ | refine SubL.cons SubV.app ?_ | refine SubL.cons SubV.nil ?_) (ref4_Xor_ae data (flowF (subF key n) data.length) (flowF_len _ _) h2 _) ?_
  (refine go ?_)
  refine WL.call rfl (by first | exact True.intro | exact rfl) (by repeat first | exact SubL.nil | refine SubL.cons (SubV.refl _) ?_ | refine SubL.cons SubV.app ?_ | refine SubL.cons SubV.nil ?_) (ref5_Tag_ae (subF key n) head (xorB data (flowF (subF key n) data.length)) h1 (by rw [xorB_len (flowF_len _ _)]; exact h2) _) ?_
  (refine go ?_)
  refine WW.ret (PureQ.finD ?_)
  exact fz_seal (gcmB key n data) (gcmT key n head (gcmB key n data))
theorem gcmO_T {key : Pr} {n : Nn} {head b : Bs} {tg : Pr} (h1 : head.length ≤ 4000) (h2 : b.length ≤ 4000) (ht : gcmT key n head b = tg) : gcmO key n head b tg = some (gcmB key n b) := by rw [gcmO, if_pos ⟨h1, h2, ht⟩]
theorem gcmO_F {key : Pr} {n : Nn} {head b : Bs} {tg : Pr} (ht : ¬ gcmT key n head b = tg) : gcmO key n head b tg = none := by rw [gcmO, if_neg fun hh => ht hh.2.2]
theorem gcm_Open_ae (key : Pr) (n : Nn) (head b : Bs) (tg : Pr) (h1 : head.length ≤ 4000) (h2 : b.length ≤ 4000) (h : AHeap) : AE Try.prog 65 [.agg (encP key), .agg (encN n), .imm 1 (head.map encB), .agg (encS b tg)] h (.tup [.imm 1 (((gcmO key n head b tg).getD []).map encB), .bool (gcmO key n head b tg).isSome]) h := by
  refine AE.pureW is_gcm_Open (by simp) ?_
  unfold c_gcm_Open
  (refine go ?_)
  refine WL.call rfl (by first | exact True.intro | exact rfl) (by repeat first | exact SubL.nil | refine SubL.cons (SubV.refl _) ?_ | refine SubL.cons SubV.app ?_ | refine SubL.cons SubV.nil ?_) (flow_Sub_ae key n _) ?_
  (refine go ?_)
  refine DW.callS rfl (by first | exact True.intro | exact rfl) (by repeat first | exact SubL.nil | refine SubL.cons (SubV.refl _) ?_ | refine SubL.cons SubV.app ?_ | refine SubL.cons SubV.nil ?_) rfl (gcm_may_ae head b h1 h2 _) ?_
  (refine go ?_)
  refine DW.callS rfl (by first | exact True.intro | exact rfl) (by repeat first | exact SubL.nil | refine SubL.cons (SubV.refl _) ?_ | refine SubL.cons SubV.app ?_ | refine SubL.cons SubV.nil ?_) rfl (gcm_Tag_ae (subF key n) head b h1 h2 _) ?_
  (refine go ?_)
  refine WW.ifB rfl (fun hz => ?_) (fun hz => ?_)
  · (refine go ?_)
    refine WW.ret (PureQ.finD ?_)
    have hn : ¬ gcmT key n head b = tg := by
      intro e
      have h3 : (gcmT key n head b == tg) = false := by rw [← pr_beq]; exact hz
      simp [e] at h3
    rw [gcmO_F hn]
    exact Fz.tup2 (.nil _) (fz_b rfl)
  · (refine go ?_)
    refine DW.callS rfl (by first | exact True.intro | exact rfl) (by repeat first | exact SubL.nil | refine SubL.cons (SubV.refl _) ?_ | refine SubL.cons SubV.app ?_ | refine SubL.cons SubV.nil ?_) rfl (flow_Bytes_ae (subF key n) b.length h2 _) ?_
    (refine go ?_)
    refine DW.callS rfl (by first | exact True.intro | exact rfl) (by repeat first | exact SubL.nil | refine SubL.cons (SubV.refl _) ?_ | refine SubL.cons SubV.app ?_ | refine SubL.cons SubV.nil ?_) rfl (flow_Xor_ae b (flowF (subF key n) b.length) (flowF_len _ _) h2 _) ?_
    (refine go ?_)
    refine WW.ret (PureQ.finD ?_)
    have hy : gcmT key n head b = tg := by
      have h3 : (gcmT key n head b == tg) = true := by rw [← pr_beq]; exact hz
      simpa using h3
    rw [gcmO_T h1 h2 hy]
    exact Fz.tup2 (fz_immB rfl) (fz_b rfl)
theorem ref5_Open_ae (key : Pr) (n : Nn) (head b : Bs) (tg : Pr) (h1 : head.length ≤ 4000) (h2 : b.length ≤ 4000) (h : AHeap) : AE Try.prog 74 [.agg (encP key), .agg (encN n), .imm 1 (head.map encB), .agg (encS b tg)] h (.tup [.imm 1 (((gcmO key n head b tg).getD []).map encB), .bool (gcmO key n head b tg).isSome]) h := by
  refine AE.pureW is_ref5_Open (by simp) ?_
  unfold c_ref5_Open
  (refine go ?_)
  (apply WL.orB; exact rfl; exact rfl; exact rfl; exact BP.of; intro hz1)
  · (repeat first | (apply GW.goS; exact Stp.auto) | apply GW.nil | exact rfl)
  refine WL.nil ?_
  (repeat first | refine WW.seq ?_ | refine WW.reg ?_ | refine WL.nil ?_ | refine WW.skip ?_ | refine WW.block ?_ | refine thenN ?_ | refine blkN ?_)
  (refine WW.ifB rfl (fun hz2 => ?_) (fun hz2 => ?_))
  · exfalso; simp at hz2; omega
  (refine go ?_)
  refine WL.call rfl (by first | exact True.intro | exact rfl) (by repeat first | exact SubL.nil | refine SubL.cons (SubV.refl _) ?_ | refine SubL.cons SubV.app ?_ | refine SubL.cons SubV.nil ?_) (ref4_Sub_ae key n _) ?_
  (refine go ?_)
  refine DW.callS rfl (by first | exact True.intro | exact rfl) (by repeat first | exact SubL.nil | refine SubL.cons (SubV.refl _) ?_ | refine SubL.cons SubV.app ?_ | refine SubL.cons SubV.nil ?_) rfl (ref5_Tag_ae (subF key n) head b h1 h2 _) ?_
  (refine go ?_)
  refine WW.ifB rfl (fun hz => ?_) (fun hz => ?_)
  · (refine go ?_)
    refine WW.ret (PureQ.finD ?_)
    have hn : ¬ gcmT key n head b = tg := by
      intro e
      have h3 : (gcmT key n head b == tg) = false := by rw [← pr_beq]; exact hz
      simp [e] at h3
    rw [gcmO_F hn]
    exact Fz.tup2 (.nil _) (fz_b rfl)
  · (refine go ?_)
    refine DW.callS rfl (by first | exact True.intro | exact rfl) (by repeat first | exact SubL.nil | refine SubL.cons (SubV.refl _) ?_ | refine SubL.cons SubV.app ?_ | refine SubL.cons SubV.nil ?_) rfl (ref4_Bytes_ae (subF key n) b.length h2 _) ?_
    (refine go ?_)
    refine DW.callS rfl (by first | exact True.intro | exact rfl) (by repeat first | exact SubL.nil | refine SubL.cons (SubV.refl _) ?_ | refine SubL.cons SubV.app ?_ | refine SubL.cons SubV.nil ?_) rfl (ref4_Xor_ae b (flowF (subF key n) b.length) (flowF_len _ _) h2 _) ?_
    (refine go ?_)
    refine WW.ret (PureQ.finD ?_)
    have hy : gcmT key n head b = tg := by
      have h3 : (gcmT key n head b == tg) = true := by rw [← pr_beq]; exact hz
      simpa using h3
    rw [gcmO_T h1 h2 hy]
    exact Fz.tup2 (fz_immB rfl) (fz_b rfl)
end Go.Proofs.Ytlddahcgaonlhaa
