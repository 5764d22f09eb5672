/- OracleSums. -/
import Derived.Test.YtnihcakkhillcaaF11
namespace Go.Proofs.Ytnihcakkhillcaa
open Go Go.Abs

theorem and64k (i : Int) : ∃ c : Nat, c < 65536 ∧ bits .and .i64 i 65535 = (c : Int) := by
  have h1 : (BitVec.ofInt 64 i &&& BitVec.ofInt 64 65535).toNat < 65536 := by
    rw [BitVec.toNat_and]
    have h2 : (BitVec.ofInt 64 (65535 : Int)).toNat = 65535 := by decide
    rw [h2]
    exact Nat.lt_succ_of_le Nat.and_le_right
  refine ⟨(BitVec.ofInt 64 i &&& BitVec.ofInt 64 65535).toNat, h1, ?_⟩
  show IntKind.i64.wrap (((BitVec.ofInt 64 i &&& BitVec.ofInt 64 65535).toNat : Nat) : Int) = _
  rw [IntWalk.i64_in]
  omega
theorem sumS_nil (k : Bs) : sumS [] k = [k] := rfl
theorem sumN_nil (k : Bs) : sumN [] k = 1 := rfl
theorem sum_same (k : Bs) (S : List Bs) : sumN (k :: S) k = 1 ∧ sumS (k :: S) k = k :: S := by simp [sumN, sumS, idxS]
theorem sum_ne {a b : Bs} (h : ¬ a = b) : sumN [a] b = 2 ∧ sumS [a] b = [a, b] := by
  have : ¬ b = a := fun e => h e.symm
  simp [sumN, sumS, idxS, this]

theorem orAt_sum {h : AHeap} {o t s g : Nat} {L : List Iss} {S : List Bs} (hO : OrAt h o t s g L S) (S' : List Bs) : OrAt (h.set s (some (.map (encM S')))) o t s g L S' := by
  obtain ⟨q1, q2, q3⟩ := hO
  have n2 : o ≠ s := fun e => by subst e; rw [q1] at q3; cases q3
  have n3 : t ≠ s := fun e => by subst e; rw [q2] at q3; cases q3
  exact ⟨get_set_neE n2 q1, get_set_neE n3 q2, get_set_same⟩

set_option maxHeartbeats 4000000 in
theorem law7_OracleSums_ae (a b : Bs) (i : Int) (h : AHeap) : AE Try.prog 7 [.imm 1 (a.map encB), .imm 1 (b.map encB), .int .i64 i] h (.bool true) h := by
  refine AE.pureW is_law7_OracleSums (by simp) ?_
  unfold c_law7_OracleSums
  (refine go ?_)
  (apply WL.orB; exact rfl; exact rfl; exact rfl; exact BP.of; intro hz1)
  · (repeat first | (apply GW.goS; exact Stp.auto) | apply GW.nil | exact rfl)
  (refine go ?_)
  (refine WW.ifB rfl (fun hz2 => ?_) (fun hz2 => ?_))
  · (refine go ?_)
    refine WW.ret (PureQ.finD ?_)
    exact fz_b rfl
  have ha : a.length ≤ 200 ∧ b.length ≤ 200 := by simp at hz2; omega
  (refine go ?_)
  refine WL.call rfl (by first | exact True.intro | exact rfl) (by repeat first | exact SubL.nil | refine SubL.cons (SubV.refl _) ?_ | refine SubL.cons SubV.app ?_ | refine SubL.cons SubV.nil ?_) (oracle_New_ae _) ?_
  obtain ⟨h1, e1, o1, n1, m1, k1⟩ := newO_ex h
  replace n1 := n1 _ rfl
  replace k1 := k1 h (Keeps.refl _)
  rw [e1]
  (repeat first | refine WL.go ?_ | refine WW.seq ?_ | refine WW.reg ?_ | refine WL.nil ?_ | refine WW.skip ?_ | refine WW.block ?_ | refine WW.exit ?_ | refine WW.condT rfl ?_ | refine WW.condF rfl ?_ | refine WL.gox ?_ | refine thenN ?_ | refine blkN ?_)
  obtain ⟨c, hc, hcb⟩ := and64k i
  have hd : c % (a.length + 1) < a.length + 1 := Nat.mod_lt _ (by omega)
  rw [hcb, show (((c : Nat) : Int).tmod ((a.length + 1 : Nat) : Int)) = ((c % (a.length + 1) : Nat) : Int) from rfl]
  generalize c % (a.length + 1) = d at hd
  refine WW.dregX [3, 7, 24, 28] [10, 12] [h.next] (by repeat first | with_reducible apply next_putE | with_reducible apply next_setE | assumption | exact rfl) (by decide +kernel) ?_
  (refine go ?_)
  refine DW.callSW rfl (by first | exact True.intro | exact rfl) (by repeat first | exact SubL.nil | refine SubL.cons (SubV.refl _) ?_ | refine SubL.cons SubV.app ?_ | refine SubL.cons SubV.nil ?_) rfl rfl (fun hp => by repeat first | exact hp | refine PhiW.setW (by simp) ?_ | refine PhiW.setN (by omega) ?_) (oracle_Sum_ae o1 (by simp) [a] (by simp) (by simp; omega)) ?_
  have o2 := orAt_sum o1 (sumS [] [a].flatten)
  have f1 : ∀ x : Bs, [x].flatten = x := fun x => by simp
  rw [f1, sumS_nil, sumN_nil] at *
  (refine go ?_)
  refine DW.callSW rfl (by first | exact True.intro | exact rfl) (by repeat first | exact SubL.nil | refine SubL.cons (SubV.refl _) ?_ | refine SubL.cons SubV.app ?_ | refine SubL.cons SubV.nil ?_) rfl rfl (fun hp => by repeat first | exact hp | refine PhiW.setW (by simp) ?_ | refine PhiW.setN (by omega) ?_) (oracle_Sum_ae o2 (by simp) [b] (by simp) (by simp; omega)) ?_
  have o3 := orAt_sum o2 (sumS [a] [b].flatten)
  rw [f1] at *
  (refine go ?_)
  (refine DW.spB rfl (fun hz3 => ?_) (fun hz3 => ?_))
  · have hk : ∃ S', sumS [a] b = a :: S' ∧ S'.length ≤ 1 := by
      by_cases hab : a = b
      · subst hab; exact ⟨[], (sum_same a []).2, by simp⟩
      · exact ⟨[b], (sum_ne hab).2, by simp⟩
    obtain ⟨S', hk, hk2⟩ := hk
    rw [hk] at o3 ⊢
    have e5 : [[AV.imm 1 (List.take d (List.map encB a))], [AV.imm 1 (List.drop d (List.take (List.map encB a).length (List.map encB a)))]] = [a.take d, a.drop d].map encR := by
      rw [List.take_length]
      simp [encR, List.map_take, List.map_drop]
    have e6 : [a.take d, a.drop d].flatten = a := by simp
    have e7 := sum_same a S'
    (refine go ?_)
    rw [e5]
    refine DW.callSW rfl (by first | exact True.intro | exact rfl) (by repeat first | exact SubL.nil | refine SubL.cons (SubV.refl _) ?_ | refine SubL.cons SubV.app ?_ | refine SubL.cons SubV.nil ?_) rfl rfl (fun hp => by repeat first | exact hp | refine PhiW.setW (by simp) ?_ | refine PhiW.setN (by omega) ?_) (oracle_Sum_ae o3 (by simp; omega) [a.take d, a.drop d] (by simp) (by rw [e6]; omega)) ?_
    have o4 := orAt_sum o3 (sumS (a :: S') [a.take d, a.drop d].flatten)
    rw [e6, e7.1, e7.2] at *
    (refine go ?_)
    refine DW.callSW rfl (by first | exact True.intro | exact rfl) (by repeat first | exact SubL.nil | refine SubL.cons (SubV.refl _) ?_ | refine SubL.cons SubV.app ?_ | refine SubL.cons SubV.nil ?_) rfl rfl (fun hp => by repeat first | exact hp | refine PhiW.setW (by simp) ?_ | refine PhiW.setN (by omega) ?_) (oracle_Sum_ae o4 (by simp; omega) [a] (by simp) (by simp; omega)) ?_
    rw [f1, (sum_same a S').1, (sum_same a S').2]
    (refine go ?_)
    refine DW.callS rfl (by first | exact True.intro | exact rfl) (by repeat first | exact SubL.nil | refine SubL.cons (SubV.refl _) ?_ | refine SubL.cons SubV.app ?_ | refine SubL.cons SubV.nil ?_) rfl (law7_known_ae _) ?_
    (refine go ?_)
    refine WW.ret (PureQ.finD ?_)
    exact fz_b rfl
  · exfalso
    by_cases hab : a = b
    · subst hab
      rw [(sum_same a []).1] at hz3
      simp at hz3
    · rw [(sum_ne hab).1] at hz3
      simp [hab] at hz3
end Go.Proofs.Ytnihcakkhillcaa
