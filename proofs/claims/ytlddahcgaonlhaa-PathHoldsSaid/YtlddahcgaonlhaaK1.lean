/- Pairs as bytes; the lock: what stands where, its sums. -/
import Derived.Test.YtlddahcgaonlhaaCK
import Derived.Test.YtlddahcgaonlhaaCT
import Derived.Test.YtlddahcgaonlhaaK0
import Derived.Test.YtlddahcgaonlhaaX0
set_option linter.all false
namespace Go.Proofs.Ytlddahcgaonlhaa
open Go Go.Abs

@[simp] theorem putB_lenS (v : Int) : (putB v 8).length = 8 := putB_len v
theorem clo_appB {u : Nat → Prop} {id g : Nat} (hu : u id) (l : Bs) : Clo u (.app id g 1 (l.map encB)) := .app _ _ _ _ hu fun x hx v hv => by
  obtain ⟨b, _, rfl⟩ := List.mem_map.1 hx
  rcases List.mem_singleton.1 (show v ∈ [AV.int .u8 (b.toNat : Int)] from hv) with rfl
  exact .int _ _
/-- A number's bytes, as a row that grows. -/
theorem wire_PutA_ae {h : AHeap} {nx : Nat} (hn : h.next = nx) (v : Int) : AE Try.prog 79 [.int .u64 v, .int .i64 8] h (.app (nx + 1) 0 1 ((putB v 8).map encB)) (h.put (nx + 1) (.tail 0 8)) := by
  subst hn
  refine AE.wf fun hwf => ?_
  have hno : h.get h.next = none := by
    cases hg : h.get h.next with
    | none => rfl
    | some x => exact absurd (hwf _ _ hg) (Nat.lt_irrefl _)
  refine AE.effW is_wire_Put (by simp) (Ext.put Ext.refl trivial) ?_
  unfold c_wire_Put
  (refine go ?_)
  refine WW.loopE (fun (i : Nat) => [(0, some (.int .u64 v)), (1, some (.int .i64 8)), (5, some (.ref h.next 0 8)), (16, some (.int .i64 8)), (17, some (.int .i64 i))])
    (fun i h' => h'.get h.next = some (.mem 1 ((List.range 8).map fun k => if k < i then encB (byteOf v 8 k) else [.int .u8 0])) ∧ h'.next = h.next + 1 ∧ Keeps h h' ∧ i ≤ 8) (fun i => 8 - i) 0 (by repeat first | exact subE.nil _ | (apply subE.cons; focus (first | exact rfl | (simp [lk_cons]; done) | (simp [lk_cons]; omega)))) ⟨?_, gN, (by repeat first | with_reducible exact Keeps.refl _ | with_reducible refine Keeps.put ?_ (by omega) _ | with_reducible refine Keeps.set ?_ (by omega) _ | assumption), by omega⟩ ?_
  · rw [← upto_none (x := [.int .u8 0]) (by intros; rfl)]
    exact gH
  rintro i h' ⟨g1, g4, g2, g3⟩
  (refine go ?_)
  (refine WW.ifB rfl (fun hz3 => ?_) (fun hz3 => ?_))
  · (refine go ?_)
    have e1 : (8 : Int) * ((8 : Int) - 1 - (i : Int)) = ((8 * (8 - 1 - i) : Nat) : Int) := by omega
    refine WL.auto (Stp.sh rfl rfl (sh_byte e1 (by omega)) (by first | exact True.intro | exact rfl)) ?_
    refine WL.auto (Stp.conv rfl (byteOf_eq v) (by first | exact True.intro | exact rfl)) ?_
    (refine go ?_)
    refine ⟨i + 1, (by repeat first | exact subE.nil _ | (apply subE.cons; focus (first | exact rfl | (simp [lk_cons]; done) | (simp [lk_cons]; omega)))), ⟨?_, gN, (by repeat first | with_reducible exact Keeps.refl _ | with_reducible refine Keeps.put ?_ (by omega) _ | with_reducible refine Keeps.set ?_ (by omega) _ | assumption), by omega⟩, by omega⟩
    rw [get_set_same, Nat.zero_add, set_upto (by simp [putC, AV.cs, encB])]
  · (refine go ?_)
    rw [upto_all (by omega)] at g1
    refine WW.cvt (Cvt.grow (s := 4) (c' := (putB v 8).map encB) rfl g1 (by rw [putB, if_neg (by decide), List.map_map]; exact List.take_of_length_le (by simp)) g4) ?_
    refine WW.ret (EffQ.finD ?_ ?_)
    · refine ⟨by simp only [AHeap.put, AHeap.set, g4]; split <;> split <;> omega, fun id hu => ?_⟩
      simp only [get_put, get_set]
      split
      · rfl
      · rename_i h1
        split
        · rename_i e; subst e; exact hno.symm
        · rename_i h2
          have h3 := hu.1
          simp only [AHeap.put] at h3
          refine g2.2 id ⟨by split at h3 <;> omega, ?_⟩
          have h4 := hu.2
          simp only [AHeap.put] at h4
          rw [if_neg h1] at h4
          exact h4
    · exact .clo _ (clo_appB put_used_nm _)

/-- Pairs as bytes. -/
theorem wire_Bytes_ae (p : Pr) (h : AHeap) : AE Try.prog 63 [.agg (encP p)] h (.imm 1 ((pairB p).map encB)) h := by
  refine AE.pureW is_wire_Bytes (by simp) ?_
  unfold c_wire_Bytes
  (repeat first | refine WL.go ?_ | refine WW.seq ?_ | refine WW.reg ?_ | refine WL.nil ?_ | refine WW.skip ?_ | refine WW.block ?_ | refine WW.exit ?_ | refine WW.condT rfl ?_ | refine WW.condF rfl ?_ | refine WL.gox ?_ | refine thenN ?_ | refine blkN ?_)
  refine WW.dregX [2, 6] [1, 4] [] gN (by decide +kernel) ?_
  (refine go ?_)
  refine DW.callSW rfl (by first | exact True.intro | exact rfl) (by repeat first | exact SubL.nil | refine SubL.cons (SubV.refl _) ?_ | refine SubL.cons SubV.app ?_ | refine SubL.cons SubV.nil ?_) rfl rfl (fun hp => by repeat first | exact hp | refine PhiW.put (by omega) ?_ | refine PhiW.setN (by omega) ?_ | refine PhiW.setW (by simp; done) ?_) (wire_PutA_ae (nx := h.next + 1) gN _) ?_
  (refine go ?_)
  refine DW.callS rfl (by first | exact True.intro | exact rfl) (by repeat first | exact SubL.nil | refine SubL.cons (SubV.refl _) ?_ | refine SubL.cons SubV.app ?_ | refine SubL.cons SubV.nil ?_) rfl (wire_Put_ae p.2 8 _ (by decide)) ?_
  (refine go ?_)
  refine WW.ret (PureQ.finD ?_)
  rw [show List.map encB (putB p.1 8) ++ List.map encB (putB p.2 (Int.toNat 8)) = (pairB p).map encB by simp [pairB]]
  exact fz_app rfl (flatB _)

/-- An ideal lock's cells. -/
def idC (o : Nat) : List AV := [.func (.func 53) [.ptr o 0 0] [], .func (.func 54) [.ptr o 0 0] [], .func (.func 55) [.ptr o 0 0] [], .func (.func 56) [.ptr o 0 0] [], .func (.func 57) [.ptr o 0 0] []]
/-- An ideal lock stands at l. -/
structure IdAt (h : AHeap) (l o t s g : Nat) (L : List Iss) (S : List Bs) : Prop where
  cells : h.get l = some (.mem 5 [idC o])
  ora : OrAt h o t s g L S
theorem lock_Ideal_ae {h : AHeap} {nx : Nat} (hn : h.next = nx) : AE Try.prog 20 [] h (.ptr (nx + 3) 0 0) ((newO h).put (nx + 3) (.mem 5 [idC (nx + 1)])) := by
  subst hn
  refine AC.introW is_lock_Ideal (by simp) ?_
  unfold c_lock_Ideal
  (refine go ?_)
  refine WL.call rfl (by first | exact True.intro | exact rfl) (by repeat first | exact SubL.nil | refine SubL.cons (SubV.refl _) ?_ | refine SubL.cons SubV.app ?_ | refine SubL.cons SubV.nil ?_) (oracle_New_ae2 rfl) ?_
  have hn := newO_next h
  generalize newO h = h1 at *
  (refine go ?_)
  exact WW.ret ⟨.inl rfl, _, (by repeat first | exact resA_nil | (apply resA_t; exact rfl) | (apply resA_c; exact rfl; exact gH; exact (by first | exact getC_at rfl rfl | exact getC_all rfl | exact getC_sub (Nat.le_of_ble_eq_true rfl) (by first | (simp only [putC, AV.cs, encP, encN, encI, encS, encA, List.take_succ_cons, List.take_zero, List.take_nil, List.drop_succ_cons, List.drop_zero, List.drop_nil, List.cons_append, List.nil_append, List.append_nil, List.length_cons, List.length_nil, Nat.zero_add, Nat.add_zero, Nat.reduceAdd]; exact rfl) | exact rfl) | exact getC_sub (by simp) (by first | (simp only [putC, AV.cs, encP, encN, encI, encS, encA, List.take_succ_cons, List.take_zero, List.take_nil, List.drop_succ_cons, List.drop_zero, List.drop_nil, List.cons_append, List.nil_append, List.append_nil, List.length_cons, List.length_nil, Nat.zero_add, Nat.add_zero, Nat.reduceAdd]; exact rfl) | exact rfl)))), rfl, rfl⟩
/-- A new ideal lock's heap, under a name of its own. -/
theorem newL_ex {h : AHeap} {nx : Nat} (hn : h.next = nx) : ∃ h1, (newO h).put (nx + 3) (.mem 5 [idC (nx + 1)]) = h1 ∧ IdAt h1 (nx + 3) (nx + 1) (nx + 2) nx 0 [] [] ∧ h1.next = nx + 4 ∧ (∀ id, id < nx → h1.get id = h.get id) ∧ ∀ h0 : AHeap, Keeps h0 h → Keeps h0 h1 := by
  obtain ⟨h1, e1, o1, n1, m1, k1⟩ := newO_ex2 hn
  rw [e1]
  refine ⟨_, rfl, ⟨gH, (orAt_get o1 (by repeat first | with_reducible apply get_put_neE (by omega) | with_reducible apply get_set_neE (by omega) | with_reducible apply get_keepE | exact rfl) (by repeat first | with_reducible apply get_put_neE (by omega) | with_reducible apply get_set_neE (by omega) | with_reducible apply get_keepE | exact rfl) (by repeat first | with_reducible apply get_put_neE (by omega) | with_reducible apply get_set_neE (by omega) | with_reducible apply get_keepE | exact rfl))⟩, next_putE n1, fun id hi => (get_put_neE (by omega) rfl).trans (m1 id hi), fun h0 hk => ?_⟩
  have := k1 h0 hk
  have h2 := hk.1
  exact this.put (by omega) _

theorem lock_SumI_ae {h : AHeap} {l o t s g : Nat} {L : List Iss} {S : List Bs} (hl : IdAt h l o t s g L S) (hS : S.length ≤ 1000000) (rows : List Bs) (hr1 : rows.length ≤ 1000000) (hr2 : rows.flatten.length ≤ 1000000) :
    AE Try.prog 41 [.ptr l 0 0, .imm 1 (rows.map encR)] h (.agg (encP (eees, (sumN S rows.flatten : Int)))) (h.set s (some (.map (encM (sumS S rows.flatten))))) := by
  obtain ⟨q0, hO⟩ := hl
  obtain ⟨q1, q2, q3⟩ := id hO
  refine AE.wf fun hwf => ?_
  have h0 := hwf _ _ q0
  have ho := hwf _ _ q1
  have ht := hwf _ _ q2
  have hs := hwf _ _ q3
  refine AE.effW is_lock_Lock_Sum (by simp) (Ext.set (x := .map _) Ext.refl (Nm.old q3) (clo_encM _)) ?_
  unfold c_lock_Lock_Sum
  simp only [idC] at q0
  (refine go ?_)
  have hcon := oracle_Sum_ae (h := h.put h.next (.mem 2 [[.int .u64 0, .int .u64 0]])) (orAt_get hO (by repeat first | with_reducible apply get_put_neE (by omega) | with_reducible apply get_set_neE (by omega) | with_reducible apply get_keepE | exact rfl) (by repeat first | with_reducible apply get_put_neE (by omega) | with_reducible apply get_set_neE (by omega) | with_reducible apply get_keepE | exact rfl) (by repeat first | with_reducible apply get_put_neE (by omega) | with_reducible apply get_set_neE (by omega) | with_reducible apply get_keepE | exact rfl)) hS rows hr1 hr2
  generalize rows.flatten = key at *
  refine WL.fx1 (FX.callv rfl rfl (by first | exact True.intro | exact rfl) (by kernel_rfl) hcon) ?_
  (refine go ?_)
  refine WW.ret (EffQ.finD ?_ ?_)
  · refine ⟨(by repeat first | exact Nat.le_refl _ | refine next_le_put ?_ | refine next_le_set ?_ | assumption), fun id hu => ?_⟩; have hlt : id < AHeap.next h := hu.1; simp only [get_put, get_set]; (repeat' split) <;> first | rfl | omega | (simp [putM]; done)
  · exact .clo _ (.agg _ fun v hv => clo_flat (by
      simp only [encP, List.mem_cons, List.not_mem_nil, or_false] at hv
      rcases hv with rfl | rfl <;> rfl))
end Go.Proofs.Ytlddahcgaonlhaa
