/- An ideal lock seals, opens, tells. -/
import Derived.Test.YtlddahcgaonlhaaX11
set_option linter.all false
namespace Go.Proofs.Ytlddahcgaonlhaa
open Go Go.Abs

theorem lock_SealI_ae {h : AHeap} {l o t s g : Nat} {L : List Iss} {S : List Bs} (hl : IdAt h l o t s g L S) (hL : L.length ≤ 1000000) (k : Pr) (n : Nn) (head data : Bs) (hh : head.length ≤ 4000) (hd : data.length ≤ 4000) :
    AE Try.prog 30 [.ptr l 0 0, .agg (encP k), .agg (encN n), .imm 1 (head.map encB), .imm 1 (data.map encB)] h
      (.tup [.agg (encS (newI (L.length + 1) k n head data).out (newI (L.length + 1) k n head data).tag), .bool true])
      ((h.set t (some (.tail g (L.length + 1)))).set o (some (.mem 2 [[.app t g 10 ((L ++ [newI (L.length + 1) k n head data]).map encI), .map s]]))) := by
  obtain ⟨q0, hO⟩ := hl
  obtain ⟨q1, q2, q3⟩ := id hO
  refine AE.wf fun hwf => ?_
  have h0 := hwf _ _ q0
  have ho := hwf _ _ q1
  have ht := hwf _ _ q2
  have hs := hwf _ _ q3
  have d1 : l ≠ o := fun e => by subst e; rw [q0] at q1; cases q1
  have d2 : l ≠ t := fun e => by subst e; rw [q0] at q2; cases q2
  have d3 : t ≠ o := fun e => by subst e; rw [q1] at q2; cases q2
  refine AE.effW is_lock_Lock_Seal (by simp) ?_ ?_
  · refine Ext.set (Ext.set (x := .tail _ _) Ext.refl (Nm.old q2) trivial) (Nm.old q1) ?_
    intro x hx v hv
    simp only [List.mem_singleton] at hx
    subst hx
    simp only [List.mem_cons, List.not_mem_nil, or_false] at hv
    rcases hv with rfl | rfl
    · exact .app _ _ _ _ (Nm.old q2) fun x hx v hv => by
        obtain ⟨i, _, rfl⟩ := List.mem_map.1 hx
        exact clo_encI i v hv
    · exact .map _ (Nm.old q3)
  unfold c_lock_Lock_Seal
  simp only [idC] at q0
  (repeat first | refine WL.go ?_ | refine WW.seq ?_ | refine WW.reg ?_ | refine WL.nil ?_ | refine WW.skip ?_ | refine WW.block ?_ | refine WW.exit ?_ | refine WW.condT rfl ?_ | refine WW.condF rfl ?_ | refine WL.gox ?_ | refine thenN ?_ | refine blkN ?_)
  refine WW.dregX [8, 11] [] [t, o, h.next + 2] gN (by decide +kernel) ?_
  (refine go ?_)
  have hcon := oracle_Seal_ae (h := ((h.put h.next (.mem 2 [encP k])).put (h.next + 1) (.mem 3 [encN n])).put (h.next + 2) (.mem 3 [[.nils, .int .u64 0, .int .u64 0]])) (orAt_get hO (by repeat first | with_reducible apply get_put_neE (by omega) | with_reducible apply get_set_neE (by omega) | with_reducible apply get_keepE | exact rfl) (by repeat first | with_reducible apply get_put_neE (by omega) | with_reducible apply get_set_neE (by omega) | with_reducible apply get_keepE | exact rfl) (by repeat first | with_reducible apply get_put_neE (by omega) | with_reducible apply get_set_neE (by omega) | with_reducible apply get_keepE | exact rfl)) hL k n head data hh hd
  refine DW.fx0 (FX.callv rfl rfl (by first | exact True.intro | exact rfl) (by kernel_rfl) hcon) rfl rfl (fun hp => PhiW.setW (by simp) (PhiW.setW (by simp) hp)) rfl ?_
  (refine go ?_)
  generalize newI (L.length + 1) k n head data = x at *
  refine WW.ret (EffQ.finD ?_ ?_)
  · refine ⟨(by repeat first | exact Nat.le_refl _ | refine next_le_put ?_ | refine next_le_set ?_ | assumption), fun id hu => ?_⟩; have hlt : id < AHeap.next h := hu.1; simp only [get_put, get_set]; (repeat' split) <;> first | rfl | omega | (simp []; done)
  · refine .clo _ (.tup _ fun v hv => ?_)
    simp only [List.mem_cons, List.not_mem_nil, or_false] at hv
    rcases hv with rfl | rfl
    · exact .agg _ (clo_encS x.out x.tag)
    · exact .bool _
/-- The heap behind a Seal, under a name of its own. -/
theorem sealedL {h : AHeap} {l o t s g : Nat} {L : List Iss} {S : List Bs} (hl : IdAt h l o t s g L S) (k : Pr) (n : Nn) (head data : Bs) :
    ∃ h2, (h.set t (some (.tail g (L.length + 1)))).set o (some (.mem 2 [[.app t g 10 ((L ++ [newI (L.length + 1) k n head data]).map encI), .map s]])) = h2 ∧
      IdAt h2 l o t s g (L ++ [newI (L.length + 1) k n head data]) S ∧ (∀ nx, h.next = nx → h2.next = nx) ∧ (∀ id, id ≠ o → id ≠ t → h2.get id = h.get id) ∧ (∀ h0 : AHeap, Keeps h0 h → h0.next ≤ o → h0.next ≤ t → Keeps h0 h2) := by
  obtain ⟨q0, hO⟩ := hl
  obtain ⟨h2, e2, o2, n2, m2, k2⟩ := sealed hO k n head data
  have d1 : l ≠ o := fun e => by subst e; have := hO.obj; rw [q0] at this; cases this
  have d2 : l ≠ t := fun e => by subst e; have := hO.tok; rw [q0] at this; cases this
  exact ⟨h2, e2, ⟨(m2 l d1 d2).trans q0, o2⟩, n2, m2, k2⟩
theorem lock_OpenI_ae {h : AHeap} {l o t s g : Nat} {L : List Iss} {S : List Bs} (hl : IdAt h l o t s g L S) (hL : L.length ≤ 1000000) (hd : ∀ x ∈ L, x.data.length ≤ 1000000) (k : Pr) (n : Nn) (head b : Bs) (tg : Pr) :
    AE Try.prog 35 [.ptr l 0 0, .agg (encP k), .agg (encN n), .imm 1 (head.map encB), .agg (encS b tg)] h
      (.tup [.imm 1 (((openO L k n head b tg).getD []).map encB), .bool (openO L k n head b tg).isSome]) h := by
  obtain ⟨q0, hO⟩ := hl
  obtain ⟨q1, q2, q3⟩ := id hO
  refine AE.wf fun hwf => ?_
  have h0 := hwf _ _ q0
  have ho := hwf _ _ q1
  have ht := hwf _ _ q2
  have hs := hwf _ _ q3
  refine AE.pureW is_lock_Lock_Open (by simp) ?_
  unfold c_lock_Lock_Open
  simp only [idC] at q0
  (refine go ?_)
  refine DW.fxR (FX.callv rfl rfl (by first | exact True.intro | exact rfl) (by kernel_rfl) (oracle_Open_ae (orAt_get hO (by repeat first | with_reducible apply get_put_neE (by omega) | with_reducible apply get_set_neE (by omega) | with_reducible apply get_keepE | exact rfl) (by repeat first | with_reducible apply get_put_neE (by omega) | with_reducible apply get_set_neE (by omega) | with_reducible apply get_keepE | exact rfl) (by repeat first | with_reducible apply get_put_neE (by omega) | with_reducible apply get_set_neE (by omega) | with_reducible apply get_keepE | exact rfl)) hL hd k n head b tg)) rfl rfl ?_
  (refine go ?_)
  refine WW.ret (PureQ.finD ?_)
  exact Fz.tup2 (fz_immB rfl) (fz_b rfl)
theorem lock_IssuedI_ae {h : AHeap} {l o t s g : Nat} {L : List Iss} {S : List Bs} (hl : IdAt h l o t s g L S) (hL : L.length ≤ 1000000) (hx : ∀ x ∈ L, x.head.length ≤ 1000000 ∧ x.data.length ≤ 1000000 ∧ x.out.length ≤ 1000000) :
    AE Try.prog 37 [.ptr l 0 0] h (.imm 10 (L.map encI)) h := by
  obtain ⟨q0, hO⟩ := hl
  refine AE.pureW is_lock_Lock_Issued (by simp) ?_
  unfold c_lock_Lock_Issued
  simp only [idC] at q0
  (refine go ?_)
  refine WL.fx1 (FX.callv rfl rfl (by first | exact True.intro | exact rfl) (by kernel_rfl) (oracle_Issued_ae hO hL hx)) ?_
  (refine go ?_)
  refine WW.ret (PureQ.finD ?_)
  exact .clo _ (.imm _ _ fun x hx v hv => by
    obtain ⟨i, _, rfl⟩ := List.mem_map.1 hx
    exact clo_encI i v hv)
end Go.Proofs.Ytlddahcgaonlhaa
