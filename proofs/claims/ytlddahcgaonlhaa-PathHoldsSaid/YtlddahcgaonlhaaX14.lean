/- The document's lock, ideal. -/
import Derived.Test.YtlddahcgaonlhaaX13
set_option linter.all false
namespace Go.Proofs.Ytlddahcgaonlhaa
open Go Go.Abs

/-- The document's ideal lock stands at l. -/
structure R8At (h : AHeap) (l o t1 t2 g1 g2 : Nat) (L : List Iss) (S : List Bs) : Prop where
  cell : h.get l = some (.mem 1 [[.ptr o 0 0]])
  ora : RefAt h o t1 t2 g1 g2 L S
theorem refAt_get {h h2 : AHeap} {o t1 t2 g1 g2 : Nat} {L : List Iss} {S : List Bs} (hO : RefAt h o t1 t2 g1 g2 L S) (h1 : h2.get o = h.get o) (h3 : h2.get t1 = h.get t1) (h4 : h2.get t2 = h.get t2) : RefAt h2 o t1 t2 g1 g2 L S :=
  ⟨h1.trans hO.obj, h3.trans hO.tok1, h4.trans hO.tok2, hO.ne⟩
theorem ref8_OpenI_ae {h : AHeap} {l o t1 t2 g1 g2 : Nat} {L : List Iss} {S : List Bs} (hl : R8At h l o t1 t2 g1 g2 L S) (hL : L.length ≤ 1000000) (k : Pr) (n : Nn) (head b : Bs) (tg : Pr) :
    AE Try.prog 40 [.ptr l 0 0, .agg (encP k), .agg (encN n), .imm 1 (head.map encB), .agg (encS b tg)] h
      (.tup [.imm 1 (((openO L k n head b tg).getD []).map encB), .bool (openO L k n head b tg).isSome]) h := by
  obtain ⟨q0, hO⟩ := hl
  obtain ⟨q1, q2, q3, _⟩ := id hO
  refine AE.wf fun hwf => ?_
  have h0 := hwf _ _ q0
  have ho := hwf _ _ q1
  have ht := hwf _ _ q2
  have hs := hwf _ _ q3
  refine AE.pureW is_ref8_Lock_Open (by simp) ?_
  unfold c_ref8_Lock_Open
  (refine go ?_)
  refine DW.callS rfl (by first | exact True.intro | exact rfl) (by repeat first | exact SubL.nil | refine SubL.cons (SubV.refl _) ?_ | refine SubL.cons SubV.app ?_ | refine SubL.cons SubV.nil ?_) rfl (ref7_Open_ae (refAt_get hO (by repeat first | with_reducible apply get_put_neE (by omega) | with_reducible apply get_set_neE (by omega) | with_reducible apply get_keepE | exact rfl) (by repeat first | with_reducible apply get_put_neE (by omega) | with_reducible apply get_set_neE (by omega) | with_reducible apply get_keepE | exact rfl) (by repeat first | with_reducible apply get_put_neE (by omega) | with_reducible apply get_set_neE (by omega) | with_reducible apply get_keepE | exact rfl)) hL k n head b tg) ?_
  (refine go ?_)
  refine WW.ret (PureQ.finD ?_)
  exact Fz.tup2 (fz_immB rfl) (fz_b rfl)
theorem ref8_ext {h : AHeap} {o t1 t2 g1 g2 tt n : Nat} {L L' : List Iss} {S S' : List Bs} {gt : Nat} (hO : RefAt h o t1 t2 g1 g2 L S) (ht : tt = t1 ∨ tt = t2) : Ext h ((h.set tt (some (.tail gt n))).set o (some (.mem 2 [[.app t1 g1 10 (L'.map encI), .app t2 g2 1 (S'.map encStr)]]))) := by
  obtain ⟨q1, q2, q3, q4⟩ := hO
  refine Ext.set (Ext.set (x := .tail _ _) Ext.refl (by rcases ht with rfl | rfl; exact Nm.old q2; exact Nm.old q3) trivial) (Nm.old q1) ?_
  intro x hx v hv
  simp only [List.mem_singleton] at hx
  subst hx
  simp only [List.mem_cons, List.not_mem_nil, or_false] at hv
  rcases hv with rfl | rfl
  · exact .app _ _ _ _ (Nm.old q2) fun x hx v hv => by
      obtain ⟨i, _, rfl⟩ := List.mem_map.1 hx
      exact clo_encI i v hv
  · exact .app _ _ _ _ (Nm.old q3) fun x hx v hv => by
      obtain ⟨i, _, rfl⟩ := List.mem_map.1 hx
      simp only [encStr, List.mem_singleton] at hv
      subst hv
      exact .str _
theorem ref8_SealI_ae {h : AHeap} {l o t1 t2 g1 g2 : Nat} {L : List Iss} {S : List Bs} (hl : R8At h l o t1 t2 g1 g2 L S) (hL : L.length ≤ 1000000) (k : Pr) (n : Nn) (head data : Bs) (hh : head.length ≤ 4000) (hd : data.length ≤ 4000) :
    AE Try.prog 39 [.ptr l 0 0, .agg (encP k), .agg (encN n), .imm 1 (head.map encB), .imm 1 (data.map encB)] h
      (.tup [.agg (encS (newI (L.length + 1) k n head data).out (newI (L.length + 1) k n head data).tag), .bool true])
      ((h.set t1 (some (.tail g1 (L.length + 1)))).set o (some (.mem 2 [[.app t1 g1 10 ((L ++ [newI (L.length + 1) k n head data]).map encI), .app t2 g2 1 (S.map encStr)]]))) := by
  obtain ⟨q0, hO⟩ := hl
  obtain ⟨q1, q2, q3, _⟩ := id hO
  refine AE.wf fun hwf => ?_
  have h0 := hwf _ _ q0
  have ho := hwf _ _ q1
  have ht := hwf _ _ q2
  have hs := hwf _ _ q3
  have d1 : l ≠ o := fun e => by subst e; rw [q0] at q1; cases q1
  have d2 : l ≠ t1 := fun e => by subst e; rw [q0] at q2; cases q2
  have d3 : t1 ≠ o := fun e => by subst e; rw [q1] at q2; cases q2
  refine AE.effW is_ref8_Lock_Seal (by simp) (ref8_ext hO (.inl rfl)) ?_
  unfold c_ref8_Lock_Seal
  (repeat first | refine WL.go ?_ | refine WW.seq ?_ | refine WW.reg ?_ | refine WL.nil ?_ | refine WW.skip ?_ | refine WW.block ?_ | refine WW.exit ?_ | refine WW.condT rfl ?_ | refine WW.condF rfl ?_ | refine WL.gox ?_ | refine thenN ?_ | refine blkN ?_)
  refine WW.dregX [8, 11] [] [t1, o, h.next + 2] gN (by decide +kernel) ?_
  (refine go ?_)
  have hcon := ref7_Seal_ae (h := ((h.put h.next (.mem 2 [encP k])).put (h.next + 1) (.mem 3 [encN n])).put (h.next + 2) (.mem 3 [[.nils, .int .u64 0, .int .u64 0]])) (refAt_get hO (by repeat first | with_reducible apply get_put_neE (by omega) | with_reducible apply get_set_neE (by omega) | with_reducible apply get_keepE | exact rfl) (by repeat first | with_reducible apply get_put_neE (by omega) | with_reducible apply get_set_neE (by omega) | with_reducible apply get_keepE | exact rfl) (by repeat first | with_reducible apply get_put_neE (by omega) | with_reducible apply get_set_neE (by omega) | with_reducible apply get_keepE | exact rfl)) hL k n head data hh hd
  refine DW.callSW rfl (by first | exact True.intro | exact rfl) (by repeat first | exact SubL.nil | refine SubL.cons (SubV.refl _) ?_ | refine SubL.cons SubV.app ?_ | refine SubL.cons SubV.nil ?_) rfl rfl (fun hp => by repeat first | exact hp | refine PhiW.put (by omega) ?_ | refine PhiW.setN (by omega) ?_ | refine PhiW.setW (by simp; done) ?_) (hcon) ?_
  (refine go ?_)
  generalize newI (L.length + 1) k n head data = x at *
  refine WW.ret (EffQ.finD ?_ ?_)
  · refine ⟨(by repeat first | exact Nat.le_refl _ | refine next_le_put ?_ | refine next_le_set ?_ | assumption), fun id hu => ?_⟩; have hlt : id < AHeap.next h := hu.1; simp only [get_put, get_set]; (repeat' split) <;> first | rfl | omega | (simp []; done)
  · refine .clo _ (.tup _ fun v hv => ?_)
    simp only [List.mem_cons, List.not_mem_nil, or_false] at hv
    rcases hv with rfl | rfl
    · exact .agg _ (clo_encS x.out x.tag)
    · exact .bool _
theorem ref8_SumI_ae {h : AHeap} {l o t1 t2 g1 g2 : Nat} {L : List Iss} {S : List Bs} (hl : R8At h l o t1 t2 g1 g2 L S) (hS : S.length ≤ 1000000) (key : Bs) (hk : key.length ≤ 1000000) :
    AE Try.prog 42 [.ptr l 0 0, .imm 1 (key.map encB)] h (.agg (encP (eees, (sumN S key : Int))))
      ((h.set t2 (some (.tail g2 (sumS S key).length))).set o (some (.mem 2 [[.app t1 g1 10 (L.map encI), .app t2 g2 1 ((sumS S key).map encStr)]]))) := by
  obtain ⟨q0, hO⟩ := hl
  obtain ⟨q1, q2, q3, _⟩ := id hO
  refine AE.wf fun hwf => ?_
  have h0 := hwf _ _ q0
  have ho := hwf _ _ q1
  have ht := hwf _ _ q2
  have hs := hwf _ _ q3
  have d1 : l ≠ o := fun e => by subst e; rw [q0] at q1; cases q1
  have d2 : l ≠ t2 := fun e => by subst e; rw [q0] at q3; cases q3
  have d3 : t2 ≠ o := fun e => by subst e; rw [q1] at q3; cases q3
  refine AE.effW is_ref8_Lock_Sum (by simp) (ref8_ext hO (.inr rfl)) ?_
  unfold c_ref8_Lock_Sum
  (refine go ?_)
  have hcon := ref7_Sum_ae (h := h.put h.next (.mem 2 [[.int .u64 0, .int .u64 0]])) (refAt_get hO (by repeat first | with_reducible apply get_put_neE (by omega) | with_reducible apply get_set_neE (by omega) | with_reducible apply get_keepE | exact rfl) (by repeat first | with_reducible apply get_put_neE (by omega) | with_reducible apply get_set_neE (by omega) | with_reducible apply get_keepE | exact rfl) (by repeat first | with_reducible apply get_put_neE (by omega) | with_reducible apply get_set_neE (by omega) | with_reducible apply get_keepE | exact rfl)) hS key hk
  refine WL.call rfl (by first | exact True.intro | exact rfl) (by repeat first | exact SubL.nil | refine SubL.cons (SubV.refl _) ?_ | refine SubL.cons SubV.app ?_ | refine SubL.cons SubV.nil ?_) (hcon) ?_
  (refine go ?_)
  refine WW.ret (EffQ.finD ?_ ?_)
  · refine ⟨(by repeat first | exact Nat.le_refl _ | refine next_le_put ?_ | refine next_le_set ?_ | assumption), fun id hu => ?_⟩; have hlt : id < AHeap.next h := hu.1; simp only [get_put, get_set]; (repeat' split) <;> first | rfl | omega | (simp []; done)
  · exact .clo _ (.agg _ fun v hv => clo_flat (flatP (eees, (sumN S key : Int)) v hv))
theorem ref8_IssuedI_ae {h : AHeap} {l o t1 t2 g1 g2 : Nat} {L : List Iss} {S : List Bs} (hl : R8At h l o t1 t2 g1 g2 L S) :
    AE Try.prog 44 [.ptr l 0 0] h (.imm 10 (L.map encI)) h := by
  obtain ⟨q0, hO⟩ := hl
  obtain ⟨q1, q2, q3, _⟩ := id hO
  refine AE.pureW is_ref8_Lock_Issued (by simp) ?_
  unfold c_ref8_Lock_Issued
  (refine go ?_)
  refine WW.ret (PureQ.finD ?_)
  exact .app _ _ _ _ fun x hx v hv => by
    obtain ⟨i, _, rfl⟩ := List.mem_map.1 hx
    exact clo_encI i v hv
theorem ref8_NewI_ac {h : AHeap} {nx : Nat} (hn : h.next = nx) : AC Try.prog 38 [.bool true] h
    (fun r h' => r = .ptr (nx + 1) 0 0 ∧ R8At h' (nx + 1) nx (nx + 2) (nx + 3) 0 0 [] [] ∧ h'.next = nx + 4 ∧ (∀ id, id < nx → h'.get id = h.get id) ∧ ∀ h0 : AHeap, Keeps h0 h → Keeps h0 h') := by
  subst hn
  refine AC.introW is_ref8_New (by simp) ?_
  unfold c_ref8_New
  (refine go ?_)
  refine WW.cvt (Cvt.adoptM 10 (id := h.next) (i := 0) (j := 0) gH rfl rfl gN) ?_
  refine WW.cvt (Cvt.adoptM 1 (id := h.next) (i := 0) (j := 1) gH rfl rfl gN) ?_
  refine WW.ret ⟨.inl rfl, _, (by repeat first | exact resA_nil | (apply resA_t; exact rfl) | (apply resA_c; exact rfl; exact gH; exact (by first | exact getC_at rfl rfl | exact getC_all rfl | exact getC_sub (Nat.le_of_ble_eq_true rfl) (by first | (simp only [putC, AV.cs, encP, encN, encI, encS, encA, List.take_succ_cons, List.take_zero, List.take_nil, List.drop_succ_cons, List.drop_zero, List.drop_nil, List.cons_append, List.nil_append, List.append_nil, List.length_cons, List.length_nil, Nat.zero_add, Nat.add_zero, Nat.reduceAdd]; exact rfl) | exact rfl) | exact getC_sub (by simp) (by first | (simp only [putC, AV.cs, encP, encN, encI, encS, encA, List.take_succ_cons, List.take_zero, List.take_nil, List.drop_succ_cons, List.drop_zero, List.drop_nil, List.cons_append, List.nil_append, List.append_nil, List.length_cons, List.length_nil, Nat.zero_add, Nat.add_zero, Nat.reduceAdd]; exact rfl) | exact rfl)))), rfl, ⟨gH, ⟨gH, gH, gH, by omega⟩⟩, gN, fun id hi => (by repeat first | with_reducible apply get_put_neE (by omega) | with_reducible apply get_set_neE (by omega) | with_reducible apply get_keepE | exact rfl), fun h0 k0 => ?_⟩
  have := k0.1
  exact (by repeat first | with_reducible exact Keeps.refl _ | with_reducible refine Keeps.put ?_ (by omega) _ | with_reducible refine Keeps.set ?_ (by omega) _ | assumption)
end Go.Proofs.Ytlddahcgaonlhaa
