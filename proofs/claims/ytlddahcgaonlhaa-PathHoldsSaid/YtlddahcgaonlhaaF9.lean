/- The document's sealer. -/
import Derived.Test.YtlddahcgaonlhaaF8
set_option linter.all false
namespace Go.Proofs.Ytlddahcgaonlhaa
open Go Go.Abs

def encStr (b : Bs) : List AV := [.str b]
structure RefAt (h : AHeap) (o t1 t2 g1 g2 : Nat) (L : List Iss) (S : List Bs) : Prop where
  obj : h.get o = some (.mem 2 [[.app t1 g1 10 (L.map encI), .app t2 g2 1 (S.map encStr)]])
  tok1 : h.get t1 = some (.tail g1 L.length)
  tok2 : h.get t2 = some (.tail g2 S.length)
  ne : t1 ≠ t2

set_option maxHeartbeats 4000000 in
theorem ref7_Seal_ae {h : AHeap} {o t1 t2 g1 g2 : Nat} {L : List Iss} {S : List Bs} (hO : RefAt h o t1 t2 g1 g2 L S) (hL : L.length ≤ 1000000) (k : Pr) (n : Nn) (head data : Bs) (hh : head.length ≤ 4000) (hd : data.length ≤ 4000) :
    AE Try.prog 72 [.ptr o 0 0, .agg (encP k), .agg (encN n), .imm 1 (head.map encB), .imm 1 (data.map encB)] h
      (.tup [.agg (encS (newI (L.length + 1) k n head data).out (newI (L.length + 1) k n head data).tag), .bool true])
      ((h.set t1 (some (.tail g1 (L.length + 1)))).set o (some (.mem 2 [[.app t1 g1 10 ((L ++ [newI (L.length + 1) k n head data]).map encI), .app t2 g2 1 (S.map encStr)]]))) := by
  obtain ⟨q1, q2, q3, q4⟩ := hO
  refine AE.wf fun hwf => ?_
  have ho := hwf _ _ q1
  have ht := hwf _ _ q2
  have ht2 := hwf _ _ q3
  have hne : o ≠ t1 := fun e => by subst e; rw [q1] at q2; cases q2
  refine AE.effW is_ref7_Oracle_Seal (by simp) ?_ ?_
  · refine Ext.set (Ext.set (x := .tail _ _) Ext.refl (Nm.old q2) trivial) (Nm.old q1) ?_
    intro x hx v hv
    simp only [List.mem_singleton] at hx
    subst hx
    simp only [List.mem_cons, List.not_mem_nil, or_false] at hv
    rcases hv with rfl | rfl
    · exact .app _ _ _ _ (Nm.old q2) fun x hx v hv => by
        obtain ⟨i, _, rfl⟩ := List.mem_map.1 hx
        exact clo_encI i v hv
    · exact .app _ _ _ _ (Nm.old q3) fun x hx v hv => by
        obtain ⟨i, _, rfl⟩ := List.mem_map.1 hx
        simp only [encStr, List.mem_singleton] at hv
        subst hv
        exact .str _
  unfold c_ref7_Oracle_Seal
  (refine go ?_)
  (apply WL.orB; exact rfl; exact rfl; exact rfl; exact BP.of; intro hz1)
  · (repeat first | (apply GW.goS; exact Stp.auto) | apply GW.nil | exact rfl)
  (refine go ?_)
  (refine WW.ifB rfl (fun hz2 => ?_) (fun hz2 => ?_))
  · simp at hz2; omega
  (refine go ?_)
  refine WL.call rfl (by first | exact True.intro | exact rfl) (by repeat first | exact SubL.nil | refine SubL.cons (SubV.refl _) ?_ | refine SubL.cons SubV.app ?_ | refine SubL.cons SubV.nil ?_) (ref1_Put_ae (L.length + 1 : Nat) 8 _ (by decide)) ?_
  (refine go ?_)
  refine WW.cvt (Cvt.adopt 1 (s := 14) rfl gN) ?_
  have hpl := putB_len (L.length + 1 : Nat)
  refine WW.loopE (fun (i : Nat) => [(0, some (.ptr o 0 0)), (3, some (.imm 1 (head.map encB))), (4, some (.imm 1 (data.map encB))), (6, some (.ptr h.next 0 0)), (7, some (.ptr (h.next + 1) 0 0)), (10, some (.ptr (h.next + 2) 0 0)), (12, some (.int .u64 (L.length + 1 : Nat))), (13, some (.imm 1 ((putB (L.length + 1 : Nat) 8).map encB))), (14, some (.app (h.next + 3) 0 1 ((sealB (L.length + 1 : Nat) i).map encB))), (15, some (.int .i64 i))])
    (fun i h' => h' = (((((h.put h.next (.mem 2 [encP k])).put (h.next + 1) (.mem 3 [encN n])).put (h.next + 2) (.mem 3 [[.nils, .int .u64 0, .int .u64 0]])).put (h.next + 3) (.tail 0 0)).set (h.next + 3) (some (.tail 0 i))) ∧ i ≤ data.length) (fun i => data.length - i) 0 (by repeat first | exact subE.nil _ | (apply subE.cons; focus (first | exact rfl | (simp [lk_cons]; done) | (simp [lk_cons]; omega)))) ⟨?_, Nat.zero_le _⟩ ?_
  · rw [set_same get_put_same]; rfl
  rintro i h' ⟨rfl, g2⟩
  (refine go ?_)
  (refine WW.ifB rfl (fun hz3 => ?_) (fun hz3 => ?_))
  · have hi : i < data.length := by omega
    have hrl : (sealB (L.length + 1 : Nat) i).length = i := rep_len _ _
    have hb : i % 8 < (putB (L.length + 1 : Nat) 8).length := by omega
    have e1 : (sealB (L.length + 1 : Nat) (i + 1)).map encB = (sealB (L.length + 1 : Nat) i).map encB ++ [encB ((putB (L.length + 1 : Nat) 8)[i % 8]'hb)] := by
      simp only [sealB, rep, List.range_succ, List.map_append, List.map_cons, List.map_nil]
      rw [hpl, List.getD_eq_getElem?_getD, List.getElem?_eq_getElem hb]
      rfl
    (refine go ?_)
    refine WL.auto (Stp.iaddrI (i := i % 8) rfl rfl (by omega) (by rw [List.length_map]; exact hb) (by first | exact True.intro | exact rfl)) ?_
    refine WL.auto (Stp.loadi rfl (map_at (List.getElem?_eq_getElem hb)) (getC_at rfl rfl) (by first | exact True.intro | exact rfl)) ?_
    (refine go ?_)
    refine WL.auto (Stp.app1 rfl rfl rfl gH (by rw [List.length_map]; exact hrl) (by first | exact ln_one | exact ln_map | exact rfl) (by first | omega | (simp; done) | (simp; omega)) (by first | exact True.intro | exact rfl)) ?_
    (refine go ?_)
    refine ⟨i + 1, ?_, ⟨set_set, by omega⟩, by omega⟩
    rw [e1]
    exact (by repeat first | exact subE.nil _ | (apply subE.cons; focus (first | exact rfl | (simp [lk_cons]; done) | (simp [lk_cons]; omega))))
  · have hi : i = data.length := by omega
    subst hi
    refine WW.cvt (Cvt.sub1 (s := 14) rfl SubV.app) ?_
    (refine go ?_)
    refine WW.dregX [16, 19] [] [o, t1] gN (by decide +kernel) ?_
    (refine go ?_)
    refine WW.ret (EffQ.finD ?_ ?_)
    · refine ⟨(by repeat first | exact Nat.le_refl _ | refine next_le_put ?_ | refine next_le_set ?_ | assumption), fun id hu => ?_⟩; have hlt : id < AHeap.next h := hu.1; simp only [get_put, get_set]; (repeat' split) <;> first | rfl | omega | (simp [encI, newI, sealB, ones, encS]; done)
    · refine .clo _ (.tup _ fun v hv => ?_)
      simp only [List.mem_cons, List.not_mem_nil, or_false] at hv
      rcases hv with rfl | rfl
      · refine .agg _ fun v hv => ?_
        simp only [List.mem_cons, List.not_mem_nil, or_false] at hv
        rcases hv with rfl | rfl | rfl <;> first | exact .int _ _ | exact clo_imm (flatB _)
      · exact .bool _

theorem ref7_Open_ae {h : AHeap} {o t1 t2 g1 g2 : Nat} {L : List Iss} {S : List Bs} (hO : RefAt h o t1 t2 g1 g2 L S) (hL : L.length ≤ 1000000) (k : Pr) (n : Nn) (head b : Bs) (tg : Pr) :
    AE Try.prog 73 [.ptr o 0 0, .agg (encP k), .agg (encN n), .imm 1 (head.map encB), .agg (encS b tg)] h
      (.tup [.imm 1 (((openO L k n head b tg).getD []).map encB), .bool (openO L k n head b tg).isSome]) h := by
  obtain ⟨q1, q2, q3, q4⟩ := hO
  refine AE.wf fun hwf => ?_
  have ho := hwf _ _ q1
  refine AE.pureW is_ref7_Oracle_Open (by simp) ?_
  unfold c_ref7_Oracle_Open
  (refine go ?_)
  refine WW.loopE (fun (i : Nat) => [(0, some (.ptr o 0 0)), (3, some (.imm 1 (head.map encB))), (6, some (.ptr h.next 0 0)), (7, some (.ptr (h.next + 1) 0 0)), (9, some (.ptr (h.next + 2) 0 0)), (12, some (.int .i64 i))])
    (fun i h' => h'.get h.next = some (.mem 2 [encP k]) ∧ h'.get (h.next + 1) = some (.mem 3 [encN n]) ∧ h'.get (h.next + 2) = some (.mem 3 [encS b tg]) ∧ h'.get o = some (.mem 2 [[.app t1 g1 10 (L.map encI), .app t2 g2 1 (S.map encStr)]]) ∧ h.next + 3 ≤ h'.next ∧ Keeps h h' ∧ i ≤ L.length ∧ openO L k n head b tg = openO (L.drop i) k n head b tg) (fun i => L.length - i) 0 (by repeat first | exact subE.nil _ | (apply subE.cons; focus (first | exact rfl | (simp [lk_cons]; done) | (simp [lk_cons]; omega))))
    ⟨gH, gH, gH, gH, (leN gN (by omega)), (by repeat first | with_reducible exact Keeps.refl _ | with_reducible refine Keeps.put ?_ (by omega) _ | with_reducible refine Keeps.set ?_ (by omega) _ | assumption), Nat.zero_le _, by simp⟩ ?_
  rintro i h' ⟨g1, g2, g3, g0, g4, g5, g6, g7⟩
  (refine go ?_)
  (refine WW.ifB rfl (fun hz1 => ?_) (fun hz1 => ?_))
  · have hi : i < L.length := by omega
    (refine go ?_)
    (apply WL.andB; exact rfl; exact rfl; exact rfl; exact BP.of; intro hz2)
    · (repeat first | (apply GW.goS; exact Stp.auto) | apply GW.nil | exact rfl)
    (refine go ?_)
    (apply WL.andB; exact rfl; exact rfl; exact rfl; exact BP.of; intro hz3)
    · (repeat first | (apply GW.goS; exact Stp.auto) | apply GW.nil | exact rfl)
    (refine go ?_)
    (apply WL.andB; exact rfl; exact rfl; exact rfl; exact BP.of; intro hz4)
    · (repeat first | (apply GW.goS; exact Stp.auto) | apply GW.nil | exact rfl)
      refine GW.call rfl (by first | exact True.intro | exact rfl) (by repeat first | exact SubL.nil | refine SubL.cons (SubV.refl _) ?_ | refine SubL.cons SubV.app ?_ | refine SubL.cons SubV.nil ?_) (ref5_Same_ae L[i].out b L[i].tag tg _) ?_
      (repeat first | (apply GW.goS; exact Stp.auto) | apply GW.nil | exact rfl)
    (refine go ?_)
    have hmm : ∀ c : Bool, ((((((L[i].key.1 == k.1 && (L[i].key.2 == k.2 && true)) && (L[i].n.1 == n.1 && (L[i].n.2.1 == n.2.1 && (L[i].n.2.2 == n.2.2 && true)))) && (L[i].head == head)) && (L[i].out == b && L[i].tag == tg)) = c) → isI k n head b tg L[i] = c) := by
      intro c hc
      rw [pr_beq, nn_beq] at hc
      rw [← hc, isI]
      generalize (L[i].key == k) = a1
      generalize (L[i].n == n) = a2
      generalize (L[i].tag == tg) = a3
      generalize (L[i].head == head) = a4
      generalize (L[i].out == b) = a5
      cases a1 <;> cases a2 <;> cases a3 <;> cases a4 <;> cases a5 <;> rfl
    (refine WW.ifB rfl (fun hz6 => ?_) (fun hz6 => ?_))
    · have hm : isI k n head b tg L[i] = true := hmm _ hz6
      (refine go ?_)
      refine WW.ret (PureQ.finD ?_)
      have : openO L k n head b tg = some L[i].data := by
        rw [g7, openO, List.drop_eq_getElem_cons hi, List.find?_cons, hm]; rfl
      rw [this]
      exact Fz.tup2 (fz_immB rfl) (fz_b rfl)
    · have hm : isI k n head b tg L[i] = false := hmm _ hz6
      (refine go ?_)
      refine ⟨i + 1, (by repeat first | exact subE.nil _ | (apply subE.cons; focus (first | exact rfl | (simp [lk_cons]; done) | (simp [lk_cons]; omega)))), ⟨gH, gH, gH, gH, (leN gN (by omega)), (by repeat first | with_reducible exact Keeps.refl _ | with_reducible refine Keeps.put ?_ (by omega) _ | with_reducible refine Keeps.set ?_ (by omega) _ | assumption), by omega, ?_⟩, by omega⟩
      rw [g7, openO, openO, find_drop hi hm]
  · have hi : i = L.length := by omega
    subst hi
    (refine go ?_)
    refine WW.ret (PureQ.finD ?_)
    have : openO L k n head b tg = none := by rw [g7]; simp [openO]
    rw [this]
    exact Fz.tup2 (.nil _) (fz_b rfl)

theorem ref7_Sum_ae {h : AHeap} {o t1 t2 g1 g2 : Nat} {L : List Iss} {S : List Bs} (hO : RefAt h o t1 t2 g1 g2 L S) (hS : S.length ≤ 1000000) (key : Bs) (hk : key.length ≤ 1000000) :
    AE Try.prog 75 [.ptr o 0 0, .imm 1 (key.map encB)] h (.agg (encP (eees, (sumN S key : Int))))
      ((h.set t2 (some (.tail g2 (sumS S key).length))).set o (some (.mem 2 [[.app t1 g1 10 (L.map encI), .app t2 g2 1 ((sumS S key).map encStr)]]))) := by
  obtain ⟨q1, q2, q3, q4⟩ := hO
  refine AE.wf fun hwf => ?_
  have ho := hwf _ _ q1
  have ht := hwf _ _ q2
  have ht2 := hwf _ _ q3
  have hne : o ≠ t2 := fun e => by subst e; rw [q1] at q3; cases q3
  have hne1 : o ≠ t1 := fun e => by subst e; rw [q1] at q2; cases q2
  refine AE.effW is_ref7_Oracle_Sum (by simp) ?_ ?_
  · refine Ext.set (Ext.set (x := .tail _ _) Ext.refl (Nm.old q3) trivial) (Nm.old q1) ?_
    intro x hx v hv
    simp only [List.mem_singleton] at hx
    subst hx
    simp only [List.mem_cons, List.not_mem_nil, or_false] at hv
    rcases hv with rfl | rfl
    · exact .app _ _ _ _ (Nm.old q2) fun x hx v hv => by
        obtain ⟨i, _, rfl⟩ := List.mem_map.1 hx
        exact clo_encI i v hv
    · exact .app _ _ _ _ (Nm.old q3) fun x hx v hv => by
        obtain ⟨i, _, rfl⟩ := List.mem_map.1 hx
        simp only [encStr, List.mem_singleton] at hv
        subst hv
        exact .str _
  unfold c_ref7_Oracle_Sum
  (refine go ?_)
  refine WW.loopE (fun (i : Nat) => [(0, some (.ptr o 0 0)), (1, some (.imm 1 (key.map encB))), (4, some (.ptr h.next 0 0)), (5, some (.int .i64 i))])
    (fun i h' => h' = h.put h.next (.mem 2 [[.int .u64 0, .int .u64 0]]) ∧ i ≤ S.length ∧ idxS key S = (idxS key (S.drop i)).map (· + i)) (fun i => S.length - i) 0 (by repeat first | exact subE.nil _ | (apply subE.cons; focus (first | exact rfl | (simp [lk_cons]; done) | (simp [lk_cons]; omega)))) ⟨rfl, Nat.zero_le _, by simp only [List.drop_zero]; cases idxS key S <;> rfl⟩ ?_
  rintro i h' ⟨rfl, g2, g3⟩
  (refine go ?_)
  (refine WW.ifB rfl (fun hz1 => ?_) (fun hz1 => ?_))
  · have hi : i < S.length := by omega
    (refine go ?_)
    (refine WW.ifB rfl (fun hz2 => ?_) (fun hz2 => ?_))
    · have e0 : idxS key S = some i := by rw [g3, List.drop_eq_getElem_cons hi, idxS, if_pos hz2.symm]; simp
      have e1 : sumS S key = S := by rw [sumS, e0]; rfl
      have e2 : sumN S key = i + 1 := by rw [sumN, e0]; rfl
      (refine go ?_)
      rw [e1, e2, set_same q3, set_same q1]
      refine WW.ret (EffQ.finD ?_ ?_)
      · exact (by repeat first | with_reducible exact Keeps.refl _ | with_reducible refine Keeps.put ?_ (by omega) _ | with_reducible refine Keeps.set ?_ (by omega) _ | assumption)
      · refine .clo _ (.agg _ fun v hv => ?_)
        simp only [List.mem_cons, List.not_mem_nil, or_false] at hv
        rcases hv with rfl | rfl <;> exact .int _ _
    · (refine go ?_)
      refine ⟨i + 1, (by repeat first | exact subE.nil _ | (apply subE.cons; focus (first | exact rfl | (simp [lk_cons]; done) | (simp [lk_cons]; omega)))), ⟨rfl, by omega, ?_⟩, by omega⟩
      rw [g3, List.drop_eq_getElem_cons hi, idxS, if_neg (fun e => hz2 e.symm)]
      cases idxS key (S.drop (i + 1)) with
      | none => rfl
      | some m => simp; omega
  · have hi : i = S.length := by omega
    subst hi
    have e0 : idxS key S = none := by rw [g3, List.drop_length]; rfl
    have e1 : sumS S key = S ++ [key] := by rw [sumS, e0]; rfl
    have e2 : sumN S key = S.length + 1 := by rw [sumN, e0]; rfl
    have e3 : (S ++ [key]).length = S.length + 1 := by simp
    have e4 : (S.map encStr ++ [[AV.str key]]).length = S.length + 1 := by simp
    (refine go ?_)
    rw [e1, e2, e3]
    simp only [e4]
    refine WW.ret (EffQ.finD ?_ ?_)
    · refine ⟨(by repeat first | exact Nat.le_refl _ | refine next_le_put ?_ | refine next_le_set ?_ | assumption), fun id hu => ?_⟩; have hlt : id < AHeap.next h := hu.1; simp only [get_put, get_set]; (repeat' split) <;> first | rfl | omega | (simp [encStr]; done)
    · refine .clo _ (.agg _ fun v hv => ?_)
      simp only [List.mem_cons, List.not_mem_nil, or_false] at hv
      rcases hv with rfl | rfl <;> exact .int _ _
end Go.Proofs.Ytlddahcgaonlhaa
