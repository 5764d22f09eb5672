/- Trees of sums by an ideal lock: leafSum, nodeSum, Build, Turn. -/
import Derived.Test.YtlddahcgaonlhaaT1
import Derived.Test.YtlddahcgaonlhaaK1
import Derived.Test.YtlddahcgaonlhaaAD
set_option linter.all false
namespace Go.Proofs.Ytlddahcgaonlhaa
open Go Go.Abs

theorem pairB_len (p : Pr) : (pairB p).length = 16 := by simp [pairB]
/-- What is summed for a leaf, for a node. -/
def leafK (b : Bs) : Bs := 0 :: b
def nodeK (a b : Pr) : Bs := 1 :: (pairB a ++ pairB b)
def sumP (S : List Bs) (k : Bs) : Pr := (eees, (sumN S k : Int))
theorem sumS_le (S : List Bs) (k : Bs) : (sumS S k).length ≤ S.length + 1 := by unfold sumS; split <;> simp
theorem idAt_get {h h2 : AHeap} {l o t s g : Nat} {L : List Iss} {S : List Bs} (hO : IdAt h l o t s g L S) (h0 : h2.get l = h.get l) (h1 : h2.get o = h.get o) (h3 : h2.get t = h.get t) (h4 : h2.get s = h.get s) : IdAt h2 l o t s g L S :=
  ⟨h0.trans hO.cells, orAt_get hO.ora h1 h3 h4⟩
structure IdLt (h : AHeap) (l o t s : Nat) : Prop where
  a1 : l < h.next
  a2 : o < h.next
  a3 : t < h.next
  a4 : s < h.next
  a5 : l ≠ s
  a6 : o ≠ s
  a7 : t ≠ s
theorem IdAt.lt {h : AHeap} {l o t s g : Nat} {L : List Iss} {S : List Bs} (hO : IdAt h l o t s g L S) (hwf : ∀ (id : Nat) (x : AObj), h.get id = some x → id < h.next) : IdLt h l o t s := by
  obtain ⟨q0, q1, q2, q3⟩ := hO
  refine { a1 := hwf _ _ q0, a2 := hwf _ _ q1, a3 := hwf _ _ q2, a4 := hwf _ _ q3, a5 := ?_, a6 := ?_, a7 := ?_ }
  · rintro rfl; rw [q0] at q3; cases q3
  · rintro rfl; rw [q1] at q3; cases q3
  · rintro rfl; rw [q2] at q3; cases q3
theorem idAt_sum {h : AHeap} {l o t s g : Nat} {L : List Iss} {S : List Bs} (hO : IdAt h l o t s g L S) (S' : List Bs) : IdAt (h.set s (some (.map (encM S')))) l o t s g L S' := by
  obtain ⟨q0, q⟩ := hO
  refine ⟨?_, orAt_sum q S'⟩
  have : l ≠ s := fun e => by subst e; have := q.sums; rw [q0] at this; cases this
  exact get_set_neE this q0

theorem idAt_keeps {h h' : AHeap} {l o t s g : Nat} {L : List Iss} {S S' : List Bs} (hl : IdAt h l o t s g L S) (hu : ∀ id x, h.get id = some x → h.used id) (hk : KeepsB [s] h h') (hs : h'.get s = some (.map (encM S'))) : IdAt h' l o t s g L S' := by
  obtain ⟨w1, w2, w3, w4, w5, w6, w7⟩ := hl.lt fun id x hx => (hu id x hx).1
  obtain ⟨q0, q1, q2, q3⟩ := hl
  exact ⟨(hk.2 l (hu _ _ q0) (by simpa using w5)).trans q0, ⟨(hk.2 o (hu _ _ q1) (by simpa using w6)).trans q1, (hk.2 t (hu _ _ q2) (by simpa using w7)).trans q2, hs⟩⟩

theorem tree_leafSum_ae {h : AHeap} {l o t s g : Nat} {L : List Iss} {S : List Bs} (hl : IdAt h l o t s g L S) (hS : S.length ≤ 100000) (b : Bs) (hb : b.length ≤ 100000) :
    AE Try.prog 59 [.ptr l 0 0, .imm 1 (b.map encB)] h (.agg (encP (sumP S (leafK b)))) (h.set s (some (.map (encM (sumS S (leafK b)))))) := by
  refine AE.wf fun hwf => ?_
  obtain ⟨w1, w2, w3, w4, _, _, _⟩ := hl.lt hwf
  refine AE.effW is_tree_leafSum (by simp) (Ext.set (x := .map _) Ext.refl (Nm.old hl.ora.sums) (clo_encM _)) ?_
  unfold c_tree_leafSum
  (refine go ?_)
  have hcon := lock_SumI_ae (h := h.put h.next (.mem 2 [[.int .u64 0, .int .u64 0]])) (idAt_get hl (by repeat first | with_reducible apply get_put_neE (by omega) | with_reducible apply get_set_neE (by omega) | with_reducible apply get_keepE | exact rfl) (by repeat first | with_reducible apply get_put_neE (by omega) | with_reducible apply get_set_neE (by omega) | with_reducible apply get_keepE | exact rfl) (by repeat first | with_reducible apply get_put_neE (by omega) | with_reducible apply get_set_neE (by omega) | with_reducible apply get_keepE | exact rfl) (by repeat first | with_reducible apply get_put_neE (by omega) | with_reducible apply get_set_neE (by omega) | with_reducible apply get_keepE | exact rfl)) (by omega) [[0], b] (by simp) (by simp; omega)
  rw [show [[(0 : UInt8)], b].flatten = leafK b by simp [leafK]] at hcon
  refine WL.call rfl (by first | exact True.intro | exact rfl) (by repeat first | exact SubL.nil | refine SubL.cons (SubV.refl _) ?_ | refine SubL.cons SubV.app ?_ | refine SubL.cons SubV.nil ?_) (hcon) ?_
  (refine go ?_)
  refine WW.ret (EffQ.finD ?_ ?_)
  · refine ⟨(by repeat first | exact Nat.le_refl _ | refine next_le_put ?_ | refine next_le_set ?_ | assumption), fun id hu => ?_⟩; have hlt : id < AHeap.next h := hu.1; simp only [get_put, get_set]; (repeat' split) <;> first | rfl | omega | (simp [putM]; done)
  · exact .clo _ (.agg _ fun v hv => clo_flat (encP_flat (sumP S (leafK b)) v hv))

theorem tree_nodeSum_ae {h : AHeap} {l o t s g : Nat} {L : List Iss} {S : List Bs} (hl : IdAt h l o t s g L S) (hS : S.length ≤ 100000) (a b : Pr) :
    AE Try.prog 60 [.ptr l 0 0, .agg (encP a), .agg (encP b)] h (.agg (encP (sumP S (nodeK a b)))) (h.set s (some (.map (encM (sumS S (nodeK a b)))))) := by
  refine AE.wf fun hwf => ?_
  obtain ⟨w1, w2, w3, w4, _, _, _⟩ := hl.lt hwf
  refine AE.effW is_tree_nodeSum (by simp) (Ext.set (x := .map _) Ext.refl (Nm.old hl.ora.sums) (clo_encM _)) ?_
  unfold c_tree_nodeSum
  (repeat first | refine WL.go ?_ | refine WW.seq ?_ | refine WW.reg ?_ | refine WL.nil ?_ | refine WW.skip ?_ | refine WW.block ?_ | refine WW.exit ?_ | refine WW.condT rfl ?_ | refine WW.condF rfl ?_ | refine WL.gox ?_ | refine thenN ?_ | refine blkN ?_)
  refine WW.dregX [7, 8] [] [s, h.next + 2] gN (by decide +kernel) ?_
  (refine go ?_)
  refine DW.callS rfl (by first | exact True.intro | exact rfl) (by repeat first | exact SubL.nil | refine SubL.cons (SubV.refl _) ?_ | refine SubL.cons SubV.app ?_ | refine SubL.cons SubV.nil ?_) rfl (wire_Bytes_ae a _) ?_
  (refine go ?_)
  refine DW.callS rfl (by first | exact True.intro | exact rfl) (by repeat first | exact SubL.nil | refine SubL.cons (SubV.refl _) ?_ | refine SubL.cons SubV.app ?_ | refine SubL.cons SubV.nil ?_) rfl (wire_Bytes_ae b _) ?_
  (refine go ?_)
  have hcon := lock_SumI_ae (h := ((h.put h.next (.mem 2 [encP a])).put (h.next + 1) (.mem 2 [encP b])).put (h.next + 2) (.mem 2 [[.int .u64 0, .int .u64 0]])) (idAt_get hl (by repeat first | with_reducible apply get_put_neE (by omega) | with_reducible apply get_set_neE (by omega) | with_reducible apply get_keepE | exact rfl) (by repeat first | with_reducible apply get_put_neE (by omega) | with_reducible apply get_set_neE (by omega) | with_reducible apply get_keepE | exact rfl) (by repeat first | with_reducible apply get_put_neE (by omega) | with_reducible apply get_set_neE (by omega) | with_reducible apply get_keepE | exact rfl) (by repeat first | with_reducible apply get_put_neE (by omega) | with_reducible apply get_set_neE (by omega) | with_reducible apply get_keepE | exact rfl)) (by omega) [[1], pairB a, pairB b] (by simp) (by simp [pairB_len])
  rw [show [[(1 : UInt8)], pairB a, pairB b].flatten = nodeK a b by simp [nodeK]] at hcon
  refine DW.callSW rfl (by first | exact True.intro | exact rfl) (by repeat first | exact SubL.nil | refine SubL.cons (SubV.refl _) ?_ | refine SubL.cons SubV.app ?_ | refine SubL.cons SubV.nil ?_) rfl rfl (fun hp => by repeat first | exact hp | refine PhiW.put (by omega) ?_ | refine PhiW.setN (by omega) ?_ | refine PhiW.setW (by simp; done) ?_) (hcon) ?_
  (refine go ?_)
  refine WW.ret (EffQ.finD ?_ ?_)
  · refine ⟨(by repeat first | exact Nat.le_refl _ | refine next_le_put ?_ | refine next_le_set ?_ | assumption), fun id hu => ?_⟩; have hlt : id < AHeap.next h := hu.1; simp only [get_put, get_set]; (repeat' split) <;> first | rfl | omega | (simp [putM]; done)
  · exact .clo _ (.agg _ fun v hv => clo_flat (encP_flat (sumP S (nodeK a b)) v hv))

/-- The leaves' sums from node k on. -/
def lfF : List Bs → Nat → List Pr → List Bs → List Pr × List Bs
  | [], _, N, S => (N, S)
  | b :: r, k, N, S => lfF r (k + 1) (N.set k (sumP S (leafK b))) (sumS S (leafK b))
def kidK (N : List Pr) (i : Nat) : Bs := nodeK (N.getD (2 * i) (0, 0)) (N.getD (2 * i + 1) (0, 0))
/-- The sums of nodes i, i - 1, .., 1. -/
def upF : Nat → List Pr → List Bs → List Pr × List Bs
  | 0, N, S => (N, S)
  | i + 1, N, S => upF i (N.set (i + 1) (sumP S (kidK N (i + 1)))) (sumS S (kidK N (i + 1)))
def buildF (lv : List Bs) (S : List Bs) : List Pr × List Bs :=
  upF (lv.length - 1) (lfF lv lv.length (List.replicate (2 * lv.length) (0, 0)) S).1 (lfF lv lv.length (List.replicate (2 * lv.length) (0, 0)) S).2
theorem lfF_len : ∀ (lv : List Bs) (k : Nat) (N : List Pr) (S : List Bs), (lfF lv k N S).1.length = N.length ∧ (lfF lv k N S).2.length ≤ S.length + lv.length
  | [], _, _, _ => ⟨rfl, Nat.le_refl _⟩
  | b :: r, k, N, S => by
    have h1 := lfF_len r (k + 1) (N.set k (sumP S (leafK b))) (sumS S (leafK b))
    have h2 := sumS_le S (leafK b)
    simp only [lfF, List.length_set, List.length_cons] at *
    omega
theorem upF_len : ∀ (i : Nat) (N : List Pr) (S : List Bs), (upF i N S).1.length = N.length ∧ (upF i N S).2.length ≤ S.length + i
  | 0, _, _ => ⟨rfl, Nat.le_refl _⟩
  | i + 1, N, S => by
    have h1 := upF_len i (N.set (i + 1) (sumP S (kidK N (i + 1)))) (sumS S (kidK N (i + 1)))
    have h2 := sumS_le S (kidK N (i + 1))
    simp only [upF, List.length_set] at *
    omega

theorem hp_ext {h k : AHeap} (h1 : ∀ i, h.get i = k.get i) (h2 : h.next = k.next) (h3 : ∀ i, h.gap i = k.gap i) : h = k := by
  cases h; cases k
  simp only at h1 h2 h3
  rw [funext h1, h2, funext h3]
/-- One object is new, one is turned: both anew. -/
theorem hp_upd {h : AHeap} {nd s : Nat} {x y : AObj} {a b : Option AObj} (hs : s ≠ nd) : (((h.put nd x).set s a).set s b).set nd (some y) = (h.put nd y).set s b := by
  refine hp_ext (fun i => ?_) rfl fun i => rfl
  simp only [get_put, get_set]
  by_cases h1 : i = nd
  · subst h1; rw [if_pos rfl, if_neg (fun e => hs e.symm), if_pos rfl]
  · rw [if_neg h1]
    by_cases h2 : i = s
    · rw [if_pos h2, if_pos h2]
    · rw [if_neg h2, if_neg h2, if_neg h2, if_neg h1, if_neg h1]
theorem hp_one {h : AHeap} {nd s : Nat} {x : AObj} {y : AObj} (hs : s ≠ nd) (hg : h.get s = some y) : h.put nd x = (h.put nd x).set s (some y) := by
  refine hp_ext (fun i => ?_) rfl fun i => rfl
  simp only [get_put, get_set]
  by_cases h2 : i = s
  · subst h2; rw [if_neg hs, if_pos rfl, hg]
  · rw [if_neg h2]
theorem rep_map {n : Nat} : List.replicate n [AV.int .u64 0, .int .u64 0] = (List.replicate n ((0, 0) : Pr)).map encP := by
  rw [List.map_replicate]; rfl
theorem set_map (N : List Pr) (k : Nat) (p : Pr) : (N.map encP).set k (encP p) = (N.set k p).map encP := by rw [List.map_set]

theorem tree_Build_ae {h : AHeap} {l o t s g : Nat} {L : List Iss} {S : List Bs} (hl : IdAt h l o t s g L S) (hS : S.length ≤ 10000) (lv : List Bs) (hG : isG lv.length = true) (hb : ∀ b ∈ lv, b.length ≤ 100000) :
    AE Try.prog 21 [.ptr l 0 0, .imm 1 (lv.map encR)] h (.tup [.imm 2 ((buildF lv S).1.map encP), .bool true]) (h.set s (some (.map (encM (buildF lv S).2)))) := by
  have hn : lv.length ≤ 16 ∧ 1 ≤ lv.length := by simp [isG] at hG; omega
  refine AE.wf fun hwf => ?_
  obtain ⟨w1, w2, w3, w4, w5, w6, w7⟩ := hl.lt hwf
  refine AE.effW is_tree_Build (by simp) (Ext.set (x := .map _) Ext.refl (Nm.old hl.ora.sums) (clo_encM _)) ?_
  unfold c_tree_Build
  (refine go ?_)
  refine WL.call rfl (by first | exact True.intro | exact rfl) (by repeat first | exact SubL.nil | refine SubL.cons (SubV.refl _) ?_ | refine SubL.cons SubV.app ?_ | refine SubL.cons SubV.nil ?_) (geom_Is_ae _ _) ?_
  rw [hG]
  (refine go ?_)
  have g0 : (h.put h.next (.mem 2 (List.replicate (2 * lv.length) [.int .u64 0, .int .u64 0]))) = (h.put h.next (.mem 2 ((List.replicate (2 * lv.length) ((0, 0) : Pr)).map encP))).set s (some (.map (encM S))) := by
    rw [rep_map]; exact hp_one (by omega) hl.ora.sums
  rw [g0]
  refine WW.loopE (fun (q : Nat × List Pr × List Bs) => [(0, some (.ptr l 0 0)), (6, some (.int .i64 lv.length)), (7, some (.ref h.next 0 (2 * lv.length))), (19, some (.imm 1 (lv.map encR))), (20, some (.int .i64 lv.length)), (21, some (.int .i64 q.1))])
    (fun q h' => h' = (h.put h.next (.mem 2 (q.2.1.map encP))).set s (some (.map (encM q.2.2))) ∧ q.1 ≤ lv.length ∧ q.2.1.length = 2 * lv.length ∧ q.2.2.length ≤ S.length + q.1 ∧ lfF (lv.drop q.1) (lv.length + q.1) q.2.1 q.2.2 = lfF lv lv.length (List.replicate (2 * lv.length) (0, 0)) S) (fun q => lv.length - q.1) (0, List.replicate (2 * lv.length) (0, 0), S) (by repeat first | exact subE.nil _ | (apply subE.cons; focus (first | exact rfl | (simp [lk_cons]; done) | (simp [lk_cons]; omega))))
    ⟨rfl, Nat.zero_le _, by simp, by simp, by simp⟩ ?_
  rintro ⟨i, N, S1⟩ h' ⟨rfl, c1, c2, c3, c4⟩
  dsimp only at c1 c2 c3 c4 ⊢
  (refine go ?_)
  (refine WW.ifB rfl (fun hz1 => ?_) (fun hz1 => ?_))
  · have hi : i < lv.length := by omega
    (refine go ?_)
    have hcon := tree_leafSum_ae (h := (h.put h.next (.mem 2 (N.map encP))).set s (some (.map (encM S1)))) (idAt_sum (idAt_get (h2 := h.put h.next (.mem 2 (N.map encP))) hl (by repeat first | with_reducible apply get_put_neE (by omega) | with_reducible apply get_set_neE (by omega) | with_reducible apply get_keepE | exact rfl) (by repeat first | with_reducible apply get_put_neE (by omega) | with_reducible apply get_set_neE (by omega) | with_reducible apply get_keepE | exact rfl) (by repeat first | with_reducible apply get_put_neE (by omega) | with_reducible apply get_set_neE (by omega) | with_reducible apply get_keepE | exact rfl) (by repeat first | with_reducible apply get_put_neE (by omega) | with_reducible apply get_set_neE (by omega) | with_reducible apply get_keepE | exact rfl)) S1) (by omega) lv[i] (hb _ (List.getElem_mem hi))
    refine WL.call rfl (by first | exact True.intro | exact rfl) (by repeat first | exact SubL.nil | refine SubL.cons (SubV.refl _) ?_ | refine SubL.cons SubV.app ?_ | refine SubL.cons SubV.nil ?_) (hcon) ?_
    (refine go ?_)
    refine ⟨(i + 1, N.set (lv.length + i) (sumP S1 (leafK lv[i])), sumS S1 (leafK lv[i])), (by repeat first | exact subE.nil _ | (apply subE.cons; focus (first | exact rfl | (simp [lk_cons]; done) | (simp [lk_cons]; omega)))), ⟨?_, by dsimp only; omega, by simpa using c2, ?_, ?_⟩, by dsimp only; omega⟩
    · rw [Nat.zero_add, ← set_map]; exact hp_upd (by omega)
    · have := sumS_le S1 (leafK lv[i]); dsimp only; omega
    · rw [← c4, List.drop_eq_getElem_cons hi, lfF]; rfl
  · have hi : i = lv.length := by omega
    subst hi
    simp only [List.drop_length, lfF] at c4
    (refine go ?_)
    refine WW.loopE (fun (q : Nat × List Pr × List Bs) => [(0, some (.ptr l 0 0)), (7, some (.ref h.next 0 (2 * lv.length))), (10, some (.int .i64 q.1))])
      (fun q h' => h' = (h.put h.next (.mem 2 (q.2.1.map encP))).set s (some (.map (encM q.2.2))) ∧ q.1 < lv.length ∧ q.2.1.length = 2 * lv.length ∧ q.2.2.length + q.1 ≤ S.length + 2 * lv.length ∧ upF q.1 q.2.1 q.2.2 = buildF lv S) (fun q => q.1) (lv.length - 1, N, S1) (by repeat first | exact subE.nil _ | (apply subE.cons; focus (first | exact rfl | (simp [lk_cons]; done) | (simp [lk_cons]; omega))))
      ⟨rfl, by dsimp only; omega, c2, by dsimp only; omega, by rw [buildF, ← c4]⟩ ?_
    clear c1 c2 c3 c4
    rintro ⟨k, N2, S2⟩ h' ⟨rfl, c1, c2, c3, c4⟩
    dsimp only at c1 c2 c3 c4 ⊢
    (refine go ?_)
    (refine WW.ifB rfl (fun hz2 => ?_) (fun hz2 => ?_))
    · have hk : 0 < k := by omega
      (repeat first | refine WL.go ?_ | refine WW.seq ?_ | refine WW.reg ?_ | refine WL.nil ?_ | refine WW.skip ?_ | refine WW.block ?_ | refine WW.exit ?_ | refine WW.condT rfl ?_ | refine WW.condF rfl ?_ | refine WL.gox ?_ | refine thenN ?_ | refine blkN ?_)
      refine WW.dregX [14, 16] [] [s, h.next] gN (by decide +kernel) ?_
      (refine go ?_)
      have hkid : kidK N2 k = nodeK (N2[0 + 2 * k]'(by omega)) (N2[0 + (2 * k + 1)]'(by omega)) := by
        simp only [kidK, Nat.zero_add, List.getD_eq_getElem?_getD]
        rw [List.getElem?_eq_getElem (by omega), List.getElem?_eq_getElem (by omega)]
        rfl
      have hcon := tree_nodeSum_ae (h := (h.put h.next (.mem 2 (N2.map encP))).set s (some (.map (encM S2)))) (idAt_sum (idAt_get (h2 := h.put h.next (.mem 2 (N2.map encP))) hl (by repeat first | with_reducible apply get_put_neE (by omega) | with_reducible apply get_set_neE (by omega) | with_reducible apply get_keepE | exact rfl) (by repeat first | with_reducible apply get_put_neE (by omega) | with_reducible apply get_set_neE (by omega) | with_reducible apply get_keepE | exact rfl) (by repeat first | with_reducible apply get_put_neE (by omega) | with_reducible apply get_set_neE (by omega) | with_reducible apply get_keepE | exact rfl) (by repeat first | with_reducible apply get_put_neE (by omega) | with_reducible apply get_set_neE (by omega) | with_reducible apply get_keepE | exact rfl)) S2) (by omega) (N2[0 + 2 * k]'(by omega)) (N2[0 + (2 * k + 1)]'(by omega))
      rw [← hkid] at hcon
      refine DW.callSW rfl (by first | exact True.intro | exact rfl) (by repeat first | exact SubL.nil | refine SubL.cons (SubV.refl _) ?_ | refine SubL.cons SubV.app ?_ | refine SubL.cons SubV.nil ?_) rfl rfl (fun hp => by repeat first | exact hp | refine PhiW.put (by omega) ?_ | refine PhiW.setN (by omega) ?_ | refine PhiW.setW (by simp; done) ?_) (hcon) ?_
      (refine go ?_)
      have hk1 : k = (k - 1) + 1 := by omega
      refine ⟨(k - 1, N2.set k (sumP S2 (kidK N2 k)), sumS S2 (kidK N2 k)), (by repeat first | exact subE.nil _ | (apply subE.cons; focus (first | exact rfl | (simp [lk_cons]; done) | (simp [lk_cons]; omega)))), ⟨?_, by dsimp only; omega, by simpa using c2, ?_, ?_⟩, by dsimp only; omega⟩
      · rw [Nat.zero_add, ← set_map]; exact hp_upd (by omega)
      · have := sumS_le S2 (kidK N2 k); dsimp only; omega
      · rw [← c4]
        conv => rhs; rw [hk1]
        rw [upF, ← hk1]
    · have hk : k = 0 := by omega
      subst hk
      simp only [upF] at c4
      (refine go ?_)
      rw [← c4]
      refine WW.ret (EffQ.finD ?_ ?_)
      · refine ⟨(by repeat first | exact Nat.le_refl _ | refine next_le_put ?_ | refine next_le_set ?_ | assumption), fun id hu => ?_⟩; have hlt : id < AHeap.next h := hu.1; simp only [get_put, get_set]; (repeat' split) <;> first | rfl | omega | (simp [putM]; done)
      · exact Fz.tup2 (fz_ref gH (Nat.le_refl _) (by simp [c2]) rfl (flatC_map encP_flat)) (fz_b rfl)
end Go.Proofs.Ytlddahcgaonlhaa
