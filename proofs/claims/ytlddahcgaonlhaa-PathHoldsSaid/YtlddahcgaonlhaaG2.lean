/- Trees of sums by either lock: leafSum, nodeSum, Build. -/
import Derived.Test.YtlddahcgaonlhaaT1
import Derived.Test.YtlddahcgaonlhaaX12
set_option linter.all false
namespace Go.Proofs.Ytlddahcgaonlhaa
open Go Go.Abs

theorem pairB_len (p : Pr) : (pairB p).length = 16 := by simp [pairB]
/-- What is summed for a leaf, for a node. -/
def leafK (b : Bs) : Bs := 0 :: b
def nodeK (a b : Pr) : Bs := 1 :: (pairB a ++ pairB b)
def sumP (S : List Bs) (k : Bs) : Pr := (eees, (sumN S k : Int))
theorem sumS_le (S : List Bs) (k : Bs) : (sumS S k).length ≤ S.length + 1 := by unfold sumS; split <;> simp
theorem hp_ext {h k : AHeap} (h1 : ∀ i, h.get i = k.get i) (h2 : h.next = k.next) (h3 : ∀ i, h.gap i = k.gap i) : h = k := by
  cases h; cases k
  simp only at h1 h2 h3
  rw [funext h1, h2, funext h3]
theorem set_none {h : AHeap} {s : Nat} (hs : h.get s = none) : h.set s none = h :=
  hp_ext (fun i => by rw [get_set]; split; · rename_i e; rw [e, hs]
                      · rfl) rfl fun _ => rfl
/-- By either lock (true: an ideal one that summed S): a sum, what was summed then, the object of it. -/
def gP (md : Bool) (S : List Bs) (k : Bs) : Pr := match md with | true => sumP S k | false => digestF k
def gS (md : Bool) (S : List Bs) (k : Bs) : List Bs := match md with | true => sumS S k | false => S
def gO (md : Bool) (S : List Bs) : Option AObj := match md with | true => some (.map (encM S)) | false => none
theorem gS_le (md : Bool) (S : List Bs) (k : Bs) : (gS md S k).length ≤ S.length + 1 := by
  cases md
  · exact Nat.le_succ _
  · exact sumS_le S k
/-- One object is turned, or none is. -/
theorem KeepsB_finO {h h1 : AHeap} {s : Nat} {X : Option AObj} (hk : KeepsB [s] h h1) (hs : h1.get s = X) : Keeps (h.set s X) h1 :=
  ⟨hk.1, fun id hu => by
    rw [get_set]
    split
    · rename_i e; subst e; exact hs
    · rename_i e; exact hk.2 id hu (by simpa using e)⟩
/-- Either lock at l. -/
structure GAt (md : Bool) (h : AHeap) (l s : Nat) (S : List Bs) : Prop where
  id : md = true → ∃ o t g L, IdAt h l o t s g L S
  re : md = false → h.get l = some (.mem 5 [reC])
  sm : h.get s = gO md S
  ls : s < h.next
  ll : l < h.next
theorem GAt.ne {md : Bool} {h : AHeap} {l s : Nat} {S : List Bs} (hl : GAt md h l s S) : l ≠ s := by
  rintro rfl
  cases md with
  | true => obtain ⟨o, t, g, L, q, q1⟩ := hl.id rfl; rw [q1.sums] at q; cases q
  | false => have := hl.re rfl; rw [hl.sm] at this; cases this
theorem GAt.ofI {h : AHeap} {l o t s g : Nat} {L : List Iss} {S : List Bs} (q : IdAt h l o t s g L S) (hs : s < h.next) (hl : l < h.next) : GAt true h l s S :=
  ⟨fun _ => ⟨o, t, g, L, q⟩, nofun, q.ora.sums, hs, hl⟩
structure GLt (md : Bool) (h : AHeap) (l s : Nat) (S : List Bs) : Prop where
  a1 : l < h.next
  a2 : s < h.next
  a3 : h.get s = gO md S
  a4 : l ≠ s
theorem GAt.lt {md : Bool} {h : AHeap} {l s : Nat} {S : List Bs} (hl : GAt md h l s S) : GLt md h l s S := ⟨hl.ll, hl.ls, hl.sm, hl.ne⟩
theorem GAt.frame {md : Bool} {h h' : AHeap} {l s : Nat} {S S' : List Bs} (hl : GAt md h l s S) (hu : ∀ id x, h.get id = some x → h.used id) (hk : KeepsB [s] h h') (hs : h'.get s = gO md S') : GAt md h' l s S' := by
  refine ⟨fun e => ?_, fun e => ?_, hs, Nat.lt_of_lt_of_le hl.ls hk.1, Nat.lt_of_lt_of_le hl.ll hk.1⟩
  · obtain ⟨o, t, g, L, q0, q1, q2, q3⟩ := hl.id e
    subst e
    have d1 : o ≠ s := by rintro rfl; rw [q1] at q3; cases q3
    have d2 : t ≠ s := by rintro rfl; rw [q2] at q3; cases q3
    exact ⟨o, t, g, L, (hk.2 l (hu _ _ q0) (by simpa using hl.ne)).trans q0, ⟨(hk.2 o (hu _ _ q1) (by simpa using d1)).trans q1, (hk.2 t (hu _ _ q2) (by simpa using d2)).trans q2, hs⟩⟩
  · have q0 := hl.re e
    exact (hk.2 l (hu _ _ q0) (by simpa using hl.ne)).trans q0
theorem GAt.ext {md : Bool} {h : AHeap} {l s : Nat} {S : List Bs} (hl : GAt md h l s S) (_hu : ∀ id x, h.get id = some x → h.used id) (S' : List Bs) : Ext h (h.set s (gO md S')) := by
  cases md with
  | true => exact Ext.set (x := .map _) Ext.refl (Nm.old hl.sm) (clo_encM _)
  | false => rw [show gO false S' = none from rfl, set_none hl.sm]; exact Ext.refl
theorem lock_SumG_ae {md : Bool} {h : AHeap} {l s : Nat} {S : List Bs} (hl : GAt md h l s S) (hS : S.length ≤ 1000000) (rows : List Bs) (hr1 : rows.length ≤ 1000000) (hr2 : rows.flatten.length ≤ 1000000) :
    AE Try.prog 41 [.ptr l 0 0, .imm 1 (rows.map encR)] h (.agg (encP (gP md S rows.flatten))) (h.set s (gO md (gS md S rows.flatten))) := by
  cases md with
  | true =>
    obtain ⟨o, t, g, L, q⟩ := hl.id rfl
    exact lock_SumI_ae q hS rows hr1 hr2
  | false =>
    rw [show gO false (gS false S rows.flatten) = none from rfl, set_none hl.sm]
    exact lock_SumR_ae (hl.re rfl) rows hr1 hr2
attribute [local irreducible] digestF

theorem tree_leafSum_ae {md : Bool} {h : AHeap} {l s : Nat} {S : List Bs} (hl : GAt md h l s S) (hS : S.length ≤ 100000) (b : Bs) (hb : b.length ≤ 100000) :
    AE Try.prog 59 [.ptr l 0 0, .imm 1 (b.map encB)] h (.agg (encP (gP md S (leafK b)))) (h.set s (gO md (gS md S (leafK b)))) := by
  refine AE.wfU fun hwu => ?_
  obtain ⟨w1, w4, w5, w6⟩ := hl.lt
  refine AE.effW is_tree_leafSum (by simp) (hl.ext hwu _) ?_
  unfold c_tree_leafSum
  (refine go ?_)
  have hcon := lock_SumG_ae (h := h.put h.next (.mem 2 [[.int .u64 0, .int .u64 0]])) (hl.frame hwu (by repeat first | exact KeepsB.refl | assumption | with_reducible refine KeepsB.keep ?_ _ | with_reducible refine KeepsB.put ?_ (by omega) _ | with_reducible refine KeepsB.setN ?_ (by omega) _ | with_reducible refine KeepsB.setW ?_ (by simp; done) _) gH) (by omega) [[0], b] (by simp) (by simp; omega)
  rw [show [[(0 : UInt8)], b].flatten = leafK b by simp [leafK]] at hcon
  refine WL.call rfl (by first | exact True.intro | exact rfl) (by repeat first | exact SubL.nil | refine SubL.cons (SubV.refl _) ?_ | refine SubL.cons SubV.app ?_ | refine SubL.cons SubV.nil ?_) (hcon) ?_
  (refine go ?_)
  refine WW.ret (EffQ.finD ?_ ?_)
  · refine ⟨(by repeat first | exact Nat.le_refl _ | refine next_le_put ?_ | refine next_le_set ?_ | assumption), fun id hu => ?_⟩; have hlt : id < AHeap.next h := hu.1; simp only [get_put, get_set]; (repeat' split) <;> first | rfl | omega | (simp [putM]; done)
  · exact .clo _ (.agg _ fun v hv => clo_flat (encP_flat (gP md S (leafK b)) v hv))

theorem tree_nodeSum_ae {md : Bool} {h : AHeap} {l s : Nat} {S : List Bs} (hl : GAt md h l s S) (hS : S.length ≤ 100000) (a b : Pr) :
    AE Try.prog 60 [.ptr l 0 0, .agg (encP a), .agg (encP b)] h (.agg (encP (gP md S (nodeK a b)))) (h.set s (gO md (gS md S (nodeK a b)))) := by
  refine AE.wfU fun hwu => ?_
  obtain ⟨w1, w4, w5, w6⟩ := hl.lt
  refine AE.effW is_tree_nodeSum (by simp) (hl.ext hwu _) ?_
  unfold c_tree_nodeSum
  (repeat first | refine WL.go ?_ | refine WW.seq ?_ | refine WW.reg ?_ | refine WL.nil ?_ | refine WW.skip ?_ | refine WW.block ?_ | refine WW.exit ?_ | refine WW.condT rfl ?_ | refine WW.condF rfl ?_ | refine WL.gox ?_ | refine thenN ?_ | refine blkN ?_)
  refine WW.dregX [7, 8] [] [s, h.next + 2] gN (by decide +kernel) ?_
  (refine go ?_)
  refine DW.callS rfl (by first | exact True.intro | exact rfl) (by repeat first | exact SubL.nil | refine SubL.cons (SubV.refl _) ?_ | refine SubL.cons SubV.app ?_ | refine SubL.cons SubV.nil ?_) rfl (wire_Bytes_ae a _) ?_
  (refine go ?_)
  refine DW.callS rfl (by first | exact True.intro | exact rfl) (by repeat first | exact SubL.nil | refine SubL.cons (SubV.refl _) ?_ | refine SubL.cons SubV.app ?_ | refine SubL.cons SubV.nil ?_) rfl (wire_Bytes_ae b _) ?_
  (refine go ?_)
  have hcon := lock_SumG_ae (h := ((h.put h.next (.mem 2 [encP a])).put (h.next + 1) (.mem 2 [encP b])).put (h.next + 2) (.mem 2 [[.int .u64 0, .int .u64 0]])) (hl.frame hwu (by repeat first | exact KeepsB.refl | assumption | with_reducible refine KeepsB.keep ?_ _ | with_reducible refine KeepsB.put ?_ (by omega) _ | with_reducible refine KeepsB.setN ?_ (by omega) _ | with_reducible refine KeepsB.setW ?_ (by simp; done) _) gH) (by omega) [[1], pairB a, pairB b] (by simp) (by simp [pairB_len])
  rw [show [[(1 : UInt8)], pairB a, pairB b].flatten = nodeK a b by simp [nodeK]] at hcon
  refine DW.callSW rfl (by first | exact True.intro | exact rfl) (by repeat first | exact SubL.nil | refine SubL.cons (SubV.refl _) ?_ | refine SubL.cons SubV.app ?_ | refine SubL.cons SubV.nil ?_) rfl rfl (fun hp => by repeat first | exact hp | refine PhiW.put (by omega) ?_ | refine PhiW.setN (by omega) ?_ | refine PhiW.setW (by simp; done) ?_) (hcon) ?_
  (refine go ?_)
  refine WW.ret (EffQ.finD ?_ ?_)
  · refine ⟨(by repeat first | exact Nat.le_refl _ | refine next_le_put ?_ | refine next_le_set ?_ | assumption), fun id hu => ?_⟩; have hlt : id < AHeap.next h := hu.1; simp only [get_put, get_set]; (repeat' split) <;> first | rfl | omega | (simp [putM]; done)
  · exact .clo _ (.agg _ fun v hv => clo_flat (encP_flat (gP md S (nodeK a b)) v hv))

/-- The leaves' sums from node k on. -/
def lfF (md : Bool) : List Bs → Nat → List Pr → List Bs → List Pr × List Bs
  | [], _, N, S => (N, S)
  | b :: r, k, N, S => lfF md r (k + 1) (N.set k (gP md S (leafK b))) (gS md S (leafK b))
def kidK (N : List Pr) (i : Nat) : Bs := nodeK (N.getD (2 * i) (0, 0)) (N.getD (2 * i + 1) (0, 0))
/-- The sums of nodes i, i - 1, .., 1. -/
def upF (md : Bool) : Nat → List Pr → List Bs → List Pr × List Bs
  | 0, N, S => (N, S)
  | i + 1, N, S => upF md i (N.set (i + 1) (gP md S (kidK N (i + 1)))) (gS md S (kidK N (i + 1)))
def buildF (md : Bool) (lv : List Bs) (S : List Bs) : List Pr × List Bs :=
  upF md (lv.length - 1) (lfF md lv lv.length (List.replicate (2 * lv.length) (0, 0)) S).1 (lfF md lv lv.length (List.replicate (2 * lv.length) (0, 0)) S).2
theorem lfF_len (md : Bool) : ∀ (lv : List Bs) (k : Nat) (N : List Pr) (S : List Bs), (lfF md lv k N S).1.length = N.length ∧ (lfF md lv k N S).2.length ≤ S.length + lv.length
  | [], _, _, _ => ⟨rfl, Nat.le_refl _⟩
  | b :: r, k, N, S => by
    have h1 := lfF_len md r (k + 1) (N.set k (gP md S (leafK b))) (gS md S (leafK b))
    have h2 := gS_le md S (leafK b)
    simp only [lfF, List.length_set, List.length_cons] at *
    omega
theorem upF_len (md : Bool) : ∀ (i : Nat) (N : List Pr) (S : List Bs), (upF md i N S).1.length = N.length ∧ (upF md i N S).2.length ≤ S.length + i
  | 0, _, _ => ⟨rfl, Nat.le_refl _⟩
  | i + 1, N, S => by
    have h1 := upF_len md i (N.set (i + 1) (gP md S (kidK N (i + 1)))) (gS md S (kidK N (i + 1)))
    have h2 := gS_le md S (kidK N (i + 1))
    simp only [upF, List.length_set] at *
    omega

/-- One object is new, one is turned: both anew. -/
theorem hp_upd {h : AHeap} {nd s : Nat} {x y : AObj} {a b : Option AObj} (hs : s ≠ nd) : (((h.put nd x).set s a).set s b).set nd (some y) = (h.put nd y).set s b := by
  refine hp_ext (fun i => ?_) rfl fun i => rfl
  simp only [get_put, get_set]
  by_cases h1 : i = nd
  · subst h1; rw [if_pos rfl, if_neg (fun e => hs e.symm), if_pos rfl]
  · rw [if_neg h1]
    by_cases h2 : i = s
    · rw [if_pos h2, if_pos h2]
    · rw [if_neg h2, if_neg h2, if_neg h2, if_neg h1, if_neg h1]
theorem hp_one {h : AHeap} {nd s : Nat} {x : AObj} {y : Option AObj} (hs : s ≠ nd) (hg : h.get s = y) : h.put nd x = (h.put nd x).set s y := by
  refine hp_ext (fun i => ?_) rfl fun i => rfl
  simp only [get_put, get_set]
  by_cases h2 : i = s
  · subst h2; rw [if_neg hs, if_pos rfl, hg]
  · rw [if_neg h2]
theorem rep_map {n : Nat} : List.replicate n [AV.int .u64 0, .int .u64 0] = (List.replicate n ((0, 0) : Pr)).map encP := by
  rw [List.map_replicate]; rfl
theorem set_map (N : List Pr) (k : Nat) (p : Pr) : (N.map encP).set k (encP p) = (N.set k p).map encP := by rw [List.map_set]

theorem tree_Build_ae {md : Bool} {h : AHeap} {l s : Nat} {S : List Bs} (hl : GAt md h l s S) (hS : S.length ≤ 10000) (lv : List Bs) (hG : isG lv.length = true) (hb : ∀ b ∈ lv, b.length ≤ 100000) :
    AE Try.prog 21 [.ptr l 0 0, .imm 1 (lv.map encR)] h (.tup [.imm 2 ((buildF md lv S).1.map encP), .bool true]) (h.set s (gO md (buildF md lv S).2)) := by
  have hn : lv.length ≤ 16 ∧ 1 ≤ lv.length := by simp [isG] at hG; omega
  refine AE.wfU fun hwu => ?_
  obtain ⟨w1, w4, w5, w6⟩ := hl.lt
  refine AE.effW is_tree_Build (by simp) (hl.ext hwu _) ?_
  unfold c_tree_Build
  (refine go ?_)
  refine WL.call rfl (by first | exact True.intro | exact rfl) (by repeat first | exact SubL.nil | refine SubL.cons (SubV.refl _) ?_ | refine SubL.cons SubV.app ?_ | refine SubL.cons SubV.nil ?_) (geom_Is_ae _ _) ?_
  rw [hG]
  (refine go ?_)
  have g0 : (h.put h.next (.mem 2 (List.replicate (2 * lv.length) [.int .u64 0, .int .u64 0]))) = (h.put h.next (.mem 2 ((List.replicate (2 * lv.length) ((0, 0) : Pr)).map encP))).set s (gO md S) := by
    rw [rep_map]; exact hp_one (by omega) hl.sm
  rw [g0]
  refine WW.loopE (fun (q : Nat × List Pr × List Bs) => [(0, some (.ptr l 0 0)), (6, some (.int .i64 lv.length)), (7, some (.ref h.next 0 (2 * lv.length))), (19, some (.imm 1 (lv.map encR))), (20, some (.int .i64 lv.length)), (21, some (.int .i64 q.1))])
    (fun q h' => h' = (h.put h.next (.mem 2 (q.2.1.map encP))).set s (gO md q.2.2) ∧ q.1 ≤ lv.length ∧ q.2.1.length = 2 * lv.length ∧ q.2.2.length ≤ S.length + q.1 ∧ lfF md (lv.drop q.1) (lv.length + q.1) q.2.1 q.2.2 = lfF md lv lv.length (List.replicate (2 * lv.length) (0, 0)) S) (fun q => lv.length - q.1) (0, List.replicate (2 * lv.length) (0, 0), S) (by repeat first | exact subE.nil _ | (apply subE.cons; focus (first | exact rfl | (simp [lk_cons]; done) | (simp [lk_cons]; omega))))
    ⟨rfl, Nat.zero_le _, by simp, by simp, by simp⟩ ?_
  rintro ⟨i, N, S1⟩ h' ⟨rfl, c1, c2, c3, c4⟩
  dsimp only at c1 c2 c3 c4 ⊢
  (refine go ?_)
  (refine WW.ifB rfl (fun hz1 => ?_) (fun hz1 => ?_))
  · have hi : i < lv.length := by omega
    (refine go ?_)
    have hcon := tree_leafSum_ae (h := (h.put h.next (.mem 2 (N.map encP))).set s (gO md S1)) (hl.frame hwu (by repeat first | exact KeepsB.refl | assumption | with_reducible refine KeepsB.keep ?_ _ | with_reducible refine KeepsB.put ?_ (by omega) _ | with_reducible refine KeepsB.setN ?_ (by omega) _ | with_reducible refine KeepsB.setW ?_ (by simp; done) _) gH) (by omega) lv[i] (hb _ (List.getElem_mem hi))
    refine WL.call rfl (by first | exact True.intro | exact rfl) (by repeat first | exact SubL.nil | refine SubL.cons (SubV.refl _) ?_ | refine SubL.cons SubV.app ?_ | refine SubL.cons SubV.nil ?_) (hcon) ?_
    (refine go ?_)
    refine ⟨(i + 1, N.set (lv.length + i) (gP md S1 (leafK lv[i])), gS md S1 (leafK lv[i])), (by repeat first | exact subE.nil _ | (apply subE.cons; focus (first | exact rfl | (simp [lk_cons]; done) | (simp [lk_cons]; omega)))), ⟨?_, by dsimp only; omega, by simpa using c2, ?_, ?_⟩, by dsimp only; omega⟩
    · rw [Nat.zero_add, ← set_map]; exact hp_upd (by omega)
    · have := gS_le md S1 (leafK lv[i]); dsimp only; omega
    · rw [← c4, List.drop_eq_getElem_cons hi, lfF]; rfl
  · have hi : i = lv.length := by omega
    subst hi
    simp only [List.drop_length, lfF] at c4
    (refine go ?_)
    refine WW.loopE (fun (q : Nat × List Pr × List Bs) => [(0, some (.ptr l 0 0)), (7, some (.ref h.next 0 (2 * lv.length))), (10, some (.int .i64 q.1))])
      (fun q h' => h' = (h.put h.next (.mem 2 (q.2.1.map encP))).set s (gO md q.2.2) ∧ q.1 < lv.length ∧ q.2.1.length = 2 * lv.length ∧ q.2.2.length + q.1 ≤ S.length + 2 * lv.length ∧ upF md q.1 q.2.1 q.2.2 = buildF md lv S) (fun q => q.1) (lv.length - 1, N, S1) (by repeat first | exact subE.nil _ | (apply subE.cons; focus (first | exact rfl | (simp [lk_cons]; done) | (simp [lk_cons]; omega))))
      ⟨rfl, by dsimp only; omega, c2, by dsimp only; omega, by rw [buildF, ← c4]⟩ ?_
    clear c1 c2 c3 c4
    rintro ⟨k, N2, S2⟩ h' ⟨rfl, c1, c2, c3, c4⟩
    dsimp only at c1 c2 c3 c4 ⊢
    (refine go ?_)
    (refine WW.ifB rfl (fun hz2 => ?_) (fun hz2 => ?_))
    · have hk : 0 < k := by omega
      (repeat first | refine WL.go ?_ | refine WW.seq ?_ | refine WW.reg ?_ | refine WL.nil ?_ | refine WW.skip ?_ | refine WW.block ?_ | refine WW.exit ?_ | refine WW.condT rfl ?_ | refine WW.condF rfl ?_ | refine WL.gox ?_ | refine thenN ?_ | refine blkN ?_)
      refine WW.dregX [14, 16] [] [s, h.next] gN (by decide +kernel) ?_
      (refine go ?_)
      have hkid : kidK N2 k = nodeK (N2[0 + 2 * k]'(by omega)) (N2[0 + (2 * k + 1)]'(by omega)) := by
        simp only [kidK, Nat.zero_add, List.getD_eq_getElem?_getD]
        rw [List.getElem?_eq_getElem (by omega), List.getElem?_eq_getElem (by omega)]
        rfl
      have hcon := tree_nodeSum_ae (h := (h.put h.next (.mem 2 (N2.map encP))).set s (gO md S2)) (hl.frame hwu (by repeat first | exact KeepsB.refl | assumption | with_reducible refine KeepsB.keep ?_ _ | with_reducible refine KeepsB.put ?_ (by omega) _ | with_reducible refine KeepsB.setN ?_ (by omega) _ | with_reducible refine KeepsB.setW ?_ (by simp; done) _) gH) (by omega) (N2[0 + 2 * k]'(by omega)) (N2[0 + (2 * k + 1)]'(by omega))
      rw [← hkid] at hcon
      refine DW.callSW rfl (by first | exact True.intro | exact rfl) (by repeat first | exact SubL.nil | refine SubL.cons (SubV.refl _) ?_ | refine SubL.cons SubV.app ?_ | refine SubL.cons SubV.nil ?_) rfl rfl (fun hp => by repeat first | exact hp | refine PhiW.put (by omega) ?_ | refine PhiW.setN (by omega) ?_ | refine PhiW.setW (by simp; done) ?_) (hcon) ?_
      (refine go ?_)
      have hk1 : k = (k - 1) + 1 := by omega
      refine ⟨(k - 1, N2.set k (gP md S2 (kidK N2 k)), gS md S2 (kidK N2 k)), (by repeat first | exact subE.nil _ | (apply subE.cons; focus (first | exact rfl | (simp [lk_cons]; done) | (simp [lk_cons]; omega)))), ⟨?_, by dsimp only; omega, by simpa using c2, ?_, ?_⟩, by dsimp only; omega⟩
      · rw [Nat.zero_add, ← set_map]; exact hp_upd (by omega)
      · have := gS_le md S2 (kidK N2 k); dsimp only; omega
      · rw [← c4]
        conv => rhs; rw [hk1]
        rw [upF, ← hk1]
    · have hk : k = 0 := by omega
      subst hk
      simp only [upF] at c4
      (refine go ?_)
      rw [← c4]
      refine WW.ret (EffQ.finD ?_ ?_)
      · refine ⟨(by repeat first | exact Nat.le_refl _ | refine next_le_put ?_ | refine next_le_set ?_ | assumption), fun id hu => ?_⟩; have hlt : id < AHeap.next h := hu.1; simp only [get_put, get_set]; (repeat' split) <;> first | rfl | omega | (simp [putM]; done)
      · exact Fz.tup2 (fz_ref gH (Nat.le_refl _) (by simp [c2]) rfl (flatC_map encP_flat)) (fz_b rfl)
end Go.Proofs.Ytlddahcgaonlhaa
