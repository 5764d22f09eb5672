/- The document's trees and ways by either of its locks. -/
import Derived.Test.YtlddahcgaonlhaaG5
import Derived.Test.YtlddahcgaonlhaaX14
set_option linter.all false
namespace Go.Proofs.Ytlddahcgaonlhaa
open Go Go.Abs

def rM (md : Bool) (t1 t2 : Nat) (S : List Bs) : Option AObj := match md with | true => some (.mem 2 [[.app t1 0 10 (([] : List Iss).map encI), .app t2 0 1 (S.map encStr)]]) | false => none
def rT (md : Bool) (S : List Bs) : Option AObj := match md with | true => some (.tail 0 S.length) | false => none
/-- The document's lock, either, at l. -/
structure RAt (md : Bool) (h : AHeap) (l o t1 t2 : Nat) (S : List Bs) : Prop where
  id : md = true → R8At h l o t1 t2 0 0 [] S
  re : md = false → h.get l = some (.mem 1 [[.nilp]])
  m1 : h.get o = rM md t1 t2 S
  m2 : h.get t2 = rT md S
  ll : l < h.next
  lo : o < h.next
  lt : t2 < h.next
  ne : o ≠ t2
structure RLt (md : Bool) (h : AHeap) (l o t1 t2 : Nat) (S : List Bs) : Prop where
  a1 : l < h.next
  a2 : o < h.next
  a3 : t2 < h.next
  a4 : h.get o = rM md t1 t2 S
  a5 : h.get t2 = rT md S
  a6 : l ≠ o
  a7 : l ≠ t2
  a8 : o ≠ t2
theorem RAt.lts {md : Bool} {h : AHeap} {l o t1 t2 : Nat} {S : List Bs} (hl : RAt md h l o t1 t2 S) : RLt md h l o t1 t2 S := by
  refine ⟨hl.ll, hl.lo, hl.lt, hl.m1, hl.m2, ?_, ?_, hl.ne⟩
  · rintro rfl
    cases md with
    | true => have := (hl.id rfl).cell; rw [hl.m1] at this; cases this
    | false => have := hl.re rfl; rw [hl.m1] at this; cases this
  · rintro rfl
    cases md with
    | true => have := (hl.id rfl).cell; rw [hl.m2] at this; cases this
    | false => have := hl.re rfl; rw [hl.m2] at this; cases this
theorem RAt.frame {md : Bool} {h h' : AHeap} {l o t1 t2 : Nat} {S S' : List Bs} (hl : RAt md h l o t1 t2 S) (hu : ∀ id x, h.get id = some x → h.used id) (hk : KeepsB [t2, o] h h') (h1 : h'.get o = rM md t1 t2 S') (h2 : h'.get t2 = rT md S') : RAt md h' l o t1 t2 S' := by
  obtain ⟨a1, a2, a3, a4, a5, a6, a7, a8⟩ := hl.lts
  refine ⟨fun e => ?_, fun e => ?_, h1, h2, Nat.lt_of_lt_of_le a1 hk.1, Nat.lt_of_lt_of_le a2 hk.1, Nat.lt_of_lt_of_le a3 hk.1, a8⟩
  · obtain ⟨q0, q1, q2, q3, q4⟩ := hl.id e
    subst e
    have d1 : t1 ≠ o := by rintro rfl; rw [q1] at q2; cases q2
    exact ⟨(hk.2 l (hu _ _ q0) (by simp; omega)).trans q0, ⟨h1, (hk.2 t1 (hu _ _ q2) (by simp; omega)).trans q2, h2, q4⟩⟩
  · have q0 := hl.re e
    exact (hk.2 l (hu _ _ q0) (by simp; omega)).trans q0
theorem RAt.ext {md : Bool} {h : AHeap} {l o t1 t2 : Nat} {S : List Bs} (hl : RAt md h l o t1 t2 S) (S' : List Bs) : Ext h ((h.set t2 (rT md S')).set o (rM md t1 t2 S')) := by
  cases md with
  | true => exact ref8_ext (hl.id rfl).ora (.inr rfl)
  | false => rw [show rT false S' = none from rfl, show rM false t1 t2 S' = none from rfl, set_none hl.m2, set_none hl.m1]; exact Ext.refl
theorem ref8_SumG_ae {md : Bool} {h : AHeap} {l o t1 t2 : Nat} {S : List Bs} (hl : RAt md h l o t1 t2 S) (hS : S.length ≤ 1000000) (key : Bs) (hk : key.length ≤ 1000000) :
    AE Try.prog 42 [.ptr l 0 0, .imm 1 (key.map encB)] h (.agg (encP (gP md S key))) ((h.set t2 (rT md (gS md S key))).set o (rM md t1 t2 (gS md S key))) := by
  cases md with
  | true => exact ref8_SumI_ae (hl.id rfl) hS key hk
  | false =>
    rw [show rT false (gS false S key) = none from rfl, show rM false t1 t2 (gS false S key) = none from rfl, set_none hl.m2, set_none hl.m1]
    exact ref8_SumR_ae (hl.re rfl) key hk
theorem KeepsB_fin2 {h h1 : AHeap} {s t : Nat} {X Y : Option AObj} (hk : KeepsB [s, t] h h1) (hs : h1.get s = X) (ht : h1.get t = Y) : Keeps ((h.set s X).set t Y) h1 :=
  ⟨hk.1, fun id hu => by
    simp only [get_set]
    split
    · rename_i e; subst e; exact ht
    · split
      · rename_i e; subst e; exact hs
      · rename_i e1 e2; exact hk.2 id hu (by simp [e1, e2])⟩
theorem ref18_Low_ae {md : Bool} {h : AHeap} {l o t1 t2 : Nat} {S : List Bs} (hl : RAt md h l o t1 t2 S) (hS : S.length ≤ 100000) (b : Bs) (hb : b.length ≤ 100000) :
    AE Try.prog 76 [.ptr l 0 0, .imm 1 (b.map encB)] h (.agg (encP (gP md S (leafK b)))) ((h.set t2 (rT md (gS md S (leafK b)))).set o (rM md t1 t2 (gS md S (leafK b)))) := by
  refine AE.wfU fun hwu => ?_
  obtain ⟨a1, a2, a3, a4, a5, a6, a7, a8⟩ := hl.lts
  refine AE.effW is_ref18_Low (by simp) (hl.ext _) ?_
  unfold c_ref18_Low
  (repeat first | refine WW.seq ?_ | refine WW.reg ?_ | refine WL.nil ?_ | refine WW.skip ?_ | refine WW.block ?_ | refine thenN ?_ | refine blkN ?_); iterate 1 (refine WL.go ?_)
  (repeat first | refine WW.seq ?_ | refine WW.reg ?_ | refine WL.nil ?_ | refine WW.skip ?_ | refine WW.block ?_ | refine thenN ?_ | refine blkN ?_); iterate 1 (refine WL.go ?_)
  refine WL.fx1 (FX.bslA (nm := h.next + 1) (fun hu => by have := hu.1; simp [AHeap.put] at this) rfl rfl rfl (by first | exact True.intro | exact rfl)) ?_
  (refine go ?_)
  have hcon := ref8_SumG_ae (h := ((h.put h.next (.mem 2 [[.int .u64 0, .int .u64 0]])).put (h.next + 1) (.tail 0 1)).set (h.next + 1) (some (.tail 0 (1 + b.length)))) (hl.frame hwu (by repeat first | exact KeepsB.refl | assumption | with_reducible refine KeepsB.keep ?_ _ | with_reducible refine KeepsB.put ?_ (by omega) _ | with_reducible refine KeepsB.setN ?_ (by omega) _ | with_reducible refine KeepsB.setW ?_ (by simp; done) _) gH gH) (by omega) (leafK b) (by simp [leafK]; omega)
  refine WL.call rfl (by first | exact True.intro | exact rfl) (by repeat first | exact SubL.nil | refine SubL.cons (SubV.refl _) ?_ | refine SubL.cons SubV.app ?_ | refine SubL.cons SubV.nil ?_) hcon ?_
  (refine go ?_)
  refine WW.ret (EffQ.finD ?_ ?_)
  · refine ⟨(by repeat first | exact Nat.le_refl _ | refine next_le_put ?_ | refine next_le_set ?_ | assumption), fun id hu => ?_⟩; have hlt : id < AHeap.next h := hu.1; simp only [get_put, get_set]; (repeat' split) <;> first | rfl | omega | (simp [rM, rT]; done)
  · exact .clo _ (.agg _ fun v hv => clo_flat (encP_flat (gP md S (leafK b)) v hv))
set_option maxHeartbeats 1000000 in
theorem ref18_High_ae {md : Bool} {h : AHeap} {l o t1 t2 : Nat} {S : List Bs} (hl : RAt md h l o t1 t2 S) (hS : S.length ≤ 100000) (a b : Pr) :
    AE Try.prog 77 [.ptr l 0 0, .agg (encP a), .agg (encP b)] h (.agg (encP (gP md S (nodeK a b)))) ((h.set t2 (rT md (gS md S (nodeK a b)))).set o (rM md t1 t2 (gS md S (nodeK a b)))) := by
  refine AE.wfU fun hwu => ?_
  obtain ⟨a1, a2, a3, a4, a5, a6, a7, a8⟩ := hl.lts
  refine AE.effW is_ref18_High (by simp) (hl.ext _) ?_
  unfold c_ref18_High
  (repeat first | refine WL.go ?_ | refine WW.seq ?_ | refine WW.reg ?_ | refine WL.nil ?_ | refine WW.skip ?_ | refine WW.block ?_ | refine WW.exit ?_ | refine WW.condT rfl ?_ | refine WW.condF rfl ?_ | refine WL.gox ?_ | refine thenN ?_ | refine blkN ?_)
  refine WW.dregA [1] [4, 7, 8, 9] [] [2, 3, 5, 6] [t2, o, h.next + 2] gN (by decide +kernel) ?_
  refine DA.go ?_
  refine DA.bslA (c := [[.int .u8 1]]) (i := 0) (len := 1) rfl rfl rfl rfl (by first | exact True.intro | exact rfl) rfl rfl rfl ?_
  refine DA.goF (hs := fun h2 hp2 => by apply Stp.load1; exact rfl; exact (hp2 _ (by omega) (by simp; omega)).trans gH; exact (by first | exact getC_at rfl rfl | exact getC_all rfl | exact getC_sub (Nat.le_of_ble_eq_true rfl) (by first | (simp only [putC, AV.cs, encP, encN, encI, encS, encA, List.take_succ_cons, List.take_zero, List.take_nil, List.drop_succ_cons, List.drop_zero, List.drop_nil, List.cons_append, List.nil_append, List.append_nil, List.length_cons, List.length_nil, Nat.zero_add, Nat.add_zero, Nat.reduceAdd]; exact rfl) | exact rfl) | exact getC_sub (by simp) (by first | (simp only [putC, AV.cs, encP, encN, encI, encS, encA, List.take_succ_cons, List.take_zero, List.take_nil, List.drop_succ_cons, List.drop_zero, List.drop_nil, List.cons_append, List.nil_append, List.append_nil, List.length_cons, List.length_nil, Nat.zero_add, Nat.add_zero, Nat.reduceAdd]; exact rfl) | exact rfl)); exact (by first | exact True.intro | exact rfl)) ?_
  refine DA.callF rfl (by first | exact True.intro | exact rfl) (by repeat first | exact SubL.nil | refine SubL.cons (SubV.refl _) ?_ | refine SubL.cons SubV.app ?_ | refine SubL.cons SubV.nil ?_) rfl rfl rfl (fun h2 _ => ref1_Bytes_ae a h2) (PhiW.put (by omega) fun _ _ _ => rfl) ?_
  refine DA.set (hs := Stp.app1 (n := 1) (n' := 17) rfl rfl rfl gH rfl (by rw [List.length_map, pairB_len]) (by decide) (by first | exact True.intro | exact rfl)) ?_
  refine DA.goF (hs := fun h2 hp2 => by apply Stp.load1; exact rfl; exact (hp2 _ (by omega) (by simp; omega)).trans gH; exact (by first | exact getC_at rfl rfl | exact getC_all rfl | exact getC_sub (Nat.le_of_ble_eq_true rfl) (by first | (simp only [putC, AV.cs, encP, encN, encI, encS, encA, List.take_succ_cons, List.take_zero, List.take_nil, List.drop_succ_cons, List.drop_zero, List.drop_nil, List.cons_append, List.nil_append, List.append_nil, List.length_cons, List.length_nil, Nat.zero_add, Nat.add_zero, Nat.reduceAdd]; exact rfl) | exact rfl) | exact getC_sub (by simp) (by first | (simp only [putC, AV.cs, encP, encN, encI, encS, encA, List.take_succ_cons, List.take_zero, List.take_nil, List.drop_succ_cons, List.drop_zero, List.drop_nil, List.cons_append, List.nil_append, List.append_nil, List.length_cons, List.length_nil, Nat.zero_add, Nat.add_zero, Nat.reduceAdd]; exact rfl) | exact rfl)); exact (by first | exact True.intro | exact rfl)) ?_
  refine DA.callF rfl (by first | exact True.intro | exact rfl) (by repeat first | exact SubL.nil | refine SubL.cons (SubV.refl _) ?_ | refine SubL.cons SubV.app ?_ | refine SubL.cons SubV.nil ?_) rfl rfl rfl (fun h2 _ => ref1_Bytes_ae b h2) (PhiW.setN (by omega) (PhiW.put (by omega) fun _ _ _ => rfl)) ?_
  refine DA.set (hs := Stp.app1 (n := 17) (n' := 33) rfl rfl rfl gH (by rw [List.length_append, List.length_map, pairB_len]; rfl) (by rw [List.length_map, pairB_len]) (by decide) (by first | exact True.intro | exact rfl)) ?_
  rw [show [[AV.int .u8 1]] ++ (pairB a).map encB ++ (pairB b).map encB = (nodeK a b).map encB by simp [nodeK, encB]]
  refine DA.callW2 rfl (by first | exact True.intro | exact rfl) (by repeat first | exact SubL.nil | refine SubL.cons (SubV.refl _) ?_ | refine SubL.cons SubV.app ?_ | refine SubL.cons SubV.nil ?_) rfl rfl rfl rfl (fun _ hp => PhiW.setW (by simp) (PhiW.setW (by simp) hp)) (ref8_SumG_ae (hl.frame hwu (by repeat first | exact KeepsB.refl | assumption | with_reducible refine KeepsB.keep ?_ _ | with_reducible refine KeepsB.put ?_ (by omega) _ | with_reducible refine KeepsB.setN ?_ (by omega) _ | with_reducible refine KeepsB.setW ?_ (by simp; done) _) gH gH) (by omega) (nodeK a b) (by simp [nodeK, pairB_len])) ?_
  (repeat first | refine DA.go ?_ | refine DA.goF ?_ | refine DA.new ?_ | refine DA.set ?_ | refine DA.endL ?_ | refine thenN ?_ | refine blkN ?_)
  refine WW.ret (EffQ.finD ?_ ?_)
  · exact KeepsB_fin2 (s := t2) (t := o) (by repeat first | exact KeepsB.refl | assumption | with_reducible refine KeepsB.keep ?_ _ | with_reducible refine KeepsB.put ?_ (by omega) _ | with_reducible refine KeepsB.setN ?_ (by omega) _ | with_reducible refine KeepsB.setW ?_ (by simp; done) _) gH gH
  · exact .clo _ (.agg _ fun v hv => clo_flat (encP_flat (gP md S (nodeK a b)) v hv))
/-- Two objects are turned, one is new: all anew. -/
theorem hp_upd2 {h : AHeap} {nd s t : Nat} {x y : AObj} {a b c d : Option AObj} (hs : s ≠ nd) (ht : t ≠ nd) (hst : t ≠ s) : (((((h.put nd x).set s a).set t b).set s c).set t d).set nd (some y) = ((h.put nd y).set s c).set t d := by
  refine hp_ext (fun i => ?_) rfl fun i => rfl
  simp only [get_put, get_set]
  (repeat' split) <;> first | rfl | omega
theorem hp_one2 {h : AHeap} {nd s t : Nat} {x : AObj} {y z : Option AObj} (hs : s ≠ nd) (ht : t ≠ nd) (hg : h.get s = y) (hz : h.get t = z) : h.put nd x = ((h.put nd x).set s y).set t z := by
  refine hp_ext (fun i => ?_) rfl fun i => rfl
  simp only [get_put, get_set]
  by_cases h1 : i = t
  · subst h1; rw [if_neg ht, if_pos rfl, hz]
  · rw [if_neg h1]
    by_cases h2 : i = s
    · subst h2; rw [if_neg hs, if_pos rfl, hg]
    · rw [if_neg h2]
theorem ref18_Build_no {p : AV} (lv : List Bs) (hl : lv.length ≤ 1000000) (hG : isG lv.length = false) (h : AHeap) :
    AE Try.prog 46 [p, .imm 1 (lv.map encR)] h (.tup [.imm 2 [], .bool false]) h := by
  refine AE.pureW is_ref18_Build (by simp) ?_
  unfold c_ref18_Build
  (refine go ?_)
  refine WL.call rfl (by first | exact True.intro | exact rfl) (by repeat first | exact SubL.nil | refine SubL.cons (SubV.refl _) ?_ | refine SubL.cons SubV.app ?_ | refine SubL.cons SubV.nil ?_) (ref17_Is_ae _ _) ?_
  rw [hG]
  (refine go ?_)
  refine WW.ret (PureQ.finD ?_)
  exact Fz.tup2 (.nil _) (fz_b rfl)
set_option maxHeartbeats 4000000 in
theorem ref18_Build_ae {md : Bool} {h : AHeap} {l o t1 t2 : Nat} {S : List Bs} (hl : RAt md h l o t1 t2 S) (hS : S.length ≤ 10000) (lv : List Bs) (hG : isG lv.length = true) (hb : ∀ b ∈ lv, b.length ≤ 100000) :
    AE Try.prog 46 [.ptr l 0 0, .imm 1 (lv.map encR)] h (.tup [.imm 2 ((buildF md lv S).1.map encP), .bool true]) ((h.set t2 (rT md (buildF md lv S).2)).set o (rM md t1 t2 (buildF md lv S).2)) := by
  have hn : lv.length ≤ 16 ∧ 1 ≤ lv.length := by simp [isG] at hG; omega
  refine AE.wfU fun hwu => ?_
  obtain ⟨a1, a2, a3, a4, a5, a6, a7, a8⟩ := hl.lts
  refine AE.effW is_ref18_Build (by simp) (hl.ext _) ?_
  unfold c_ref18_Build
  (refine go ?_)
  refine WL.call rfl (by first | exact True.intro | exact rfl) (by repeat first | exact SubL.nil | refine SubL.cons (SubV.refl _) ?_ | refine SubL.cons SubV.app ?_ | refine SubL.cons SubV.nil ?_) (ref17_Is_ae _ _) ?_
  rw [hG]
  (refine go ?_)
  have g0 : (h.put h.next (.mem 2 (List.replicate (2 * lv.length) [.int .u64 0, .int .u64 0]))) = ((h.put h.next (.mem 2 ((List.replicate (2 * lv.length) ((0, 0) : Pr)).map encP))).set t2 (rT md S)).set o (rM md t1 t2 S) := by
    rw [rep_map]; exact hp_one2 (by omega) (by omega) a5 a4
  rw [g0]
  refine WW.loopE (fun (q : Nat × List Pr × List Bs) => [(0, some (.ptr l 0 0)), (1, some (.imm 1 (lv.map encR))), (6, some (.int .i64 lv.length)), (7, some (.ref h.next 0 (2 * lv.length))), (8, some (.int .i64 q.1))])
    (fun q h' => h' = ((h.put h.next (.mem 2 (q.2.1.map encP))).set t2 (rT md q.2.2)).set o (rM md t1 t2 q.2.2) ∧ q.1 ≤ lv.length ∧ q.2.1.length = 2 * lv.length ∧ q.2.2.length ≤ S.length + q.1 ∧ lfF md (lv.drop q.1) (lv.length + q.1) q.2.1 q.2.2 = lfF md lv lv.length (List.replicate (2 * lv.length) (0, 0)) S) (fun q => lv.length - q.1) (0, List.replicate (2 * lv.length) (0, 0), S) (by repeat first | exact subE.nil _ | (apply subE.cons; focus (first | exact rfl | (simp [lk_cons]; done) | (simp [lk_cons]; omega))))
    ⟨rfl, Nat.zero_le _, by simp, by simp, by simp⟩ ?_
  rintro ⟨i, N, S1⟩ h' ⟨rfl, c1, c2, c3, c4⟩
  dsimp only at c1 c2 c3 c4 ⊢
  (refine go ?_)
  (refine WW.ifB rfl (fun hz1 => ?_) (fun hz1 => ?_))
  · have hi : i < lv.length := by omega
    (refine go ?_)
    have hcon := ref18_Low_ae (h := ((h.put h.next (.mem 2 (N.map encP))).set t2 (rT md S1)).set o (rM md t1 t2 S1)) (hl.frame hwu (by repeat first | exact KeepsB.refl | assumption | with_reducible refine KeepsB.keep ?_ _ | with_reducible refine KeepsB.put ?_ (by omega) _ | with_reducible refine KeepsB.setN ?_ (by omega) _ | with_reducible refine KeepsB.setW ?_ (by simp; done) _) gH gH) (by omega) lv[i] (hb _ (List.getElem_mem hi))
    refine WL.call rfl (by first | exact True.intro | exact rfl) (by repeat first | exact SubL.nil | refine SubL.cons (SubV.refl _) ?_ | refine SubL.cons SubV.app ?_ | refine SubL.cons SubV.nil ?_) (hcon) ?_
    (refine go ?_)
    refine ⟨(i + 1, N.set (lv.length + i) (gP md S1 (leafK lv[i])), gS md S1 (leafK lv[i])), (by repeat first | exact subE.nil _ | (apply subE.cons; focus (first | exact rfl | (simp [lk_cons]; done) | (simp [lk_cons]; omega)))), ⟨?_, by dsimp only; omega, by simpa using c2, ?_, ?_⟩, by dsimp only; omega⟩
    · rw [Nat.zero_add, ← set_map]; exact hp_upd2 (by omega) (by omega) a8
    · have := gS_le md S1 (leafK lv[i]); dsimp only; omega
    · rw [← c4, List.drop_eq_getElem_cons hi, lfF]; rfl
  · have hi : i = lv.length := by omega
    subst hi
    simp only [List.drop_length, lfF] at c4
    (refine go ?_)
    refine WW.loopE (fun (q : Nat × List Pr × List Bs) => [(0, some (.ptr l 0 0)), (7, some (.ref h.next 0 (2 * lv.length))), (9, some (.int .i64 q.1))])
      (fun q h' => h' = ((h.put h.next (.mem 2 (q.2.1.map encP))).set t2 (rT md q.2.2)).set o (rM md t1 t2 q.2.2) ∧ q.1 < lv.length ∧ q.2.1.length = 2 * lv.length ∧ q.2.2.length + q.1 ≤ S.length + 2 * lv.length ∧ upF md q.1 q.2.1 q.2.2 = buildF md lv S) (fun q => q.1) (lv.length - 1, N, S1) (by repeat first | exact subE.nil _ | (apply subE.cons; focus (first | exact rfl | (simp [lk_cons]; done) | (simp [lk_cons]; omega))))
      ⟨rfl, by dsimp only; omega, c2, by dsimp only; omega, by rw [buildF, ← c4]⟩ ?_
    clear c1 c2 c3 c4
    rintro ⟨k, N2, S2⟩ h' ⟨rfl, c1, c2, c3, c4⟩
    dsimp only at c1 c2 c3 c4 ⊢
    (refine go ?_)
    (refine WW.ifB rfl (fun hz2 => ?_) (fun hz2 => ?_))
    · have hk : 0 < k := by omega
      (repeat first | refine WL.go ?_ | refine WW.seq ?_ | refine WW.reg ?_ | refine WL.nil ?_ | refine WW.skip ?_ | refine WW.block ?_ | refine WW.exit ?_ | refine WW.condT rfl ?_ | refine WW.condF rfl ?_ | refine WL.gox ?_ | refine thenN ?_ | refine blkN ?_)
      refine WW.dregX [14, 16] [] [t2, o, h.next] gN (by decide +kernel) ?_
      (refine go ?_)
      have hkid : kidK N2 k = nodeK (N2[0 + 2 * k]'(by omega)) (N2[0 + (2 * k + 1)]'(by omega)) := by
        simp only [kidK, Nat.zero_add, List.getD_eq_getElem?_getD]
        rw [List.getElem?_eq_getElem (by omega), List.getElem?_eq_getElem (by omega)]
        rfl
      have hcon := ref18_High_ae (h := ((h.put h.next (.mem 2 (N2.map encP))).set t2 (rT md S2)).set o (rM md t1 t2 S2)) (hl.frame hwu (by repeat first | exact KeepsB.refl | assumption | with_reducible refine KeepsB.keep ?_ _ | with_reducible refine KeepsB.put ?_ (by omega) _ | with_reducible refine KeepsB.setN ?_ (by omega) _ | with_reducible refine KeepsB.setW ?_ (by simp; done) _) gH gH) (by omega) (N2[0 + 2 * k]'(by omega)) (N2[0 + (2 * k + 1)]'(by omega))
      rw [← hkid] at hcon
      refine DW.callSW rfl (by first | exact True.intro | exact rfl) (by repeat first | exact SubL.nil | refine SubL.cons (SubV.refl _) ?_ | refine SubL.cons SubV.app ?_ | refine SubL.cons SubV.nil ?_) rfl rfl (fun hp => by repeat first | exact hp | refine PhiW.put (by omega) ?_ | refine PhiW.setN (by omega) ?_ | refine PhiW.setW (by simp; done) ?_) (hcon) ?_
      (refine go ?_)
      have hk1 : k = (k - 1) + 1 := by omega
      refine ⟨(k - 1, N2.set k (gP md S2 (kidK N2 k)), gS md S2 (kidK N2 k)), (by repeat first | exact subE.nil _ | (apply subE.cons; focus (first | exact rfl | (simp [lk_cons]; done) | (simp [lk_cons]; omega)))), ⟨?_, by dsimp only; omega, by simpa using c2, ?_, ?_⟩, by dsimp only; omega⟩
      · rw [Nat.zero_add, ← set_map]; exact hp_upd2 (by omega) (by omega) a8
      · have := gS_le md S2 (kidK N2 k); dsimp only; omega
      · rw [← c4]
        conv => rhs; rw [hk1]
        rw [upF, ← hk1]
    · have hk : k = 0 := by omega
      subst hk
      simp only [upF] at c4
      (refine go ?_)
      rw [← c4]
      refine WW.ret (EffQ.finD ?_ ?_)
      · refine ⟨(by repeat first | exact Nat.le_refl _ | refine next_le_put ?_ | refine next_le_set ?_ | assumption), fun id hu => ?_⟩; have hlt : id < AHeap.next h := hu.1; simp only [get_put, get_set]; (repeat' split) <;> first | rfl | omega | (simp [putM]; done)
      · exact Fz.tup2 (fz_ref gH (Nat.le_refl _) (by simp [c2]) rfl (flatC_map encP_flat)) (fz_b rfl)
theorem ref18_Turn_no {p v : AV} (N : List Pr) (hN : N.length ≤ 1000000) (i : Int) (hno : (isT N.length && decide (0 ≤ i) && decide (i < N.length / 2)) = false) (h : AHeap) :
    AE Try.prog 50 [p, .imm 2 (N.map encP), .int .i64 i, v] h (.tup [.imm 2 [], .bool false]) h := by
  refine AE.pureW is_ref18_Turn (by simp) ?_
  unfold c_ref18_Turn
  (refine go ?_)
  refine WL.call rfl (by first | exact True.intro | exact rfl) (by repeat first | exact SubL.nil | refine SubL.cons (SubV.refl _) ?_ | refine SubL.cons SubV.app ?_ | refine SubL.cons SubV.nil ?_) (ref18_Is_ae N hN _) ?_
  (refine go ?_)
  (apply WL.orB; exact rfl; exact rfl; exact rfl; exact BP.of; intro hz1)
  · (repeat first | (apply GW.goS; exact Stp.auto) | apply GW.nil | exact rfl)
  (refine go ?_)
  (apply WL.orB; exact rfl; exact rfl; exact rfl; exact BP.of; intro hz2)
  · (repeat first | (apply GW.goS; exact Stp.auto) | apply GW.nil | exact rfl)
  (refine go ?_)
  (refine WW.ifB rfl (fun hz3 => ?_) (fun hz3 => ?_))
  · (refine go ?_)
    refine WW.ret (PureQ.finD ?_)
    exact Fz.tup2 (.nil _) (fz_b rfl)
  · exfalso
    simp at hz3 hno
    have := hno hz3.1.1 hz3.1.2
    omega
set_option maxHeartbeats 4000000 in
theorem ref18_Turn_ae {md : Bool} {h : AHeap} {l o t1 t2 : Nat} {S : List Bs} (hl : RAt md h l o t1 t2 S) (hS : S.length ≤ 10000) (N : List Pr) (i : Nat) (b : Bs) (hT : isT N.length = true) (hi : i < N.length / 2) (hb : b.length ≤ 100000) :
    AE Try.prog 50 [.ptr l 0 0, .imm 2 (N.map encP), .int .i64 i, .imm 1 (b.map encB)] h (.tup [.imm 2 ((turnF md N i b S).1.map encP), .bool true]) ((h.set t2 (rT md (turnF md N i b S).2)).set o (rM md t1 t2 (turnF md N i b S).2)) := by
  have hN := isT_two hT
  refine AE.wfU fun hwu => ?_
  obtain ⟨a1, a2, a3, a4, a5, a6, a7, a8⟩ := hl.lts
  refine AE.effW is_ref18_Turn (by simp) (hl.ext _) ?_
  unfold c_ref18_Turn
  (refine go ?_)
  refine WL.call rfl (by first | exact True.intro | exact rfl) (by repeat first | exact SubL.nil | refine SubL.cons (SubV.refl _) ?_ | refine SubL.cons SubV.app ?_ | refine SubL.cons SubV.nil ?_) (ref18_Is_ae N (by omega) _) ?_
  (refine go ?_)
  (apply WL.orB; exact rfl; exact rfl; exact rfl; exact BP.of; intro hz1)
  · (repeat first | (apply GW.goS; exact Stp.auto) | apply GW.nil | exact rfl)
  (refine go ?_)
  (apply WL.orB; exact rfl; exact rfl; exact rfl; exact BP.of; intro hz2)
  · (repeat first | (apply GW.goS; exact Stp.auto) | apply GW.nil | exact rfl)
  (refine go ?_)
  (refine WW.ifB rfl (fun hz3 => ?_) (fun hz3 => ?_))
  · exfalso
    simp [hT] at hz3
    omega
  (repeat first | refine WW.seq ?_ | refine WW.reg ?_ | refine WL.nil ?_ | refine WW.skip ?_ | refine WW.block ?_ | refine thenN ?_ | refine blkN ?_); iterate 2 (refine WL.go ?_)
  refine WL.fx1 (FX.appM (nm := h.next) (c := N.map encP) (fun hu => Nat.lt_irrefl _ hu.1) rfl rfl rfl (by intro e; have := congrArg List.length e; simp at this; subst this; simp at hN) (by simp; omega) (by first | exact True.intro | exact rfl)) ?_
  rw [List.length_map]
  (refine go ?_)
  have hcon := ref18_Low_ae (h := h.put h.next (.mem 2 (N.map encP))) (hl.frame hwu (by repeat first | exact KeepsB.refl | assumption | with_reducible refine KeepsB.keep ?_ _ | with_reducible refine KeepsB.put ?_ (by omega) _ | with_reducible refine KeepsB.setN ?_ (by omega) _ | with_reducible refine KeepsB.setW ?_ (by simp; done) _) gH gH) (by omega) b hb
  refine WL.call rfl (by first | exact True.intro | exact rfl) (by repeat first | exact SubL.nil | refine SubL.cons (SubV.refl _) ?_ | refine SubL.cons SubV.app ?_ | refine SubL.cons SubV.nil ?_) (hcon) ?_
  (refine go ?_)
  refine WW.loopE (fun (q : Nat × List Pr × List Bs) => [(0, some (.ptr l 0 0)), (11, some (.ref h.next 0 N.length)), (12, some (.int .i64 q.1))])
    (fun q h' => h' = ((h.put h.next (.mem 2 (q.2.1.map encP))).set t2 (rT md q.2.2)).set o (rM md t1 t2 q.2.2) ∧ q.1 < N.length / 2 ∧ q.2.1.length = N.length ∧ q.2.2.length + q.1 ≤ S.length + 100 ∧ tuF md q.1 q.2.1 q.2.2 = turnF md N i b S) (fun q => q.1) ((N.length / 2 + i) / 2, N.set (N.length / 2 + i) (gP md S (leafK b)), gS md S (leafK b)) (by repeat first | exact subE.nil _ | (apply subE.cons; focus (first | exact rfl | (simp [lk_cons]; done) | (simp [lk_cons]; omega))))
    ⟨?_, by dsimp only; omega, by simp, ?_, rfl⟩ ?_
  · dsimp only
    rw [Nat.zero_add, ← set_map, hp_one2 (h := h) (nd := h.next) (s := t2) (t := o) (x := .mem 2 (N.map encP)) (by omega) (by omega) a5 a4]
    exact hp_upd2 (by omega) (by omega) a8
  · have := gS_le md S (leafK b); dsimp only; omega
  rintro ⟨k, N2, S2⟩ h' ⟨rfl, c1, c2, c3, c4⟩
  dsimp only at c1 c2 c3 c4 ⊢
  (refine go ?_)
  (refine WW.ifB rfl (fun hz4 => ?_) (fun hz4 => ?_))
  · have hk : 0 < k := by omega
    (repeat first | refine WL.go ?_ | refine WW.seq ?_ | refine WW.reg ?_ | refine WL.nil ?_ | refine WW.skip ?_ | refine WW.block ?_ | refine WW.exit ?_ | refine WW.condT rfl ?_ | refine WW.condF rfl ?_ | refine WL.gox ?_ | refine thenN ?_ | refine blkN ?_)
    refine WW.dregX [14, 16] [] [t2, o, h.next] gN (by decide +kernel) ?_
    (refine go ?_)
    have hkid : kidK N2 k = nodeK (N2[0 + 2 * k]'(by omega)) (N2[0 + (2 * k + 1)]'(by omega)) := by
      simp only [kidK, Nat.zero_add, List.getD_eq_getElem?_getD]
      rw [List.getElem?_eq_getElem (by omega), List.getElem?_eq_getElem (by omega)]
      rfl
    have hcon := ref18_High_ae (h := ((h.put h.next (.mem 2 (N2.map encP))).set t2 (rT md S2)).set o (rM md t1 t2 S2)) (hl.frame hwu (by repeat first | exact KeepsB.refl | assumption | with_reducible refine KeepsB.keep ?_ _ | with_reducible refine KeepsB.put ?_ (by omega) _ | with_reducible refine KeepsB.setN ?_ (by omega) _ | with_reducible refine KeepsB.setW ?_ (by simp; done) _) gH gH) (by omega) (N2[0 + 2 * k]'(by omega)) (N2[0 + (2 * k + 1)]'(by omega))
    rw [← hkid] at hcon
    refine DW.callSW rfl (by first | exact True.intro | exact rfl) (by repeat first | exact SubL.nil | refine SubL.cons (SubV.refl _) ?_ | refine SubL.cons SubV.app ?_ | refine SubL.cons SubV.nil ?_) rfl rfl (fun hp => by repeat first | exact hp | refine PhiW.put (by omega) ?_ | refine PhiW.setN (by omega) ?_ | refine PhiW.setW (by simp; done) ?_) (hcon) ?_
    (refine go ?_)
    refine ⟨(k / 2, N2.set k (gP md S2 (kidK N2 k)), gS md S2 (kidK N2 k)), (by repeat first | exact subE.nil _ | (apply subE.cons; focus (first | exact rfl | (simp [lk_cons]; done) | (simp [lk_cons]; omega)))), ⟨?_, by dsimp only; omega, by simpa using c2, ?_, ?_⟩, by dsimp only; omega⟩
    · rw [Nat.zero_add, ← set_map]; exact hp_upd2 (by omega) (by omega) a8
    · have := gS_le md S2 (kidK N2 k); dsimp only; omega
    · rw [← c4, tuF_more md hk]
  · have hk : k = 0 := by omega
    subst hk
    rw [tuF_zero] at c4
    (refine go ?_)
    rw [← c4]
    refine WW.ret (EffQ.finD ?_ ?_)
    · refine ⟨(by repeat first | exact Nat.le_refl _ | refine next_le_put ?_ | refine next_le_set ?_ | assumption), fun id hu => ?_⟩; have hlt : id < AHeap.next h := hu.1; simp only [get_put, get_set]; (repeat' split) <;> first | rfl | omega | (simp [putM]; done)
    · exact Fz.tup2 (fz_ref gH (Nat.le_refl _) (by simp [c2]) rfl (flatC_map encP_flat)) (fz_b rfl)
theorem shl_min {n : Nat} : shA .shl .i64 1 (if (10 : Int) < (n : Int) then 10 else (n : Int)) = some (.int .i64 ((2 ^ min n 10 : Nat) : Int)) := by
  rw [show (if (10 : Int) < (n : Int) then 10 else (n : Int)) = ((min n 10 : Nat) : Int) by split <;> omega]
  exact shl_one (by omega)
theorem pow_min {s : Int} {n : Nat} (hG : isG s = true) : ((2 ^ min n 10 : Nat) : Int) = s ↔ s = ((2 ^ n : Nat) : Int) := by
  have hs : s = 4 ∨ s = 8 ∨ s = 16 := by simp [isG] at hG; omega
  rcases Nat.lt_or_ge n 10 with h | h
  · rw [Nat.min_eq_left (by omega)]; omega
  · have h1 : 2 ^ 10 ≤ 2 ^ n := Nat.pow_le_pow_right (by decide) h
    rw [Nat.min_eq_right h]
    generalize 2 ^ n = m at *
    omega
theorem ref19_Check_no {p v : AV} (slots i : Int) (q : List Pr) (hq : q.length ≤ 60) (top : Pr) (hno : ckOk slots i q.length = false) (h : AHeap) :
    AE Try.prog 49 [p, .int .i64 slots, .int .i64 i, v, .imm 2 (q.map encP), .agg (encP top)] h (.bool false) h := by
  refine AE.pureW is_ref19_Check (by simp) ?_
  unfold c_ref19_Check
  (refine go ?_)
  refine WL.call rfl (by first | exact True.intro | exact rfl) (by repeat first | exact SubL.nil | refine SubL.cons (SubV.refl _) ?_ | refine SubL.cons SubV.app ?_ | refine SubL.cons SubV.nil ?_) (ref17_Is_ae _ _) ?_
  (refine go ?_)
  (apply WL.orB; exact rfl; exact rfl; exact rfl; exact BP.of; intro hz1)
  · (repeat first | (apply GW.goS; exact Stp.auto) | apply GW.nil | exact rfl)
  (refine go ?_)
  (apply WL.orB; exact rfl; exact rfl; exact rfl; exact BP.of; intro hz2)
  · (repeat first | (apply GW.goS; exact Stp.auto) | apply GW.nil | exact rfl)
  (refine go ?_)
  (apply WL.orB; exact rfl; exact rfl; exact rfl; exact BP.of; intro hz3)
  · iterate 4 (apply GW.goS; exact Stp.auto)
    apply GW.goS
    · exact Stp.sh rfl rfl shl_min (by first | exact True.intro | exact rfl)
    (repeat first | (apply GW.goS; exact Stp.auto) | apply GW.nil | exact rfl)
  (refine go ?_)
  (refine WW.ifB rfl (fun hz4 => ?_) (fun hz4 => ?_))
  · (refine go ?_)
    refine WW.ret (PureQ.finD ?_)
    exact fz_b rfl
  · exfalso
    simp only [Bool.or_eq_false_iff, Bool.not_eq_false', decide_eq_false_iff_not, ckOk] at hz4 hno
    obtain ⟨⟨⟨z1, z2⟩, z3⟩, z4⟩ := hz4
    have z5 : ((2 ^ min q.length 10 : Nat) : Int) = slots := by simpa using z4
    have z6 := (pow_min (n := q.length) z1).1 z5
    rw [z1, decide_eq_true (by omega), decide_eq_true (by omega), decide_eq_true z6] at hno
    cases hno
set_option maxHeartbeats 4000000 in
theorem ref19_Check_ae {md : Bool} {h : AHeap} {l o t1 t2 : Nat} {S : List Bs} (hl : RAt md h l o t1 t2 S) (hS : S.length ≤ 10000) (slots i : Nat) (b : Bs) (hb : b.length ≤ 100000) (q : List Pr) (hq : q.length ≤ 60) (top : Pr) (hok : ckOk slots i q.length = true) :
    AE Try.prog 49 [.ptr l 0 0, .int .i64 slots, .int .i64 i, .imm 1 (b.map encB), .imm 2 (q.map encP), .agg (encP top)] h (.bool ((ckF md q i (gP md S (leafK b)) (gS md S (leafK b))).1 == top)) ((h.set t2 (rT md (ckF md q i (gP md S (leafK b)) (gS md S (leafK b))).2)).set o (rM md t1 t2 (ckF md q i (gP md S (leafK b)) (gS md S (leafK b))).2)) := by
  have hk : isG slots = true ∧ i < slots ∧ slots = 2 ^ q.length := by
    simp [ckOk] at hok
    obtain ⟨⟨h1, h2⟩, h3⟩ := hok
    exact ⟨h1, h2, by exact_mod_cast h3⟩
  obtain ⟨hG, hi, hn⟩ := hk
  have hsl : slots ≤ 16 := by simp [isG] at hG; omega
  refine AE.wfU fun hwu => ?_
  obtain ⟨a1, a2, a3, a4, a5, a6, a7, a8⟩ := hl.lts
  refine AE.effW is_ref19_Check (by simp) (hl.ext _) ?_
  unfold c_ref19_Check
  (refine go ?_)
  refine WL.call rfl (by first | exact True.intro | exact rfl) (by repeat first | exact SubL.nil | refine SubL.cons (SubV.refl _) ?_ | refine SubL.cons SubV.app ?_ | refine SubL.cons SubV.nil ?_) (ref17_Is_ae _ _) ?_
  (refine go ?_)
  (apply WL.orB; exact rfl; exact rfl; exact rfl; exact BP.of; intro hz1)
  · (repeat first | (apply GW.goS; exact Stp.auto) | apply GW.nil | exact rfl)
  (refine go ?_)
  (apply WL.orB; exact rfl; exact rfl; exact rfl; exact BP.of; intro hz2)
  · (repeat first | (apply GW.goS; exact Stp.auto) | apply GW.nil | exact rfl)
  (refine go ?_)
  (apply WL.orB; exact rfl; exact rfl; exact rfl; exact BP.of; intro hz3)
  · iterate 4 (apply GW.goS; exact Stp.auto)
    apply GW.goS
    · exact Stp.sh rfl rfl shl_min (by first | exact True.intro | exact rfl)
    (repeat first | (apply GW.goS; exact Stp.auto) | apply GW.nil | exact rfl)
  (refine go ?_)
  (refine WW.ifB rfl (fun hz4 => ?_) (fun hz4 => ?_))
  · exfalso
    have hpm := (pow_min (n := q.length) hG).2 (by rw [hn])
    simp [hG, hpm] at hz4
    omega
  (refine go ?_)
  have hcon := ref18_Low_ae (h := h.put h.next (.mem 2 [encP top])) (hl.frame hwu (by repeat first | exact KeepsB.refl | assumption | with_reducible refine KeepsB.keep ?_ _ | with_reducible refine KeepsB.put ?_ (by omega) _ | with_reducible refine KeepsB.setN ?_ (by omega) _ | with_reducible refine KeepsB.setW ?_ (by simp; done) _) gH gH) (by omega) b hb
  refine WL.call rfl (by first | exact True.intro | exact rfl) (by repeat first | exact SubL.nil | refine SubL.cons (SubV.refl _) ?_ | refine SubL.cons SubV.app ?_ | refine SubL.cons SubV.nil ?_) (hcon) ?_
  (refine go ?_)
  refine WW.loopE (fun (r : Nat × Nat × Nat × Pr × List Bs) => [(0, some (.ptr l 0 0)), (4, some (.imm 2 (q.map encP))), (11, some (.ptr h.next 0 0)), (13, some (.ptr (h.next + 1) 0 0)), (14, some (.int .i64 r.2.1)), (15, some (.int .i64 r.1))])
    (fun r h' => h'.get h.next = some (.mem 2 [encP top]) ∧ h'.get (h.next + 1) = some (.mem 2 [encP r.2.2.2.1]) ∧ h'.get t2 = rT md r.2.2.2.2 ∧ h'.get o = rM md t1 t2 r.2.2.2.2 ∧ KeepsB [t2, o] h h' ∧ h.next + 2 ≤ h'.next ∧ r.1 ≤ q.length ∧ r.2.1 = 2 ^ (q.length - r.1) + r.2.2.1 ∧ r.2.1 ≤ 40 ∧ r.2.2.2.2.length ≤ S.length + 1 + r.1 ∧ ckF md (q.drop r.1) r.2.2.1 r.2.2.2.1 r.2.2.2.2 = ckF md q i (gP md S (leafK b)) (gS md S (leafK b)))
    (fun r => q.length - r.1) (0, slots + i, i, gP md S (leafK b), gS md S (leafK b)) (by repeat first | exact subE.nil _ | (apply subE.cons; focus (first | exact rfl | (simp [lk_cons]; done) | (simp [lk_cons]; omega)))) ⟨gH, gH, gH, gH, (by repeat first | exact KeepsB.refl | assumption | with_reducible refine KeepsB.keep ?_ _ | with_reducible refine KeepsB.put ?_ (by omega) _ | with_reducible refine KeepsB.setN ?_ (by omega) _ | with_reducible refine KeepsB.setW ?_ (by simp; done) _), (leN gN (by omega)), Nat.zero_le _, by dsimp only; rw [hn]; rfl, by dsimp only; omega, by have := gS_le md S (leafK b); dsimp only; omega, by simp⟩ ?_
  rintro ⟨j, k, i2, p, S2⟩ h' ⟨g1, g2, g3, g6, g4, g5, c1, ck, c2, c3, c4⟩
  dsimp only at g1 g2 g3 g4 g5 g6 c1 ck c2 c3 c4 ⊢
  obtain ⟨nx, hnx⟩ : ∃ nx, h'.next = nx := ⟨_, rfl⟩
  (refine go ?_)
  (refine WW.ifB rfl (fun hz5 => ?_) (fun hz5 => ?_))
  · have hj : j < q.length := by omega
    have h2 : 2 ^ (q.length - j) = 2 * 2 ^ (q.length - (j + 1)) := by
      rw [show q.length - j = (q.length - (j + 1)) + 1 by omega, Nat.pow_succ]; omega
    (refine go ?_)
    (refine WW.ifB rfl (fun hz6 => ?_) (fun hz6 => ?_))
    · have hp : ¬ i2 % 2 = 1 := by omega
      (repeat first | refine WL.go ?_ | refine WW.seq ?_ | refine WW.reg ?_ | refine WL.nil ?_ | refine WW.skip ?_ | refine WW.block ?_ | refine WW.exit ?_ | refine WW.condT rfl ?_ | refine WW.condF rfl ?_ | refine WL.gox ?_ | refine thenN ?_ | refine blkN ?_)
      refine WW.dregX [6, 7] [] [t2, o, h.next + 1] gN (by decide +kernel) ?_
      (refine go ?_)
      refine DW.callSW rfl (by first | exact True.intro | exact rfl) (by repeat first | exact SubL.nil | refine SubL.cons (SubV.refl _) ?_ | refine SubL.cons SubV.app ?_ | refine SubL.cons SubV.nil ?_) rfl rfl (fun hp => by repeat first | exact hp | refine PhiW.put (by omega) ?_ | refine PhiW.setN (by omega) ?_ | refine PhiW.setW (by simp; done) ?_) (ref18_High_ae (hl.frame hwu g4 g6 g3) (by omega) p q[j]) ?_
      (refine go ?_)
      refine ⟨(j + 1, k / 2, i2 / 2, gP md S2 (nodeK p q[j]), gS md S2 (nodeK p q[j])), (by repeat first | exact subE.nil _ | (apply subE.cons; focus (first | exact rfl | (simp [lk_cons]; done) | (simp [lk_cons]; omega)))), ⟨gH, gH, gH, gH, (by repeat first | exact KeepsB.refl | assumption | with_reducible refine KeepsB.keep ?_ _ | with_reducible refine KeepsB.put ?_ (by omega) _ | with_reducible refine KeepsB.setN ?_ (by omega) _ | with_reducible refine KeepsB.setW ?_ (by simp; done) _), (leN gN (by omega)), by dsimp only; omega, by dsimp only; omega, by dsimp only; omega, ?_, ?_⟩, by dsimp only; omega⟩
      · have := gS_le md S2 (nodeK p q[j]); dsimp only; omega
      · rw [← c4, List.drop_eq_getElem_cons hj, ckF, if_neg hp]
    · have hp : i2 % 2 = 1 := by omega
      (repeat first | refine WL.go ?_ | refine WW.seq ?_ | refine WW.reg ?_ | refine WL.nil ?_ | refine WW.skip ?_ | refine WW.block ?_ | refine WW.exit ?_ | refine WW.condT rfl ?_ | refine WW.condF rfl ?_ | refine WL.gox ?_ | refine thenN ?_ | refine blkN ?_)
      refine WW.dregX [6, 7] [] [t2, o, h.next + 1] gN (by decide +kernel) ?_
      (refine go ?_)
      refine DW.callSW rfl (by first | exact True.intro | exact rfl) (by repeat first | exact SubL.nil | refine SubL.cons (SubV.refl _) ?_ | refine SubL.cons SubV.app ?_ | refine SubL.cons SubV.nil ?_) rfl rfl (fun hp => by repeat first | exact hp | refine PhiW.put (by omega) ?_ | refine PhiW.setN (by omega) ?_ | refine PhiW.setW (by simp; done) ?_) (ref18_High_ae (hl.frame hwu g4 g6 g3) (by omega) q[j] p) ?_
      (refine go ?_)
      refine ⟨(j + 1, k / 2, i2 / 2, gP md S2 (nodeK q[j] p), gS md S2 (nodeK q[j] p)), (by repeat first | exact subE.nil _ | (apply subE.cons; focus (first | exact rfl | (simp [lk_cons]; done) | (simp [lk_cons]; omega)))), ⟨gH, gH, gH, gH, (by repeat first | exact KeepsB.refl | assumption | with_reducible refine KeepsB.keep ?_ _ | with_reducible refine KeepsB.put ?_ (by omega) _ | with_reducible refine KeepsB.setN ?_ (by omega) _ | with_reducible refine KeepsB.setW ?_ (by simp; done) _), (leN gN (by omega)), by dsimp only; omega, by dsimp only; omega, by dsimp only; omega, ?_, ?_⟩, by dsimp only; omega⟩
      · have := gS_le md S2 (nodeK q[j] p); dsimp only; omega
      · rw [← c4, List.drop_eq_getElem_cons hj, ckF, if_pos hp]
  · have hj : j = q.length := by omega
    subst hj
    simp only [List.drop_length, ckF] at c4
    (refine go ?_)
    rw [← c4]
    refine WW.ret (EffQ.finD ?_ ?_)
    · exact KeepsB_fin2 g4 g3 g6
    · exact fz_b (by rw [← pr_beq])
end Go.Proofs.Ytlddahcgaonlhaa
