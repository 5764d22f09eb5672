/- Eval; the flow: the code's and the document's. -/
import Derived.Test.YtlddahcgaonlhaaX2
import Derived.Test.YtlddahcgaonlhaaK1
set_option linter.all false
namespace Go.Proofs.Ytlddahcgaonlhaa
open Go Go.Abs

/-- Where a row's pass stands: a place, a pair. -/
structure RowS where
  i : Nat
  o : Pr
def evS (h : Pr) (o x : Pr) : Pr := mulF (addF x o) h
theorem addF_comm (a b : Pr) : addF a b = addF b a := by
  simp only [addF, x64, bits, BitVec.xor_comm]
theorem evalF_S (h : Pr) (l : List Pr) : evalF h l = l.foldl (evS h) (0, 0) := rfl
attribute [local irreducible] mulF addF
theorem field_Eval_ae (k : Pr) (l : List Pr) (hl : l.length ≤ 1000000) (h : AHeap) : AE Try.prog 106 [.agg (encP k), .imm 2 (l.map encP)] h (.agg (encP (evalF k l))) h := by
  refine AE.pureW is_field_Eval (by simp) ?_
  unfold c_field_Eval
  (refine go ?_)
  refine WW.loopE (fun (s : RowS) => [(2, some (.ptr h.next 0 0)), (4, some (.ptr (h.next + 1) 0 0)), (5, some (.ptr (h.next + 2) 0 0)), (8, some (.imm 2 (l.map encP))), (9, some (.int .i64 l.length)), (10, some (.int .i64 s.i))])
    (fun s h' => h'.get h.next = some (.mem 2 [encP k]) ∧ h'.get (h.next + 1) = some (.mem 2 [encP (0, 0)]) ∧ h'.get (h.next + 2) = some (.mem 2 [encP s.o]) ∧ h.next + 3 ≤ h'.next ∧ Keeps h h' ∧ s.i ≤ l.length ∧ evalF k l = (l.drop s.i).foldl (evS k) s.o) (fun s => l.length - s.i) ⟨0, (0, 0)⟩ (by repeat first | exact subE.nil _ | (apply subE.cons; focus (first | exact rfl | (simp [lk_cons]; done) | (simp [lk_cons]; omega)))) ⟨gH, gH, gH, (leN gN (by omega)), (by repeat first | with_reducible exact Keeps.refl _ | with_reducible refine Keeps.put ?_ (by omega) _ | with_reducible refine Keeps.set ?_ (by omega) _ | assumption), Nat.zero_le _, by simp [evalF_S]⟩ ?_
  rintro ⟨i, o⟩ h' ⟨g1, g2, g3, g4, g5, g6, g7⟩
  simp only at g1 g2 g3 g4 g5 g6 g7 ⊢
  (refine go ?_)
  (refine WW.ifB rfl (fun hz1 => ?_) (fun hz1 => ?_))
  · have hi : i < l.length := by omega
    (refine go ?_)
    refine DW.callS rfl (by first | exact True.intro | exact rfl) (by repeat first | exact SubL.nil | refine SubL.cons (SubV.refl _) ?_ | refine SubL.cons SubV.app ?_ | refine SubL.cons SubV.nil ?_) rfl (field_Add_ae l[i] o _) ?_
    (refine go ?_)
    refine DW.callS rfl (by first | exact True.intro | exact rfl) (by repeat first | exact SubL.nil | refine SubL.cons (SubV.refl _) ?_ | refine SubL.cons SubV.app ?_ | refine SubL.cons SubV.nil ?_) rfl (field_Mul_ae (addF l[i] o) k _) ?_
    (refine go ?_)
    refine ⟨⟨i + 1, evS k o l[i]⟩, (by repeat first | exact subE.nil _ | (apply subE.cons; focus (first | exact rfl | (simp [lk_cons]; done) | (simp [lk_cons]; omega)))), ⟨gH, gH, gH, (leN gN (by omega)), (by repeat first | with_reducible exact Keeps.refl _ | with_reducible refine Keeps.put ?_ (by omega) _ | with_reducible refine Keeps.set ?_ (by omega) _ | assumption), hi, ?_⟩, (by show l.length - (i + 1) < l.length - i; omega)⟩
    rw [g7, List.drop_eq_getElem_cons hi]; rfl
  · have hi : i = l.length := by omega
    (refine go ?_)
    refine WW.ret (PureQ.finD ?_)
    rw [g7, hi, List.drop_length]
    exact fz_agg rfl (flatP _)
theorem ref3_Eval_ae (k : Pr) (l : List Pr) (hl : l.length ≤ 1000000) (h : AHeap) : AE Try.prog 96 [.agg (encP k), .imm 2 (l.map encP)] h (.agg (encP (evalF k l))) h := by
  refine AE.pureW is_ref3_Eval (by simp) ?_
  unfold c_ref3_Eval
  (refine go ?_)
  refine WW.loopE (fun (s : RowS) => [(1, some (.imm 2 (l.map encP))), (2, some (.ptr h.next 0 0)), (4, some (.ptr (h.next + 1) 0 0)), (5, some (.ptr (h.next + 2) 0 0)), (6, some (.int .i64 s.i))])
    (fun s h' => h'.get h.next = some (.mem 2 [encP k]) ∧ h'.get (h.next + 1) = some (.mem 2 [encP (0, 0)]) ∧ h'.get (h.next + 2) = some (.mem 2 [encP s.o]) ∧ h'.next = h.next + 3 ∧ Keeps h h' ∧ s.i ≤ l.length ∧ evalF k l = (l.drop s.i).foldl (evS k) s.o) (fun s => l.length - s.i) ⟨0, (0, 0)⟩ (by repeat first | exact subE.nil _ | (apply subE.cons; focus (first | exact rfl | (simp [lk_cons]; done) | (simp [lk_cons]; omega)))) ⟨gH, gH, gH, gN, (by repeat first | with_reducible exact Keeps.refl _ | with_reducible refine Keeps.put ?_ (by omega) _ | with_reducible refine Keeps.set ?_ (by omega) _ | assumption), Nat.zero_le _, by simp [evalF_S]⟩ ?_
  rintro ⟨i, o⟩ h' ⟨g1, g2, g3, g4, g5, g6, g7⟩
  simp only at g1 g2 g3 g4 g5 g6 g7 ⊢
  (refine go ?_)
  (refine WW.ifB rfl (fun hz1 => ?_) (fun hz1 => ?_))
  · have hi : i < l.length := by omega
    (refine go ?_)
    refine DW.callS rfl (by first | exact True.intro | exact rfl) (by repeat first | exact SubL.nil | refine SubL.cons (SubV.refl _) ?_ | refine SubL.cons SubV.app ?_ | refine SubL.cons SubV.nil ?_) rfl (ref3_Add_ae o l[i] _) ?_
    (refine go ?_)
    rw [addF_comm o l[i]]
    refine DW.callS rfl (by first | exact True.intro | exact rfl) (by repeat first | exact SubL.nil | refine SubL.cons (SubV.refl _) ?_ | refine SubL.cons SubV.app ?_ | refine SubL.cons SubV.nil ?_) rfl (ref3_Mul_ae (addF l[i] o) k _) ?_
    (refine go ?_)
    refine ⟨⟨i + 1, evS k o l[i]⟩, (by repeat first | exact subE.nil _ | (apply subE.cons; focus (first | exact rfl | (simp [lk_cons]; done) | (simp [lk_cons]; omega)))), ⟨gH, gH, gH, gN, (by repeat first | with_reducible exact Keeps.refl _ | with_reducible refine Keeps.put ?_ (by omega) _ | with_reducible refine Keeps.set ?_ (by omega) _ | assumption), hi, ?_⟩, (by show l.length - (i + 1) < l.length - i; omega)⟩
    rw [g7, List.drop_eq_getElem_cons hi]; rfl
  · have hi : i = l.length := by omega
    (refine go ?_)
    refine WW.ret (PureQ.finD ?_)
    rw [g7, hi, List.drop_length]
    exact fz_agg rfl (flatP _)

theorem keeps_put1 {h h' : AHeap} {x : AObj} (hk : Keeps h h') (hg : h'.get h.next = some x) (hn : h.next + 1 ≤ h'.next) : Keeps (h.put h.next x) h' := by
  refine ⟨by rw [next_put]; exact hn, fun id hu => ?_⟩
  by_cases e : id = h.next
  · subst e; rw [hg]; exact get_put_same.symm
  · rw [get_put_neE e rfl]
    exact hk.2 id ⟨by have := hu.1; rw [next_put] at this; omega, by have := hu.2; simp only [AHeap.put] at this; rwa [if_neg e] at this⟩
theorem ref1_PutA_ae {h : AHeap} {nx : Nat} (hn : h.next = nx) (v : Int) : AE Try.prog 97 [.int .u64 v, .int .i64 8] h (.app nx 0 1 ((putB v 8).map encB)) (h.put nx (.tail 0 8)) := by
  subst hn
  refine AE.wf fun hwf => ?_
  refine AE.effW is_ref1_Put (by simp) (Ext.put Ext.refl trivial) ?_
  unfold c_ref1_Put
  (refine go ?_)
  refine WW.cvt (Cvt.adopt 1 (s := 5) rfl gN) ?_
  refine WW.loopE (fun (i : Nat) => [(0, some (.int .u64 v)), (1, some (.int .i64 8)), (5, some (.app h.next 0 1 (((List.range i).map (byteOf v 8)).map encB))), (6, some (.int .i64 ((8 : Int) - 1 - i)))])
    (fun i h' => h'.get h.next = some (.tail 0 i) ∧ h.next + 1 ≤ h'.next ∧ Keeps h h' ∧ i ≤ 8) (fun i => 8 - i) 0 (by repeat first | exact subE.nil _ | (apply subE.cons; focus (first | exact rfl | (simp [lk_cons]; done) | (simp [lk_cons]; omega)))) ⟨(by repeat first | exact get_put_tl (by first | rfl | exact List.length_map _ | (simp; done) | (simp; omega)) | exact get_set_tl (by first | rfl | exact List.length_map _ | (simp; done) | (simp; omega)) | assumption | with_reducible apply get_put_neE (by omega) | with_reducible apply get_set_neE (by omega)), (leN gN (by omega)), (by repeat first | with_reducible exact Keeps.refl _ | with_reducible refine Keeps.put ?_ (by omega) _ | with_reducible refine Keeps.set ?_ (by omega) _ | assumption), by omega⟩ ?_
  rintro i h' ⟨g1, g4, g2, g3⟩
  (refine go ?_)
  (refine WW.ifB rfl (fun hz3 => ?_) (fun hz3 => ?_))
  · (refine go ?_)
    have e1 : (8 : Int) * ((8 : Int) - 1 - (i : Int)) = ((8 * (8 - 1 - i) : Nat) : Int) := by omega
    refine WL.auto (Stp.sh rfl rfl (sh_byte e1 (by omega)) (by first | exact True.intro | exact rfl)) ?_
    refine WL.auto (Stp.conv rfl (byteOf_eq v) (by first | exact True.intro | exact rfl)) ?_
    (refine go ?_)
    refine ⟨i + 1, (by repeat first | exact subE.nil _ | (apply subE.cons; focus (first | exact rfl | (simp [lk_cons, List.range_succ, AV.cs, encB]; done) | (simp [lk_cons, List.range_succ, AV.cs, encB]; omega)))), ⟨(by repeat first | exact get_put_tl (by first | rfl | exact List.length_map _ | (simp; done) | (simp; omega)) | exact get_set_tl (by first | rfl | exact List.length_map _ | (simp; done) | (simp; omega)) | assumption | with_reducible apply get_put_neE (by omega) | with_reducible apply get_set_neE (by omega)), (leN gN (by omega)), (by repeat first | with_reducible exact Keeps.refl _ | with_reducible refine Keeps.put ?_ (by omega) _ | with_reducible refine Keeps.set ?_ (by omega) _ | assumption), by omega⟩, by omega⟩
  · (refine go ?_)
    have hi : i = 8 := by omega
    subst hi
    refine WW.ret (EffQ.finD ?_ ?_)
    · exact keeps_put1 g2 g1 g4
    · exact .clo _ (clo_appB put_used_nm _)
theorem ref1_Bytes_ae (p : Pr) (h : AHeap) : AE Try.prog 93 [.agg (encP p)] h (.imm 1 ((pairB p).map encB)) h := by
  refine AE.pureW is_ref1_Bytes (by simp) ?_
  unfold c_ref1_Bytes
  (repeat first | refine WL.go ?_ | refine WW.seq ?_ | refine WW.reg ?_ | refine WL.nil ?_ | refine WW.skip ?_ | refine WW.block ?_ | refine WW.exit ?_ | refine WW.condT rfl ?_ | refine WW.condF rfl ?_ | refine WL.gox ?_ | refine thenN ?_ | refine blkN ?_)
  refine WW.dregX [2, 6] [1, 4] [] gN (by decide +kernel) ?_
  (refine go ?_)
  refine DW.callSW rfl (by first | exact True.intro | exact rfl) (by repeat first | exact SubL.nil | refine SubL.cons (SubV.refl _) ?_ | refine SubL.cons SubV.app ?_ | refine SubL.cons SubV.nil ?_) rfl rfl (fun hp => by repeat first | exact hp | refine PhiW.put (by omega) ?_ | refine PhiW.setN (by omega) ?_ | refine PhiW.setW (by simp; done) ?_) (ref1_PutA_ae (nx := h.next + 1) gN _) ?_
  (refine go ?_)
  refine DW.callS rfl (by first | exact True.intro | exact rfl) (by repeat first | exact SubL.nil | refine SubL.cons (SubV.refl _) ?_ | refine SubL.cons SubV.app ?_ | refine SubL.cons SubV.nil ?_) rfl (ref1_Put_ae p.2 8 _ (by decide)) ?_
  (refine go ?_)
  refine WW.ret (PureQ.finD ?_)
  rw [show List.map encB (putB p.1 8) ++ List.map encB (putB p.2 (Int.toNat 8)) = (pairB p).map encB by simp [pairB]]
  exact fz_app rfl (flatB _)

attribute [local irreducible] encF
theorem flow_Sub_ae (key : Pr) (n : Nn) (h : AHeap) : AE Try.prog 85 [.agg (encP key), .agg (encN n)] h (.agg (encP (subF key n))) h := by
  refine AE.pureW is_flow_Sub (by simp) ?_
  unfold c_flow_Sub
  (refine go ?_)
  refine WL.call rfl (by first | exact True.intro | exact rfl) (by repeat first | exact SubL.nil | refine SubL.cons (SubV.refl _) ?_ | refine SubL.cons SubV.app ?_ | refine SubL.cons SubV.nil ?_) (speck_Encrypt_ae key (o64 (shl64 (IntKind.u64.wrap n.1) 32) (IntKind.u64.wrap n.2.1), n.2.2) _) ?_
  (refine go ?_)
  refine WW.ret (PureQ.finD ?_)
  exact fz_agg rfl (flatP _)
theorem ref4_Sub_ae (key : Pr) (n : Nn) (h : AHeap) : AE Try.prog 67 [.agg (encP key), .agg (encN n)] h (.agg (encP (subF key n))) h := by
  refine AE.pureW is_ref4_Sub (by simp) ?_
  unfold c_ref4_Sub
  (refine go ?_)
  refine WL.call rfl (by first | exact True.intro | exact rfl) (by repeat first | exact SubL.nil | refine SubL.cons (SubV.refl _) ?_ | refine SubL.cons SubV.app ?_ | refine SubL.cons SubV.nil ?_) (ref2_Encrypt_ae key (o64 (shl64 (IntKind.u64.wrap n.1) 32) (IntKind.u64.wrap n.2.1), n.2.2) _) ?_
  (refine go ?_)
  refine WW.ret (PureQ.finD ?_)
  exact fz_agg rfl (flatP _)
end Go.Proofs.Ytlddahcgaonlhaa
