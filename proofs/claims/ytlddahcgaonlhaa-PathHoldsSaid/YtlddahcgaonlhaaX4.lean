/- The flow's bytes, exclusive or of rows. -/
import Derived.Test.YtlddahcgaonlhaaX3
set_option linter.all false
namespace Go.Proofs.Ytlddahcgaonlhaa
open Go Go.Abs

theorem pairB_len16 (p : Pr) : (pairB p).length = 16 := by simp [pairB]
attribute [local irreducible] encF pairB
theorem flowR_end (sub : Pr) (k : Nat) : ∀ i : Nat, flowR sub (k + 1) i = flowR sub k i ++ pairB (encF sub (((i + k : Nat) : Int), 0)) := by
  induction k with
  | zero => intro i; exact (List.append_nil _).trans (List.nil_append _).symm
  | succ k ih =>
    intro i
    rw [flowR, ih (i + 1), flowR, List.append_assoc, show i + 1 + k = i + (k + 1) by omega]
theorem flowR_inc (sub : Pr) (k : Nat) : flowR sub (k + 1) 1 = flowR sub k 1 ++ pairB (encF sub ((k : Int) + 1, 0)) := by
  rw [flowR_end, show (((1 + k : Nat)) : Int) = (k : Int) + 1 by omega]
theorem flowR_len (sub : Pr) : ∀ k i : Nat, (flowR sub k i).length = 16 * k
  | 0, _ => rfl
  | k + 1, i => by rw [flowR, List.length_append, pairB_len16, flowR_len sub k]; omega
theorem flowF_len (sub : Pr) (n : Nat) : (flowF sub n).length = n := by
  rw [flowF, List.length_take, flowR_len]; omega
theorem flow_Bytes_ae (sub : Pr) (n : Nat) (hn : n ≤ 4000) (h : AHeap) : AE Try.prog 87 [.agg (encP sub), .int .i64 n] h (.imm 1 ((flowF sub n).map encB)) h := by
  refine AE.pureW is_flow_Bytes (by simp) ?_
  unfold c_flow_Bytes
  (refine go ?_)
  (refine WW.ifB rfl (fun hz2 => ?_) (fun hz2 => ?_))
  · exfalso; omega
  (refine go ?_)
  refine WW.cvt (Cvt.adopt 1 (s := 5) rfl gN) ?_
  refine WW.loopE (fun (i : Nat) => [(1, some (.int .i64 n)), (2, some (.ptr h.next 0 0)), (5, some (.app (h.next + 1) 0 1 ((flowR sub i 1).map encB))), (6, some (.int .u64 ((i : Int) + 1)))])
    (fun i h' => h'.get h.next = some (.mem 2 [encP sub]) ∧ h'.get (h.next + 1) = some (.tail 0 (16 * i)) ∧ Keeps h h' ∧ i ≤ (n + 15) / 16) (fun i => (n + 15) / 16 - i) 0 (by repeat first | exact subE.nil _ | (apply subE.cons; focus (first | exact rfl | (simp [lk_cons, flowR]; done) | (simp [lk_cons, flowR]; omega)))) ⟨gH, (by repeat first | exact get_put_tl (by first | rfl | exact List.length_map _ | (simp; done) | (simp; omega)) | exact get_set_tl (by first | rfl | exact List.length_map _ | (simp; done) | (simp; omega)) | assumption | with_reducible apply get_put_neE (by omega) | with_reducible apply get_set_neE (by omega)), (by repeat first | with_reducible exact Keeps.refl _ | with_reducible refine Keeps.put ?_ (by omega) _ | with_reducible refine Keeps.set ?_ (by omega) _ | assumption), by omega⟩ ?_
  rintro i h' ⟨g1, g2, g3, g4⟩
  have hl := flowR_len sub i 1
  (repeat first | refine WW.seq ?_ | refine WW.reg ?_ | refine WL.nil ?_ | refine WW.skip ?_ | refine WW.block ?_ | refine thenN ?_ | refine blkN ?_); iterate 2 (refine WL.go ?_)
  rw [hl]
  (refine go ?_)
  (refine WW.ifB rfl (fun hz3 => ?_) (fun hz3 => ?_))
  · (refine go ?_)
    refine WL.call rfl (by first | exact True.intro | exact rfl) (by repeat first | exact SubL.nil | refine SubL.cons (SubV.refl _) ?_ | refine SubL.cons SubV.app ?_ | refine SubL.cons SubV.nil ?_) (speck_Encrypt_ae sub ((i : Int) + 1, 0) _) ?_
    (refine go ?_)
    refine WL.call rfl (by first | exact True.intro | exact rfl) (by repeat first | exact SubL.nil | refine SubL.cons (SubV.refl _) ?_ | refine SubL.cons SubV.app ?_ | refine SubL.cons SubV.nil ?_) (wire_Bytes_ae _ _) ?_
    have hp := pairB_len16 (encF sub ((i : Int) + 1, 0))
    (refine go ?_)
    rw [map_app, ← flowR_inc, hp]
    refine ⟨i + 1, (by repeat first | exact subE.nil _ | (apply subE.cons; focus (first | exact rfl | (simp [lk_cons]; done) | (simp [lk_cons]; omega)))), ⟨gH, (by repeat first | exact get_put_tl (by first | rfl | exact List.length_map _ | (simp; done) | (simp; omega)) | exact get_set_tl (by first | rfl | exact List.length_map _ | (simp; done) | (simp; omega)) | assumption | with_reducible apply get_put_neE (by omega) | with_reducible apply get_set_neE (by omega)), (by repeat first | with_reducible exact Keeps.refl _ | with_reducible refine Keeps.put ?_ (by omega) _ | with_reducible refine Keeps.set ?_ (by omega) _ | assumption), by omega⟩, by omega⟩
  · (refine go ?_)
    refine WW.ret (PureQ.finD ?_)
    rw [show List.drop 0 (List.take n (List.map encB (flowR sub i 1))) = (flowF sub n).map encB by
      rw [List.drop_zero, flowF, show (n + 15) / 16 = i by omega, List.map_take]]
    exact fz_immB rfl
theorem xor_b8 (x y : UInt8) : bits .xor .u8 (x.toNat : Int) (y.toNat : Int) = ((x ^^^ y).toNat : Int) := by
  show IntKind.u8.wrap ((BitVec.ofInt 8 (x.toNat : Int) ^^^ BitVec.ofInt 8 (y.toNat : Int)).toNat : Int) = _
  have h1 : ∀ z : UInt8, BitVec.ofInt 8 (z.toNat : Int) = z.toBitVec := fun z => by
    apply BitVec.eq_of_toNat_eq
    rw [BitVec.toNat_ofInt]
    have := z.toNat_lt
    simp; omega
  rw [h1, h1]
  have h2 := (x ^^^ y).toNat_lt
  have h3 : (x.toBitVec ^^^ y.toBitVec).toNat = (x ^^^ y).toNat := rfl
  rw [h3, wrap_in (by constructor <;> omega)]
theorem xorB_len {a b : Bs} (hb : b.length = a.length) : (xorB a b).length = a.length := by simp [xorB, hb]
theorem xorB_at {a b : Bs} {i : Nat} (h1 : i < a.length) (h2 : i < b.length) : (xorB a b).getD i 0 = a[i] ^^^ b[i] := by
  have h3 : i < (xorB a b).length := by simp [xorB]; omega
  rw [List.getD_eq_getElem?_getD, List.getElem?_eq_getElem h3, Option.getD_some]
  simp [xorB]
theorem range_getD {l : Bs} {n : Nat} (hn : l.length = n) : (List.range n).map (fun k => encB (l.getD k 0)) = l.map encB := by
  subst hn
  refine List.ext_getElem (by simp) fun i h1 h2 => ?_
  have h3 : i < l.length := by simpa using h2
  simp [List.getElem?_eq_getElem h3]
theorem mn_same (a : Int) : (if a < a then a else a) = a := by simp
theorem flow_Xor_ae (a b : Bs) (hb : b.length = a.length) (hl : a.length ≤ 4000) (h : AHeap) : AE Try.prog 86 [.imm 1 (a.map encB), .imm 1 (b.map encB)] h (.imm 1 ((xorB a b).map encB)) h := by
  refine AE.pureW is_flow_Xor (by simp) ?_
  unfold c_flow_Xor
  (repeat first | refine WW.seq ?_ | refine WW.reg ?_ | refine WL.nil ?_ | refine WW.skip ?_ | refine WW.block ?_ | refine thenN ?_ | refine blkN ?_); iterate 1 (refine WL.go ?_)
  (repeat first | refine WW.seq ?_ | refine WW.reg ?_ | refine WL.nil ?_ | refine WW.skip ?_ | refine WW.block ?_ | refine thenN ?_ | refine blkN ?_); iterate 4 (refine WL.go ?_)
  rw [hb]
  refine WL.auto (Stp.mn rfl rfl (by first | exact True.intro | exact rfl)) ?_
  rw [mn_same]
  (refine go ?_)
  refine WW.loopE (fun (i : Nat) => [(0, some (.imm 1 (a.map encB))), (1, some (.imm 1 (b.map encB))), (5, some (.ref h.next 0 a.length)), (14, some (.int .i64 a.length)), (15, some (.int .i64 i))])
    (fun i h' => h'.get h.next = some (.mem 1 ((List.range a.length).map fun k => if k < i then encB ((xorB a b).getD k 0) else [.int .u8 0])) ∧ Keeps h h' ∧ i ≤ a.length) (fun i => a.length - i) 0 (by repeat first | exact subE.nil _ | (apply subE.cons; focus (first | exact rfl | (simp [lk_cons]; done) | (simp [lk_cons]; omega)))) ⟨?_, (by repeat first | with_reducible exact Keeps.refl _ | with_reducible refine Keeps.put ?_ (by omega) _ | with_reducible refine Keeps.set ?_ (by omega) _ | assumption), by simp⟩ ?_
  · rw [← upto_none (x := [.int .u8 0]) (by intros; rfl)]
    exact gH
  rintro i h' ⟨g1, g2, g3⟩
  (refine go ?_)
  (refine WW.ifB rfl (fun hz1 => ?_) (fun hz1 => ?_))
  · have h2 : i < b.length := by omega
    (refine go ?_)
    refine ⟨i + 1, (by repeat first | exact subE.nil _ | (apply subE.cons; focus (first | exact rfl | (simp [lk_cons]; done) | (simp [lk_cons]; omega)))), ⟨?_, (by repeat first | with_reducible exact Keeps.refl _ | with_reducible refine Keeps.put ?_ (by omega) _ | with_reducible refine Keeps.set ?_ (by omega) _ | assumption), by omega⟩, by omega⟩
    rw [get_set_same, Nat.zero_add, set_upto (by rw [xorB_at (show i < a.length by omega) h2]; simp [putC, AV.cs, encB, xor_b8])]
  · (refine go ?_)
    refine WW.ret (PureQ.finD ?_)
    rw [upto_all (by omega)] at g1
    refine fz_ref g1 (Nat.le_refl _) (by simp) ?_ (flatC_map fun _ => encB_flat _)
    exact range_getD (xorB_len hb)
theorem ref4_Bytes_ae (sub : Pr) (n : Nat) (hn : n ≤ 4000) (h : AHeap) : AE Try.prog 69 [.agg (encP sub), .int .i64 n] h (.imm 1 ((flowF sub n).map encB)) h := by
  refine AE.pureW is_ref4_Bytes (by simp) ?_
  unfold c_ref4_Bytes
  (refine go ?_)
  (refine WW.ifB rfl (fun hz2 => ?_) (fun hz2 => ?_))
  · exfalso; omega
  (refine go ?_)
  refine WW.cvt (Cvt.adopt 1 (s := 5) rfl gN) ?_
  refine WW.loopE (fun (i : Nat) => [(1, some (.int .i64 n)), (2, some (.ptr h.next 0 0)), (5, some (.app (h.next + 1) 0 1 ((flowR sub i 1).map encB))), (6, some (.int .i64 ((i : Int) + 1)))])
    (fun i h' => h'.get h.next = some (.mem 2 [encP sub]) ∧ h'.get (h.next + 1) = some (.tail 0 (16 * i)) ∧ Keeps h h' ∧ i ≤ (n + 15) / 16) (fun i => (n + 15) / 16 - i) 0 (by repeat first | exact subE.nil _ | (apply subE.cons; focus (first | exact rfl | (simp [lk_cons, flowR]; done) | (simp [lk_cons, flowR]; omega)))) ⟨gH, (by repeat first | exact get_put_tl (by first | rfl | exact List.length_map _ | (simp; done) | (simp; omega)) | exact get_set_tl (by first | rfl | exact List.length_map _ | (simp; done) | (simp; omega)) | assumption | with_reducible apply get_put_neE (by omega) | with_reducible apply get_set_neE (by omega)), (by repeat first | with_reducible exact Keeps.refl _ | with_reducible refine Keeps.put ?_ (by omega) _ | with_reducible refine Keeps.set ?_ (by omega) _ | assumption), by omega⟩ ?_
  rintro i h' ⟨g1, g2, g3, g4⟩
  have hl := flowR_len sub i 1
  (repeat first | refine WW.seq ?_ | refine WW.reg ?_ | refine WL.nil ?_ | refine WW.skip ?_ | refine WW.block ?_ | refine thenN ?_ | refine blkN ?_); iterate 2 (refine WL.go ?_)
  rw [hl]
  (refine go ?_)
  (refine WW.ifB rfl (fun hz3 => ?_) (fun hz3 => ?_))
  · (refine go ?_)
    refine WL.call rfl (by first | exact True.intro | exact rfl) (by repeat first | exact SubL.nil | refine SubL.cons (SubV.refl _) ?_ | refine SubL.cons SubV.app ?_ | refine SubL.cons SubV.nil ?_) (ref2_Encrypt_ae sub ((i : Int) + 1, 0) _) ?_
    (refine go ?_)
    refine WL.call rfl (by first | exact True.intro | exact rfl) (by repeat first | exact SubL.nil | refine SubL.cons (SubV.refl _) ?_ | refine SubL.cons SubV.app ?_ | refine SubL.cons SubV.nil ?_) (ref1_Bytes_ae _ _) ?_
    have hp := pairB_len16 (encF sub ((i : Int) + 1, 0))
    (refine go ?_)
    rw [map_app, ← flowR_inc, hp]
    refine ⟨i + 1, (by repeat first | exact subE.nil _ | (apply subE.cons; focus (first | exact rfl | (simp [lk_cons]; done) | (simp [lk_cons]; omega)))), ⟨gH, (by repeat first | exact get_put_tl (by first | rfl | exact List.length_map _ | (simp; done) | (simp; omega)) | exact get_set_tl (by first | rfl | exact List.length_map _ | (simp; done) | (simp; omega)) | assumption | with_reducible apply get_put_neE (by omega) | with_reducible apply get_set_neE (by omega)), (by repeat first | with_reducible exact Keeps.refl _ | with_reducible refine Keeps.put ?_ (by omega) _ | with_reducible refine Keeps.set ?_ (by omega) _ | assumption), by omega⟩, by omega⟩
  · (refine go ?_)
    refine WW.ret (PureQ.finD ?_)
    rw [show List.drop 0 (List.take n (List.map encB (flowR sub i 1))) = (flowF sub n).map encB by
      rw [List.drop_zero, flowF, show (n + 15) / 16 = i by omega, List.map_take]]
    exact fz_immB rfl
theorem xorB_take {a b : Bs} {i : Nat} (h1 : i < a.length) (h2 : i < b.length) : (xorB a b).take (i + 1) = (xorB a b).take i ++ [a[i] ^^^ b[i]] := by
  have h3 : i < (xorB a b).length := by simp [xorB]; omega
  rw [List.take_succ_eq_append_getElem h3]
  simp [xorB]
theorem ref4_Xor_ae (a b : Bs) (hb : b.length = a.length) (hl : a.length ≤ 4000) (h : AHeap) : AE Try.prog 68 [.imm 1 (a.map encB), .imm 1 (b.map encB)] h (.imm 1 ((xorB a b).map encB)) h := by
  refine AE.pureW is_ref4_Xor (by simp) ?_
  unfold c_ref4_Xor
  (refine go ?_)
  refine WW.cvt (Cvt.adopt 1 (s := 5) rfl gN) ?_
  have hx := xorB_len hb
  refine WW.loopE (fun (i : Nat) => [(0, some (.imm 1 (a.map encB))), (1, some (.imm 1 (b.map encB))), (5, some (.app h.next 0 1 (((xorB a b).take i).map encB))), (6, some (.int .i64 i))])
    (fun i h' => h'.get h.next = some (.tail 0 i) ∧ Keeps h h' ∧ i ≤ a.length) (fun i => a.length - i) 0 (by repeat first | exact subE.nil _ | (apply subE.cons; focus (first | exact rfl | (simp [lk_cons]; done) | (simp [lk_cons]; omega)))) ⟨(by repeat first | exact get_put_tl (by first | rfl | exact List.length_map _ | (simp; done) | (simp; omega)) | exact get_set_tl (by first | rfl | exact List.length_map _ | (simp; done) | (simp; omega)) | assumption | with_reducible apply get_put_neE (by omega) | with_reducible apply get_set_neE (by omega)), (by repeat first | with_reducible exact Keeps.refl _ | with_reducible refine Keeps.put ?_ (by omega) _ | with_reducible refine Keeps.set ?_ (by omega) _ | assumption), by omega⟩ ?_
  rintro i h' ⟨g1, g2, g3⟩
  have hlt : ((xorB a b).take i).length = i := by rw [List.length_take]; omega
  (refine go ?_)
  (apply WL.andB; exact rfl; exact rfl; exact rfl; exact BP.of; intro hz1)
  · (repeat first | (apply GW.goS; exact Stp.auto) | apply GW.nil | exact rfl)
  (refine go ?_)
  (refine WW.ifB rfl (fun hz2 => ?_) (fun hz2 => ?_))
  · have h1 : i < a.length := by simp at hz2; omega
    have h2 : i < b.length := by omega
    (refine go ?_)
    rw [xor_b8, show ∀ z : UInt8, [AV.int IntKind.u8 (z.toNat : Int)] = encB z from fun _ => rfl, ← List.map_singleton (f := encB), map_app, ← xorB_take h1 h2]
    refine ⟨i + 1, (by repeat first | exact subE.nil _ | (apply subE.cons; focus (first | exact rfl | (simp [lk_cons]; done) | (simp [lk_cons]; omega)))), ⟨(by repeat first | exact get_put_tl (by first | rfl | exact List.length_map _ | (simp; done) | (simp; omega)) | exact get_set_tl (by first | rfl | exact List.length_map _ | (simp; done) | (simp; omega)) | assumption | with_reducible apply get_put_neE (by omega) | with_reducible apply get_set_neE (by omega)), (by repeat first | with_reducible exact Keeps.refl _ | with_reducible refine Keeps.put ?_ (by omega) _ | with_reducible refine Keeps.set ?_ (by omega) _ | assumption), by omega⟩, by omega⟩
  · have hi : i = a.length := by simp at hz2; omega
    (refine go ?_)
    refine WW.ret (PureQ.finD ?_)
    rw [hi, List.take_of_length_le (by omega)]
    exact fz_app rfl (flatB _)
end Go.Proofs.Ytlddahcgaonlhaa
