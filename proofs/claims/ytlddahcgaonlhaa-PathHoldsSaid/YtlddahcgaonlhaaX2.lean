/- The field: the code's and the document's. -/
import Derived.Test.YtlddahcgaonlhaaX1
set_option linter.all false
namespace Go.Proofs.Ytlddahcgaonlhaa
open Go Go.Abs

theorem field_Add_ae (a b : Pr) (h : AHeap) : AE Try.prog 105 [.agg (encP a), .agg (encP b)] h (.agg (encP (addF a b))) h := by
  refine AE.pureW is_field_Add (by simp) ?_
  unfold c_field_Add
  (refine go ?_)
  refine WW.ret (PureQ.finD ?_)
  exact fz_agg rfl (flatP (addF a b))
theorem ref3_Add_ae (a b : Pr) (h : AHeap) : AE Try.prog 95 [.agg (encP a), .agg (encP b)] h (.agg (encP (addF a b))) h := by
  refine AE.pureW is_ref3_Add (by simp) ?_
  unfold c_ref3_Add
  (refine go ?_)
  refine WW.ret (PureQ.finD ?_)
  exact fz_agg rfl (flatP (addF a b))
theorem dbl_T {a : Pr} (hz : shr64 a.1 63 = 1) : dblF a = (o64 (shl64 a.1 1) (shr64 a.2 63), x64 (shl64 a.2 1) 135) := by rw [dblF, if_pos (by simp [hz])]
theorem dbl_F {a : Pr} (hz : shr64 a.1 63 ≠ 1) : dblF a = (o64 (shl64 a.1 1) (shr64 a.2 63), shl64 a.2 1) := by rw [dblF, if_neg (by simp [hz])]
theorem field_double_ae (a : Pr) (h : AHeap) : AE Try.prog 121 [.agg (encP a)] h (.agg (encP (dblF a))) h := by
  refine AE.pureW is_field_double (by simp) ?_
  unfold c_field_double
  (refine go ?_)
  refine WW.ifB rfl (fun hz => ?_) (fun hz => ?_)
  · (refine go ?_)
    refine WW.ret (PureQ.finD ?_)
    rw [dbl_T (show shr64 a.1 63 = 1 from hz)]
    exact fz_agg rfl (flatP (_, _))
  · (refine go ?_)
    refine WW.ret (PureQ.finD ?_)
    rw [dbl_F (show shr64 a.1 63 ≠ 1 from hz)]
    exact fz_agg rfl (flatP (_, _))
theorem ref3_twice_ae (a : Pr) (h : AHeap) : AE Try.prog 119 [.agg (encP a)] h (.agg (encP (dblF a))) h := by
  refine AE.pureW is_ref3_twice (by simp) ?_
  unfold c_ref3_twice
  (refine go ?_)
  refine WW.ifB rfl (fun hz => ?_) (fun hz => ?_)
  · (refine go ?_)
    refine WW.ret (PureQ.finD ?_)
    rw [dbl_T (show shr64 a.1 63 = 1 from hz)]
    exact fz_agg rfl (flatP (_, _))
  · (refine go ?_)
    refine WW.ret (PureQ.finD ?_)
    rw [dbl_F (show shr64 a.1 63 ≠ 1 from hz)]
    exact fz_agg rfl (flatP (_, _))
theorem quo_lt {i : Nat} (hi : i < 64) : binA .quo .i64 (i : Int) 64 = some (.int .i64 0) := by
  show some (AV.int .i64 (IntKind.i64.wrap ((i : Int).tdiv 64))) = _
  rw [Int.tdiv_eq_ediv_of_nonneg (by omega), show (i : Int) / 64 = 0 by omega]; rfl
theorem quo_ge {i : Nat} (hi : 64 ≤ i) (h2 : i < 128) : binA .quo .i64 (i : Int) 64 = some (.int .i64 1) := by
  show some (AV.int .i64 (IntKind.i64.wrap ((i : Int).tdiv 64))) = _
  rw [Int.tdiv_eq_ediv_of_nonneg (by omega), show (i : Int) / 64 = 1 by omega]; rfl
theorem rem_64 (i : Nat) : binA .rem .i64 (i : Int) 64 = some (.int .i64 ((i % 64 : Nat) : Int)) := by
  show some (AV.int .i64 ((i : Int).tmod 64)) = _
  rw [Int.tmod_eq_emod_of_nonneg (by omega)]; rfl
theorem sub_63 (i : Nat) : binA .sub .i64 63 ((i % 64 : Nat) : Int) = some (.int .i64 ((63 - i % 64 : Nat) : Int)) := by
  show some (AV.int .i64 (IntKind.i64.wrap (63 - ((i % 64 : Nat) : Int)))) = _
  rw [wrap_in (by constructor <;> omega), show (63 : Int) - ((i % 64 : Nat) : Int) = ((63 - i % 64 : Nat) : Int) by omega]
theorem shr_n (v : Int) {k : Nat} (hk : k ≤ 64) : shA .shr .u64 v (k : Int) = some (.int .u64 (shr64 v k)) := by
  show req (0 ≤ (k : Int)) _ = _
  rw [req_pos (by omega), Int.toNat_natCast, show min k IntKind.u64.bits = k from Nat.min_eq_left hk]; rfl
theorem and_n (v w : Int) : binA .and .u64 v w = some (.int .u64 (bits .and .u64 v w)) := rfl
def mulS (a b : Pr) (out : Pr) (i : Nat) : Pr := if digF b i then addF (dblF out) a else dblF out
def mulR (a b : Pr) (n : Nat) : Pr := (List.range n).foldl (mulS a b) (0, 0)
theorem mulR_succ (a b : Pr) (n : Nat) : mulR a b (n + 1) = mulS a b (mulR a b n) n := by simp [mulR, List.range_succ]
theorem mulF_R (a b : Pr) : mulF a b = mulR a b 128 := rfl
theorem dgl_lt {b : Pr} {i : Nat} (hi : i < 64) : binA .eql .u64 (bits .and .u64 (shr64 b.1 (63 - i % 64)) 1) 1 = some (.bool (digF b i)) := by rw [digF, if_pos hi]; rfl
theorem dgl_ge {b : Pr} {i : Nat} (hi : 64 ≤ i) : binA .eql .u64 (bits .and .u64 (shr64 b.2 (63 - i % 64)) 1) 1 = some (.bool (digF b i)) := by rw [digF, if_neg (by omega)]; rfl
def lt128 (i : Nat) : Bool := decide (i < 128)
theorem lt128_T {i : Nat} (hz : lt128 i = true) : i < 128 := by simpa [lt128] using hz
theorem lt128_F {i : Nat} (hz : lt128 i = false) : 128 ≤ i := by simpa [lt128] using hz
theorem lss_128 (i : Nat) : binA .lss .i64 (i : Int) 128 = some (.bool (lt128 i)) := by
  exact congrArg (fun b => some (AV.bool b)) (decide_eq_decide.2 (by omega))
theorem geq_127 (i : Nat) : binA .geq .i64 ((127 : Int) - (i : Int)) 0 = some (.bool (lt128 i)) := by
  exact congrArg (fun b => some (AV.bool b)) (decide_eq_decide.2 (by omega))
theorem lt64 (i : Nat) (hi : i < 64) : binA .geq .i64 ((127 : Int) - (i : Int)) 64 = some (.bool true) := by
  exact congrArg (fun b => some (AV.bool b)) (decide_eq_true (by omega))
theorem ge64 (i : Nat) (hi : 64 ≤ i) : binA .geq .i64 ((127 : Int) - (i : Int)) 64 = some (.bool false) := by
  exact congrArg (fun b => some (AV.bool b)) (decide_eq_false (by omega))
attribute [local irreducible] digF lt128
theorem rem_64r {i : Nat} (hi : i < 128) : binA .rem .i64 ((127 : Int) - (i : Int)) 64 = some (.int .i64 ((63 - i % 64 : Nat) : Int)) := by
  show some (AV.int .i64 (((127 : Int) - (i : Int)).tmod 64)) = _
  rw [Int.tmod_eq_emod_of_nonneg (by omega), show ((127 : Int) - (i : Int)) % 64 = ((63 - i % 64 : Nat) : Int) by omega]
theorem dec_127 {i : Nat} (hi : i < 128) : binA .sub .i64 ((127 : Int) - (i : Int)) 1 = some (.int .i64 ((127 : Int) - ((i + 1 : Nat) : Int))) := by
  show some (AV.int .i64 (IntKind.i64.wrap ((127 : Int) - (i : Int) - 1))) = _
  rw [wrap_in (by constructor <;> omega)]; exact congrArg (fun b => some (AV.int .i64 b)) (by omega)
/-- Where a product's making stands. -/
structure MulS where
  i : Nat
  o : Pr
theorem field_Mul_ae (a b : Pr) (h : AHeap) : AE Try.prog 118 [.agg (encP a), .agg (encP b)] h (.agg (encP (mulF a b))) h := by
  refine AE.pureW is_field_Mul (by simp) ?_
  unfold c_field_Mul
  (refine go ?_)
  refine WW.loopE (fun (s : MulS) => [(2, some (.ptr h.next 0 0)), (3, some (.ptr (h.next + 1) 0 0)), (4, some (.ptr (h.next + 2) 0 0)), (5, some (.ptr (h.next + 3) 0 0)), (7, some (.int .i64 s.i))])
    (fun s h' => h'.get h.next = some (.mem 2 [encP a]) ∧ h'.get (h.next + 1) = some (.mem 2 [encP b]) ∧ h'.get (h.next + 2) = some (.mem 2 [encP (0, 0)]) ∧ h'.get (h.next + 3) = some (.mem 2 [encP s.o]) ∧ h'.next = h.next + 4 ∧ Keeps h h' ∧ s.i ≤ 128 ∧ s.o = mulR a b s.i) (fun s => 128 - s.i) ⟨0, (0, 0)⟩ (by repeat first | exact subE.nil _ | (apply subE.cons; focus (first | exact rfl | (simp [lk_cons]; done) | (simp [lk_cons]; omega)))) ⟨gH, gH, gH, gH, gN, (by repeat first | with_reducible exact Keeps.refl _ | with_reducible refine Keeps.put ?_ (by omega) _ | with_reducible refine Keeps.set ?_ (by omega) _ | assumption), Nat.zero_le _, rfl⟩ ?_
  rintro ⟨i, o⟩ h' ⟨g1, g2, g3, g4, g5, g6, g7, g8⟩
  simp only at g1 g2 g3 g4 g5 g6 g7 g8 ⊢
  (repeat first | refine WW.seq ?_ | refine WW.reg ?_ | refine WL.nil ?_ | refine WW.skip ?_ | refine WW.block ?_ | refine thenN ?_ | refine blkN ?_)
  refine WL.auto (Stp.bin rfl rfl (lss_128 i) (by first | exact True.intro | exact rfl)) ?_
  (repeat first | refine WW.seq ?_ | refine WW.reg ?_ | refine WL.nil ?_ | refine WW.skip ?_ | refine WW.block ?_ | refine thenN ?_ | refine blkN ?_)
  refine WW.ifB rfl (fun hz1 => ?_) (fun hz1 => ?_)
  · have hi := lt128_T hz1
    (refine go ?_)
    refine WL.call rfl (by first | exact True.intro | exact rfl) (by repeat first | exact SubL.nil | refine SubL.cons (SubV.refl _) ?_ | refine SubL.cons SubV.app ?_ | refine SubL.cons SubV.nil ?_) (field_double_ae o _) ?_
    rcases Nat.lt_or_ge i 64 with hc | hc
    have hq := quo_lt hc
    have hd := dgl_lt (b := b) hc
    rotate_left
    have hq := quo_ge hc hi
    have hd := dgl_ge (b := b) hc
    rotate_left
    all_goals
      (repeat first | refine WW.seq ?_ | refine WW.reg ?_ | refine WL.nil ?_ | refine WW.skip ?_ | refine WW.block ?_ | refine thenN ?_ | refine blkN ?_); iterate 1 (refine WL.go ?_)
      (repeat first | refine WW.seq ?_ | refine WW.reg ?_ | refine WL.nil ?_ | refine WW.skip ?_ | refine WW.block ?_ | refine thenN ?_ | refine blkN ?_); iterate 1 (refine WL.go ?_)
      refine WL.auto (Stp.bin rfl rfl hq (by first | exact True.intro | exact rfl)) ?_
      iterate 3 (refine WL.go ?_)
      refine WL.auto (Stp.bin rfl rfl (rem_64 i) (by first | exact True.intro | exact rfl)) ?_
      refine WL.auto (Stp.bin rfl rfl (sub_63 i) (by first | exact True.intro | exact rfl)) ?_
      refine WL.auto (Stp.sh rfl rfl (shr_n _ (by omega)) (by first | exact True.intro | exact rfl)) ?_
      refine WL.auto (Stp.bin rfl rfl (and_n _ _) (by first | exact True.intro | exact rfl)) ?_
      refine WL.auto (Stp.bin rfl rfl hd (by first | exact True.intro | exact rfl)) ?_
      (refine go ?_)
      refine WW.ifB rfl (fun hz => ?_) (fun hz => ?_)
      · (refine go ?_)
        refine WL.call rfl (by first | exact True.intro | exact rfl) (by repeat first | exact SubL.nil | refine SubL.cons (SubV.refl _) ?_ | refine SubL.cons SubV.app ?_ | refine SubL.cons SubV.nil ?_) (field_Add_ae (dblF o) a _) ?_
        (refine go ?_)
        have e1 : addF (dblF o) a = mulR a b (i + 1) := by
          rw [mulR_succ, mulS, if_pos (by simp [hz]), g8]
        generalize addF (dblF o) a = o' at *
        refine ⟨⟨i + 1, o'⟩, (by repeat first | exact subE.nil _ | (apply subE.cons; focus (first | exact rfl | (simp [lk_cons]; done) | (simp [lk_cons]; omega)))), ⟨gH, gH, gH, gH, gN, (by repeat first | with_reducible exact Keeps.refl _ | with_reducible refine Keeps.put ?_ (by omega) _ | with_reducible refine Keeps.set ?_ (by omega) _ | assumption), hi, e1⟩, (by show 128 - (i + 1) < 128 - i; omega)⟩
      · (refine go ?_)
        have e1 : dblF o = mulR a b (i + 1) := by
          rw [mulR_succ, mulS, if_neg (by simp [hz]), g8]
        generalize dblF o = o' at *
        refine ⟨⟨i + 1, o'⟩, (by repeat first | exact subE.nil _ | (apply subE.cons; focus (first | exact rfl | (simp [lk_cons]; done) | (simp [lk_cons]; omega)))), ⟨gH, gH, gH, gH, gN, (by repeat first | with_reducible exact Keeps.refl _ | with_reducible refine Keeps.put ?_ (by omega) _ | with_reducible refine Keeps.set ?_ (by omega) _ | assumption), hi, e1⟩, (by show 128 - (i + 1) < 128 - i; omega)⟩
  · have hi := lt128_F hz1
    (refine go ?_)
    refine WW.ret (PureQ.finD ?_)
    rw [mulF_R, g8, show i = 128 by omega]
    exact fz_agg rfl (flatP _)
theorem ref3_Mul_ae (a b : Pr) (h : AHeap) : AE Try.prog 112 [.agg (encP a), .agg (encP b)] h (.agg (encP (mulF a b))) h := by
  refine AE.pureW is_ref3_Mul (by simp) ?_
  unfold c_ref3_Mul
  (refine go ?_)
  refine WW.loopE (fun (s : MulS) => [(2, some (.ptr h.next 0 0)), (3, some (.ptr (h.next + 1) 0 0)), (4, some (.ptr (h.next + 2) 0 0)), (5, some (.ptr (h.next + 3) 0 0)), (6, some (.int .i64 ((127 : Int) - (s.i : Int))))])
    (fun s h' => h'.get h.next = some (.mem 2 [encP a]) ∧ h'.get (h.next + 1) = some (.mem 2 [encP b]) ∧ h'.get (h.next + 2) = some (.mem 2 [encP (0, 0)]) ∧ h'.get (h.next + 3) = some (.mem 2 [encP s.o]) ∧ h'.next = h.next + 4 ∧ Keeps h h' ∧ s.i ≤ 128 ∧ s.o = mulR a b s.i) (fun s => 128 - s.i) ⟨0, (0, 0)⟩ (by repeat first | exact subE.nil _ | (apply subE.cons; focus (first | exact rfl | (simp [lk_cons]; done) | (simp [lk_cons]; omega)))) ⟨gH, gH, gH, gH, gN, (by repeat first | with_reducible exact Keeps.refl _ | with_reducible refine Keeps.put ?_ (by omega) _ | with_reducible refine Keeps.set ?_ (by omega) _ | assumption), Nat.zero_le _, rfl⟩ ?_
  rintro ⟨i, o⟩ h' ⟨g1, g2, g3, g4, g5, g6, g7, g8⟩
  simp only at g1 g2 g3 g4 g5 g6 g7 g8 ⊢
  (repeat first | refine WW.seq ?_ | refine WW.reg ?_ | refine WL.nil ?_ | refine WW.skip ?_ | refine WW.block ?_ | refine thenN ?_ | refine blkN ?_); iterate 1 (refine WL.go ?_)
  refine WL.auto (Stp.bin rfl rfl (geq_127 i) (by first | exact True.intro | exact rfl)) ?_
  (repeat first | refine WW.seq ?_ | refine WW.reg ?_ | refine WL.nil ?_ | refine WW.skip ?_ | refine WW.block ?_ | refine thenN ?_ | refine blkN ?_)
  refine WW.ifB rfl (fun hz1 => ?_) (fun hz1 => ?_)
  · have hi := lt128_T hz1
    (refine go ?_)
    refine WL.call rfl (by first | exact True.intro | exact rfl) (by repeat first | exact SubL.nil | refine SubL.cons (SubV.refl _) ?_ | refine SubL.cons SubV.app ?_ | refine SubL.cons SubV.nil ?_) (ref3_twice_ae o _) ?_
    rcases Nat.lt_or_ge i 64 with hc | hc
    have hq := lt64 i hc
    have hd := dgl_lt (b := b) hc
    rotate_left
    have hq := ge64 i hc
    have hd := dgl_ge (b := b) hc
    rotate_left
    all_goals
      (repeat first | refine WW.seq ?_ | refine WW.reg ?_ | refine WL.nil ?_ | refine WW.skip ?_ | refine WW.block ?_ | refine thenN ?_ | refine blkN ?_); iterate 1 (refine WL.go ?_)
      (repeat first | refine WW.seq ?_ | refine WW.reg ?_ | refine WL.nil ?_ | refine WW.skip ?_ | refine WW.block ?_ | refine thenN ?_ | refine blkN ?_); iterate 3 (refine WL.go ?_)
      (repeat first | refine WW.seq ?_ | refine WW.reg ?_ | refine WL.nil ?_ | refine WW.skip ?_ | refine WW.block ?_ | refine thenN ?_ | refine blkN ?_); iterate 1 (refine WL.go ?_)
      refine WL.auto (Stp.bin rfl rfl hq (by first | exact True.intro | exact rfl)) ?_
      (repeat first | refine WW.seq ?_ | refine WW.reg ?_ | refine WL.nil ?_ | refine WW.skip ?_ | refine WW.block ?_ | refine thenN ?_ | refine blkN ?_)
      first | (refine WW.condT rfl ?_; (repeat first | refine WW.seq ?_ | refine WW.reg ?_ | refine WL.nil ?_ | refine WW.skip ?_ | refine WW.block ?_ | refine thenN ?_ | refine blkN ?_); iterate 3 (refine WL.go ?_)) | refine WW.condF rfl ?_
      (repeat first | refine WW.seq ?_ | refine WW.reg ?_ | refine WL.nil ?_ | refine WW.skip ?_ | refine WW.block ?_ | refine thenN ?_ | refine blkN ?_); iterate 2 (refine WL.go ?_)
      refine WL.auto (Stp.bin rfl rfl (rem_64r hi) (by first | exact True.intro | exact rfl)) ?_
      refine WL.go ?_
      refine WL.auto (Stp.sh rfl rfl (shr_n _ (by omega)) (by first | exact True.intro | exact rfl)) ?_
      refine WL.auto (Stp.bin rfl rfl (and_n _ _) (by first | exact True.intro | exact rfl)) ?_
      refine WL.auto (Stp.bin rfl rfl hd (by first | exact True.intro | exact rfl)) ?_
      (refine go ?_)
      refine WW.ifB rfl (fun hz => ?_) (fun hz => ?_)
      · (refine go ?_)
        refine WL.call rfl (by first | exact True.intro | exact rfl) (by repeat first | exact SubL.nil | refine SubL.cons (SubV.refl _) ?_ | refine SubL.cons SubV.app ?_ | refine SubL.cons SubV.nil ?_) (ref3_Add_ae (dblF o) a _) ?_
        (repeat first | refine WW.seq ?_ | refine WW.reg ?_ | refine WL.nil ?_ | refine WW.skip ?_ | refine WW.block ?_ | refine thenN ?_ | refine blkN ?_)
        have e1 : addF (dblF o) a = mulR a b (i + 1) := by
          rw [mulR_succ, mulS, if_pos (by simp [hz]), g8]
        generalize addF (dblF o) a = o' at *
        iterate 2 (repeat first | refine WW.seq ?_ | refine WW.reg ?_ | refine WL.nil ?_ | refine WW.skip ?_ | refine WW.block ?_ | refine thenN ?_ | refine blkN ?_); iterate 1 (refine WL.go ?_)
        refine WL.auto (Stp.bin rfl rfl (dec_127 hi) (by first | exact True.intro | exact rfl)) ?_
        (refine go ?_)
        refine ⟨⟨i + 1, o'⟩, (by repeat first | exact subE.nil _ | (apply subE.cons; focus (first | exact rfl | (simp [lk_cons]; done) | (simp [lk_cons]; omega)))), ⟨gH, gH, gH, gH, gN, (by repeat first | with_reducible exact Keeps.refl _ | with_reducible refine Keeps.put ?_ (by omega) _ | with_reducible refine Keeps.set ?_ (by omega) _ | assumption), hi, e1⟩, (by show 128 - (i + 1) < 128 - i; omega)⟩
      · have e1 : dblF o = mulR a b (i + 1) := by
          rw [mulR_succ, mulS, if_neg (by simp [hz]), g8]
        generalize dblF o = o' at *
        (repeat first | refine WW.seq ?_ | refine WW.reg ?_ | refine WL.nil ?_ | refine WW.skip ?_ | refine WW.block ?_ | refine thenN ?_ | refine blkN ?_); iterate 1 (refine WL.go ?_)
        refine WL.auto (Stp.bin rfl rfl (dec_127 hi) (by first | exact True.intro | exact rfl)) ?_
        (refine go ?_)
        refine ⟨⟨i + 1, o'⟩, (by repeat first | exact subE.nil _ | (apply subE.cons; focus (first | exact rfl | (simp [lk_cons]; done) | (simp [lk_cons]; omega)))), ⟨gH, gH, gH, gH, gN, (by repeat first | with_reducible exact Keeps.refl _ | with_reducible refine Keeps.put ?_ (by omega) _ | with_reducible refine Keeps.set ?_ (by omega) _ | assumption), hi, e1⟩, (by show 128 - (i + 1) < 128 - i; omega)⟩
  · have hi := lt128_F hz1
    (refine go ?_)
    refine WW.ret (PureQ.finD ?_)
    rw [mulF_R, g8, show i = 128 by omega]
    exact fz_agg rfl (flatP _)
end Go.Proofs.Ytlddahcgaonlhaa
