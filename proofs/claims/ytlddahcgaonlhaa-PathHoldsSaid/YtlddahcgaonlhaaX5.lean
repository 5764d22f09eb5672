/- Pairs out of rows: the code's and the document's. -/
import Derived.Test.YtlddahcgaonlhaaX4
set_option linter.all false
namespace Go.Proofs.Ytlddahcgaonlhaa
open Go Go.Abs

theorem Cvt.frzE {e : Env} {h : AHeap} {s id off len sz : Nat} {cc c' : List (List AV)} (hs : lk s e = some (.ref id off len)) (hg : h.get id = some (.mem sz cc)) (hc : (cc.drop off).take len = c') : Cvt e h ((s, some (.imm sz c')) :: e) (h.set id none) := by subst hc; exact Cvt.frz hs hg
def getS (v : Int) (c : UInt8) : Int := o64 (shl64 v 8) (c.toNat : Int)
theorem getB_S (b : Bs) : getB b = b.foldl getS 0 := rfl
structure GetS where
  i : Nat
  v : Int
theorem wire_Get_ae (b : Bs) (hb : 1 ≤ b.length ∧ b.length ≤ 8) (h : AHeap) : AE Try.prog 108 [.imm 1 (b.map encB)] h (.tup [.int .u64 (getB b), .bool true]) h := by
  refine AE.pureW is_wire_Get (by simp) ?_
  unfold c_wire_Get
  (refine go ?_)
  (apply WL.orB; exact rfl; exact rfl; exact rfl; exact BP.of; intro hz1)
  · (repeat first | (apply GW.goS; exact Stp.auto) | apply GW.nil | exact rfl)
  refine WL.nil ?_
  (repeat first | refine WW.seq ?_ | refine WW.reg ?_ | refine WL.nil ?_ | refine WW.skip ?_ | refine WW.block ?_ | refine thenN ?_ | refine blkN ?_)
  (refine WW.ifB rfl (fun hz2 => ?_) (fun hz2 => ?_))
  · exfalso; simp at hz2; omega
  (refine go ?_)
  refine WW.loopE (fun (s : GetS) => [(4, some (.int .u64 s.v)), (15, some (.imm 1 (b.map encB))), (16, some (.int .i64 b.length)), (17, some (.int .i64 s.i))])
    (fun s h' => Keeps h h' ∧ s.i ≤ b.length ∧ getB b = (b.drop s.i).foldl getS s.v) (fun s => b.length - s.i) ⟨0, 0⟩ (by repeat first | exact subE.nil _ | (apply subE.cons; focus (first | exact rfl | (simp [lk_cons]; done) | (simp [lk_cons]; omega)))) ⟨(by repeat first | with_reducible exact Keeps.refl _ | with_reducible refine Keeps.put ?_ (by omega) _ | with_reducible refine Keeps.set ?_ (by omega) _ | assumption), Nat.zero_le _, by simp [getB_S]⟩ ?_
  rintro ⟨i, v⟩ h' ⟨g1, g2, g3⟩
  simp only at g1 g2 g3 ⊢
  (refine go ?_)
  (refine WW.ifB rfl (fun hz3 => ?_) (fun hz3 => ?_))
  · have hi : i < b.length := by omega
    have hu := (b[i]).toNat_lt
    (refine go ?_)
    refine ⟨⟨i + 1, getS v b[i]⟩, (by repeat first | exact subE.nil _ | (apply subE.cons; focus (first | exact rfl | (simp [lk_cons]; done) | (simp [lk_cons]; omega)))), ⟨(by repeat first | with_reducible exact Keeps.refl _ | with_reducible refine Keeps.put ?_ (by omega) _ | with_reducible refine Keeps.set ?_ (by omega) _ | assumption), hi, ?_⟩, (by show b.length - (i + 1) < b.length - i; omega)⟩
    rw [g3, List.drop_eq_getElem_cons hi]; rfl
  · have hi : i = b.length := by omega
    (refine go ?_)
    refine WW.ret (PureQ.finD ?_)
    rw [g3, hi, List.drop_length]
    exact Fz.tup2 (fz_i rfl) (fz_b rfl)
theorem ref1_Get_ae (b : Bs) (hb : 1 ≤ b.length ∧ b.length ≤ 8) (h : AHeap) : AE Try.prog 113 [.imm 1 (b.map encB)] h (.tup [.int .u64 (getB b), .bool true]) h := by
  refine AE.pureW is_ref1_Get (by simp) ?_
  unfold c_ref1_Get
  (refine go ?_)
  (apply WL.orB; exact rfl; exact rfl; exact rfl; exact BP.of; intro hz1)
  · (repeat first | (apply GW.goS; exact Stp.auto) | apply GW.nil | exact rfl)
  refine WL.nil ?_
  (repeat first | refine WW.seq ?_ | refine WW.reg ?_ | refine WL.nil ?_ | refine WW.skip ?_ | refine WW.block ?_ | refine thenN ?_ | refine blkN ?_)
  (refine WW.ifB rfl (fun hz2 => ?_) (fun hz2 => ?_))
  · exfalso; simp at hz2; omega
  (refine go ?_)
  refine WW.loopE (fun (s : GetS) => [(0, some (.imm 1 (b.map encB))), (4, some (.int .u64 s.v)), (5, some (.int .i64 s.i))])
    (fun s h' => Keeps h h' ∧ s.i ≤ b.length ∧ getB b = (b.drop s.i).foldl getS s.v) (fun s => b.length - s.i) ⟨0, 0⟩ (by repeat first | exact subE.nil _ | (apply subE.cons; focus (first | exact rfl | (simp [lk_cons]; done) | (simp [lk_cons]; omega)))) ⟨(by repeat first | with_reducible exact Keeps.refl _ | with_reducible refine Keeps.put ?_ (by omega) _ | with_reducible refine Keeps.set ?_ (by omega) _ | assumption), Nat.zero_le _, by simp [getB_S]⟩ ?_
  rintro ⟨i, v⟩ h' ⟨g1, g2, g3⟩
  simp only at g1 g2 g3 ⊢
  (refine go ?_)
  (refine WW.ifB rfl (fun hz3 => ?_) (fun hz3 => ?_))
  · have hi : i < b.length := by omega
    have hu := (b[i]).toNat_lt
    (refine go ?_)
    refine ⟨⟨i + 1, getS v b[i]⟩, (by repeat first | exact subE.nil _ | (apply subE.cons; focus (first | exact rfl | (simp [lk_cons]; done) | (simp [lk_cons]; omega)))), ⟨(by repeat first | with_reducible exact Keeps.refl _ | with_reducible refine Keeps.put ?_ (by omega) _ | with_reducible refine Keeps.set ?_ (by omega) _ | assumption), hi, ?_⟩, (by show b.length - (i + 1) < b.length - i; omega)⟩
    rw [g3, List.drop_eq_getElem_cons hi]; rfl
  · have hi : i = b.length := by omega
    (refine go ?_)
    refine WW.ret (PureQ.finD ?_)
    rw [g3, hi, List.drop_length]
    exact Fz.tup2 (fz_i rfl) (fz_b rfl)
theorem map_takeB (b : Bs) (n : Nat) : ((b.map encB).take n).drop 0 = (b.take n).map encB := by simp
theorem map_dropB (b : Bs) (n : Nat) : ((b.map encB).take (b.map encB).length).drop n = (b.drop n).map encB := by rw [List.take_of_length_le (Nat.le_refl _), List.map_drop]
theorem wire_Pair_ae (b : Bs) (hb : b.length = 16) (h : AHeap) : AE Try.prog 90 [.imm 1 (b.map encB)] h (.tup [.agg (encP (pairF b)), .bool true]) h := by
  refine AE.pureW is_wire_Pair (by simp) ?_
  unfold c_wire_Pair
  (refine go ?_)
  (refine WW.ifB rfl (fun hz1 => ?_) (fun hz1 => ?_))
  · exfalso; omega
  (refine go ?_)
  have hc1 := wire_Get_ae (b.take 8) (by simp; omega)
  rw [← map_takeB] at hc1
  refine WL.call rfl (by first | exact True.intro | exact rfl) (by repeat first | exact SubL.nil | refine SubL.cons (SubV.refl _) ?_ | refine SubL.cons SubV.app ?_ | refine SubL.cons SubV.nil ?_) (hc1 _) ?_
  (refine go ?_)
  have hc2 := wire_Get_ae (b.drop 8) (by simp; omega)
  rw [← map_dropB] at hc2
  refine WL.call rfl (by first | exact True.intro | exact rfl) (by repeat first | exact SubL.nil | refine SubL.cons (SubV.refl _) ?_ | refine SubL.cons SubV.app ?_ | refine SubL.cons SubV.nil ?_) (hc2 _) ?_
  (refine go ?_)
  refine WW.ret (PureQ.finD ?_)
  exact Fz.tup2 (fz_agg rfl (flatP (pairF b))) (fz_b rfl)
theorem ref1_Pair_ae (b : Bs) (hb : b.length = 16) (h : AHeap) : AE Try.prog 98 [.imm 1 (b.map encB)] h (.tup [.agg (encP (pairF b)), .bool true]) h := by
  refine AE.pureW is_ref1_Pair (by simp) ?_
  unfold c_ref1_Pair
  (refine go ?_)
  (refine WW.ifB rfl (fun hz1 => ?_) (fun hz1 => ?_))
  · exfalso; omega
  (refine go ?_)
  have hc1 := ref1_Get_ae (b.take 8) (by simp; omega)
  rw [← map_takeB] at hc1
  refine WL.call rfl (by first | exact True.intro | exact rfl) (by repeat first | exact SubL.nil | refine SubL.cons (SubV.refl _) ?_ | refine SubL.cons SubV.app ?_ | refine SubL.cons SubV.nil ?_) (hc1 _) ?_
  (refine go ?_)
  have hc2 := ref1_Get_ae (b.drop 8) (by simp; omega)
  rw [← map_dropB] at hc2
  refine WL.call rfl (by first | exact True.intro | exact rfl) (by repeat first | exact SubL.nil | refine SubL.cons (SubV.refl _) ?_ | refine SubL.cons SubV.app ?_ | refine SubL.cons SubV.nil ?_) (hc2 _) ?_
  (refine go ?_)
  refine WW.ret (PureQ.finD ?_)
  exact Fz.tup2 (fz_agg rfl (flatP (pairF b))) (fz_b rfl)
/-! ### rows as pairs -/
theorem clo_appP {u : Nat → Prop} {id g : Nat} (hu : u id) (l : List Pr) : Clo u (.app id g 2 (l.map encP)) := .app _ _ _ _ hu fun x hx v hv => by
  obtain ⟨b, _, rfl⟩ := List.mem_map.1 hx
  exact clo_flat (flatP b v hv)
theorem rowsF_nil : rowsF [] = [] := by unfold rowsF; simp
theorem rowsF_cons {b : Bs} (hb : b ≠ []) : rowsF b = b.take 16 :: rowsF (b.drop 16) := by
  conv => lhs; unfold rowsF
  rw [dif_neg hb]
theorem pairsF_cons {b : Bs} (hb : b ≠ []) : pairsF b = pairF (fillF (b.take 16)) :: pairsF (b.drop 16) := by rw [pairsF, rowsF_cons hb]; rfl
theorem fillF_len {b : Bs} (hb : b.length ≤ 16) : (fillF b).length = 16 := by simp [fillF]; omega
theorem flatPs (l : List Pr) : flatC (l.map encP) := flatC_map flatP
theorem drop_min (b : Bs) : ((b.map encB).take (b.map encB).length).drop (min (b.map encB).length 16) = (b.drop 16).map encB := by
  rw [List.take_of_length_le (Nat.le_refl _), ← List.map_drop]
  congr 1
  simp only [List.length_map]
  rcases Nat.le_total b.length 16 with h | h
  · rw [Nat.min_eq_left h, List.drop_length, List.drop_eq_nil_of_le h]
  · rw [Nat.min_eq_right h]
theorem fill_eq (b : Bs) : ((((List.replicate 16 [AV.int .u8 0]).take 0 ++ (b.map encB).take (min (b.map encB).length 16) ++ (List.replicate 16 [AV.int .u8 0]).drop (0 + min (b.map encB).length 16))).drop 0).take 16 = (fillF (b.take 16)).map encB := by
  have e0 : [AV.int .u8 0] = encB 0 := rfl
  rw [e0, fillF]
  simp only [List.take_zero, List.nil_append, List.drop_zero, Nat.zero_add, List.length_map, List.map_append, List.map_take, List.map_replicate, List.drop_replicate, List.length_take]
  rw [List.take_of_length_le (by simp; omega)]
  congr 1
  · rcases Nat.le_total b.length 16 with h | h
    · rw [Nat.min_eq_left h, List.take_of_length_le (by simp), List.take_of_length_le (by simpa using h)]
    · rw [Nat.min_eq_right h]
  · rw [Nat.min_comm]
theorem gcm_pairs_ae {h : AHeap} {nx : Nat} (hn : h.next = nx) (b : Bs) (hb : b.length ≤ 4000) : AE Try.prog 104 [.imm 1 (b.map encB)] h (.app nx 0 2 ((pairsF b).map encP)) (h.put nx (.tail 0 (pairsF b).length)) := by
  subst hn
  refine AE.effW is_gcm_pairs (by simp) (Ext.put Ext.refl trivial) ?_
  unfold c_gcm_pairs
  (refine go ?_)
  refine WW.cvt (Cvt.adopt 2 (s := 3) rfl gN) ?_
  refine WW.loopE (fun (s : Bs × List Pr) => [(0, some (.imm 1 (s.1.map encB))), (3, some (.app h.next 0 2 (s.2.map encP)))])
    (fun s h' => h'.get h.next = some (.tail 0 s.2.length) ∧ h.next + 1 ≤ h'.next ∧ Keeps h h' ∧ s.1.length ≤ 4000 ∧ s.2.length + s.1.length ≤ 4000 ∧ pairsF b = s.2 ++ pairsF s.1) (fun s => s.1.length) (b, []) (by repeat first | exact subE.nil _ | (apply subE.cons; focus (first | exact rfl | (simp [lk_cons]; done) | (simp [lk_cons]; omega)))) ⟨(by repeat first | exact get_put_tl (by first | rfl | exact List.length_map _ | (simp; done) | (simp; omega)) | exact get_set_tl (by first | rfl | exact List.length_map _ | (simp; done) | (simp; omega)) | assumption | with_reducible apply get_put_neE (by omega) | with_reducible apply get_set_neE (by omega)), (leN gN (by omega)), (by repeat first | with_reducible exact Keeps.refl _ | with_reducible refine Keeps.put ?_ (by omega) _ | with_reducible refine Keeps.set ?_ (by omega) _ | assumption), hb, by simpa using hb, rfl⟩ ?_
  rintro ⟨r, l⟩ h' ⟨g1, g2, g3, g4, g5, g6⟩
  simp only at g1 g2 g3 g4 g5 g6 ⊢
  (refine go ?_)
  (refine WW.ifB rfl (fun hz1 => ?_) (fun hz1 => ?_))
  · have hr : r ≠ [] := fun e => by subst e; simp at hz1
    have h0 : 0 < r.length := by omega
    (repeat first | refine WW.seq ?_ | refine WW.reg ?_ | refine WL.nil ?_ | refine WW.skip ?_ | refine WW.block ?_ | refine thenN ?_ | refine blkN ?_); iterate 2 (refine WL.go ?_)
    (repeat first | refine WW.seq ?_ | refine WW.reg ?_ | refine WL.nil ?_ | refine WW.skip ?_ | refine WW.block ?_ | refine thenN ?_ | refine blkN ?_); iterate 4 (refine WL.go ?_)
    (repeat first | refine WW.seq ?_ | refine WW.reg ?_ | refine WL.nil ?_ | refine WW.skip ?_ | refine WW.block ?_ | refine thenN ?_ | refine blkN ?_); iterate 3 (refine WL.go ?_)
    rw [drop_min]
    (repeat first | refine WW.seq ?_ | refine WW.reg ?_ | refine WL.nil ?_ | refine WW.skip ?_ | refine WW.block ?_ | refine thenN ?_ | refine blkN ?_); iterate 1 (refine WL.go ?_)
    (repeat first | refine WW.seq ?_ | refine WW.reg ?_ | refine WL.nil ?_ | refine WW.skip ?_ | refine WW.block ?_ | refine thenN ?_ | refine blkN ?_); iterate 1 (refine WL.go ?_)
    refine WL.cvt (Cvt.frzE (s := 19) rfl gH (fill_eq r)) ?_
    refine WL.call rfl (by first | exact True.intro | exact rfl) (by repeat first | exact SubL.nil | refine SubL.cons (SubV.refl _) ?_ | refine SubL.cons SubV.app ?_ | refine SubL.cons SubV.nil ?_) (wire_Pair_ae _ (fillF_len (by simp; omega)) _) ?_
    (refine go ?_)
    rw [show [[AV.int IntKind.u64 (pairF (fillF (r.take 16))).1, AV.int IntKind.u64 (pairF (fillF (r.take 16))).2]] = [pairF (fillF (r.take 16))].map encP from rfl, map_app]
    refine ⟨(r.drop 16, l ++ [pairF (fillF (r.take 16))]), (by repeat first | exact subE.nil _ | (apply subE.cons; focus (first | exact rfl | (simp [lk_cons]; done) | (simp [lk_cons]; omega)))), ⟨(by repeat first | exact get_put_tl (by first | rfl | exact List.length_map _ | (simp; done) | (simp; omega)) | exact get_set_tl (by first | rfl | exact List.length_map _ | (simp; done) | (simp; omega)) | assumption | with_reducible apply get_put_neE (by omega) | with_reducible apply get_set_neE (by omega)), (leN gN (by omega)), (by repeat first | with_reducible exact Keeps.refl _ | with_reducible refine Keeps.put ?_ (by omega) _ | with_reducible refine Keeps.set ?_ (by omega) _ | assumption), by simp; omega, by simp; omega, ?_⟩, by simp; omega⟩
    rw [g6, pairsF_cons hr, List.append_assoc]; rfl
  · have hr : r = [] := by cases r with
      | nil => rfl
      | cons x y => exfalso; simp only [List.length_cons] at hz1; omega
    subst hr
    rw [show pairsF [] = [] by rw [pairsF, rowsF_nil]; rfl, List.append_nil] at g6
    subst g6
    (refine go ?_)
    refine WW.ret (EffQ.finD ?_ ?_)
    · exact keeps_put1 g3 g1 g2
    · exact .clo _ (clo_appP put_used_nm _)
/-! ### the document's way: filled up first -/
def pad16 (b : Bs) : Bs := b ++ List.replicate ((16 - b.length % 16) % 16) 0
theorem pad16_len (b : Bs) : (pad16 b).length % 16 = 0 ∧ (pad16 b).length ≤ b.length + 15 := by
  simp only [pad16, List.length_append, List.length_replicate]; omega
theorem pad_rows (n : Nat) : ∀ b : Bs, b.length ≤ n → (rowsF b).map fillF = rowsF (pad16 b) := by
  induction n with
  | zero => intro b hb; obtain rfl : b = [] := List.length_eq_zero_iff.1 (by omega); simp [rowsF_nil, pad16]
  | succ n ih =>
    intro b hb
    by_cases h0 : b = []
    · subst h0; simp [rowsF_nil, pad16]
    · have h1 : 0 < b.length := List.length_pos_iff.2 h0
      have hp : pad16 b ≠ [] := by simp [pad16, h0]
      rw [rowsF_cons h0, rowsF_cons hp, List.map_cons, ih _ (by simp; omega)]
      rcases Nat.le_total b.length 16 with h2 | h2
      · have e1 : (16 - b.length % 16) % 16 = 16 - b.length := by omega
        have e2 : b.drop 16 = [] := List.drop_eq_nil_of_le h2
        have e3 : pad16 [] = [] := rfl
        have e4 : (pad16 b).length = 16 := by simp only [pad16, List.length_append, List.length_replicate]; omega
        rw [e2, e3, List.drop_eq_nil_of_le (by omega), List.take_of_length_le (l := b) h2, List.take_of_length_le (by omega), fillF, pad16, e1]
      · have e1 : (b.drop 16).length % 16 = b.length % 16 := by simp; omega
        have e2 : fillF (b.take 16) = b.take 16 := by
          rw [fillF, List.length_take, Nat.min_eq_left h2]; simp
        have e3 : (pad16 b).take 16 = b.take 16 := by rw [pad16, List.take_append_of_le_length h2]
        have e4 : (pad16 b).drop 16 = pad16 (b.drop 16) := by rw [pad16, List.drop_append_of_le_length h2, pad16, e1]
        rw [e2, e3, e4]
theorem pairsF_pad (b : Bs) : pairsF b = (rowsF (pad16 b)).map pairF := by
  rw [← pad_rows b.length b (Nat.le_refl _), pairsF, List.map_map]; rfl
end Go.Proofs.Ytlddahcgaonlhaa
