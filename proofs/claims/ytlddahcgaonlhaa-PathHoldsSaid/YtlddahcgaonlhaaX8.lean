/- The document's sum. -/
import Derived.Test.YtlddahcgaonlhaaX7
set_option linter.all false
namespace Go.Proofs.Ytlddahcgaonlhaa
open Go Go.Abs

attribute [local irreducible] encF
theorem digest_Step_ae (s m : Pr) (h : AHeap) : AE Try.prog 91 [.agg (encP s), .agg (encP m)] h (.agg (encP (stepF s m))) h := by
  refine AE.pureW is_digest_Step (by simp) ?_
  unfold c_digest_Step
  (refine go ?_)
  refine WL.call rfl (by first | exact True.intro | exact rfl) (by repeat first | exact SubL.nil | refine SubL.cons (SubV.refl _) ?_ | refine SubL.cons SubV.app ?_ | refine SubL.cons SubV.nil ?_) (speck_Encrypt_ae m s _) ?_
  (refine go ?_)
  refine WW.ret (PureQ.finD ?_)
  exact fz_agg rfl (flatP (stepF s m))
theorem ref6_Step_ae (s m : Pr) (h : AHeap) : AE Try.prog 99 [.agg (encP s), .agg (encP m)] h (.agg (encP (stepF s m))) h := by
  refine AE.pureW is_ref6_Step (by simp) ?_
  unfold c_ref6_Step
  (refine go ?_)
  refine WL.call rfl (by first | exact True.intro | exact rfl) (by repeat first | exact SubL.nil | refine SubL.cons (SubV.refl _) ?_ | refine SubL.cons SubV.app ?_ | refine SubL.cons SubV.nil ?_) (ref2_Encrypt_ae m s _) ?_
  (refine go ?_)
  refine WW.ret (PureQ.finD ?_)
  exact fz_agg rfl (flatP (stepF s m))
def sumS6 (s : Pr) (r : Bs) : Pr := stepF s (pairF r)
theorem digestF_S (p : Bs) : digestF p = (rowsF (padF p)).foldl sumS6 (7640891576956012808, 13503953896175478587) := rfl
theorem padF_len (p : Bs) : (padF p).length % 16 = 0 ∧ (padF p).length ≤ p.length + 24 ∧ (padF p).length = p.length + 1 + (24 - (p.length + 1) % 16) % 16 + 8 := by
  have : (padF p).length = p.length + 1 + (24 - (p.length + 1) % 16) % 16 + 8 := by simp [padF]; omega
  omega
theorem pad_row (p : Bs) (k : Nat) : (p.map encB ++ [[AV.int .u8 128]]) ++ (List.replicate k 0).map encB = (p ++ [128] ++ List.replicate k 0).map encB := by simp [encB]
attribute [local irreducible] stepF pairF
theorem ref6_Sum_ae (p : Bs) (hp : p.length ≤ 1000000) (h : AHeap) : AE Try.prog 71 [.imm 1 (p.map encB)] h (.agg (encP (digestF p))) h := by
  refine AE.pureW is_ref6_Sum (by simp) ?_
  unfold c_ref6_Sum
  (refine go ?_)
  rw [show p.map encB ++ [[AV.int IntKind.u8 128]] = (p ++ [128] ++ List.replicate 0 0).map encB by simp [encB]]
  refine WW.loopE (fun (k : Nat) => [(0, some (.imm 1 (p.map encB))), (2, some (.ptr h.next 0 0)), (3, some (.app (h.next + 1) 0 1 ((p ++ [128] ++ List.replicate k 0).map encB)))])
    (fun k h' => h'.get h.next = some (.mem 2 [encP (0, 0)]) ∧ h'.get (h.next + 1) = some (.tail 0 (p.length + 1 + k)) ∧ h'.next = h.next + 2 ∧ Keeps h h' ∧ k ≤ (24 - (p.length + 1) % 16) % 16) (fun k => (24 - (p.length + 1) % 16) % 16 - k) 0 (by repeat first | exact subE.nil _ | (apply subE.cons; focus (first | exact rfl | (simp [lk_cons]; done) | (simp [lk_cons]; omega)))) ⟨gH, (by repeat first | exact get_put_tl (by first | rfl | exact List.length_map _ | (simp; done) | (simp; omega)) | exact get_set_tl (by first | rfl | exact List.length_map _ | (simp; done) | (simp; omega)) | assumption | with_reducible apply get_put_neE (by omega) | with_reducible apply get_set_neE (by omega)), gN, (by repeat first | with_reducible exact Keeps.refl _ | with_reducible refine Keeps.put ?_ (by omega) _ | with_reducible refine Keeps.set ?_ (by omega) _ | assumption), by omega⟩ ?_
  rintro k h' ⟨g1, g2, g3, g4, g5⟩
  have hl : (p ++ [128] ++ List.replicate k 0).length = p.length + 1 + k := by simp; omega
  (repeat first | refine WW.seq ?_ | refine WW.reg ?_ | refine WL.nil ?_ | refine WW.skip ?_ | refine WW.block ?_ | refine thenN ?_ | refine blkN ?_); iterate 2 (refine WL.go ?_)
  rw [hl]
  (refine go ?_)
  (refine WW.ifB rfl (fun hz1 => ?_) (fun hz1 => ?_))
  · (refine go ?_)
    rw [show [[AV.int IntKind.u8 0]] = [(0 : UInt8)].map encB from rfl, map_app, List.append_assoc, ← List.replicate_succ']
    refine ⟨k + 1, (by repeat first | exact subE.nil _ | (apply subE.cons; focus (first | exact rfl | (simp [lk_cons]; done) | (simp [lk_cons]; omega)))), ⟨gH, (by repeat first | exact get_put_tl (by first | rfl | exact List.length_map _ | (simp; done) | (simp; omega)) | exact get_set_tl (by first | rfl | exact List.length_map _ | (simp; done) | (simp; omega)) | assumption | with_reducible apply get_put_neE (by omega) | with_reducible apply get_set_neE (by omega)), gN, (by repeat first | with_reducible exact Keeps.refl _ | with_reducible refine Keeps.put ?_ (by omega) _ | with_reducible refine Keeps.set ?_ (by omega) _ | assumption), by omega⟩, by omega⟩
  · have hk : k = (24 - (p.length + 1) % 16) % 16 := by omega
    obtain ⟨p1, p2, p3⟩ := padF_len p
    have hb := putB_lenS (p.length : Nat)
    (refine go ?_)
    refine WL.call rfl (by first | exact True.intro | exact rfl) (by repeat first | exact SubL.nil | refine SubL.cons (SubV.refl _) ?_ | refine SubL.cons SubV.app ?_ | refine SubL.cons SubV.nil ?_) (ref1_Put_ae (p.length : Nat) 8 _ (by decide)) ?_
    have e3 : p ++ [128] ++ List.replicate k 0 ++ putB (p.length : Nat) 8 = padF p := by rw [hk]; rfl
    have hd := digestF_S p
    (refine go ?_)
    rw [map_app, show Int.toNat 8 = 8 from rfl, e3]
    generalize padF p = c at *
    refine WW.loopE (fun (s : RowS) => [(3, some (.app (h.next + 1) 0 1 (c.map encB))), (2, some (.ptr h.next 0 0)), (4, some (.ptr (h.next + 2) 0 0)), (5, some (.int .i64 s.i))])
      (fun s h' => h'.get h.next = some (.mem 2 [encP (0, 0)]) ∧ h'.get (h.next + 2) = some (.mem 2 [encP s.o]) ∧ h.next + 3 ≤ h'.next ∧ Keeps h h' ∧ s.i % 16 = 0 ∧ s.i ≤ c.length ∧ digestF p = (rowsF (c.drop s.i)).foldl sumS6 s.o) (fun s => c.length - s.i) ⟨0, (7640891576956012808, 13503953896175478587)⟩ (by repeat first | exact subE.nil _ | (apply subE.cons; focus (first | exact rfl | (simp [lk_cons]; done) | (simp [lk_cons]; omega)))) ⟨gH, gH, (leN gN (by omega)), (by repeat first | with_reducible exact Keeps.refl _ | with_reducible refine Keeps.put ?_ (by omega) _ | with_reducible refine Keeps.set ?_ (by omega) _ | assumption), rfl, Nat.zero_le _, by simpa using hd⟩ ?_
    rintro ⟨i, o⟩ h'' ⟨q1, q2, q3, q4, q5, q6, q8⟩
    simp only at q1 q2 q3 q4 q5 q6 q8 ⊢
    (refine go ?_)
    (refine WW.ifB rfl (fun hz2 => ?_) (fun hz2 => ?_))
    · have h16 : (c.drop i).length ≥ 16 := by simp; omega
      have hne : c.drop i ≠ [] := fun e => by rw [e] at h16; simp at h16
      (repeat first | refine WW.seq ?_ | refine WW.reg ?_ | refine WL.nil ?_ | refine WW.skip ?_ | refine WW.block ?_ | refine thenN ?_ | refine blkN ?_); iterate 5 (refine WL.go ?_)
      rw [slc_row]
      refine WL.call rfl (by first | exact True.intro | exact rfl) (by repeat first | exact SubL.nil | refine SubL.cons (SubV.refl _) ?_ | refine SubL.cons SubV.app ?_ | refine SubL.cons SubV.nil ?_) (ref1_Pair_ae _ (by rw [List.length_take]; omega) _) ?_
      (refine go ?_)
      refine WL.call rfl (by first | exact True.intro | exact rfl) (by repeat first | exact SubL.nil | refine SubL.cons (SubV.refl _) ?_ | refine SubL.cons SubV.app ?_ | refine SubL.cons SubV.nil ?_) (ref6_Step_ae o (pairF ((c.drop i).take 16)) _) ?_
      (refine go ?_)
      refine ⟨⟨i + 16, sumS6 o ((c.drop i).take 16)⟩, (by repeat first | exact subE.nil _ | (apply subE.cons; focus (first | exact rfl | (simp [lk_cons]; done) | (simp [lk_cons]; omega)))), ⟨gH, gH, (leN gN (by omega)), (by repeat first | with_reducible exact Keeps.refl _ | with_reducible refine Keeps.put ?_ (by omega) _ | with_reducible refine Keeps.set ?_ (by omega) _ | assumption), by simp; omega, by simp at h16 ⊢; omega, ?_⟩, by simp at h16 ⊢; omega⟩
      rw [q8, rowsF_cons hne, List.drop_drop]; rfl
    · have hi : i = c.length := by omega
      rw [hi, List.drop_length, rowsF_nil] at q8
      (refine go ?_)
      refine WW.ret (PureQ.finD ?_)
      rw [q8]
      exact fz_agg rfl (flatP o)
end Go.Proofs.Ytlddahcgaonlhaa
