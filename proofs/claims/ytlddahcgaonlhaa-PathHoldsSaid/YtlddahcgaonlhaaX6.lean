/- Sealed bytes: pairs, tags; the document's way. -/
import Derived.Test.YtlddahcgaonlhaaX5
set_option linter.all false
namespace Go.Proofs.Ytlddahcgaonlhaa
open Go Go.Abs

theorem keeps_put2 {h h' : AHeap} {x : AObj} (hk : Keeps h h') (h0 : h.get h.next = none) (hd : h'.get h.next = none) (hg : h'.get (h.next + 1) = some x) (hn : h.next + 2 ≤ h'.next) : Keeps (h.put (h.next + 1) x) h' := by
  refine ⟨by simp only [AHeap.put]; split <;> omega, fun id hu => ?_⟩
  by_cases e : id = h.next + 1
  · subst e; rw [hg]; exact get_put_same.symm
  · rw [get_put_neE e rfl]
    by_cases e2 : id = h.next
    · subst e2; rw [hd, h0]
    · exact hk.2 id ⟨by have := hu.1; simp only [AHeap.put] at this; split at this <;> omega, by have := hu.2; simp only [AHeap.put] at this; rwa [if_neg e] at this⟩
theorem Cvt.delO {e : Env} {h : AHeap} (id : Nat) : Cvt e h e (h.set id none) := fun _ m _ _ hr he => ⟨m, hr.del id, he.step (step_del id), step_del id⟩
theorem slc_row (c : Bs) (i : Nat) : ((c.map encB).take (i + 16)).drop i = ((c.drop i).take 16).map encB := by
  rw [List.drop_take, ← List.map_drop, ← List.map_take, show i + 16 - i = 16 by omega]
theorem pad_nil (b : Bs) : b ++ List.replicate 0 0 = b := by simp
theorem ref5_pairs_ae {h : AHeap} {nx : Nat} (hn : h.next = nx) (b : Bs) (hb : b.length ≤ 4000) : AE Try.prog 94 [.imm 1 (b.map encB)] h (.app (nx + 1) 0 2 ((pairsF b).map encP)) (h.put (nx + 1) (.tail 0 (pairsF b).length)) := by
  subst hn
  refine AE.wf fun hwf => ?_
  have hno : h.get h.next = none := by
    cases hg : h.get h.next with
    | none => rfl
    | some x => exact absurd (hwf _ _ hg) (Nat.lt_irrefl _)
  refine AE.effW is_ref5_pairs (by simp) (Ext.put Ext.refl trivial) ?_
  unfold c_ref5_pairs
  (refine go ?_)
  refine WW.loopE (fun (k : Nat) => [(0, some (.app h.next 0 1 ((b ++ List.replicate k 0).map encB)))])
    (fun k h' => h'.get h.next = some (.tail 0 (b.length + k)) ∧ h'.next = h.next + 1 ∧ Keeps h h' ∧ k ≤ (16 - b.length % 16) % 16) (fun k => (16 - b.length % 16) % 16 - k) 0 (by repeat first | exact subE.nil _ | (apply subE.cons; focus (first | exact rfl | (simp [lk_cons]; done) | (simp [lk_cons]; omega)))) ⟨(by repeat first | exact get_put_tl (by first | rfl | exact List.length_map _ | (simp; done) | (simp; omega)) | exact get_set_tl (by first | rfl | exact List.length_map _ | (simp; done) | (simp; omega)) | assumption | with_reducible apply get_put_neE (by omega) | with_reducible apply get_set_neE (by omega)), gN, (by repeat first | with_reducible exact Keeps.refl _ | with_reducible refine Keeps.put ?_ (by omega) _ | with_reducible refine Keeps.set ?_ (by omega) _ | assumption), by omega⟩ ?_
  rintro k h' ⟨g1, g2, g3, g4⟩
  have hl : (b ++ List.replicate k 0).length = b.length + k := by simp
  (repeat first | refine WW.seq ?_ | refine WW.reg ?_ | refine WL.nil ?_ | refine WW.skip ?_ | refine WW.block ?_ | refine thenN ?_ | refine blkN ?_); iterate 2 (refine WL.go ?_)
  rw [hl]
  (refine go ?_)
  (refine WW.ifB rfl (fun hz1 => ?_) (fun hz1 => ?_))
  · (refine go ?_)
    rw [show [[AV.int IntKind.u8 0]] = [(0 : UInt8)].map encB from rfl, map_app, List.append_assoc, ← List.replicate_succ']
    refine ⟨k + 1, (by repeat first | exact subE.nil _ | (apply subE.cons; focus (first | exact rfl | (simp [lk_cons]; done) | (simp [lk_cons]; omega)))), ⟨(by repeat first | exact get_put_tl (by first | rfl | exact List.length_map _ | (simp; done) | (simp; omega)) | exact get_set_tl (by first | rfl | exact List.length_map _ | (simp; done) | (simp; omega)) | assumption | with_reducible apply get_put_neE (by omega) | with_reducible apply get_set_neE (by omega)), gN, (by repeat first | with_reducible exact Keeps.refl _ | with_reducible refine Keeps.put ?_ (by omega) _ | with_reducible refine Keeps.set ?_ (by omega) _ | assumption), by omega⟩, by omega⟩
  · have hk : k = (16 - b.length % 16) % 16 := by omega
    obtain ⟨p1, p2⟩ := pad16_len b
    rw [show b ++ List.replicate k 0 = pad16 b by rw [hk]; rfl] at hl ⊢
    generalize hc : pad16 b = c at *
    have hpp := pairsF_pad b
    rw [hc] at hpp
    refine WW.cvt (Cvt.delO h.next) ?_
    (refine go ?_)
    refine WW.cvt (Cvt.adopt 2 (s := 3) rfl gN) ?_
    refine WW.loopE (fun (s : Nat × List Pr) => [(0, some (.app h.next 0 1 (c.map encB))), (3, some (.app (h.next + 1) 0 2 (s.2.map encP))), (4, some (.int .i64 s.1))])
      (fun s h' => h'.get (h.next + 1) = some (.tail 0 s.2.length) ∧ h'.get h.next = none ∧ h.next + 2 ≤ h'.next ∧ Keeps h h' ∧ s.1 % 16 = 0 ∧ s.1 ≤ c.length ∧ s.2.length ≤ s.1 ∧ pairsF b = s.2 ++ (rowsF (c.drop s.1)).map pairF) (fun s => c.length - s.1) (0, []) (by repeat first | exact subE.nil _ | (apply subE.cons; focus (first | exact rfl | (simp [lk_cons]; done) | (simp [lk_cons]; omega)))) ⟨(by repeat first | exact get_put_tl (by first | rfl | exact List.length_map _ | (simp; done) | (simp; omega)) | exact get_set_tl (by first | rfl | exact List.length_map _ | (simp; done) | (simp; omega)) | assumption | with_reducible apply get_put_neE (by omega) | with_reducible apply get_set_neE (by omega)), gH, (leN gN (by omega)), (by repeat first | with_reducible exact Keeps.refl _ | with_reducible refine Keeps.put ?_ (by omega) _ | with_reducible refine Keeps.set ?_ (by omega) _ | assumption), rfl, Nat.zero_le _, Nat.le_refl _, by simpa using hpp⟩ ?_
    rintro ⟨i, l⟩ h'' ⟨q1, q2, q3, q4, q5, q6, q7, q8⟩
    simp only at q1 q2 q3 q4 q5 q6 q7 q8 ⊢
    (refine go ?_)
    (refine WW.ifB rfl (fun hz2 => ?_) (fun hz2 => ?_))
    · have h16 : (c.drop i).length ≥ 16 := by simp; omega
      have hne : c.drop i ≠ [] := fun e => by rw [e] at h16; simp at h16
      (repeat first | refine WW.seq ?_ | refine WW.reg ?_ | refine WL.nil ?_ | refine WW.skip ?_ | refine WW.block ?_ | refine thenN ?_ | refine blkN ?_); iterate 5 (refine WL.go ?_)
      rw [slc_row]
      refine WL.call rfl (by first | exact True.intro | exact rfl) (by repeat first | exact SubL.nil | refine SubL.cons (SubV.refl _) ?_ | refine SubL.cons SubV.app ?_ | refine SubL.cons SubV.nil ?_) (ref1_Pair_ae _ (by rw [List.length_take]; omega) _) ?_
      (refine go ?_)
      rw [show [[AV.int IntKind.u64 (pairF ((c.drop i).take 16)).1, AV.int IntKind.u64 (pairF ((c.drop i).take 16)).2]] = [pairF ((c.drop i).take 16)].map encP from rfl, map_app]
      refine ⟨(i + 16, l ++ [pairF ((c.drop i).take 16)]), (by repeat first | exact subE.nil _ | (apply subE.cons; focus (first | exact rfl | (simp [lk_cons]; done) | (simp [lk_cons]; omega)))), ⟨(by repeat first | exact get_put_tl (by first | rfl | exact List.length_map _ | (simp; done) | (simp; omega)) | exact get_set_tl (by first | rfl | exact List.length_map _ | (simp; done) | (simp; omega)) | assumption | with_reducible apply get_put_neE (by omega) | with_reducible apply get_set_neE (by omega)), gH, (leN gN (by omega)), (by repeat first | with_reducible exact Keeps.refl _ | with_reducible refine Keeps.put ?_ (by omega) _ | with_reducible refine Keeps.set ?_ (by omega) _ | assumption), by simp; omega, by simp at h16 ⊢; omega, by simp; omega, ?_⟩, by simp at h16 ⊢; omega⟩
      rw [q8, rowsF_cons hne, List.drop_drop, List.map_cons, List.append_assoc]; rfl
    · have hi : i = c.length := by omega
      rw [hi, List.drop_length, rowsF_nil, List.map_nil, List.append_nil] at q8
      rw [q8]
      (refine go ?_)
      refine WW.ret (EffQ.finD ?_ ?_)
      · exact keeps_put2 q4 hno q2 q1 q3
      · exact .clo _ (clo_appP put_used_nm _)
theorem AE.back {P : Program} {f : Nat} {vs : List AV} {h h1 : AHeap} {r r1 : AV} (hac : AE P f vs h r1 h1) (hk : Keeps h h1) (hz : Fz h h1 r1 r) : AE P f vs h r h := by
  intro m w cargs hr hl hv
  refine (hac m w cargs hr hl hv).mono fun ex w' ⟨v, m', r2, h2, e1, g1, g2, g3, e2, e3⟩ => ?_
  subst e2 e3
  have hs : ∀ id x, h.get id = some x → h2.get id = some x := fun id x hg => (hk.2 id (hr.live id x hg)).trans hg
  exact ⟨v, m', r, h, e1, back_hr hr g1 hs, hz.vr g1 hs hr.live g2, back_step g3 hr hs, rfl, rfl⟩
theorem gcm_pairsI_ae (b : Bs) (hb : b.length ≤ 4000) (h : AHeap) : AE Try.prog 104 [.imm 1 (b.map encB)] h (.imm 2 ((pairsF b).map encP)) h :=
  AE.back (gcm_pairs_ae rfl b hb) (by repeat first | with_reducible exact Keeps.refl _ | with_reducible refine Keeps.put ?_ (by omega) _ | with_reducible refine Keeps.set ?_ (by omega) _ | assumption) (fz_app rfl (flatPs _))
theorem ref5_pairsI_ae (b : Bs) (hb : b.length ≤ 4000) (h : AHeap) : AE Try.prog 94 [.imm 1 (b.map encB)] h (.imm 2 ((pairsF b).map encP)) h :=
  AE.back (ref5_pairs_ae rfl b hb) (by repeat first | with_reducible exact Keeps.refl _ | with_reducible refine Keeps.put ?_ (by omega) _ | with_reducible refine Keeps.set ?_ (by omega) _ | assumption) (fz_app rfl (flatPs _))
theorem pairsF_le (n : Nat) : ∀ b : Bs, b.length ≤ n → (pairsF b).length ≤ n := by
  induction n with
  | zero => intro b hb; obtain rfl : b = [] := List.length_eq_zero_iff.1 (by omega); simp [pairsF, rowsF_nil]
  | succ n ih =>
    intro b hb
    by_cases h0 : b = []
    · subst h0; simp [pairsF, rowsF_nil]
    · have h1 : 0 < b.length := List.length_pos_iff.2 h0
      rw [pairsF_cons h0, List.length_cons]
      have := ih (b.drop 16) (by simp; omega)
      omega
def tagL (head b : Bs) : List Pr := pairsF head ++ pairsF b ++ [((head.length : Int), (b.length : Int))]
theorem tag_row (head b : Bs) : List.map encP (pairsF head) ++ List.map encP (pairsF b) ++ [[AV.int .u64 (head.length : Int), AV.int .u64 (b.length : Int)]] = (tagL head b).map encP := by simp [tagL, encP]
theorem tagF_L (sub : Pr) (head b : Bs) : tagF sub head b = addF (evalF (encF sub (0, 1)) (tagL head b)) (encF sub (0, 0)) := rfl
attribute [local irreducible] encF mulF addF evalF pairsF tagL
theorem gcm_Tag_ae (sub : Pr) (head b : Bs) (h1 : head.length ≤ 4000) (h2 : b.length ≤ 4000) (h : AHeap) : AE Try.prog 88 [.agg (encP sub), .imm 1 (head.map encB), .imm 1 (b.map encB)] h (.agg (encP (tagF sub head b))) h := by
  have p1 := pairsF_le _ head h1
  have p2 := pairsF_le _ b h2
  refine AE.pureW is_gcm_Tag (by simp) ?_
  unfold c_gcm_Tag
  (refine go ?_)
  refine WL.call rfl (by first | exact True.intro | exact rfl) (by repeat first | exact SubL.nil | refine SubL.cons (SubV.refl _) ?_ | refine SubL.cons SubV.app ?_ | refine SubL.cons SubV.nil ?_) (gcm_pairs_ae (nx := h.next + 2) gN head h1) ?_
  (refine go ?_)
  refine WL.call rfl (by first | exact True.intro | exact rfl) (by repeat first | exact SubL.nil | refine SubL.cons (SubV.refl _) ?_ | refine SubL.cons SubV.app ?_ | refine SubL.cons SubV.nil ?_) (gcm_pairsI_ae b h2 _) ?_
  (refine go ?_)
  rw [tag_row]
  refine WL.call rfl (by first | exact True.intro | exact rfl) (by repeat first | exact SubL.nil | refine SubL.cons (SubV.refl _) ?_ | refine SubL.cons SubV.app ?_ | refine SubL.cons SubV.nil ?_) (speck_Encrypt_ae sub (0, 1) _) ?_
  (refine go ?_)
  refine DW.callS rfl (by first | exact True.intro | exact rfl) (by repeat first | exact SubL.nil | refine SubL.cons (SubV.refl _) ?_ | refine SubL.cons SubV.app ?_ | refine SubL.cons SubV.nil ?_) rfl (field_Eval_ae _ (tagL head b) (by simp [tagL]; omega) _) ?_
  (refine go ?_)
  refine DW.callS rfl (by first | exact True.intro | exact rfl) (by repeat first | exact SubL.nil | refine SubL.cons (SubV.refl _) ?_ | refine SubL.cons SubV.app ?_ | refine SubL.cons SubV.nil ?_) rfl (speck_Encrypt_ae sub (0, 0) _) ?_
  (refine go ?_)
  refine DW.callS rfl (by first | exact True.intro | exact rfl) (by repeat first | exact SubL.nil | refine SubL.cons (SubV.refl _) ?_ | refine SubL.cons SubV.app ?_ | refine SubL.cons SubV.nil ?_) rfl (field_Add_ae _ _ _) ?_
  (refine go ?_)
  refine WW.ret (PureQ.finD ?_)
  exact fz_agg (by rw [tagF_L]; rfl) (flatP (addF _ _))
theorem ref5_Tag_ae (sub : Pr) (head b : Bs) (h1 : head.length ≤ 4000) (h2 : b.length ≤ 4000) (h : AHeap) : AE Try.prog 70 [.agg (encP sub), .imm 1 (head.map encB), .imm 1 (b.map encB)] h (.agg (encP (tagF sub head b))) h := by
  have p1 := pairsF_le _ head h1
  have p2 := pairsF_le _ b h2
  refine AE.pureW is_ref5_Tag (by simp) ?_
  unfold c_ref5_Tag
  (refine go ?_)
  refine WL.call rfl (by first | exact True.intro | exact rfl) (by repeat first | exact SubL.nil | refine SubL.cons (SubV.refl _) ?_ | refine SubL.cons SubV.app ?_ | refine SubL.cons SubV.nil ?_) (ref2_Encrypt_ae sub (0, 1) _) ?_
  (refine go ?_)
  refine WL.call rfl (by first | exact True.intro | exact rfl) (by repeat first | exact SubL.nil | refine SubL.cons (SubV.refl _) ?_ | refine SubL.cons SubV.app ?_ | refine SubL.cons SubV.nil ?_) (ref5_pairs_ae (nx := h.next + 3) gN head h1) ?_
  (refine go ?_)
  refine WL.call rfl (by first | exact True.intro | exact rfl) (by repeat first | exact SubL.nil | refine SubL.cons (SubV.refl _) ?_ | refine SubL.cons SubV.app ?_ | refine SubL.cons SubV.nil ?_) (ref5_pairsI_ae b h2 _) ?_
  (refine go ?_)
  rw [tag_row]
  refine DW.callS rfl (by first | exact True.intro | exact rfl) (by repeat first | exact SubL.nil | refine SubL.cons (SubV.refl _) ?_ | refine SubL.cons SubV.app ?_ | refine SubL.cons SubV.nil ?_) rfl (ref3_Eval_ae _ (tagL head b) (by simp [tagL]; omega) _) ?_
  (refine go ?_)
  refine DW.callS rfl (by first | exact True.intro | exact rfl) (by repeat first | exact SubL.nil | refine SubL.cons (SubV.refl _) ?_ | refine SubL.cons SubV.app ?_ | refine SubL.cons SubV.nil ?_) rfl (ref2_Encrypt_ae sub (0, 0) _) ?_
  (refine go ?_)
  refine DW.callS rfl (by first | exact True.intro | exact rfl) (by repeat first | exact SubL.nil | refine SubL.cons (SubV.refl _) ?_ | refine SubL.cons SubV.app ?_ | refine SubL.cons SubV.nil ?_) rfl (ref3_Add_ae _ _ _) ?_
  (refine go ?_)
  refine WW.ret (PureQ.finD ?_)
  exact fz_agg (by rw [tagF_L]; rfl) (flatP (addF _ _))
end Go.Proofs.Ytlddahcgaonlhaa
