/- OracleMany. -/
import Derived.Test.YtnihcakkhillcaaF15
namespace Go.Proofs.Ytnihcakkhillcaa
open Go Go.Abs

/-- What many sealings issue. -/
def mk (k : Pr) (D : List Bs) : List Iss := D.zipIdx.map fun p => newI (p.2 + 1) k (0, 0, (p.2 : Int)) [] p.1
def encSI (x : Iss) : List AV := encS x.out x.tag
theorem mk_len (k : Pr) (D : List Bs) : (mk k D).length = D.length := by simp [mk]
theorem mk_get (k : Pr) (D : List Bs) (i : Nat) (hi : i < (mk k D).length) : (mk k D)[i] = newI (i + 1) k (0, 0, (i : Int)) [] (D[i]'(by rw [mk_len] at hi; exact hi)) := by simp [mk]
theorem mk_snoc (k : Pr) (D : List Bs) (d : Bs) : mk k (D ++ [d]) = mk k D ++ [newI (D.length + 1) k (0, 0, (D.length : Int)) [] d] := by simp [mk, List.zipIdx_append]
theorem mk_nodup (k : Pr) (D : List Bs) : dupB ((mk k D).map kn) = false := by
  have : ((mk k D).map kn).Nodup := by
    rw [List.Nodup, List.pairwise_iff_getElem]
    intro i j hi hj hij
    rw [List.getElem_map, List.getElem_map, mk_get, mk_get]
    intro h
    simp only [kn, newI, Prod.mk.injEq, true_and] at h
    omega
  simp [dupB, this]
theorem mk_tag (k : Pr) (D : List Bs) (i : Nat) (hi : i < (mk k D).length) : (mk k D)[i].tag = (ones, ((i + 1 : Nat) : Int)) := by rw [mk_get]; rfl
theorem mk_open (k : Pr) (D : List Bs) (i j : Nat) (hi : i < D.length) (hj : j < (mk k D).length) : openO (mk k D) k (0, 0, (i : Int)) [] (mk k D)[j].out (mk k D)[j].tag = if i = j then some D[i] else none := by
  have key : ∀ x ∈ mk k D, isI k (0, 0, (i : Int)) [] (mk k D)[j].out (mk k D)[j].tag x = true → i = j ∧ ∃ h, x = (mk k D)[i]'h := by
    intro x hx hq
    obtain ⟨m, hm, rfl⟩ := List.mem_iff_getElem.1 hx
    simp only [isI, Bool.and_eq_true, beq_iff_eq] at hq
    obtain ⟨⟨⟨⟨q1, q2⟩, q3⟩, q4⟩, q5⟩ := hq
    rw [mk_tag, mk_tag] at q3
    rw [mk_get] at q2
    simp only [newI, Prod.mk.injEq, true_and] at q2 q3
    have e1 : m = i := by omega
    have e2 : m = j := by omega
    subst e1
    exact ⟨e2, hm, rfl⟩
  unfold openO
  split
  · rename_i e; subst e
    cases hf : (mk k D).find? (isI k (0, 0, (i : Int)) [] (mk k D)[i].out (mk k D)[i].tag) with
    | none =>
      have := List.find?_eq_none.1 hf (mk k D)[i] (List.getElem_mem hj)
      simp only [isI] at this
      rw [mk_get] at this
      simp [newI] at this
    | some x =>
      obtain ⟨_, h, hx⟩ := key x (List.mem_of_find?_eq_some hf) (List.find?_some hf)
      rw [hx, mk_get]; rfl
  · rename_i hne
    cases hf : (mk k D).find? (isI k (0, 0, (i : Int)) [] (mk k D)[j].out (mk k D)[j].tag) with
    | none => rfl
    | some x => exact absurd (key x (List.mem_of_find?_eq_some hf) (List.find?_some hf)).1 hne

set_option maxHeartbeats 4000000 in
theorem law7_OracleMany_ae (D : List Bs) (k : Pr) (h : AHeap) : AE Try.prog 6 [.imm 1 (D.map encR), .agg (encP k)] h (.bool true) h := by
  refine AE.pureW is_law7_OracleMany (by simp) ?_
  unfold c_law7_OracleMany
  (refine go ?_)
  (refine WW.ifB rfl (fun hz1 => ?_) (fun hz1 => ?_))
  · (refine go ?_)
    refine WW.ret (PureQ.finD ?_)
    exact fz_b rfl
  have hD : D.length ≤ 30 := by omega
  (refine go ?_)
  refine WL.call rfl (by first | exact True.intro | exact rfl) (by repeat first | exact SubL.nil | refine SubL.cons (SubV.refl _) ?_ | refine SubL.cons SubV.app ?_ | refine SubL.cons SubV.nil ?_) (oracle_New_ae2 (nx := h.next + 1) (by repeat first | with_reducible apply next_putE | with_reducible apply next_setE | assumption | exact rfl)) ?_
  obtain ⟨h1, e1, o1, n1, m1, k1⟩ := newO_ex2 (h := h.put h.next (.mem 2 [[.int .u64 k.1, .int .u64 k.2]])) (nx := h.next + 1) (by repeat first | with_reducible apply next_putE | with_reducible apply next_setE | assumption | exact rfl)
  have p1 : h1.get h.next = some (.mem 2 [encP k]) := (m1 _ (by omega)).trans (by repeat first | with_reducible exact get_put_same | with_reducible exact get_set_same | assumption | with_reducible apply get_put_neE (by omega) | with_reducible apply get_set_neE (by omega) | exact get_put_same | exact get_set_same)
  replace k1 := k1 h (by repeat first | with_reducible exact Keeps.refl _ | with_reducible refine Keeps.put ?_ (by omega) _ | with_reducible refine Keeps.set ?_ (by omega) _ | assumption)
  rw [e1]
  (refine go ?_)
  refine WW.cvt (Cvt.adopt 3 (s := 6) rfl (by repeat first | with_reducible apply next_putE | with_reducible apply next_setE | assumption | exact rfl)) ?_
  refine WW.loopE (fun (i : Nat) => [(0, some (.imm 1 (D.map encR))), (3, some (.ptr h.next 0 0)), (5, some (.ptr (h.next + 2) 0 0)), (6, some (.app (h.next + 4) 0 3 ((mk k (D.take i)).map encSI))), (7, some (.int .i64 i))])
    (fun i h' => h'.get h.next = some (.mem 2 [encP k]) ∧ h'.get (h.next + 4) = some (.tail 0 i) ∧ OrAt h' (h.next + 2) (h.next + 3) (h.next + 1) 0 (mk k (D.take i)) [] ∧ h.next + 5 ≤ h'.next ∧ Keeps h h' ∧ i ≤ D.length ∧ ∀ d ∈ D.take i, d.length ≤ 100) (fun i => D.length - i) 0 (by repeat first | exact subE.nil _ | (apply subE.cons; focus (first | exact rfl | (simp [lk_cons]; done) | (simp [lk_cons]; omega))))
    ⟨(by repeat first | with_reducible exact get_put_same | with_reducible exact get_set_same | assumption | with_reducible apply get_put_neE (by omega) | with_reducible apply get_set_neE (by omega) | exact get_put_same | exact get_set_same), (by repeat first | with_reducible exact get_put_same | with_reducible exact get_set_same | assumption | with_reducible apply get_put_neE (by omega) | with_reducible apply get_set_neE (by omega) | exact get_put_same | exact get_set_same), (orAt_get o1 (by repeat first | with_reducible apply get_put_neE (by omega) | with_reducible apply get_set_neE (by omega) | with_reducible apply get_keepE | exact rfl) (by repeat first | with_reducible apply get_put_neE (by omega) | with_reducible apply get_set_neE (by omega) | with_reducible apply get_keepE | exact rfl) (by repeat first | with_reducible apply get_put_neE (by omega) | with_reducible apply get_set_neE (by omega) | with_reducible apply get_keepE | exact rfl)), (leN (by repeat first | with_reducible apply next_putE | with_reducible apply next_setE | assumption | exact rfl) (by omega)), (by repeat first | with_reducible exact Keeps.refl _ | with_reducible refine Keeps.put ?_ (by omega) _ | with_reducible refine Keeps.set ?_ (by omega) _ | assumption), Nat.zero_le _, by simp⟩ ?_
  rintro i h' ⟨g1, g2, oA, g3, g4, g5, g6⟩
  clear p1 o1 k1 m1 n1 e1
  obtain ⟨nx, hnx⟩ : ∃ nx, h'.next = nx := ⟨_, rfl⟩
  (refine go ?_)
  (refine WW.ifB rfl (fun hz2 => ?_) (fun hz2 => ?_))
  · have hi : i < D.length := by omega
    have hl : (mk k (D.take i)).length = i := by rw [mk_len]; simp; omega
    (refine go ?_)
    (refine WW.ifB rfl (fun hz3 => ?_) (fun hz3 => ?_))
    · (refine go ?_)
      refine WW.ret (PureQ.finD ?_)
      exact fz_b rfl
    · (repeat first | refine WL.go ?_ | refine WW.seq ?_ | refine WW.reg ?_ | refine WL.nil ?_ | refine WW.skip ?_ | refine WW.block ?_ | refine WW.exit ?_ | refine WW.condT rfl ?_ | refine WW.condF rfl ?_ | refine WL.gox ?_ | refine thenN ?_ | refine blkN ?_)
      have oK : OrAt (h'.keep 1) (h.next + 2) (h.next + 3) (h.next + 1) 0 (mk k (D.take i)) [] := ⟨oA.obj, oA.tok, oA.sums⟩
      have oS := oA.sums
      have e2 : D.take (i + 1) = D.take i ++ [D[i]] := List.take_succ_eq_append_getElem hi
      have e3 : (D.take i).length = i := by simp; omega
      have e4 : mk k (D.take (i + 1)) = mk k (D.take i) ++ [newI ((mk k (D.take i)).length + 1) k (0, 0, (i : Int)) [] D[i]] := by
        rw [e2, mk_snoc, hl, e3]
      refine WW.dregA [13] [9, 14] [9] [1, 7, 8] [h.next + 2, h.next + 3] (by repeat first | with_reducible apply next_putE | with_reducible apply next_setE | assumption | exact rfl) (by decide +kernel) ?_
      (repeat first | refine DA.go ?_ | refine DA.goF ?_ | refine DA.new ?_ | refine DA.set ?_ | refine DA.endL ?_ | refine thenN ?_ | refine blkN ?_)
      have hcon := fun (h5 : AHeap) (hs : Sim nx [13].length (h'.keep [13].length) h5) => oracle_Seal_ae (orAt_get (h2 := h5) oK (hs.2 _ (by omega)) (hs.2 _ (by omega)) (hs.2 _ (by omega))) (by omega) k (0, 0, (i : Int)) [] D[i] (by simp) (by omega)
      refine DA.callSS (i1 := h.next + 3) (i2 := h.next + 2) rfl (by first | exact True.intro | exact rfl) (by repeat first | exact SubL.nil | refine SubL.cons (SubV.refl _) ?_ | refine SubL.cons SubV.app ?_ | refine SubL.cons SubV.nil ?_) rfl rfl rfl (fun _ hp => PhiW.setW (by simp) (PhiW.setW (by simp) hp)) ⟨by omega, by omega⟩ (hcon) ?_
      (repeat first | refine DA.go ?_ | refine DA.goF ?_ | refine DA.new ?_ | refine DA.set ?_ | refine DA.endL ?_ | refine thenN ?_ | refine blkN ?_)
      refine WW.named (fun h5 => h5.get h.next = some (.mem 2 [encP k]) ∧ h5.get (h.next + 4) = some (.tail 0 i) ∧ h5.get nx = some (.mem 3 [encS (newI ((mk k (D.take i)).length + 1) k (0, 0, (i : Int)) [] D[i]).out (newI ((mk k (D.take i)).length + 1) k (0, 0, (i : Int)) [] D[i]).tag]) ∧
        OrAt h5 (h.next + 2) (h.next + 3) (h.next + 1) 0 (mk k (D.take i) ++ [newI ((mk k (D.take i)).length + 1) k (0, 0, (i : Int)) [] D[i]]) [] ∧ h5.next = nx + 1 ∧ Keeps h h5)
        ⟨(by repeat first | with_reducible exact get_put_same | with_reducible exact get_set_same | assumption | with_reducible apply get_put_neE (by omega) | with_reducible apply get_set_neE (by omega) | with_reducible apply get_keepE | exact get_put_same | exact get_set_same), (by repeat first | with_reducible exact get_put_same | with_reducible exact get_set_same | assumption | with_reducible apply get_put_neE (by omega) | with_reducible apply get_set_neE (by omega) | with_reducible apply get_keepE | exact get_put_same | exact get_set_same), (by repeat first | with_reducible exact get_put_same | with_reducible exact get_set_same | assumption | with_reducible apply get_put_neE (by omega) | with_reducible apply get_set_neE (by omega) | with_reducible apply get_keepE | exact get_put_same | exact get_set_same), ⟨(by repeat first | with_reducible exact get_put_same | with_reducible exact get_set_same | assumption | with_reducible apply get_put_neE (by omega) | with_reducible apply get_set_neE (by omega) | with_reducible apply get_keepE | exact get_put_same | exact get_set_same), (by repeat first | exact get_set_tl (by first | rfl | exact List.length_map _ | (simp; done) | (simp; omega)) | exact get_put_tl (by first | rfl | exact List.length_map _ | (simp; done) | (simp; omega)) | assumption | with_reducible apply get_put_neE (by omega) | with_reducible apply get_set_neE (by omega) | with_reducible apply get_keepE), (by repeat first | with_reducible exact get_put_same | with_reducible exact get_set_same | assumption | with_reducible apply get_put_neE (by omega) | with_reducible apply get_set_neE (by omega) | with_reducible apply get_keepE | exact get_put_same | exact get_set_same)⟩, next_setE (next_putK (by omega) (next_setE (next_setE (next_keepE hnx)))), (by repeat first | with_reducible exact Keeps.refl _ | with_reducible refine Keeps.put ?_ (by omega) _ | with_reducible refine Keeps.set ?_ (by omega) _ | with_reducible refine Keeps.keep ?_ | assumption)⟩ ?_
      rintro h5 ⟨r1, r2, r3, r4, r5, r6⟩
      rw [← e4] at r4
      (refine go ?_)
      refine ⟨i + 1, by rw [e4, List.map_append]; exact (by repeat first | exact subE.nil _ | (apply subE.cons; focus (first | exact rfl | (simp [lk_cons]; done) | (simp [lk_cons]; omega)))), ⟨(by repeat first | with_reducible exact get_put_same | with_reducible exact get_set_same | assumption | with_reducible apply get_put_neE (by omega) | with_reducible apply get_set_neE (by omega) | exact get_put_same | exact get_set_same), (by repeat first | with_reducible exact get_put_same | with_reducible exact get_set_same | assumption | with_reducible apply get_put_neE (by omega) | with_reducible apply get_set_neE (by omega) | exact get_put_same | exact get_set_same), (orAt_get r4 (by repeat first | with_reducible apply get_put_neE (by omega) | with_reducible apply get_set_neE (by omega) | with_reducible apply get_keepE | exact rfl) (by repeat first | with_reducible apply get_put_neE (by omega) | with_reducible apply get_set_neE (by omega) | with_reducible apply get_keepE | exact rfl) (by repeat first | with_reducible apply get_put_neE (by omega) | with_reducible apply get_set_neE (by omega) | with_reducible apply get_keepE | exact rfl)), leN (next_setE r5) (by omega), (by repeat first | with_reducible exact Keeps.refl _ | with_reducible refine Keeps.put ?_ (by omega) _ | with_reducible refine Keeps.set ?_ (by omega) _ | assumption), by omega, fun d hd => ?_⟩, by omega⟩
      rw [e2] at hd
      rcases List.mem_append.1 hd with hd | hd
      · exact g6 d hd
      · rw [List.mem_singleton] at hd; subst hd; omega
  · have hi : i = D.length := by omega
    subst hi
    rw [List.take_length] at oA g6 ⊢
    refine WW.cvt (Cvt.sub1 (s := 6) rfl SubV.app) ?_
    (refine go ?_)
    have hl : (mk k D).length = D.length := mk_len k D
    have hdt : ∀ x ∈ mk k D, x.data.length ≤ 1000000 := fun x hx => by
      obtain ⟨m, hm, rfl⟩ := List.mem_iff_getElem.1 hx
      rw [mk_get]
      have := g6 _ (List.getElem_mem (by omega : m < D.length))
      simp only [newI]; omega
    clear g2 g5 hz2
    refine WW.loopE (fun (i : Nat) => [(0, some (.imm 1 (D.map encR))), (3, some (.ptr h.next 0 0)), (5, some (.ptr (h.next + 2) 0 0)), (6, some (.imm 3 ((mk k D).map encSI))), (10, some (.int .i64 i))])
      (fun i h5 => h' = h5 ∧ i ≤ D.length) (fun i => D.length - i) 0 (by repeat first | exact subE.nil _ | (apply subE.cons; focus (first | exact rfl | (simp [lk_cons]; done) | (simp [lk_cons]; omega)))) ⟨rfl, Nat.zero_le _⟩ ?_
    rintro i h5 ⟨rfl, g7⟩
    (refine go ?_)
    (refine WW.ifB rfl (fun hz4 => ?_) (fun hz4 => ?_))
    · have hi : i < D.length := by omega
      (refine go ?_)
      refine WW.loopE (fun (j : Nat) => [(0, some (.imm 1 (D.map encR))), (3, some (.ptr h.next 0 0)), (5, some (.ptr (h.next + 2) 0 0)), (6, some (.imm 3 ((mk k D).map encSI))), (10, some (.int .i64 i)), (11, some (.int .i64 j))])
        (fun j h6 => h' = h6 ∧ j ≤ D.length) (fun j => D.length - j) 0 (by repeat first | exact subE.nil _ | (apply subE.cons; focus (first | exact rfl | (simp [lk_cons]; done) | (simp [lk_cons]; omega)))) ⟨rfl, Nat.zero_le _⟩ ?_
      rintro j h6 ⟨rfl, g8⟩
      (refine go ?_)
      (refine WW.ifB rfl (fun hz5 => ?_) (fun hz5 => ?_))
      · have hj : j < D.length := by omega
        have hj2 : j < (mk k D).length := by omega
        have hi2 : i < (mk k D).length := by omega
        (refine go ?_)
        have hcon := oracle_Open_ae oA (by omega) hdt k (0, 0, (i : Int)) [] (mk k D)[j].out (mk k D)[j].tag
        rw [mk_open k D i j hi hj2] at hcon
        refine DW.callS rfl (by first | exact True.intro | exact rfl) (by repeat first | exact SubL.nil | refine SubL.cons (SubV.refl _) ?_ | refine SubL.cons SubV.app ?_ | refine SubL.cons SubV.nil ?_) rfl (hcon) ?_
        (refine go ?_)
        (refine DW.spB rfl (fun hz6 => ?_) (fun hz6 => ?_))
        · exfalso
          by_cases hij : i = j
          · subst hij; simp at hz6
          · have : ¬ ((i : Int) = (j : Int)) := by omega
            simp [hij, this] at hz6
        · (refine go ?_)
          (refine DW.spB rfl (fun hz7 => ?_) (fun hz7 => ?_))
          · have hij : i = j := by
              by_cases hij : i = j
              · exact hij
              · rw [if_neg hij] at hz7; simp at hz7
            subst hij
            (refine go ?_)
            (refine DW.spB rfl (fun hz8 => ?_) (fun hz8 => ?_))
            · exfalso
              simp at hz8
            · (refine go ?_)
              refine DW.callS rfl (by first | exact True.intro | exact rfl) (by repeat first | exact SubL.nil | refine SubL.cons (SubV.refl _) ?_ | refine SubL.cons SubV.app ?_ | refine SubL.cons SubV.nil ?_) rfl (ref5_Same_ae (mk k D)[i].out (mk k D)[i].out (mk k D)[i].tag (mk k D)[i].tag _) ?_
              rw [show ((mk k D)[i].out == (mk k D)[i].out && (mk k D)[i].tag == (mk k D)[i].tag) = true by simp]
              (refine go ?_)
              (refine WW.ifB rfl (fun hz9 => ?_) (fun hz9 => ?_))
              · exfalso
                simp at hz9
              · (refine go ?_)
                refine ⟨i + 1, (by repeat first | exact subE.nil _ | (apply subE.cons; focus (first | exact rfl | (simp [lk_cons]; done) | (simp [lk_cons]; omega)))), ⟨rfl, by omega⟩, by omega⟩
          · have hij : ¬ i = j := fun hij => by rw [if_pos hij] at hz7; simp at hz7
            have hij2 : ¬ ((i : Int) = (j : Int)) := by omega
            have ht : ((mk k D)[i].tag == (mk k D)[j].tag) = false := by
              rw [mk_tag, mk_tag]
              simp only [beq_eq_false_iff_ne, ne_eq, Prod.mk.injEq, true_and]
              omega
            (refine go ?_)
            refine DW.callS rfl (by first | exact True.intro | exact rfl) (by repeat first | exact SubL.nil | refine SubL.cons (SubV.refl _) ?_ | refine SubL.cons SubV.app ?_ | refine SubL.cons SubV.nil ?_) rfl (ref5_Same_ae (mk k D)[i].out (mk k D)[j].out (mk k D)[i].tag (mk k D)[j].tag _) ?_
            rw [ht, Bool.and_false]
            (refine go ?_)
            (refine WW.ifB rfl (fun hz9 => ?_) (fun hz9 => ?_))
            · exfalso
              simp [hij2] at hz9
            · (refine go ?_)
              refine ⟨j + 1, (by repeat first | exact subE.nil _ | (apply subE.cons; focus (first | exact rfl | (simp [lk_cons]; done) | (simp [lk_cons]; omega)))), ⟨rfl, by omega⟩, by omega⟩
      · (refine go ?_)
        refine ⟨i + 1, (by repeat first | exact subE.nil _ | (apply subE.cons; focus (first | exact rfl | (simp [lk_cons]; done) | (simp [lk_cons]; omega)))), ⟨rfl, by omega⟩, by omega⟩
    · (refine go ?_)
      refine WL.call rfl (by first | exact True.intro | exact rfl) (by repeat first | exact SubL.nil | refine SubL.cons (SubV.refl _) ?_ | refine SubL.cons SubV.app ?_ | refine SubL.cons SubV.nil ?_) (oracle_Twice_ae oA (by omega)) ?_
      rw [mk_nodup]
      (refine go ?_)
      refine WL.call rfl (by first | exact True.intro | exact rfl) (by repeat first | exact SubL.nil | refine SubL.cons (SubV.refl _) ?_ | refine SubL.cons SubV.app ?_ | refine SubL.cons SubV.nil ?_) (law7_known_ae _) ?_
      (refine go ?_)
      refine WW.ret (PureQ.finD ?_)
      exact fz_b rfl
end Go.Proofs.Ytnihcakkhillcaa
