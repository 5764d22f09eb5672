/- LockPlays with the ideal lock. -/
import Derived.Test.YtlddahcgaonlhaaV5
set_option linter.all false
namespace Go.Proofs.Ytlddahcgaonlhaa
open Go Go.Abs

/-- Where a play of the ideal lock stands. -/
structure P8I where
  i : Nat
  b : Bs
  t : Pr
  L : List Iss
  S : List Bs
structure PI (h h' : AHeap) (s : P8I) (n : Nat) : Prop where
  id : IdAt h' (h.next + 3) (h.next + 1) (h.next + 2) h.next 0 s.L s.S
  rf : R8At h' (h.next + 5) (h.next + 4) (h.next + 6) (h.next + 7) 0 0 s.L s.S
  last : h'.get (h.next + 8) = some (.mem 3 [encS s.b s.t])
  nx : h.next + 9 ≤ h'.next
  keeps : Keeps h h'
  bi : s.i ≤ n
  bL : s.L.length ≤ s.i
  bS : s.S.length ≤ s.i
  bb : s.b.length ≤ 1000
  bx : ∀ x ∈ s.L, x.head.length ≤ 1000 ∧ x.data.length ≤ 1000 ∧ x.out.length ≤ 1000
theorem r8At_get {h h2 : AHeap} {l o t1 t2 g1 g2 : Nat} {L : List Iss} {S : List Bs} (hO : R8At h l o t1 t2 g1 g2 L S) (h0 : h2.get l = h.get l) (h1 : h2.get o = h.get o) (h3 : h2.get t1 = h.get t1) (h4 : h2.get t2 = h.get t2) : R8At h2 l o t1 t2 g1 g2 L S :=
  ⟨h0.trans hO.cell, refAt_get hO.ora h1 h3 h4⟩
theorem idAt_get8 {h h2 : AHeap} {l o t s g : Nat} {L : List Iss} {S : List Bs} (hO : IdAt h l o t s g L S) (h0 : h2.get l = h.get l) (h1 : h2.get o = h.get o) (h3 : h2.get t = h.get t) (h4 : h2.get s = h.get s) : IdAt h2 l o t s g L S :=
  ⟨h0.trans hO.cells, orAt_get hO.ora h1 h3 h4⟩
set_option maxHeartbeats 1000000 in
theorem law8_LockPlaysI_ae (A : List Act8) (h : AHeap) : AE Try.prog 10 [.bool true, .imm 8 (A.map encA8)] h (.bool true) h := by
  refine AE.pureW is_law8_LockPlays (by simp) ?_
  unfold c_law8_LockPlays
  (refine go ?_)
  (refine WW.ifB rfl (fun hz1 => ?_) (fun hz1 => ?_))
  · (refine go ?_)
    refine WW.ret (PureQ.finD ?_)
    exact fz_b rfl
  (refine go ?_)
  refine WL.call rfl (by first | exact True.intro | exact rfl) (by repeat first | exact SubL.nil | refine SubL.cons (SubV.refl _) ?_ | refine SubL.cons SubV.app ?_ | refine SubL.cons SubV.nil ?_) (law8_ofI_ae (nx := h.next) rfl) ?_
  obtain ⟨h2, e2, o2, n2, m2, k2⟩ := newL_ex (h := h) (nx := h.next) rfl
  replace k2 := k2 h (Keeps.refl _)
  rw [e2]
  clear e2 m2
  (refine go ?_)
  refine WL.callA rfl (by first | exact True.intro | exact rfl) (by repeat first | exact SubL.nil | refine SubL.cons (SubV.refl _) ?_ | refine SubL.cons SubV.app ?_ | refine SubL.cons SubV.nil ?_) (AC.used (ref8_NewI_ac n2)) ?_
  rintro _ h3 ⟨⟨rfl, o3, n3, m3, k3⟩, _, _⟩
  replace k3 := k3 h k2
  have o4 := idAt_get8 (h2 := h3) o2 (m3 _ (by omega)) (m3 _ (by omega)) (m3 _ (by omega)) (m3 _ (by omega))
  clear k2 m3 n2 o2
  (refine go ?_)
  refine WW.cvt (Cvt.cell (id := h.next + 8) (i := 0) (j := 0) (v := .imm 1 []) gH rfl rfl rfl SubV.nil) ?_
  refine WW.loopE (fun (s : P8I) => [(1, some (.imm 8 (A.map encA8))), (5, some (.ptr (h.next + 3) 0 0)), (6, some (.ptr (h.next + 5) 0 0)), (7, some (.ptr (h.next + 8) 0 0)), (8, some (.int .i64 s.i))])
    (fun s h' => PI h h' s A.length) (fun s => A.length - s.i) ⟨0, [], (0, 0), [], []⟩ (by repeat first | exact subE.nil _ | (apply subE.cons; focus (first | exact rfl | (simp [lk_cons]; done) | (simp [lk_cons]; omega)))) ⟨idAt_get8 o4 (by repeat first | with_reducible apply get_put_neE (by omega) | with_reducible apply get_set_neE (by omega) | with_reducible apply get_keepE | exact rfl) (by repeat first | with_reducible apply get_put_neE (by omega) | with_reducible apply get_set_neE (by omega) | with_reducible apply get_keepE | exact rfl) (by repeat first | with_reducible apply get_put_neE (by omega) | with_reducible apply get_set_neE (by omega) | with_reducible apply get_keepE | exact rfl) (by repeat first | with_reducible apply get_put_neE (by omega) | with_reducible apply get_set_neE (by omega) | with_reducible apply get_keepE | exact rfl), r8At_get o3 (by repeat first | with_reducible apply get_put_neE (by omega) | with_reducible apply get_set_neE (by omega) | with_reducible apply get_keepE | exact rfl) (by repeat first | with_reducible apply get_put_neE (by omega) | with_reducible apply get_set_neE (by omega) | with_reducible apply get_keepE | exact rfl) (by repeat first | with_reducible apply get_put_neE (by omega) | with_reducible apply get_set_neE (by omega) | with_reducible apply get_keepE | exact rfl) (by repeat first | with_reducible apply get_put_neE (by omega) | with_reducible apply get_set_neE (by omega) | with_reducible apply get_keepE | exact rfl), gH, (leN gN (by omega)), (by repeat first | with_reducible exact Keeps.refl _ | with_reducible refine Keeps.put ?_ (by omega) _ | with_reducible refine Keeps.set ?_ (by omega) _ | assumption), Nat.zero_le _, Nat.zero_le _, Nat.zero_le _, by simp, by simp⟩ ?_
  clear o3 o4 k3 n3
  rintro ⟨i, b, t, L, S⟩ h' hp
  obtain ⟨hI, hR, g3, g4, g5, g6, g7, g8, g9, gx⟩ := hp
  simp only at hI hR g3 g4 g5 g6 g7 g8 g9 gx ⊢
  (refine go ?_)
  (refine WW.ifB rfl (fun hz2 => ?_) (fun hz2 => ?_))
  · have hi : i < A.length := by omega
    (refine go ?_)
    (refine WW.ifB rfl (fun hz3 => ?_) (fun hz3 => ?_))
    · (refine go ?_)
      refine WW.ret (PureQ.finD ?_)
      exact fz_b rfl
    have hd : A[i].data.length ≤ 100 := by omega
    (refine go ?_)
    (refine WW.ifB rfl (fun hz4 => ?_) (fun hz4 => ?_))
    · (repeat first | refine WL.go ?_ | refine WW.seq ?_ | refine WW.reg ?_ | refine WL.nil ?_ | refine WW.skip ?_ | refine WW.block ?_ | refine WW.exit ?_ | refine WW.condT rfl ?_ | refine WW.condF rfl ?_ | refine WL.gox ?_ | refine thenN ?_ | refine blkN ?_)
      refine WW.dregA [20] [16, 21] [16] [3, 5, 8, 10, 13, 15] [h.next + 2, h.next + 1] gN (by decide +kernel) ?_
      (repeat first | refine DA.go ?_ | refine DA.goF ?_ | refine DA.new ?_ | refine DA.set ?_ | refine DA.endL ?_ | refine thenN ?_ | refine blkN ?_)
      rw [show List.take 2 (List.drop 1 (encA8 A[i])) = encP A[i].key from rfl, show List.take 3 (List.drop 3 (encA8 A[i])) = encN A[i].n from rfl]
      refine DA.callSS (i1 := h.next + 2) (i2 := h.next + 1) (vs := [.ptr (h.next + 3) 0 0, .agg (encP A[i].key), .agg (encN A[i].n), .imm 1 (([] : Bs).map encB), .imm 1 (A[i].data.map encB)]) rfl (by first | exact True.intro | exact rfl) (by repeat first | exact SubL.nil | refine SubL.cons (SubV.refl _) ?_ | refine SubL.cons SubV.app ?_ | refine SubL.cons SubV.nil ?_) rfl rfl rfl (fun _ hp => PhiW.setW (by simp) (PhiW.setW (by simp) hp)) ⟨by omega, by omega⟩
        (fun h5 hs => lock_SealI_ae (idAt_get8 hI (hs.2 _ (by omega)) (hs.2 _ (by omega)) (hs.2 _ (by omega)) (hs.2 _ (by omega))) (by omega) A[i].key A[i].n [] A[i].data (by simp) (by omega)) ?_
      (repeat first | refine DA.go ?_ | refine DA.goF ?_ | refine DA.new ?_ | refine DA.set ?_ | refine DA.endL ?_ | refine thenN ?_ | refine blkN ?_)
      generalize hX : newI (L.length + 1) A[i].key A[i].n [] A[i].data = X at *
      have x0 := hI.cells
      have x1 := hI.ora.sums
      refine WW.named (fun h5 => IdAt h5 (h.next + 3) (h.next + 1) (h.next + 2) h.next 0 (L ++ [X]) S ∧ R8At h5 (h.next + 5) (h.next + 4) (h.next + 6) (h.next + 7) 0 0 L S ∧ h5.get (h.next + 8) = some (.mem 3 [encS b t]) ∧ h5.get h'.next = some (.mem 3 [encS X.out X.tag]) ∧ h5.next = h'.next + 1 ∧ Keeps h h5)
        ⟨⟨gH, gH, (by repeat first | exact get_set_tl (by first | rfl | exact List.length_map _ | (simp; done) | (simp; omega)) | exact get_put_tl (by first | rfl | exact List.length_map _ | (simp; done) | (simp; omega)) | assumption | with_reducible apply get_put_neE (by omega) | with_reducible apply get_set_neE (by omega) | with_reducible apply get_keepE), gH⟩, r8At_get hR (by repeat first | with_reducible apply get_put_neE (by omega) | with_reducible apply get_set_neE (by omega) | with_reducible apply get_keepE | exact rfl) (by repeat first | with_reducible apply get_put_neE (by omega) | with_reducible apply get_set_neE (by omega) | with_reducible apply get_keepE | exact rfl) (by repeat first | with_reducible apply get_put_neE (by omega) | with_reducible apply get_set_neE (by omega) | with_reducible apply get_keepE | exact rfl) (by repeat first | with_reducible apply get_put_neE (by omega) | with_reducible apply get_set_neE (by omega) | with_reducible apply get_keepE | exact rfl), gH, gH, next_setE (next_putK (by simp) (next_setE (next_setE (next_keepE rfl)))), (by repeat first | with_reducible exact Keeps.refl _ | with_reducible refine Keeps.put ?_ (by omega) _ | with_reducible refine Keeps.set ?_ (by omega) _ | with_reducible refine Keeps.keep ?_ | assumption)⟩ ?_
      rintro h5 ⟨r1, r2, r3, r4, r5, r6⟩
      (repeat first | refine WL.go ?_ | refine WW.seq ?_ | refine WW.reg ?_ | refine WL.nil ?_ | refine WW.skip ?_ | refine WW.block ?_ | refine WW.exit ?_ | refine WW.condT rfl ?_ | refine WW.condF rfl ?_ | refine WL.gox ?_ | refine thenN ?_ | refine blkN ?_)
      refine WW.dregA [20] [16, 21] [16] [3, 5, 8, 10, 13, 15] [h.next + 6, h.next + 4] gN (by decide +kernel) ?_
      (repeat first | refine DA.go ?_ | refine DA.goF ?_ | refine DA.new ?_ | refine DA.set ?_ | refine DA.endL ?_ | refine thenN ?_ | refine blkN ?_)
      rw [show List.take 2 (List.drop 1 (encA8 A[i])) = encP A[i].key from rfl, show List.take 3 (List.drop 3 (encA8 A[i])) = encN A[i].n from rfl]
      refine DA.callSS (i1 := h.next + 6) (i2 := h.next + 4) (vs := [.ptr (h.next + 5) 0 0, .agg (encP A[i].key), .agg (encN A[i].n), .imm 1 (([] : Bs).map encB), .imm 1 (A[i].data.map encB)]) rfl (by first | exact True.intro | exact rfl) (by repeat first | exact SubL.nil | refine SubL.cons (SubV.refl _) ?_ | refine SubL.cons SubV.app ?_ | refine SubL.cons SubV.nil ?_) rfl rfl rfl (fun _ hp => PhiW.setW (by simp) (PhiW.setW (by simp) hp)) ⟨by omega, by omega⟩
        (fun h6 hs => ref8_SealI_ae (r8At_get r2 (hs.2 _ (by omega)) (hs.2 _ (by omega)) (hs.2 _ (by omega)) (hs.2 _ (by omega))) (by omega) A[i].key A[i].n [] A[i].data (by simp) (by omega)) ?_
      rw [hX]
      (repeat first | refine DA.go ?_ | refine DA.goF ?_ | refine DA.new ?_ | refine DA.set ?_ | refine DA.endL ?_ | refine thenN ?_ | refine blkN ?_)
      have y0 := r2.cell
      have y1 := r2.ora.tok2
      refine WW.named (fun h6 => IdAt h6 (h.next + 3) (h.next + 1) (h.next + 2) h.next 0 (L ++ [X]) S ∧ R8At h6 (h.next + 5) (h.next + 4) (h.next + 6) (h.next + 7) 0 0 (L ++ [X]) S ∧ h6.get (h.next + 8) = some (.mem 3 [encS b t]) ∧ h6.get h'.next = some (.mem 3 [encS X.out X.tag]) ∧ h6.get (h'.next + 1) = some (.mem 3 [encS X.out X.tag]) ∧ h6.next = h'.next + 1 + 1 ∧ Keeps h h6)
        ⟨idAt_get8 r1 (by repeat first | with_reducible apply get_put_neE (by omega) | with_reducible apply get_set_neE (by omega) | with_reducible apply get_keepE | exact rfl) (by repeat first | with_reducible apply get_put_neE (by omega) | with_reducible apply get_set_neE (by omega) | with_reducible apply get_keepE | exact rfl) (by repeat first | with_reducible apply get_put_neE (by omega) | with_reducible apply get_set_neE (by omega) | with_reducible apply get_keepE | exact rfl) (by repeat first | with_reducible apply get_put_neE (by omega) | with_reducible apply get_set_neE (by omega) | with_reducible apply get_keepE | exact rfl), ⟨gH, gH, (by repeat first | exact get_set_tl (by first | rfl | exact List.length_map _ | (simp; done) | (simp; omega)) | exact get_put_tl (by first | rfl | exact List.length_map _ | (simp; done) | (simp; omega)) | assumption | with_reducible apply get_put_neE (by omega) | with_reducible apply get_set_neE (by omega) | with_reducible apply get_keepE), gH, by omega⟩, gH, gH, gH, next_setE (next_putK (by simp) (next_setE (next_setE (next_keepE r5)))), (by repeat first | with_reducible exact Keeps.refl _ | with_reducible refine Keeps.put ?_ (by omega) _ | with_reducible refine Keeps.set ?_ (by omega) _ | with_reducible refine Keeps.keep ?_ | assumption)⟩ ?_
      rintro h6 ⟨u1, u2, u3, u4, u7, u5, u6⟩
      (refine go ?_)
      refine WL.call rfl (by first | exact True.intro | exact rfl) (by repeat first | exact SubL.nil | refine SubL.cons (SubV.refl _) ?_ | refine SubL.cons SubV.app ?_ | refine SubL.cons SubV.nil ?_) (ref5_Same_ae X.out X.out X.tag X.tag _) ?_
      (refine go ?_)
      rw [show (X.out == X.out && X.tag == X.tag) = true by simp]
      (refine go ?_)
      have hsl : X.out.length ≤ 1000 ∧ X.head.length ≤ 1000 ∧ X.data.length ≤ 1000 := by
        subst hX
        simp only [newI, sealB, rep_len, List.length_nil]
        omega
      refine ⟨⟨i + 1, X.out, X.tag, L ++ [X], S⟩, (by repeat first | exact subE.nil _ | (apply subE.cons; focus (first | exact rfl | (simp [lk_cons]; done) | (simp [lk_cons]; omega)))), ⟨idAt_get8 u1 (by repeat first | with_reducible apply get_put_neE (by omega) | with_reducible apply get_set_neE (by omega) | with_reducible apply get_keepE | exact rfl) (by repeat first | with_reducible apply get_put_neE (by omega) | with_reducible apply get_set_neE (by omega) | with_reducible apply get_keepE | exact rfl) (by repeat first | with_reducible apply get_put_neE (by omega) | with_reducible apply get_set_neE (by omega) | with_reducible apply get_keepE | exact rfl) (by repeat first | with_reducible apply get_put_neE (by omega) | with_reducible apply get_set_neE (by omega) | with_reducible apply get_keepE | exact rfl), r8At_get u2 (by repeat first | with_reducible apply get_put_neE (by omega) | with_reducible apply get_set_neE (by omega) | with_reducible apply get_keepE | exact rfl) (by repeat first | with_reducible apply get_put_neE (by omega) | with_reducible apply get_set_neE (by omega) | with_reducible apply get_keepE | exact rfl) (by repeat first | with_reducible apply get_put_neE (by omega) | with_reducible apply get_set_neE (by omega) | with_reducible apply get_keepE | exact rfl) (by repeat first | with_reducible apply get_put_neE (by omega) | with_reducible apply get_set_neE (by omega) | with_reducible apply get_keepE | exact rfl), gH, (leN gN (by omega)), (by repeat first | with_reducible exact Keeps.refl _ | with_reducible refine Keeps.put ?_ (by omega) _ | with_reducible refine Keeps.set ?_ (by omega) _ | assumption), hi, by simp; omega, by show S.length ≤ i + 1; omega, hsl.1, ?_⟩, (by show A.length - (i + 1) < A.length - i; omega)⟩
      intro x hx
      rcases List.mem_append.1 hx with hx | hx
      · exact gx x hx
      · simp only [List.mem_singleton] at hx
        subst hx
        exact ⟨hsl.2.1, hsl.2.2, hsl.1⟩
    (refine go ?_)
    (refine WW.ifB rfl (fun hz5 => ?_) (fun hz5 => ?_))
    · (repeat first | refine WL.go ?_ | refine WW.seq ?_ | refine WW.reg ?_ | refine WL.nil ?_ | refine WW.skip ?_ | refine WW.block ?_ | refine WW.exit ?_ | refine WW.condT rfl ?_ | refine WW.condF rfl ?_ | refine WL.gox ?_ | refine thenN ?_ | refine blkN ?_)
      refine WW.dregA [16] [17] [] [1, 4, 7, 10, 12] [] gN (by decide +kernel) ?_
      (repeat first | refine DA.go ?_ | refine DA.goF ?_ | refine DA.new ?_ | refine DA.set ?_ | refine DA.endL ?_ | refine thenN ?_ | refine blkN ?_)
      refine WW.named (fun h5 => IdAt h5 (h.next + 3) (h.next + 1) (h.next + 2) h.next 0 L S ∧ R8At h5 (h.next + 5) (h.next + 4) (h.next + 6) (h.next + 7) 0 0 L S ∧ h5.get (h.next + 8) = some (.mem 3 [encS b t]) ∧ h5.get h'.next = some (.mem 3 [encS b (t.1, x64 t.2 A[i].by8)]) ∧ h5.next = h'.next + 1 ∧ Keeps h h5)
        ⟨idAt_get8 hI (by repeat first | with_reducible apply get_put_neE (by omega) | with_reducible apply get_set_neE (by omega) | with_reducible apply get_keepE | exact rfl) (by repeat first | with_reducible apply get_put_neE (by omega) | with_reducible apply get_set_neE (by omega) | with_reducible apply get_keepE | exact rfl) (by repeat first | with_reducible apply get_put_neE (by omega) | with_reducible apply get_set_neE (by omega) | with_reducible apply get_keepE | exact rfl) (by repeat first | with_reducible apply get_put_neE (by omega) | with_reducible apply get_set_neE (by omega) | with_reducible apply get_keepE | exact rfl), r8At_get hR (by repeat first | with_reducible apply get_put_neE (by omega) | with_reducible apply get_set_neE (by omega) | with_reducible apply get_keepE | exact rfl) (by repeat first | with_reducible apply get_put_neE (by omega) | with_reducible apply get_set_neE (by omega) | with_reducible apply get_keepE | exact rfl) (by repeat first | with_reducible apply get_put_neE (by omega) | with_reducible apply get_set_neE (by omega) | with_reducible apply get_keepE | exact rfl) (by repeat first | with_reducible apply get_put_neE (by omega) | with_reducible apply get_set_neE (by omega) | with_reducible apply get_keepE | exact rfl), gH, gH, next_setE (next_putK (by simp) (next_keepE rfl)), (by repeat first | with_reducible exact Keeps.refl _ | with_reducible refine Keeps.put ?_ (by omega) _ | with_reducible refine Keeps.set ?_ (by omega) _ | with_reducible refine Keeps.keep ?_ | assumption)⟩ ?_
      rintro h5 ⟨r1, r2, r3, r4, r5, r6⟩
      (refine go ?_)
      rw [show List.take 2 (List.drop 1 (encA8 A[i])) = encP A[i].key from rfl, show List.take 3 (List.drop 3 (encA8 A[i])) = encN A[i].n from rfl]
      refine DW.callS rfl (by first | exact True.intro | exact rfl) (vs := [.ptr (h.next + 3) 0 0, .agg (encP A[i].key), .agg (encN A[i].n), .imm 1 (([] : Bs).map encB), .agg (encS b (t.1, x64 t.2 A[i].by8))]) (by repeat first | exact SubL.nil | refine SubL.cons (SubV.refl _) ?_ | refine SubL.cons SubV.app ?_ | refine SubL.cons SubV.nil ?_) rfl (lock_OpenI_ae r1 (by omega) (fun x hx => by have := gx x hx; omega) A[i].key A[i].n [] b (t.1, x64 t.2 A[i].by8)) ?_
      (refine go ?_)
      rw [show List.take 2 (List.drop 1 (encA8 A[i])) = encP A[i].key from rfl, show List.take 3 (List.drop 3 (encA8 A[i])) = encN A[i].n from rfl]
      refine DW.callS rfl (by first | exact True.intro | exact rfl) (vs := [.ptr (h.next + 5) 0 0, .agg (encP A[i].key), .agg (encN A[i].n), .imm 1 (([] : Bs).map encB), .agg (encS b (t.1, x64 t.2 A[i].by8))]) (by repeat first | exact SubL.nil | refine SubL.cons (SubV.refl _) ?_ | refine SubL.cons SubV.app ?_ | refine SubL.cons SubV.nil ?_) rfl (ref8_OpenI_ae r2 (by omega) A[i].key A[i].n [] b (t.1, x64 t.2 A[i].by8)) ?_
      generalize openO L A[i].key A[i].n [] b (t.1, x64 t.2 A[i].by8) = oo at *
      (refine go ?_)
      (refine WL.spB rfl (fun hz6 => ?_) (fun hz6 => ?_))
      · exfalso; simp at hz6
      (refine go ?_)
      (refine WW.ifB rfl (fun hz7 => ?_) (fun hz7 => ?_))
      · exfalso; simp at hz7
      (refine go ?_)
      refine ⟨⟨i + 1, b, t, L, S⟩, (by repeat first | exact subE.nil _ | (apply subE.cons; focus (first | exact rfl | (simp [lk_cons]; done) | (simp [lk_cons]; omega)))), ⟨r1, r2, gH, (leN gN (by omega)), (by repeat first | with_reducible exact Keeps.refl _ | with_reducible refine Keeps.put ?_ (by omega) _ | with_reducible refine Keeps.set ?_ (by omega) _ | assumption), hi, by show L.length ≤ i + 1; omega, by show S.length ≤ i + 1; omega, g9, gx⟩, (by show A.length - (i + 1) < A.length - i; omega)⟩
    · (repeat first | refine WL.go ?_ | refine WW.seq ?_ | refine WW.reg ?_ | refine WL.nil ?_ | refine WW.skip ?_ | refine WW.block ?_ | refine WW.exit ?_ | refine WW.condT rfl ?_ | refine WW.condF rfl ?_ | refine WL.gox ?_ | refine thenN ?_ | refine blkN ?_)
      refine WW.dregX [7, 14] [11, 13] [h.next, h.next + 4, h.next + 7] gN (by decide +kernel) ?_
      (refine go ?_)
      refine DW.callSW rfl (by first | exact True.intro | exact rfl) (by repeat first | exact SubL.nil | refine SubL.cons (SubV.refl _) ?_ | refine SubL.cons SubV.app ?_ | refine SubL.cons SubV.nil ?_) rfl rfl (fun hp => by repeat first | exact hp | refine PhiW.put (by omega) ?_ | refine PhiW.setN (by omega) ?_ | refine PhiW.setW (by simp; done) ?_) (lock_SumI_ae hI (by omega) [A[i].data] (by simp) (by simp; omega)) ?_
      rw [show [A[i].data].flatten = A[i].data by simp]
      (refine go ?_)
      refine DW.callSW rfl (by first | exact True.intro | exact rfl) (by repeat first | exact SubL.nil | refine SubL.cons (SubV.refl _) ?_ | refine SubL.cons SubV.app ?_ | refine SubL.cons SubV.nil ?_) rfl rfl (fun hp => by repeat first | exact hp | refine PhiW.put (by omega) ?_ | refine PhiW.setN (by omega) ?_ | refine PhiW.setW (by simp; done) ?_) (ref8_SumI_ae (r8At_get (h2 := h'.set h.next (some (.map (encM (sumS S A[i].data))))) hR (by repeat first | with_reducible apply get_put_neE (by omega) | with_reducible apply get_set_neE (by omega) | with_reducible apply get_keepE | exact rfl) (by repeat first | with_reducible apply get_put_neE (by omega) | with_reducible apply get_set_neE (by omega) | with_reducible apply get_keepE | exact rfl) (by repeat first | with_reducible apply get_put_neE (by omega) | with_reducible apply get_set_neE (by omega) | with_reducible apply get_keepE | exact rfl) (by repeat first | with_reducible apply get_put_neE (by omega) | with_reducible apply get_set_neE (by omega) | with_reducible apply get_keepE | exact rfl)) (by omega) A[i].data (by omega)) ?_
      (refine go ?_)
      (refine WW.ifB rfl (fun hz8 => ?_) (fun hz8 => ?_))
      · exfalso; simp at hz8
      (refine go ?_)
      have hsl : (sumS S A[i].data).length ≤ S.length + 1 := by unfold sumS; split <;> simp
      have z0 := hI.cells
      have z1 := hI.ora.obj
      have z2 := hI.ora.tok
      have z3 := hR.cell
      have z4 := hR.ora.tok1
      refine ⟨⟨i + 1, b, t, L, sumS S A[i].data⟩, (by repeat first | exact subE.nil _ | (apply subE.cons; focus (first | exact rfl | (simp [lk_cons]; done) | (simp [lk_cons]; omega)))), ⟨⟨gH, gH, gH, gH⟩, ⟨gH, gH, gH, (by repeat first | exact get_set_tl (by first | rfl | exact List.length_map _ | (simp; done) | (simp; omega)) | exact get_put_tl (by first | rfl | exact List.length_map _ | (simp; done) | (simp; omega)) | assumption | with_reducible apply get_put_neE (by omega) | with_reducible apply get_set_neE (by omega) | with_reducible apply get_keepE), by omega⟩, gH, (leN gN (by omega)), (by repeat first | with_reducible exact Keeps.refl _ | with_reducible refine Keeps.put ?_ (by omega) _ | with_reducible refine Keeps.set ?_ (by omega) _ | assumption), hi, by show L.length ≤ i + 1; omega, by show (sumS S A[i].data).length ≤ i + 1; omega, g9, gx⟩, (by show A.length - (i + 1) < A.length - i; omega)⟩
  · (refine go ?_)
    refine WL.call rfl (by first | exact True.intro | exact rfl) (by repeat first | exact SubL.nil | refine SubL.cons (SubV.refl _) ?_ | refine SubL.cons SubV.app ?_ | refine SubL.cons SubV.nil ?_) (lock_IssuedI_ae hI (by omega) (fun x hx => by have := gx x hx; omega)) ?_
    (refine go ?_)
    refine WL.call rfl (by first | exact True.intro | exact rfl) (by repeat first | exact SubL.nil | refine SubL.cons (SubV.refl _) ?_ | refine SubL.cons SubV.app ?_ | refine SubL.cons SubV.nil ?_) (ref8_IssuedI_ae hR) ?_
    (refine go ?_)
    refine WL.call rfl (by first | exact True.intro | exact rfl) (by repeat first | exact SubL.nil | refine SubL.cons (SubV.refl _) ?_ | refine SubL.cons SubV.app ?_ | refine SubL.cons SubV.nil ?_) (ref7_Same_ae L L (by omega) (by omega) _) ?_
    rw [show decide (L = L) = true by simp]
    (refine go ?_)
    refine WL.call rfl (by first | exact True.intro | exact rfl) (by repeat first | exact SubL.nil | refine SubL.cons (SubV.refl _) ?_ | refine SubL.cons SubV.app ?_ | refine SubL.cons SubV.nil ?_) (law8_known_ae _) ?_
    (refine go ?_)
    refine WW.ret (PureQ.finD ?_)
    exact fz_b rfl
theorem sl_of {v : AV} {vs : List AV} {cs : List CS} (h : TypL (.sl [.i .u8] :: cs) (v :: vs)) : (∃ b : Bs, v = .imm 1 (b.map encB)) ∧ TypL cs vs := by
  obtain ⟨v', vs', e, h1, h2⟩ := h.cons_inv
  cases e
  obtain ⟨c, rfl, _, hc⟩ := h1.sl_inv
  obtain ⟨l, rfl⟩ := map_of (f := encB) (fun _ => byte_of) hc
  exact ⟨⟨l, rfl⟩, h2⟩
theorem act8_of {cells : List AV} (h : TypL [.i .i64, .i .u64, .i .u64, .i .u32, .i .u32, .i .u64, .sl [.i .u8], .i .u64] cells) : ∃ a : Act8, cells = encA8 a := by
  obtain ⟨v0, vs0, rfl, h0, t0⟩ := h.cons_inv
  obtain ⟨v1, vs1, rfl, h1, t1⟩ := t0.cons_inv
  obtain ⟨v2, vs2, rfl, h2, t2⟩ := t1.cons_inv
  obtain ⟨v3, vs3, rfl, h3, t3⟩ := t2.cons_inv
  obtain ⟨v4, vs4, rfl, h4, t4⟩ := t3.cons_inv
  obtain ⟨v5, vs5, rfl, h5, t5⟩ := t4.cons_inv
  obtain ⟨v6, vs6, rfl, _, _⟩ := t5.cons_inv
  obtain ⟨⟨b6, rfl⟩, t6⟩ := sl_of t5
  obtain ⟨v7, vs7, rfl, h7, t7⟩ := t6.cons_inv
  obtain rfl := t7.nil_inv
  obtain ⟨x0, rfl, _⟩ := h0.int_inv
  obtain ⟨x1, rfl, _⟩ := h1.int_inv
  obtain ⟨x2, rfl, _⟩ := h2.int_inv
  obtain ⟨x3, rfl, _⟩ := h3.int_inv
  obtain ⟨x4, rfl, _⟩ := h4.int_inv
  obtain ⟨x5, rfl, _⟩ := h5.int_inv
  obtain ⟨x7, rfl, _⟩ := h7.int_inv
  exact ⟨⟨x0, (x1, x2), (x3, x4, x5), b6, x7⟩, rfl⟩
theorem acts8_of {cells : List AV} (h : TypL [.sl [.i .i64, .i .u64, .i .u64, .i .u32, .i .u32, .i .u64, .sl [.i .u8], .i .u64]] cells) : ∃ A : List Act8, cells = [.imm 8 (A.map encA8)] := by
  obtain ⟨v, vs, rfl, h1, h2⟩ := h.cons_inv
  obtain rfl := h2.nil_inv
  obtain ⟨c, rfl, _, hc⟩ := h1.sl_inv
  obtain ⟨l, rfl⟩ := map_of (f := encA8) (fun _ => act8_of) hc
  exact ⟨l, rfl⟩
theorem top_LockPlays (c0 : List AV) (t0 : TypL [.b] c0) (c1 : List AV) (t1 : TypL [.sl [.i .i64, .i .u64, .i .u64, .i .u32, .i .u32, .i .u64, .sl [.i .u8], .i .u64]] c1) :
    AE Try.prog 10 [c0.headD .nilp, c1.headD .nilp] noHeap (.bool true) noHeap := by
  obtain ⟨v, rfl⟩ := bool_of8 t0
  obtain ⟨A, rfl⟩ := acts8_of t1
  cases v with
  | true => exact law8_LockPlaysI_ae A noHeap
  | false => exact law8_LockPlaysR_ae A noHeap
end Go.Proofs.Ytlddahcgaonlhaa
