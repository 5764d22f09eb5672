/- OracleBlind. -/
import Derived.Test.YtnihcakkhillcaaF13
import Derived.Test.YtnihcakkhillcaaA33
namespace Go.Proofs.Ytnihcakkhillcaa
open Go Go.Abs

theorem oracle_New_ae2 {h : AHeap} {nx : Nat} (hn : h.next = nx) : AE Try.prog 14 [] h (.ptr (nx + 1) 0 0) (newO h) := by subst hn; exact oracle_New_ae h
theorem newO_ex2 {h : AHeap} {nx : Nat} (hn : h.next = nx) : ∃ h1, newO h = h1 ∧ OrAt h1 (nx + 1) (nx + 2) nx 0 [] [] ∧ h1.next = nx + 3 ∧ (∀ id, id < nx → h1.get id = h.get id) ∧ ∀ h0 : AHeap, Keeps h0 h → Keeps h0 h1 := by
  subst hn
  obtain ⟨h1, a, b, c, d, e⟩ := newO_ex h
  exact ⟨h1, a, b, c _ rfl, d, e⟩

set_option maxHeartbeats 4000000 in
theorem law7_OracleBlind_ae (k : Pr) (n : Nn) (a b : Bs) (h : AHeap) : AE Try.prog 4 [.agg (encP k), .agg (encN n), .imm 1 (a.map encB), .imm 1 (b.map encB)] h (.bool true) h := by
  refine AE.pureW is_law7_OracleBlind (by simp) ?_
  unfold c_law7_OracleBlind
  (refine go ?_)
  (apply WL.orB; exact rfl; exact rfl; exact rfl; exact BP.of; intro hz1)
  · (repeat first | (apply GW.goS; exact Stp.auto) | apply GW.nil | exact rfl)
  (refine go ?_)
  (refine WW.ifB rfl (fun hz2 => ?_) (fun hz2 => ?_))
  · (refine go ?_)
    refine WW.ret (PureQ.finD ?_)
    exact fz_b rfl
  have ha : a.length ≤ 200 ∧ a.length ≤ b.length := by simp at hz2; omega
  (refine go ?_)
  refine WL.call rfl (by first | exact True.intro | exact rfl) (by repeat first | exact SubL.nil | refine SubL.cons (SubV.refl _) ?_ | refine SubL.cons SubV.app ?_ | refine SubL.cons SubV.nil ?_) (oracle_New_ae2 (nx := h.next + 2) (by repeat first | with_reducible apply next_putE | with_reducible apply next_setE | assumption | exact rfl)) ?_
  obtain ⟨h1, e1, o1, n1, m1, k1⟩ := newO_ex2 (h := (h.put h.next (.mem 2 [[.int .u64 k.1, .int .u64 k.2]])).put (h.next + 1) (.mem 3 [[.int .u32 n.1, .int .u32 n.2.1, .int .u64 n.2.2]])) (nx := h.next + 2) (by repeat first | with_reducible apply next_putE | with_reducible apply next_setE | assumption | exact rfl)
  have p1 : h1.get h.next = some (.mem 2 [encP k]) := (m1 _ (by omega)).trans (by repeat first | with_reducible exact get_put_same | with_reducible exact get_set_same | assumption | with_reducible apply get_put_neE (by omega) | with_reducible apply get_set_neE (by omega) | exact get_put_same | exact get_set_same)
  have p2 : h1.get (h.next + 1) = some (.mem 3 [encN n]) := (m1 _ (by omega)).trans (by repeat first | with_reducible exact get_put_same | with_reducible exact get_set_same | assumption | with_reducible apply get_put_neE (by omega) | with_reducible apply get_set_neE (by omega) | exact get_put_same | exact get_set_same)
  replace k1 := k1 h (by repeat first | with_reducible exact Keeps.refl _ | with_reducible refine Keeps.put ?_ (by omega) _ | with_reducible refine Keeps.set ?_ (by omega) _ | assumption)
  rw [e1]
  refine WL.call rfl (by first | exact True.intro | exact rfl) (by repeat first | exact SubL.nil | refine SubL.cons (SubV.refl _) ?_ | refine SubL.cons SubV.app ?_ | refine SubL.cons SubV.nil ?_) (oracle_New_ae2 (nx := h.next + 5) n1) ?_
  obtain ⟨h2, e2, o2, n2, m2, k2⟩ := newO_ex2 (h := h1) (nx := h.next + 5) n1
  have p3 : h2.get h.next = some (.mem 2 [encP k]) := (m2 _ (by omega)).trans p1
  have p4 : h2.get (h.next + 1) = some (.mem 3 [encN n]) := (m2 _ (by omega)).trans p2
  have o3 : OrAt h2 (h.next + 3) (h.next + 4) (h.next + 2) 0 [] [] := orAt_get o1 (m2 _ (by omega)) (m2 _ (by omega)) (m2 _ (by omega))
  replace k2 := k2 h k1
  rw [e2]
  (refine go ?_)
  refine WW.loopE (fun (i : Nat) => [(2, some (.imm 1 (a.map encB))), (3, some (.imm 1 (b.map encB))), (4, some (.ptr h.next 0 0)), (5, some (.ptr (h.next + 1) 0 0)), (9, some (.ptr (h.next + 3) 0 0)), (10, some (.ptr (h.next + 6) 0 0)), (11, some (.int .i64 i))])
    (fun i h' => h'.get h.next = some (.mem 2 [encP k]) ∧ h'.get (h.next + 1) = some (.mem 3 [encN n]) ∧ (∃ LA : List Iss, LA.length = i ∧ OrAt h' (h.next + 3) (h.next + 4) (h.next + 2) 0 LA []) ∧ (∃ LB : List Iss, LB.length = i ∧ OrAt h' (h.next + 6) (h.next + 7) (h.next + 5) 0 LB []) ∧ h.next + 8 ≤ h'.next ∧ Keeps h h' ∧ i ≤ 3) (fun i => 3 - i) 0 (by repeat first | exact subE.nil _ | (apply subE.cons; focus (first | exact rfl | (simp [lk_cons]; done) | (simp [lk_cons]; omega)))) ⟨p3, p4, ⟨[], rfl, o3⟩, ⟨[], rfl, o2⟩, by omega, k2, by omega⟩ ?_
  rintro i h' ⟨g1, g2, ⟨LA, la, oA⟩, ⟨LB, lb, oB⟩, g3, g4, g5⟩
  clear p1 p2 p3 p4 o1 o2 o3 k1 k2 m1 m2 n1 n2 e1 e2
  obtain ⟨nx, hnx⟩ : ∃ nx, h'.next = nx := ⟨_, rfl⟩
  (refine go ?_)
  (refine WW.ifB rfl (fun hz3 => ?_) (fun hz3 => ?_))
  · (refine go ?_)
    refine WL.call rfl (by first | exact True.intro | exact rfl) (by repeat first | exact SubL.nil | refine SubL.cons (SubV.refl _) ?_ | refine SubL.cons SubV.app ?_ | refine SubL.cons SubV.nil ?_) (oracle_Seal_ae oA (by omega) k n [] a (by simp) (by omega)) ?_
    obtain ⟨h3, e3, oA3, n3, m3, k3⟩ := sealed oA k n [] a
    replace n3 := n3 _ hnx
    replace k3 := k3 h g4 (by omega) (by omega)
    have g13 : h3.get h.next = some (.mem 2 [encP k]) := (m3 _ (by omega) (by omega)).trans g1
    have g23 : h3.get (h.next + 1) = some (.mem 3 [encN n]) := (m3 _ (by omega) (by omega)).trans g2
    have oB3 : OrAt h3 (h.next + 6) (h.next + 7) (h.next + 5) 0 LB [] := orAt_get oB (m3 _ (by omega) (by omega)) (m3 _ (by omega) (by omega)) (m3 _ (by omega) (by omega))
    rw [e3, la]
    (repeat first | refine WL.go ?_ | refine WW.seq ?_ | refine WW.reg ?_ | refine WL.nil ?_ | refine WW.skip ?_ | refine WW.block ?_ | refine WW.exit ?_ | refine WW.condT rfl ?_ | refine WW.condF rfl ?_ | refine WL.gox ?_ | refine thenN ?_ | refine blkN ?_)
    refine WW.named (fun hX => hX.get h.next = some (.mem 2 [encP k]) ∧ hX.get (h.next + 1) = some (.mem 3 [encN n]) ∧ hX.get nx = some (.mem 3 [encS (newI (i + 1) k n [] a).out (newI (i + 1) k n [] a).tag]) ∧
      OrAt hX (h.next + 3) (h.next + 4) (h.next + 2) 0 (LA ++ [newI (LA.length + 1) k n [] a]) [] ∧ OrAt hX (h.next + 6) (h.next + 7) (h.next + 5) 0 LB [] ∧ hX.next = nx + 1 ∧ Keeps h hX)
      ⟨(by repeat first | with_reducible exact get_put_same | with_reducible exact get_set_same | assumption | with_reducible apply get_put_neE (by omega) | with_reducible apply get_set_neE (by omega) | with_reducible apply get_keepE | exact get_put_same | exact get_set_same), (by repeat first | with_reducible exact get_put_same | with_reducible exact get_set_same | assumption | with_reducible apply get_put_neE (by omega) | with_reducible apply get_set_neE (by omega) | with_reducible apply get_keepE | exact get_put_same | exact get_set_same), (by repeat first | with_reducible exact get_put_same | with_reducible exact get_set_same | assumption | with_reducible apply get_put_neE (by omega) | with_reducible apply get_set_neE (by omega) | with_reducible apply get_keepE | exact get_put_same | exact get_set_same), (orAt_get oA3 (by repeat first | with_reducible apply get_put_neE (by omega) | with_reducible apply get_set_neE (by omega) | with_reducible apply get_keepE | exact rfl) (by repeat first | with_reducible apply get_put_neE (by omega) | with_reducible apply get_set_neE (by omega) | with_reducible apply get_keepE | exact rfl) (by repeat first | with_reducible apply get_put_neE (by omega) | with_reducible apply get_set_neE (by omega) | with_reducible apply get_keepE | exact rfl)), (orAt_get oB3 (by repeat first | with_reducible apply get_put_neE (by omega) | with_reducible apply get_set_neE (by omega) | with_reducible apply get_keepE | exact rfl) (by repeat first | with_reducible apply get_put_neE (by omega) | with_reducible apply get_set_neE (by omega) | with_reducible apply get_keepE | exact rfl) (by repeat first | with_reducible apply get_put_neE (by omega) | with_reducible apply get_set_neE (by omega) | with_reducible apply get_keepE | exact rfl)), next_setE (next_putE n3), (by repeat first | with_reducible exact Keeps.refl _ | with_reducible refine Keeps.put ?_ (by omega) _ | with_reducible refine Keeps.set ?_ (by omega) _ | with_reducible refine Keeps.keep ?_ | assumption)⟩ ?_
    rintro hX ⟨x1, x2, x3, x4, x5, x6, x7⟩
    have x8 : OrAt (hX.keep 1) (h.next + 6) (h.next + 7) (h.next + 5) 0 LB [] := ⟨x5.obj, x5.tok, x5.sums⟩
    have x9 := x5.sums
    refine WW.dregA [11] [7, 12] [7] [1, 2, 6] [h.next + 6, h.next + 7] (by repeat first | with_reducible apply next_putE | with_reducible apply next_setE | assumption | exact rfl) (by decide +kernel) ?_
    (repeat first | refine DA.go ?_ | refine DA.goF ?_ | refine DA.new ?_ | refine DA.set ?_ | refine DA.endL ?_ | refine thenN ?_ | refine blkN ?_)
    rw [List.drop_zero, ← List.map_take]
    refine DA.callSS (i1 := h.next + 7) (i2 := h.next + 6) rfl (by first | exact True.intro | exact rfl) (by repeat first | exact SubL.nil | refine SubL.cons (SubV.refl _) ?_ | refine SubL.cons SubV.app ?_ | refine SubL.cons SubV.nil ?_) rfl rfl rfl (fun _ hp => PhiW.setW (by simp) (PhiW.setW (by simp) hp)) ⟨by omega, by omega⟩ (fun h5 hs => oracle_Seal_ae (orAt_get x8 (hs.2 _ (by omega)) (hs.2 _ (by omega)) (hs.2 _ (by omega))) (by omega) k n [] (b.take a.length) (by simp) (by simp; omega)) ?_
    (repeat first | refine DA.go ?_ | refine DA.goF ?_ | refine DA.new ?_ | refine DA.set ?_ | refine DA.endL ?_ | refine thenN ?_ | refine blkN ?_)
    refine WW.named (fun h5 => h5.get h.next = some (.mem 2 [encP k]) ∧ h5.get (h.next + 1) = some (.mem 3 [encN n]) ∧ h5.get nx = some (.mem 3 [encS (newI (i + 1) k n [] a).out (newI (i + 1) k n [] a).tag]) ∧ h5.get (nx + 1) = some (.mem 3 [encS (newI (LB.length + 1) k n [] (b.take a.length)).out (newI (LB.length + 1) k n [] (b.take a.length)).tag]) ∧
      OrAt h5 (h.next + 3) (h.next + 4) (h.next + 2) 0 (LA ++ [newI (LA.length + 1) k n [] a]) [] ∧ OrAt h5 (h.next + 6) (h.next + 7) (h.next + 5) 0 (LB ++ [newI (LB.length + 1) k n [] (b.take a.length)]) [] ∧ h5.next = nx + 2 ∧ Keeps h h5)
      ⟨(by repeat first | with_reducible exact get_put_same | with_reducible exact get_set_same | assumption | with_reducible apply get_put_neE (by omega) | with_reducible apply get_set_neE (by omega) | with_reducible apply get_keepE | exact get_put_same | exact get_set_same), (by repeat first | with_reducible exact get_put_same | with_reducible exact get_set_same | assumption | with_reducible apply get_put_neE (by omega) | with_reducible apply get_set_neE (by omega) | with_reducible apply get_keepE | exact get_put_same | exact get_set_same), (by repeat first | with_reducible exact get_put_same | with_reducible exact get_set_same | assumption | with_reducible apply get_put_neE (by omega) | with_reducible apply get_set_neE (by omega) | with_reducible apply get_keepE | exact get_put_same | exact get_set_same), (by repeat first | with_reducible exact get_put_same | with_reducible exact get_set_same | assumption | with_reducible apply get_put_neE (by omega) | with_reducible apply get_set_neE (by omega) | with_reducible apply get_keepE | exact get_put_same | exact get_set_same), (orAt_get x4 (by repeat first | with_reducible apply get_put_neE (by omega) | with_reducible apply get_set_neE (by omega) | with_reducible apply get_keepE | exact rfl) (by repeat first | with_reducible apply get_put_neE (by omega) | with_reducible apply get_set_neE (by omega) | with_reducible apply get_keepE | exact rfl) (by repeat first | with_reducible apply get_put_neE (by omega) | with_reducible apply get_set_neE (by omega) | with_reducible apply get_keepE | exact rfl)), ⟨(by repeat first | with_reducible exact get_put_same | with_reducible exact get_set_same | assumption | with_reducible apply get_put_neE (by omega) | with_reducible apply get_set_neE (by omega) | with_reducible apply get_keepE | exact get_put_same | exact get_set_same), (by repeat first | exact get_set_tl (by first | rfl | exact List.length_map _ | (simp; done) | (simp; omega)) | exact get_put_tl (by first | rfl | exact List.length_map _ | (simp; done) | (simp; omega)) | assumption | with_reducible apply get_put_neE (by omega) | with_reducible apply get_set_neE (by omega) | with_reducible apply get_keepE), (by repeat first | with_reducible exact get_put_same | with_reducible exact get_set_same | assumption | with_reducible apply get_put_neE (by omega) | with_reducible apply get_set_neE (by omega) | with_reducible apply get_keepE | exact get_put_same | exact get_set_same)⟩, next_setE (next_putK (by omega) (next_setE (next_setE (next_keepE x6)))), (by repeat first | with_reducible exact Keeps.refl _ | with_reducible refine Keeps.put ?_ (by omega) _ | with_reducible refine Keeps.set ?_ (by omega) _ | with_reducible refine Keeps.keep ?_ | assumption)⟩ ?_
    rintro h5 ⟨r1, r2, r3, r4, r5, r6, r7, r8⟩
    (refine go ?_)
    have q1 : (newI (LB.length + 1) k n [] (b.take a.length)).out = (newI (i + 1) k n [] a).out := by
      rw [lb]; simp only [newI]; rw [List.length_take, Nat.min_eq_left ha.2]
    have q2 : (newI (LB.length + 1) k n [] (b.take a.length)).tag = (newI (i + 1) k n [] a).tag := by rw [lb]; rfl
    rw [q1, q2]
    refine WL.call rfl (by first | exact True.intro | exact rfl) (by repeat first | exact SubL.nil | refine SubL.cons (SubV.refl _) ?_ | refine SubL.cons SubV.app ?_ | refine SubL.cons SubV.nil ?_) (ref5_Same_ae (newI (i + 1) k n [] a).out (newI (i + 1) k n [] a).out (newI (i + 1) k n [] a).tag (newI (i + 1) k n [] a).tag _) ?_
    rw [show ((newI (i + 1) k n [] a).out == (newI (i + 1) k n [] a).out && (newI (i + 1) k n [] a).tag == (newI (i + 1) k n [] a).tag) = true by simp]
    (refine go ?_)
    refine ⟨i + 1, (by repeat first | exact subE.nil _ | (apply subE.cons; focus (first | exact rfl | (simp [lk_cons]; done) | (simp [lk_cons]; omega)))), ⟨r1, r2, ⟨_, by simp [la], r5⟩, ⟨_, by simp [lb], r6⟩, by omega, r8, by omega⟩, by omega⟩
  · (refine go ?_)
    refine WL.call rfl (by first | exact True.intro | exact rfl) (by repeat first | exact SubL.nil | refine SubL.cons (SubV.refl _) ?_ | refine SubL.cons SubV.app ?_ | refine SubL.cons SubV.nil ?_) (law7_known_ae _) ?_
    (refine go ?_)
    refine WW.ret (PureQ.finD ?_)
    exact fz_b rfl
end Go.Proofs.Ytnihcakkhillcaa
