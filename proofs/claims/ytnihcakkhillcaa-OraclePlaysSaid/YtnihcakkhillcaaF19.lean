/- OraclePlays: one sealing in both. -/
import Derived.Test.YtnihcakkhillcaaF18
import Derived.Test.YtnihcakkhillcaaF14
namespace Go.Proofs.Ytnihcakkhillcaa
open Go Go.Abs

theorem refAt_get {h h2 : AHeap} {o t1 t2 g1 g2 : Nat} {L : List Iss} {S : List Bs} (hO : RefAt h o t1 t2 g1 g2 L S) (h1 : h2.get o = h.get o) (h3 : h2.get t1 = h.get t1) (h4 : h2.get t2 = h.get t2) : RefAt h2 o t1 t2 g1 g2 L S :=
  ⟨h1.trans hO.obj, h3.trans hO.tok1, h4.trans hO.tok2, hO.ne⟩

set_option maxHeartbeats 8000000 in
theorem law7_OraclePlays_ae (A : List Act7) (h : AHeap) : AE Try.prog 8 [.imm 10 (A.map encA)] h (.bool true) h := by
  refine AE.pureW is_law7_OraclePlays (by simp) ?_
  unfold c_law7_OraclePlays
  obtain ⟨lb, hlong, hshort⟩ := law7_long_ae A h
  (refine go ?_)
  refine WL.call rfl (by first | exact True.intro | exact rfl) (by repeat first | exact SubL.nil | refine SubL.cons (SubV.refl _) ?_ | refine SubL.cons SubV.app ?_ | refine SubL.cons SubV.nil ?_) (hlong) ?_
  (refine go ?_)
  (refine WW.ifB rfl (fun hz1 => ?_) (fun hz1 => ?_))
  · (refine go ?_)
    refine WW.ret (PureQ.finD ?_)
    exact fz_b rfl
  obtain ⟨hA, hs⟩ := hshort hz1
  (refine go ?_)
  refine WL.call rfl (by first | exact True.intro | exact rfl) (by repeat first | exact SubL.nil | refine SubL.cons (SubV.refl _) ?_ | refine SubL.cons SubV.app ?_ | refine SubL.cons SubV.nil ?_) (oracle_New_ae2 (nx := h.next) rfl) ?_
  obtain ⟨h1, e1, o1, n1, m1, k1⟩ := newO_ex2 (h := h) (nx := h.next) rfl
  replace k1 := k1 h (Keeps.refl _)
  rw [e1]
  (refine go ?_)
  refine WW.cvt (Cvt.adoptM (id := h.next + 3) (i := 0) (j := 0) (nx := h.next + 4) 10 (by repeat first | with_reducible exact get_put_same | with_reducible exact get_set_same | assumption | with_reducible apply get_put_neE (by omega) | with_reducible apply get_set_neE (by omega) | exact get_put_same | exact get_set_same) rfl rfl (by repeat first | with_reducible apply next_putE | with_reducible apply next_setE | assumption | exact rfl)) ?_
  refine WW.cvt (Cvt.adoptM (id := h.next + 3) (i := 0) (j := 1) (nx := h.next + 5) 1 (by repeat first | with_reducible exact get_put_same | with_reducible exact get_set_same | assumption | with_reducible apply get_put_neE (by omega) | with_reducible apply get_set_neE (by omega) | exact get_put_same | exact get_set_same) rfl rfl (by repeat first | with_reducible apply next_putE | with_reducible apply next_setE | assumption | exact rfl)) ?_
  refine WW.loopE (fun (i : Nat) => [(0, some (.imm 10 (A.map encA))), (3, some (.ptr (h.next + 1) 0 0)), (4, some (.ptr (h.next + 3) 0 0)), (5, some (.int .i64 i))])
    (fun i h' => ∃ (L : List Iss) (S : List Bs), OrAt h' (h.next + 1) (h.next + 2) h.next 0 L S ∧ RefAt h' (h.next + 3) (h.next + 4) (h.next + 5) 0 0 L S ∧ L.length ≤ i ∧ S.length ≤ i ∧ (∀ x ∈ L, x.head.length ≤ 100 ∧ x.data.length ≤ 100 ∧ x.out.length ≤ 100) ∧ h.next + 6 ≤ h'.next ∧ Keeps h h' ∧ i ≤ A.length) (fun i => A.length - i) 0 (by repeat first | exact subE.nil _ | (apply subE.cons; focus (first | exact rfl | (simp [lk_cons]; done) | (simp [lk_cons]; omega))))
    ⟨[], [], (orAt_get o1 (by repeat first | with_reducible apply get_put_neE (by omega) | with_reducible apply get_set_neE (by omega) | with_reducible apply get_keepE | exact rfl) (by repeat first | with_reducible apply get_put_neE (by omega) | with_reducible apply get_set_neE (by omega) | with_reducible apply get_keepE | exact rfl) (by repeat first | with_reducible apply get_put_neE (by omega) | with_reducible apply get_set_neE (by omega) | with_reducible apply get_keepE | exact rfl)), ⟨(by repeat first | with_reducible exact get_put_same | with_reducible exact get_set_same | assumption | with_reducible apply get_put_neE (by omega) | with_reducible apply get_set_neE (by omega) | exact get_put_same | exact get_set_same), (by repeat first | with_reducible exact get_put_same | with_reducible exact get_set_same | assumption | with_reducible apply get_put_neE (by omega) | with_reducible apply get_set_neE (by omega) | exact get_put_same | exact get_set_same), (by repeat first | with_reducible exact get_put_same | with_reducible exact get_set_same | assumption | with_reducible apply get_put_neE (by omega) | with_reducible apply get_set_neE (by omega) | exact get_put_same | exact get_set_same), by omega⟩, Nat.le_refl _, Nat.le_refl _, by simp, (leN (by repeat first | with_reducible apply next_putE | with_reducible apply next_setE | assumption | exact rfl) (by omega)), (by repeat first | with_reducible exact Keeps.refl _ | with_reducible refine Keeps.put ?_ (by omega) _ | with_reducible refine Keeps.set ?_ (by omega) _ | assumption), Nat.zero_le _⟩ ?_
  rintro i h' ⟨L, S, oA, rA, l1, l2, l3, g1, g2, g3⟩
  clear hlong hshort e1 o1 n1 m1 k1
  obtain ⟨nx, hnx⟩ : ∃ nx, h'.next = nx := ⟨_, rfl⟩
  (refine go ?_)
  (refine WW.ifB rfl (fun hz2 => ?_) (fun hz2 => ?_))
  · have hi : i < A.length := by omega
    have hsi := hs _ (List.getElem_mem hi)
    (refine go ?_)
    have hX : ∃ hX, (h'.put nx (.mem 10 [[.int .i64 0, .int .u64 0, .int .u64 0, .int .u32 0, .int .u32 0, .int .u64 0, .nils, .nils, .int .i64 0, .int .u64 0]])).set nx (some (.mem 10 [encA A[i]])) = hX ∧ hX.get nx = some (.mem 10 [encA A[i]]) ∧ OrAt hX (h.next + 1) (h.next + 2) h.next 0 L S ∧ RefAt hX (h.next + 3) (h.next + 4) (h.next + 5) 0 0 L S ∧ hX.next = nx + 1 ∧ Keeps h hX :=
      ⟨_, rfl, get_set_same, (orAt_get oA (by repeat first | with_reducible apply get_put_neE (by omega) | with_reducible apply get_set_neE (by omega) | with_reducible apply get_keepE | exact rfl) (by repeat first | with_reducible apply get_put_neE (by omega) | with_reducible apply get_set_neE (by omega) | with_reducible apply get_keepE | exact rfl) (by repeat first | with_reducible apply get_put_neE (by omega) | with_reducible apply get_set_neE (by omega) | with_reducible apply get_keepE | exact rfl)), refAt_get rA (by repeat first | with_reducible apply get_put_neE (by omega) | with_reducible apply get_set_neE (by omega) | with_reducible apply get_keepE | exact rfl) (by repeat first | with_reducible apply get_put_neE (by omega) | with_reducible apply get_set_neE (by omega) | with_reducible apply get_keepE | exact rfl) (by repeat first | with_reducible apply get_put_neE (by omega) | with_reducible apply get_set_neE (by omega) | with_reducible apply get_keepE | exact rfl), next_setE (next_putE hnx), (by repeat first | with_reducible exact Keeps.refl _ | with_reducible refine Keeps.put ?_ (by omega) _ | with_reducible refine Keeps.set ?_ (by omega) _ | assumption)⟩
    obtain ⟨hX, x0, x1, x2, x3, x4, x5⟩ := hX
    simp only [encA] at x0
    rw [x0]
    (refine WW.ifB rfl (fun hz3 => ?_) (fun hz3 => ?_))
    · (refine go ?_)
      refine WL.call rfl (by first | exact True.intro | exact rfl) (by repeat first | exact SubL.nil | refine SubL.cons (SubV.refl _) ?_ | refine SubL.cons SubV.app ?_ | refine SubL.cons SubV.nil ?_) (oracle_Seal_ae x2 (by omega) A[i].key A[i].n A[i].head A[i].data (by omega) (by omega)) ?_
      obtain ⟨h3, e3, oA3, n3, m3, k3⟩ := sealed x2 A[i].key A[i].n A[i].head A[i].data
      replace n3 := n3 _ x4
      replace k3 := k3 h x5 (by omega) (by omega)
      have y1 : h3.get nx = some (.mem 10 [encA A[i]]) := (m3 _ (by omega) (by omega)).trans x1
      have y2 : RefAt h3 (h.next + 3) (h.next + 4) (h.next + 5) 0 0 L S := refAt_get x3 (m3 _ (by omega) (by omega)) (m3 _ (by omega) (by omega)) (m3 _ (by omega) (by omega))
      rw [e3]
      generalize hx : newI (L.length + 1) A[i].key A[i].n A[i].head A[i].data = x at *
      have hxl : x.head.length ≤ 100 ∧ x.data.length ≤ 100 ∧ x.out.length ≤ 100 := by
        subst hx; simp only [newI, sealB, rep_len]; omega
      (refine go ?_)
      have hcon := ref7_Seal_ae (refAt_get (h2 := (h3.put (nx + 1) (.mem 3 [[.nils, .int .u64 0, .int .u64 0]])).set (nx + 1) (some (.mem 3 [encS x.out x.tag]))) y2 (by repeat first | with_reducible apply get_put_neE (by omega) | with_reducible apply get_set_neE (by omega) | with_reducible apply get_keepE | exact rfl) (by repeat first | with_reducible apply get_put_neE (by omega) | with_reducible apply get_set_neE (by omega) | with_reducible apply get_keepE | exact rfl) (by repeat first | with_reducible apply get_put_neE (by omega) | with_reducible apply get_set_neE (by omega) | with_reducible apply get_keepE | exact rfl)) (by omega) A[i].key A[i].n A[i].head A[i].data (by omega) (by omega)
      rw [hx] at hcon
      refine WL.call rfl (by first | exact True.intro | exact rfl) (by repeat first | exact SubL.nil | refine SubL.cons (SubV.refl _) ?_ | refine SubL.cons SubV.app ?_ | refine SubL.cons SubV.nil ?_) (hcon) ?_
      (refine go ?_)
      refine WL.call rfl (by first | exact True.intro | exact rfl) (by repeat first | exact SubL.nil | refine SubL.cons (SubV.refl _) ?_ | refine SubL.cons SubV.app ?_ | refine SubL.cons SubV.nil ?_) (ref5_Same_ae x.out x.out x.tag x.tag _) ?_
      rw [show (x.out == x.out && x.tag == x.tag) = true by simp]
      (refine go ?_)
      have z1 := y2.tok2
      refine ⟨i + 1, (by repeat first | exact subE.nil _ | (apply subE.cons; focus (first | exact rfl | (simp [lk_cons]; done) | (simp [lk_cons]; omega)))), ⟨L ++ [x], S, (orAt_get oA3 (by repeat first | with_reducible apply get_put_neE (by omega) | with_reducible apply get_set_neE (by omega) | with_reducible apply get_keepE | exact rfl) (by repeat first | with_reducible apply get_put_neE (by omega) | with_reducible apply get_set_neE (by omega) | with_reducible apply get_keepE | exact rfl) (by repeat first | with_reducible apply get_put_neE (by omega) | with_reducible apply get_set_neE (by omega) | with_reducible apply get_keepE | exact rfl)), ⟨(by repeat first | with_reducible exact get_put_same | with_reducible exact get_set_same | assumption | with_reducible apply get_put_neE (by omega) | with_reducible apply get_set_neE (by omega) | exact get_put_same | exact get_set_same), (by repeat first | exact get_set_tl (by first | rfl | exact List.length_map _ | (simp; done) | (simp; omega)) | exact get_put_tl (by first | rfl | exact List.length_map _ | (simp; done) | (simp; omega)) | assumption | with_reducible apply get_put_neE (by omega) | with_reducible apply get_set_neE (by omega) | with_reducible apply get_keepE), (by repeat first | with_reducible exact get_put_same | with_reducible exact get_set_same | assumption | with_reducible apply get_put_neE (by omega) | with_reducible apply get_set_neE (by omega) | exact get_put_same | exact get_set_same), by omega⟩, by simp; omega, by omega, ?_, leN (by repeat first | with_reducible apply next_putE | with_reducible apply next_setE | assumption | exact rfl) (by omega), (by repeat first | with_reducible exact Keeps.refl _ | with_reducible refine Keeps.put ?_ (by omega) _ | with_reducible refine Keeps.set ?_ (by omega) _ | assumption), by omega⟩, by omega⟩
      intro y hy
      rcases List.mem_append.1 hy with hy | hy
      · exact l3 y hy
      · rw [List.mem_singleton] at hy; subst hy; exact hxl
    · (refine go ?_)
      (refine WW.ifB rfl (fun hz4 => ?_) (fun hz4 => ?_))
      · (refine go ?_)
        refine WW.named (fun h3 => h3.get nx = some (.mem 10 [encA A[i]]) ∧ h3.get (nx + 1) = some (.mem 3 [encS A[i].data (0, 0)]) ∧ OrAt h3 (h.next + 1) (h.next + 2) h.next 0 L S ∧ RefAt h3 (h.next + 3) (h.next + 4) (h.next + 5) 0 0 L S ∧ h3.next = nx + 2 ∧ Keeps h h3)
          ⟨(by repeat first | with_reducible exact get_put_same | with_reducible exact get_set_same | assumption | with_reducible apply get_put_neE (by omega) | with_reducible apply get_set_neE (by omega) | exact get_put_same | exact get_set_same), (by repeat first | with_reducible exact get_put_same | with_reducible exact get_set_same | assumption | with_reducible apply get_put_neE (by omega) | with_reducible apply get_set_neE (by omega) | exact get_put_same | exact get_set_same), (orAt_get x2 (by repeat first | with_reducible apply get_put_neE (by omega) | with_reducible apply get_set_neE (by omega) | with_reducible apply get_keepE | exact rfl) (by repeat first | with_reducible apply get_put_neE (by omega) | with_reducible apply get_set_neE (by omega) | with_reducible apply get_keepE | exact rfl) (by repeat first | with_reducible apply get_put_neE (by omega) | with_reducible apply get_set_neE (by omega) | with_reducible apply get_keepE | exact rfl)), refAt_get x3 (by repeat first | with_reducible apply get_put_neE (by omega) | with_reducible apply get_set_neE (by omega) | with_reducible apply get_keepE | exact rfl) (by repeat first | with_reducible apply get_put_neE (by omega) | with_reducible apply get_set_neE (by omega) | with_reducible apply get_keepE | exact rfl) (by repeat first | with_reducible apply get_put_neE (by omega) | with_reducible apply get_set_neE (by omega) | with_reducible apply get_keepE | exact rfl), next_setE (next_putE x4), (by repeat first | with_reducible exact Keeps.refl _ | with_reducible refine Keeps.put ?_ (by omega) _ | with_reducible refine Keeps.set ?_ (by omega) _ | assumption)⟩ ?_
        clear x0 x1 x2 x3 x4 x5
        rintro h3 ⟨y1, y2, y3, y4, y5, y6⟩
        refine WW.dregA [6, 7] [8, 9] [] [1, 3, 5] [] (by repeat first | with_reducible apply next_putE | with_reducible apply next_setE | assumption | exact rfl) (by decide +kernel) ?_
        (repeat first | refine DA.go ?_ | refine DA.goF ?_ | refine DA.new ?_ | refine DA.set ?_ | refine DA.endL ?_ | refine thenN ?_ | refine blkN ?_)
        refine WW.named (fun h4 => h4.get nx = some (.mem 10 [encA A[i]]) ∧ h4.get (nx + 1) = some (.mem 3 [encS A[i].data (0, 0)]) ∧ h4.get (nx + 2) = some (.mem 2 [encP A[i].key]) ∧ h4.get (nx + 3) = some (.mem 3 [encN A[i].n]) ∧ OrAt h4 (h.next + 1) (h.next + 2) h.next 0 L S ∧ RefAt h4 (h.next + 3) (h.next + 4) (h.next + 5) 0 0 L S ∧ h4.next = nx + 4 ∧ Keeps h h4)
          ⟨(by repeat first | with_reducible exact get_put_same | with_reducible exact get_set_same | assumption | with_reducible apply get_put_neE (by omega) | with_reducible apply get_set_neE (by omega) | with_reducible apply get_keepE | exact get_put_same | exact get_set_same), (by repeat first | with_reducible exact get_put_same | with_reducible exact get_set_same | assumption | with_reducible apply get_put_neE (by omega) | with_reducible apply get_set_neE (by omega) | with_reducible apply get_keepE | exact get_put_same | exact get_set_same), (by repeat first | with_reducible exact get_put_same | with_reducible exact get_set_same | assumption | with_reducible apply get_put_neE (by omega) | with_reducible apply get_set_neE (by omega) | with_reducible apply get_keepE | exact get_put_same | exact get_set_same), (by repeat first | with_reducible exact get_put_same | with_reducible exact get_set_same | assumption | with_reducible apply get_put_neE (by omega) | with_reducible apply get_set_neE (by omega) | with_reducible apply get_keepE | exact get_put_same | exact get_set_same), (orAt_get y3 (by repeat first | with_reducible apply get_put_neE (by omega) | with_reducible apply get_set_neE (by omega) | with_reducible apply get_keepE | exact rfl) (by repeat first | with_reducible apply get_put_neE (by omega) | with_reducible apply get_set_neE (by omega) | with_reducible apply get_keepE | exact rfl) (by repeat first | with_reducible apply get_put_neE (by omega) | with_reducible apply get_set_neE (by omega) | with_reducible apply get_keepE | exact rfl)), refAt_get y4 (by repeat first | with_reducible apply get_put_neE (by omega) | with_reducible apply get_set_neE (by omega) | with_reducible apply get_keepE | exact rfl) (by repeat first | with_reducible apply get_put_neE (by omega) | with_reducible apply get_set_neE (by omega) | with_reducible apply get_keepE | exact rfl) (by repeat first | with_reducible apply get_put_neE (by omega) | with_reducible apply get_set_neE (by omega) | with_reducible apply get_keepE | exact rfl), next_setE (next_setE (next_putK (by omega) (next_putK (by omega) (next_keepE y5)))), (by repeat first | with_reducible exact Keeps.refl _ | with_reducible refine Keeps.put ?_ (by omega) _ | with_reducible refine Keeps.set ?_ (by omega) _ | with_reducible refine Keeps.keep ?_ | assumption)⟩ ?_
        clear y1 y2 y3 y4 y5 y6
        rintro h4 ⟨y1, y2, y3, y4, y5, y6, y7, y8⟩
        refine WW.seqM (fun e5 h5 => subE [(0, some (.imm 10 (A.map encA))), (3, some (.ptr (h.next + 1) 0 0)), (4, some (.ptr (h.next + 3) 0 0)), (5, some (.int .i64 i)), (11, some (.ptr (nx + 1) 0 0)), (12, some (.ptr (nx + 2) 0 0)), (13, some (.ptr (nx + 3) 0 0))] e5 ∧
          ∃ (k' : Pr) (n' : Nn) (hd b' : Bs) (tg : Pr), lk 14 e5 = some (.imm 1 (hd.map encB)) ∧ h5.get (nx + 1) = some (.mem 3 [encS b' tg]) ∧ h5.get (nx + 2) = some (.mem 2 [encP k']) ∧ h5.get (nx + 3) = some (.mem 3 [encN n']) ∧ OrAt h5 (h.next + 1) (h.next + 2) h.next 0 L S ∧ RefAt h5 (h.next + 3) (h.next + 4) (h.next + 5) 0 0 L S ∧ nx ≤ h5.next ∧ Keeps h h5) ?_ ?_
        · have r1 := y6.obj
          (refine go ?_)
          (refine DW.spB rfl (fun hz6 => ?_) (fun hz6 => ?_))
          · (refine go ?_)
            (refine WW.ifB rfl (fun hz7 => ?_) (fun hz7 => ?_))
            · have hlt : A[i].at7.toNat < L.length := by omega
              (repeat first | refine WL.go ?_ | refine WW.seq ?_ | refine WW.reg ?_ | refine WL.nil ?_ | refine WW.skip ?_ | refine WW.block ?_ | refine WW.exit ?_ | refine WW.condT rfl ?_ | refine WW.condF rfl ?_ | refine WL.gox ?_ | refine thenN ?_ | refine blkN ?_)
              refine WW.dregX [8, 9] [3, 5, 6, 7] [] (by repeat first | with_reducible apply next_putE | with_reducible apply next_setE | assumption | exact rfl) (by decide +kernel) ?_
              (refine go ?_)
              obtain ⟨x, hx⟩ : ∃ x, L[A[i].at7.toNat] = x := ⟨_, rfl⟩
              have hxl := l3 x (hx ▸ List.getElem_mem hlt)
              rw [hx]
              refine WW.named (fun h6 => h6.get nx = some (.mem 10 [encA A[i]]) ∧ h6.get (nx + 1) = some (.mem 3 [encS A[i].data (0, 0)]) ∧ h6.get (nx + 2) = some (.mem 2 [encP A[i].key]) ∧ h6.get (nx + 3) = some (.mem 3 [encN A[i].n]) ∧ h6.get (nx + 4) = some (.mem 10 [encI x]) ∧ OrAt h6 (h.next + 1) (h.next + 2) h.next 0 L S ∧ RefAt h6 (h.next + 3) (h.next + 4) (h.next + 5) 0 0 L S ∧ h6.next = nx + 5 ∧ Keeps h h6)
                ⟨(by repeat first | with_reducible exact get_put_same | with_reducible exact get_set_same | assumption | with_reducible apply get_put_neE (by omega) | with_reducible apply get_set_neE (by omega) | exact get_put_same | exact get_set_same), (by repeat first | with_reducible exact get_put_same | with_reducible exact get_set_same | assumption | with_reducible apply get_put_neE (by omega) | with_reducible apply get_set_neE (by omega) | exact get_put_same | exact get_set_same), (by repeat first | with_reducible exact get_put_same | with_reducible exact get_set_same | assumption | with_reducible apply get_put_neE (by omega) | with_reducible apply get_set_neE (by omega) | exact get_put_same | exact get_set_same), (by repeat first | with_reducible exact get_put_same | with_reducible exact get_set_same | assumption | with_reducible apply get_put_neE (by omega) | with_reducible apply get_set_neE (by omega) | exact get_put_same | exact get_set_same), (by repeat first | with_reducible exact get_put_same | with_reducible exact get_set_same | assumption | with_reducible apply get_put_neE (by omega) | with_reducible apply get_set_neE (by omega) | exact get_put_same | exact get_set_same), (orAt_get y5 (by repeat first | with_reducible apply get_put_neE (by omega) | with_reducible apply get_set_neE (by omega) | with_reducible apply get_keepE | exact rfl) (by repeat first | with_reducible apply get_put_neE (by omega) | with_reducible apply get_set_neE (by omega) | with_reducible apply get_keepE | exact rfl) (by repeat first | with_reducible apply get_put_neE (by omega) | with_reducible apply get_set_neE (by omega) | with_reducible apply get_keepE | exact rfl)), refAt_get y6 (by repeat first | with_reducible apply get_put_neE (by omega) | with_reducible apply get_set_neE (by omega) | with_reducible apply get_keepE | exact rfl) (by repeat first | with_reducible apply get_put_neE (by omega) | with_reducible apply get_set_neE (by omega) | with_reducible apply get_keepE | exact rfl) (by repeat first | with_reducible apply get_put_neE (by omega) | with_reducible apply get_set_neE (by omega) | with_reducible apply get_keepE | exact rfl), next_setE (next_putE y7), (by repeat first | with_reducible exact Keeps.refl _ | with_reducible refine Keeps.put ?_ (by omega) _ | with_reducible refine Keeps.set ?_ (by omega) _ | assumption)⟩ ?_
              clear y1 y2 y3 y4 y5 y6 y7 y8 r1
              rintro h6 ⟨y0, y2, y3, y4, y1, y5, y6, y7, y8⟩
              refine WW.dregX [9] [] [nx + 1] (by repeat first | with_reducible apply next_putE | with_reducible apply next_setE | assumption | exact rfl) (by decide +kernel) ?_
              (refine go ?_)
              refine WW.dregX [6, 7] [3, 5] [nx + 2, nx + 3] (by repeat first | with_reducible apply next_putE | with_reducible apply next_setE | assumption | exact rfl) (by decide +kernel) ?_
              (refine go ?_)
              exact ⟨rfl, (by repeat first | exact subE.nil _ | (apply subE.cons; focus (first | exact rfl | (simp [lk_cons]; done) | (simp [lk_cons]; omega)))), x.key, x.n, x.head, x.out, (x.tag.1, bits BinOp.xor IntKind.u64 x.tag.2 A[i].x), rfl, (by repeat first | with_reducible exact get_put_same | with_reducible exact get_set_same | assumption | with_reducible apply get_put_neE (by omega) | with_reducible apply get_set_neE (by omega) | exact get_put_same | exact get_set_same), (by repeat first | with_reducible exact get_put_same | with_reducible exact get_set_same | assumption | with_reducible apply get_put_neE (by omega) | with_reducible apply get_set_neE (by omega) | exact get_put_same | exact get_set_same), (by repeat first | with_reducible exact get_put_same | with_reducible exact get_set_same | assumption | with_reducible apply get_put_neE (by omega) | with_reducible apply get_set_neE (by omega) | exact get_put_same | exact get_set_same), (orAt_get y5 (by repeat first | with_reducible apply get_put_neE (by omega) | with_reducible apply get_set_neE (by omega) | with_reducible apply get_keepE | exact rfl) (by repeat first | with_reducible apply get_put_neE (by omega) | with_reducible apply get_set_neE (by omega) | with_reducible apply get_keepE | exact rfl) (by repeat first | with_reducible apply get_put_neE (by omega) | with_reducible apply get_set_neE (by omega) | with_reducible apply get_keepE | exact rfl)), refAt_get y6 (by repeat first | with_reducible apply get_put_neE (by omega) | with_reducible apply get_set_neE (by omega) | with_reducible apply get_keepE | exact rfl) (by repeat first | with_reducible apply get_put_neE (by omega) | with_reducible apply get_set_neE (by omega) | with_reducible apply get_keepE | exact rfl) (by repeat first | with_reducible apply get_put_neE (by omega) | with_reducible apply get_set_neE (by omega) | with_reducible apply get_keepE | exact rfl), leN (by repeat first | with_reducible apply next_putE | with_reducible apply next_setE | assumption | exact rfl) (by omega), (by repeat first | with_reducible exact Keeps.refl _ | with_reducible refine Keeps.put ?_ (by omega) _ | with_reducible refine Keeps.set ?_ (by omega) _ | assumption)⟩
            · (refine go ?_)
              exact ⟨rfl, (by repeat first | exact subE.nil _ | (apply subE.cons; focus (first | exact rfl | (simp [lk_cons]; done) | (simp [lk_cons]; omega)))), A[i].key, A[i].n, A[i].head, A[i].data, (0, 0), rfl, y2, y3, y4, y5, y6, by omega, y8⟩
          · (refine go ?_)
            exact ⟨rfl, (by repeat first | exact subE.nil _ | (apply subE.cons; focus (first | exact rfl | (simp [lk_cons]; done) | (simp [lk_cons]; omega)))), A[i].key, A[i].n, A[i].head, A[i].data, (0, 0), rfl, y2, y3, y4, y5, y6, by omega, y8⟩
        · rintro e5 h5 ⟨q1, k', n', hd, b', tg, q2, r2, r3, r4, r5, r6, r7, r8⟩
          refine WW.cvt (Cvt.sub (subE.cons q2 q1)) ?_
          (refine go ?_)
          have hcon := oracle_Open_ae r5 (by omega) (fun x hx => by have := l3 x hx; omega) k' n' hd b' tg
          refine WL.call rfl (by first | exact True.intro | exact rfl) (by repeat first | exact SubL.nil | refine SubL.cons (SubV.refl _) ?_ | refine SubL.cons SubV.app ?_ | refine SubL.cons SubV.nil ?_) (hcon) ?_
          (refine go ?_)
          refine WL.call rfl (by first | exact True.intro | exact rfl) (by repeat first | exact SubL.nil | refine SubL.cons (SubV.refl _) ?_ | refine SubL.cons SubV.app ?_ | refine SubL.cons SubV.nil ?_) (ref7_Open_ae r6 (by omega) k' n' hd b' tg) ?_
          (refine go ?_)
          (apply WL.orB; exact rfl; exact rfl; exact rfl; exact BP.of; intro hz8)
          · (repeat first | (apply GW.goS; exact Stp.auto) | apply GW.nil | exact rfl)
          (refine go ?_)
          (refine WW.ifB rfl (fun hz9 => ?_) (fun hz9 => ?_))
          · exfalso
            simp at hz9
          · (refine go ?_)
            exact ⟨i + 1, (by repeat first | exact subE.nil _ | (apply subE.cons; focus (first | exact rfl | (simp [lk_cons]; done) | (simp [lk_cons]; omega)))), ⟨L, S, r5, r6, by omega, by omega, l3, by omega, r8, by omega⟩, by omega⟩
      · (repeat first | refine WL.go ?_ | refine WW.seq ?_ | refine WW.reg ?_ | refine WL.nil ?_ | refine WW.skip ?_ | refine WW.block ?_ | refine WW.exit ?_ | refine WW.condT rfl ?_ | refine WW.condF rfl ?_ | refine WL.gox ?_ | refine thenN ?_ | refine blkN ?_)
        refine WW.dregX [4, 8] [7] [h.next, h.next + 5, h.next + 3] (by repeat first | with_reducible apply next_putE | with_reducible apply next_setE | assumption | exact rfl) (by decide +kernel) ?_
        (refine go ?_)
        refine DW.callSW rfl (by first | exact True.intro | exact rfl) (by repeat first | exact SubL.nil | refine SubL.cons (SubV.refl _) ?_ | refine SubL.cons SubV.app ?_ | refine SubL.cons SubV.nil ?_) rfl rfl (fun hp => by repeat first | exact hp | refine PhiW.setW (by simp) ?_ | refine PhiW.setN (by omega) ?_) (oracle_Sum_ae x2 (by omega) [A[i].data] (by simp) (by simp; omega)) ?_
        rw [show [A[i].data].flatten = A[i].data by simp]
        (refine go ?_)
        have hcon := ref7_Sum_ae (refAt_get (h2 := hX.set h.next (some (.map (encM (sumS S A[i].data))))) x3 (by repeat first | with_reducible apply get_put_neE (by omega) | with_reducible apply get_set_neE (by omega) | with_reducible apply get_keepE | exact rfl) (by repeat first | with_reducible apply get_put_neE (by omega) | with_reducible apply get_set_neE (by omega) | with_reducible apply get_keepE | exact rfl) (by repeat first | with_reducible apply get_put_neE (by omega) | with_reducible apply get_set_neE (by omega) | with_reducible apply get_keepE | exact rfl)) (by omega) A[i].data (by omega)
        refine DW.callSW rfl (by first | exact True.intro | exact rfl) (by repeat first | exact SubL.nil | refine SubL.cons (SubV.refl _) ?_ | refine SubL.cons SubV.app ?_ | refine SubL.cons SubV.nil ?_) rfl rfl (fun hp => by repeat first | exact hp | refine PhiW.setW (by simp) ?_ | refine PhiW.setN (by omega) ?_) (hcon) ?_
        (refine go ?_)
        (refine WW.ifB rfl (fun hz5 => ?_) (fun hz5 => ?_))
        · exfalso
          simp at hz5
        · (refine go ?_)
          have hsl : (sumS S A[i].data).length ≤ S.length + 1 := by unfold sumS; split <;> simp
          have z1 := x3.tok1
          have z2 := x2.obj
          have z3 := x2.tok
          refine ⟨i + 1, (by repeat first | exact subE.nil _ | (apply subE.cons; focus (first | exact rfl | (simp [lk_cons]; done) | (simp [lk_cons]; omega)))), ⟨L, sumS S A[i].data, ⟨(by repeat first | with_reducible exact get_put_same | with_reducible exact get_set_same | assumption | with_reducible apply get_put_neE (by omega) | with_reducible apply get_set_neE (by omega) | exact get_put_same | exact get_set_same), (by repeat first | with_reducible exact get_put_same | with_reducible exact get_set_same | assumption | with_reducible apply get_put_neE (by omega) | with_reducible apply get_set_neE (by omega) | exact get_put_same | exact get_set_same), (by repeat first | with_reducible exact get_put_same | with_reducible exact get_set_same | assumption | with_reducible apply get_put_neE (by omega) | with_reducible apply get_set_neE (by omega) | exact get_put_same | exact get_set_same)⟩, ⟨(by repeat first | with_reducible exact get_put_same | with_reducible exact get_set_same | assumption | with_reducible apply get_put_neE (by omega) | with_reducible apply get_set_neE (by omega) | exact get_put_same | exact get_set_same), (by repeat first | with_reducible exact get_put_same | with_reducible exact get_set_same | assumption | with_reducible apply get_put_neE (by omega) | with_reducible apply get_set_neE (by omega) | exact get_put_same | exact get_set_same), (by repeat first | exact get_set_tl (by first | rfl | exact List.length_map _ | (simp; done) | (simp; omega)) | exact get_put_tl (by first | rfl | exact List.length_map _ | (simp; done) | (simp; omega)) | assumption | with_reducible apply get_put_neE (by omega) | with_reducible apply get_set_neE (by omega) | with_reducible apply get_keepE), by omega⟩, by omega, by omega, l3, leN (by repeat first | with_reducible apply next_putE | with_reducible apply next_setE | assumption | exact rfl) (by omega), (by repeat first | with_reducible exact Keeps.refl _ | with_reducible refine Keeps.put ?_ (by omega) _ | with_reducible refine Keeps.set ?_ (by omega) _ | assumption), by omega⟩, by omega⟩
  · have hi : i = A.length := by omega
    (refine go ?_)
    refine DW.callS rfl (by first | exact True.intro | exact rfl) (by repeat first | exact SubL.nil | refine SubL.cons (SubV.refl _) ?_ | refine SubL.cons SubV.app ?_ | refine SubL.cons SubV.nil ?_) rfl (oracle_Issued_ae oA (by omega) (fun x hx => by have := l3 x hx; omega)) ?_
    have z1 := rA.obj
    (refine go ?_)
    refine DW.callS rfl (by first | exact True.intro | exact rfl) (by repeat first | exact SubL.nil | refine SubL.cons (SubV.refl _) ?_ | refine SubL.cons SubV.app ?_ | refine SubL.cons SubV.nil ?_) rfl (ref7_Same_ae L L (by omega) (by omega) _) ?_
    rw [show decide (L = L) = true by simp]
    (refine go ?_)
    refine DW.callS rfl (by first | exact True.intro | exact rfl) (by repeat first | exact SubL.nil | refine SubL.cons (SubV.refl _) ?_ | refine SubL.cons SubV.app ?_ | refine SubL.cons SubV.nil ?_) rfl (oracle_Twice_ae oA (by omega)) ?_
    (refine go ?_)
    refine DW.callS rfl (by first | exact True.intro | exact rfl) (by repeat first | exact SubL.nil | refine SubL.cons (SubV.refl _) ?_ | refine SubL.cons SubV.app ?_ | refine SubL.cons SubV.nil ?_) rfl (ref7_Twice_ae rA (by omega)) ?_
    (refine go ?_)
    (refine DW.spB rfl (fun hz6 => ?_) (fun hz6 => ?_))
    · (refine go ?_)
      refine DW.callS rfl (by first | exact True.intro | exact rfl) (by repeat first | exact SubL.nil | refine SubL.cons (SubV.refl _) ?_ | refine SubL.cons SubV.app ?_ | refine SubL.cons SubV.nil ?_) rfl (law7_known_ae _) ?_
      (refine go ?_)
      refine WW.ret (PureQ.finD ?_)
      exact fz_b rfl
    · exfalso
      simp at hz6
end Go.Proofs.Ytnihcakkhillcaa
