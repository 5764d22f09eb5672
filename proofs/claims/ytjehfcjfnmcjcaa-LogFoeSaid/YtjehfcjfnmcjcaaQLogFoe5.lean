/- What the statement's proof needs, part 5. -/
import Derived.Test.YtjehfcjfnmcjcaaQLogFoe4
set_option linter.all false
namespace Go.Proofs.Ytjehfcjfnmcjcaa
open Go Go.Abs

theorem WG.reL {md : Bool} {h h' : AHeap} {n : WN} {s : WS} (hg : WG md h n s) (L' : List Iss) (hk : Kp (fun id => md = true ∧ (id = n.o ∨ id = n.t)) h h') (h1 : md = true → h'.get n.o = some (.mem 2 [[.app n.t 0 10 (L'.map encI), .map n.q]]) ∧ h'.get n.t = some (.tail 0 L'.length)) (h2 : md = false → L' = s.L) : WG md h' n { s with L := L' } := by
  have hw := hg.w
  have g : ∀ id, n.nm md id → (md = true → id ≠ n.o ∧ id ≠ n.t) → h'.get id = h.get id := fun id hi hne => hk.get id (hg.us id hi) fun ⟨e, h⟩ => h.elim (hne e).1 (hne e).2
  have ga : ∀ i, i < 11 → h'.get (n.a + i) = h.get (n.a + i) := fun i hi => g _ (.inl (.inr (.inr (.inl (by omega))))) fun e => by have := hw.oo e; omega
  have gp : h'.get n.p = h.get n.p := g _ (.inl (.inl rfl)) fun e => by obtain ⟨a, b, _⟩ := hw.nep.2 e; exact ⟨Ne.symm a, Ne.symm b⟩
  have key : ∀ {i j : Nat} {y z : AObj}, h.get i = some y → h.get j = some z → y ≠ z → i ≠ j := fun hi hj hne e => by
    subst e; rw [hi] at hj; exact hne (Option.some.inj hj)
  have gl : h'.get n.l = h.get n.l := g _ (.inl (.inr (.inl rfl))) fun e => by
    obtain ⟨q0, q1, q2, q3⟩ := hw.lk.id e
    exact ⟨key q0 q1 (by simp [idC]), key q0 q2 (by simp)⟩
  have gq : md = true → h'.get n.q = h.get n.q := fun e => g _ (.inr rfl) fun _ => by
    obtain ⟨q0, q1, q2, q3⟩ := hw.lk.id e
    exact ⟨key q3 q1 (by simp), key q3 q2 (by simp)⟩
  have gqf : md = false → h'.get n.q = none := fun e => (g _ (.inr rfl) fun e' => by rw [e] at e'; cases e').trans (hg.qn e)
  refine ⟨⟨hw.sd.same gp (ga 1 (by omega)) (ga 0 (by omega)) (ga 2 (by omega)) (ga 3 (by omega)), hw.dk.same gp (ga 4 (by omega)) (ga 5 (by omega)) (ga 6 (by omega)), (ga 7 (by omega)).trans hw.ct, hw.ks.same (ga 9 (by omega)) (ga 8 (by omega)), (ga 10 (by omega)).trans hw.w, ⟨fun e => ?_, fun e => gl.trans (hw.lk.re e)⟩, hw.op, hw.ol, hw.oo, Nat.le_trans hw.nx hk.next⟩, fun id hi => hk.us id (hg.us id hi), gqf⟩
  obtain ⟨q0, q1, q2, q3⟩ := hw.lk.id e
  obtain ⟨e1, e2⟩ := h1 e
  exact ⟨gl.trans q0, ⟨e1, e2, (gq e).trans q3⟩⟩
def WS.logN (s : WS) (boot : Int) (j : Nat) : Nn := (s.ks.cur, 65535, boot * 4294967296 + ((j + 1 : Nat) : Int))
def WS.logP (md : Bool) (s : WS) (boot : Int) (j : Nat) (r : Rt) : Bs × Pr := sealP md s.L s.key (s.logN boot j) [] (rootB r)
def WS.logR (md : Bool) (s : WS) (boot : Int) (j : Nat) (r : Rt) : Wr := (recAt s.n r.c, recB s.ks.cur (boot * 4294967296 + ((j + 1 : Nat) : Int)) (s.logP md boot j r).1 (s.logP md boot j r).2)
def WS.logW (md : Bool) (s : WS) (boot : Int) (j : Nat) (r : Rt) : WS := { s with L := sealL md s.L s.key (s.logN boot j) [] (rootB r), pw := s.pw.spend, sd := s.sd.write (s.logR md boot j r) s.pw.can }
theorem sealP_len (md : Bool) (L : List Iss) (k : Pr) (n : Nn) (head data : Bs) : (sealP md L k n head data).1.length = data.length := by
  cases md with
  | true => simp only [sealP, newI, sealB, rep_len]
  | false => simp only [sealP, gcmB_len]
set_option maxHeartbeats 1000000 in
theorem log_Put_ac {md : Bool} {h : AHeap} {n : WN} {s : WS} {k : Nat} (hg : WG md h n s) (hs : s.Fit k) (hk : k ≤ 9000) (hcur : 0 ≤ s.ks.cur ∧ s.ks.cur < 4294967296) {mk : Nat} {boot : Int} {j : Nat} (hm : BoxAt h mk (mkO boot j)) (hb : 0 ≤ boot ∧ boot < 4294967296) (hj : j < 100) (hne : ¬ n.nm md mk) (r : Rt) (hr : r.Wf) (hrg : isG r.n = true) (hrn : r.n = s.n) :
    AC Try.prog 51 [.ptr (n.a + 10) 0 0, .ptr mk 0 0, .agg (encRt r)] h
      (fun v h' => v = .int .i64 (if s.pw.can then 0 else 7) ∧ WG md h' n (s.logW md boot j r) ∧ BoxAt h' mk (mkO boot (j + 1)) ∧ Kp (fun id => n.own md id ∨ id = mk) h h') := by
  refine AC.introW is_log_Put (by simp) ?_
  unfold c_log_Put
  have hob := hg.w.w
  simp only [wRow] at hob
  have hlt : ∀ id, n.nm md id → id < h.next := fun id hi => (hg.us id hi).1
  have hmk : mk < h.next := hm.u.1
  have hgg := isG_cases hs.g
  have hna : n.a + 11 ≤ h.next := hg.w.nx
  have hop := hg.w.op
  (refine go ?_)
  refine WL.call rfl (by first | exact True.intro | exact rfl) gSL (root_Put_ae r hr _) ?_
  rw [hrg]
  simp only [if_true]
  (refine go ?_)
  (refine WW.ifB rfl (fun hz1 => ?_) (fun hz1 => ?_))
  · exfalso; simp at hz1; exact hz1 hrn
  have hcur' := hcur
  (refine go ?_)
  refine WL.call rfl (by first | exact True.intro | exact rfl) gSL (world_Key_ae (hg.new (by repeat first | exact Kp.refl | assumption | with_reducible refine Kp.put ?_ (by omega) _ | with_reducible refine Kp.setN ?_ (by omega) _ | with_reducible refine Kp.keep ?_ _ | with_reducible refine Kp.setW ?_ (by rfl) _)).w hcur) ?_
  (refine go ?_)
  refine WL.call rfl (by first | exact True.intro | exact rfl) gSL (nonce_Next_ae ((gE : _ = h.get mk).trans hm.g) hb hj s.ks.cur 65535 (by decide)) ?_
  refine WL.named (fun h3 => WG md h3 n s ∧ BoxAt h3 mk (mkO boot (j + 1)) ∧ Kp (fun id => id = mk) h h3 ∧ h3.get h.next = some (.mem 5 [encRt r]) ∧ h3.get (h.next + 1) = some (.mem 2 [encP s.key]) ∧ h3.next = h.next + 2) ⟨hg.kp (W := fun id => id = mk) (by repeat first | exact Kp.refl | assumption | with_reducible refine Kp.put ?_ (by omega) _ | with_reducible refine Kp.setN ?_ (by omega) _ | with_reducible refine Kp.keep ?_ _ | with_reducible refine Kp.setW ?_ (by simp; done) _) (fun id hi e => hne (e ▸ hi)), ⟨?_, gH⟩, (by repeat first | exact Kp.refl | assumption | with_reducible refine Kp.put ?_ (by omega) _ | with_reducible refine Kp.setN ?_ (by omega) _ | with_reducible refine Kp.keep ?_ _ | with_reducible refine Kp.setW ?_ (by simp; done) _), gH, gH, (gN : _ = h.next + 1 + 1)⟩ ?_
  · exact (((by repeat first | exact Kp.refl | assumption | with_reducible refine Kp.put ?_ (by omega) _ | with_reducible refine Kp.setN ?_ (by omega) _ | with_reducible refine Kp.keep ?_ _ | with_reducible refine Kp.setW ?_ (by simp; done) _) : Kp (fun id => id = mk) h _)).us mk hm.u
  clear hob
  rintro h3 ⟨g3, b3, k3, r1, r2, hn3⟩
  (refine go ?_)
  have hx3 := k3.next
  have hrb := rootB_len r
  have hll := hs.ll
  have hLk : n.l < h.next := hlt _ (.inl (.inr (.inl rfl)))
  refine WW.thenI (fun e' F' => subE [(0, some (.ptr (n.a + 10) 0 0)), (5, some (.ptr h.next 0 0)), (11, some (.ptr (h.next + 2) 0 0)), (13, some (.ptr (h.next + 3) 0 0))] e' ∧ WG md F' n { s with L := sealL md s.L s.key (s.logN boot j) [] (rootB r) } ∧ BoxAt F' mk (mkO boot (j + 1)) ∧ Kp (fun id => n.own md id ∨ id = mk) h F' ∧ F'.get h.next = some (.mem 5 [encRt r]) ∧ F'.get (h.next + 2) = some (.mem 3 [encN (s.logN boot j)]) ∧ F'.get (h.next + 3) = some (.mem 3 [encS (s.logP md boot j r).1 (s.logP md boot j r).2]) ∧ F'.next = h.next + 4) ?_ ?_
  · cases md with
    | true =>
      have hoL : n.o < h.next := hlt _ (.inl (.inr (.inr (.inr ⟨rfl, .inl rfl⟩))))
      have htL : n.t < h.next := hlt _ (.inl (.inr (.inr (.inr ⟨rfl, .inr (.inl rfl)⟩))))
      have hqL : n.q < h.next := hlt _ (.inr rfl)
      have hoo := g3.w.oo rfl
      have hob3 := g3.w.w
      simp only [wRow] at hob3
      refine WW.dregA [11] [7, 12] [7] [3, 4, 5] [n.t, n.o] gN (by decide +kernel) ?_
      iterate 3 (refine DA.go ?_)
      refine DA.goF (hs := fun h2 hp2 => by apply Stp.load1; exact rfl; exact (hp2 _ (by omega) (by simp; omega)).trans gH; exact (by first | exact getC_at rfl rfl | exact getC_all rfl | exact getC_sub (Nat.le_of_ble_eq_true rfl) (by first | (simp only [putC, AV.cs, encP, encN, encI, encS, encA, List.take_succ_cons, List.take_zero, List.take_nil, List.drop_succ_cons, List.drop_zero, List.drop_nil, List.cons_append, List.nil_append, List.append_nil, List.length_cons, List.length_nil, Nat.zero_add, Nat.add_zero, Nat.reduceAdd]; exact rfl) | exact rfl) | exact getC_sub (by simp) (by first | (simp only [putC, AV.cs, encP, encN, encI, encS, encA, List.take_succ_cons, List.take_zero, List.take_nil, List.drop_succ_cons, List.drop_zero, List.drop_nil, List.cons_append, List.nil_append, List.append_nil, List.length_cons, List.length_nil, Nat.zero_add, Nat.add_zero, Nat.reduceAdd]; exact rfl) | exact rfl)); exact (by first | exact True.intro | exact rfl)) ?_
      refine DA.goF (hs := fun h2 hp2 => by apply Stp.load1; exact rfl; exact (hp2 _ (by omega) (by simp; omega)).trans gH; exact (by first | exact getC_at rfl rfl | exact getC_all rfl | exact getC_sub (Nat.le_of_ble_eq_true rfl) (by first | (simp only [putC, AV.cs, encP, encN, encI, encS, encA, List.take_succ_cons, List.take_zero, List.take_nil, List.drop_succ_cons, List.drop_zero, List.drop_nil, List.cons_append, List.nil_append, List.append_nil, List.length_cons, List.length_nil, Nat.zero_add, Nat.add_zero, Nat.reduceAdd]; exact rfl) | exact rfl) | exact getC_sub (by simp) (by first | (simp only [putC, AV.cs, encP, encN, encI, encS, encA, List.take_succ_cons, List.take_zero, List.take_nil, List.drop_succ_cons, List.drop_zero, List.drop_nil, List.cons_append, List.nil_append, List.append_nil, List.length_cons, List.length_nil, Nat.zero_add, Nat.add_zero, Nat.reduceAdd]; exact rfl) | exact rfl)); exact (by first | exact True.intro | exact rfl)) ?_
      refine DA.goF (hs := fun h2 hp2 => by apply Stp.load1; exact rfl; exact (hp2 _ (by omega) (by simp; omega)).trans gH; exact (by first | exact getC_at rfl rfl | exact getC_all rfl | exact getC_sub (Nat.le_of_ble_eq_true rfl) (by first | (simp only [putC, AV.cs, encP, encN, encI, encS, encA, List.take_succ_cons, List.take_zero, List.take_nil, List.drop_succ_cons, List.drop_zero, List.drop_nil, List.cons_append, List.nil_append, List.append_nil, List.length_cons, List.length_nil, Nat.zero_add, Nat.add_zero, Nat.reduceAdd]; exact rfl) | exact rfl) | exact getC_sub (by simp) (by first | (simp only [putC, AV.cs, encP, encN, encI, encS, encA, List.take_succ_cons, List.take_zero, List.take_nil, List.drop_succ_cons, List.drop_zero, List.drop_nil, List.cons_append, List.nil_append, List.append_nil, List.length_cons, List.length_nil, Nat.zero_add, Nat.add_zero, Nat.reduceAdd]; exact rfl) | exact rfl)); exact (by first | exact True.intro | exact rfl)) ?_
      (repeat first | refine DA.go ?_ | refine DA.goF ?_ | refine DA.new ?_ | refine DA.set ?_ | refine DA.endL ?_ | refine thenN ?_ | refine blkN ?_)
      refine DA.callSS (i1 := n.t) (i2 := n.o) (vs := [.ptr n.l 0 0, .agg (encP s.key), .agg (encN (s.logN boot j)), .imm 1 (([] : Bs).map encB), .imm 1 ((rootB r).map encB)]) rfl (by first | exact True.intro | exact rfl) gSL rfl rfl rfl (fun _ hp => PhiW.setW (by simp) (PhiW.setW (by simp) hp)) ⟨by omega, by omega⟩
        (fun h5 hs => lock_SealI_ae ((g3.w.lk.same ((hs.2 _ (by omega)).trans gE) (fun _ => ⟨(hs.2 _ (by omega)).trans gE, (hs.2 _ (by omega)).trans gE, (hs.2 _ (by omega)).trans gE⟩)).id rfl) (by omega) s.key (s.logN boot j) [] (rootB r) (by simp) (by omega)) ?_
      (repeat first | refine DA.go ?_ | refine DA.goF ?_ | refine DA.new ?_ | refine DA.set ?_ | refine DA.endL ?_ | refine thenN ?_ | refine blkN ?_)
      have hSL : sealL true s.L s.key (s.logN boot j) [] (rootB r) = s.L ++ [newI (s.L.length + 1) s.key (s.logN boot j) [] (rootB r)] := rfl
      have hto : n.t ≠ n.o := fun e => by
        obtain ⟨q0, q1, q2, q3⟩ := g3.w.lk.id rfl
        rw [e, q1] at q2; cases q2
      have hom : n.nm true n.o := .inl (.inr (.inr (.inr ⟨rfl, .inl rfl⟩)))
      have htm : n.nm true n.t := .inl (.inr (.inr (.inr ⟨rfl, .inr (.inl rfl)⟩)))
      refine ⟨rfl, gSUB, g3.reL _ (by repeat first | exact Kp.refl | assumption | with_reducible refine Kp.put ?_ (by omega) _ | with_reducible refine Kp.setN ?_ (by omega) _ | with_reducible refine Kp.keep ?_ _ | with_reducible refine Kp.setW ?_ (by simp; done) _) (fun _ => ⟨by rw [hSL]; exact gH, by rw [hSL, List.length_append]; exact gH⟩) nofun, b3.kp (W := fun id => id = n.o ∨ id = n.t) (by repeat first | exact Kp.refl | assumption | with_reducible refine Kp.put ?_ (by omega) _ | with_reducible refine Kp.setN ?_ (by omega) _ | with_reducible refine Kp.keep ?_ _ | with_reducible refine Kp.setW ?_ (by simp; done) _) (fun hh => hne (hh.elim (fun e => e ▸ hom) fun e => e ▸ htm)), ?_, gH, gH, gH, ?_⟩
      · exact (k3.mono fun _ _ e => .inr e).trans (((by repeat first | exact Kp.refl | assumption | with_reducible refine Kp.put ?_ (by omega) _ | with_reducible refine Kp.setN ?_ (by omega) _ | with_reducible refine Kp.keep ?_ _ | with_reducible refine Kp.setW ?_ (by simp; done) _) : Kp (fun id => id = n.o ∨ id = n.t) h3 _).mono fun id _ e => .inl (.inr (.inr ⟨rfl, e.elim .inl fun e => .inr (.inl e)⟩)))
      · exact (show _ = h.next + 2 + 1 + 1 from next_setE (next_putK (by omega) (next_setE (next_setE (next_keepE (n := h.next + 2 + 1) gN)))))
    | false =>
      have hob3 := g3.w.w
      simp only [wRow] at hob3
      refine WW.dregA [11] [7, 12] [7] [3, 4, 5] [] gN (by decide +kernel) ?_
      (repeat first | refine DA.go ?_ | refine DA.goF ?_ | refine DA.new ?_ | refine DA.set ?_ | refine DA.endL ?_ | refine thenN ?_ | refine blkN ?_)
      refine DA.callP rfl (by first | exact True.intro | exact rfl) (vs := [.ptr n.l 0 0, .agg (encP s.key), .agg (encN (s.logN boot j)), .imm 1 (([] : Bs).map encB), .imm 1 ((rootB r).map encB)]) gSL rfl rfl rfl (fun h5 hs => lock_SealR_ae (((hs.2 _ (by omega)).trans gE).trans (g3.w.lk.re rfl)) s.key (s.logN boot j) [] (rootB r) (by simp) (by omega)) ?_
      (repeat first | refine DA.go ?_ | refine DA.goF ?_ | refine DA.new ?_ | refine DA.set ?_ | refine DA.endL ?_ | refine thenN ?_ | refine blkN ?_)
      refine ⟨rfl, gSUB, g3.reL _ (by repeat first | exact Kp.refl | assumption | with_reducible refine Kp.put ?_ (by omega) _ | with_reducible refine Kp.setN ?_ (by omega) _ | with_reducible refine Kp.keep ?_ _ | with_reducible refine Kp.setW ?_ (by simp; done) _) nofun (fun _ => rfl), b3.kp (W := fun _ => False) (by repeat first | exact Kp.refl | assumption | with_reducible refine Kp.put ?_ (by omega) _ | with_reducible refine Kp.setN ?_ (by omega) _ | with_reducible refine Kp.keep ?_ _ | with_reducible refine Kp.setW ?_ (by simp; done) _) (fun h => h), ?_, gH, gH, gH, ?_⟩
      · exact (k3.mono fun _ _ e => .inr e).trans (((by repeat first | exact Kp.refl | assumption | with_reducible refine Kp.put ?_ (by omega) _ | with_reducible refine Kp.setN ?_ (by omega) _ | with_reducible refine Kp.keep ?_ _ | with_reducible refine Kp.setW ?_ (by simp; done) _) : Kp (fun _ => False) h3 _).mono fun id _ e => e.elim)
      · exact (show _ = h.next + 2 + 1 + 1 from next_setE (next_putK (by omega) (next_keepE (n := h.next + 2 + 1) gN)))
  clear g3 b3 k3 r1 r2 hn3
  rintro e7 h5 ⟨hs7, g5, b5, k5, r1, r2, r3, hn5⟩
  refine WW.cvt (Cvt.sub hs7) ?_
  have hob5 := g5.w.w
  simp only [wRow] at hob5
  (refine go ?_)
  have hpl : (s.logP md boot j r).1.length = 32 := (sealP_len _ _ _ _ _ _).trans hrb
  have hv : 0 ≤ boot * 4294967296 + ((j + 1 : Nat) : Int) ∧ boot * 4294967296 + ((j + 1 : Nat) : Int) < 18446744073709551616 := by omega
  refine WL.call rfl (by first | exact True.intro | exact rfl) gSL (root_PutRec_ae s.ks.cur (boot * 4294967296 + ((j + 1 : Nat) : Int)) hcur hv (s.logP md boot j r).1 hpl (s.logP md boot j r).2 _) ?_
  have hxl := recB_len s.ks.cur (boot * 4294967296 + ((j + 1 : Nat) : Int)) (s.logP md boot j r).1 (s.logP md boot j r).2 hpl
  (repeat first | refine WL.go ?_ | refine WW.seq ?_ | refine WW.reg ?_ | refine WL.nil ?_ | refine WW.skip ?_ | refine WW.block ?_ | refine WW.exit ?_ | refine WW.condT rfl ?_ | refine WW.condF rfl ?_ | refine WL.gox ?_ | refine thenN ?_ | refine blkN ?_)
  refine WW.dregX [9] [] n.devs gN (by decide +kernel) ?_
  (refine go ?_)
  refine DW.callS rfl (by first | exact True.intro | exact rfl) gSL rfl (log_place_ae g5.w hs.g r.c hr.c) ?_
  (refine go ?_)
  have hlt5 : ∀ id, n.nm md id → id < h.next := hlt
  have hlls : s.sd.lasts.length = (s.n * 160 + 120).toNat := by rw [hs.sd.len, sizeG_pos hs.g]
  have hin : inB s.sd.lasts.length (recAt s.n r.c) 60 = true := by
    have hp : 0 ≤ recAt s.n r.c ∧ recAt s.n r.c + 60 ≤ s.n * 160 + 120 := by unfold recAt; omega
    rw [hlls]; generalize recAt s.n r.c = X at *; simp [inB]; omega
  refine DW.callSW rfl (by first | exact True.intro | exact rfl) gSL rfl rfl (fun hp => phi_sd n _ _ hp) (ssd_Write_ae g5.w.sd hs.pw (by omega) (by show s.sd.lasts.length ≤ _; omega) (Nat.le_trans hs.sd.kw (by omega)) (Nat.le_trans hs.sd.kt (by omega)) (recAt s.n r.c) (recB s.ks.cur (boot * 4294967296 + ((j + 1 : Nat) : Int)) (s.logP md boot j r).1 (s.logP md boot j r).2) (by omega)) ?_
  rw [hxl, show ((60 : Nat) : Int) = 60 from rfl, hin]
  simp only [Bool.true_and, if_true]
  refine DW.named (fun h6 => WG md h6 n (s.logW md boot j r) ∧ BoxAt h6 mk (mkO boot (j + 1)) ∧ Kp (fun id => n.own md id ∨ id = mk) h h6) ⟨g5.step (g5.w.putSd _ _) (kp_sd n _ _), b5.kp (kp_sd n _ _) (fun hi => hne (.inl (WN.own_all hi))), k5.trans ((kp_sd n _ _).mono fun id _ hi => .inl hi)⟩ ?_
  clear g5 b5 k5 hob5
  rintro h6 ⟨g6, b6, k6⟩
  cases hc : s.pw.can with
  | false =>
    (refine go ?_)
    exact WW.ret ⟨.inl rfl, _, gRES, rfl, g6, b6, k6⟩
  | true =>
    (refine go ?_)
    exact WW.ret ⟨.inl rfl, _, gRES, rfl, g6, b6, k6⟩
end Go.Proofs.Ytjehfcjfnmcjcaa


namespace Go.Proofs.Ytjehfcjfnmcjcaa
open Go Go.Abs

theorem valB_inj : ∀ (a b : Bs) (v w : Nat), a.length = b.length → valB a v = valB b w → v = w ∧ a = b
  | [], [], v, w, _, h => ⟨h, rfl⟩
  | [], _ :: _, _, _, h, _ => by simp at h
  | _ :: _, [], _, _, h, _ => by simp at h
  | x :: a, y :: b, v, w, hl, h => by
    have h' : valB a (v * 256 + x.toNat) = valB b (w * 256 + y.toNat) := h
    obtain ⟨e1, e2⟩ := valB_inj a b _ _ (by simpa using hl) h'
    have hx := x.toNat_lt
    have hy := y.toNat_lt
    have e3 : x.toNat = y.toNat := by omega
    exact ⟨by omega, by rw [e2, UInt8.toNat_inj.1 e3]⟩
theorem getB_inj {a b : Bs} (hl : a.length = b.length) (h8 : a.length ≤ 8) (h : getB a = getB b) : a = b := by
  rw [(getB_val a h8).1, (getB_val b (by omega)).1] at h
  exact (valB_inj a b 0 0 hl (by exact_mod_cast h)).2
theorem pairF_inj {a b : Bs} (ha : a.length = 16) (hb : b.length = 16) (h : pairF a = pairF b) : a = b := by
  simp only [pairF, Prod.mk.injEq] at h
  have e1 : a.take 8 = b.take 8 := getB_inj (by simp [ha, hb]) (by simp; omega) h.1
  have e2 : a.drop 8 = b.drop 8 := getB_inj (by simp [ha, hb]) (by simp; omega) h.2
  rw [← List.take_append_drop 8 a, ← List.take_append_drop 8 b, e1, e2]
theorem cut_eq (k : Nat) {a b : Bs} (h1 : a.take k = b.take k) (h2 : a.drop k = b.drop k) : a = b := by
  rw [← List.take_append_drop k a, ← List.take_append_drop k b, h1, h2]
theorem recD_inj {a b : Bs} (ha : a.length = 60) (hb : b.length = 60) (he : (recD a).e = (recD b).e) (hv : (recD a).v = (recD b).v) (hd : (recD a).b = (recD b).b) (ht : (recD a).tg = (recD b).tg) : a = b := by
  refine cut_eq 4 (getB_inj (by simp [ha, hb]) (by simp; omega) he) ?_
  refine cut_eq 8 (getB_inj (by simp [ha, hb]) (by simp; omega) hv) ?_
  rw [List.drop_drop, List.drop_drop]
  refine cut_eq 32 hd ?_
  rw [List.drop_drop, List.drop_drop]
  have := pairF_inj (a := (a.drop 44).take 16) (b := (b.drop 44).take 16) (by simp; omega) (by simp; omega) ht
  rw [List.take_of_length_le (by simp; omega), List.take_of_length_le (by simp; omega)] at this
  exact this
theorem recD_B (e v : Int) (b : Bs) (tg : Pr) (he : 0 ≤ e ∧ e < 4294967296) (hv : 0 ≤ v ∧ v < 18446744073709551616) (hb : b.length = 32) (ht : Wfp tg) : recD (recB e v b tg) = ⟨e, v, b, tg⟩ := by
  have e1 : (recB e v b tg).take 4 = putB e 4 := List.take_left' (putB_lenN _ 4 (by decide))
  have s4 : (recB e v b tg).drop 4 = putB v 8 ++ (b ++ pairB tg) := List.drop_left' (putB_lenN _ 4 (by decide))
  have s12 : (recB e v b tg).drop 12 = b ++ pairB tg := by
    rw [show 12 = 4 + 8 from rfl, ← List.drop_drop, s4]; exact List.drop_left' (putB_lenN _ 8 (by decide))
  have s44 : (recB e v b tg).drop 44 = pairB tg := by
    rw [show 44 = 12 + 32 from rfl, ← List.drop_drop, s12]; exact List.drop_left' hb
  have p16 : (pairB tg).take 16 = pairB tg := List.take_of_length_le (by simp [pairB])
  rw [recD, e1, s4, s12, s44, List.take_left' (putB_lenN _ 8 (by decide)), List.take_left' hb, p16, get_put4 _ he, get_put8 _ hv, pairF_B _ ht.1 ht.2]
theorem gcmT_wf (key : Pr) (n : Nn) (head b : Bs) : Wfp (gcmT key n head b) := ⟨x64_rng _ _, x64_rng _ _⟩
/-- Each that was sealed has its number for a tag. -/
def Seq (L : List Iss) : Prop := ∀ i (hi : i < L.length), L[i].tag = (ones, ((i + 1 : Nat) : Int))
theorem Seq.nil : Seq [] := fun i hi => by simp at hi
theorem Seq.put {L : List Iss} (h : Seq L) (k : Pr) (n : Nn) (hd d : Bs) : Seq (L ++ [newI (L.length + 1) k n hd d]) := fun i hi => by
  rw [List.getElem_append]
  split
  · exact h i _
  · have : i = L.length := by simp at hi; omega
    subst this
    simp [newI]
theorem Seq.sealL {md : Bool} {L : List Iss} (h : Seq L) (k : Pr) (n : Nn) (hd d : Bs) : Seq (sealL md L k n hd d) := by
  cases md with
  | true => exact h.put k n hd d
  | false => exact h
theorem Seq.found {L : List Iss} (h : Seq L) (i : Nat) (hi : i < L.length) : openO L L[i].key L[i].n L[i].head L[i].out L[i].tag = some L[i].data := by
  have hp : isI L[i].key L[i].n L[i].head L[i].out L[i].tag L[i] = true := by simp [isI]
  cases hf : L.find? (isI L[i].key L[i].n L[i].head L[i].out L[i].tag) with
  | none => exact absurd hp (by have := List.find?_eq_none.1 hf L[i] (List.getElem_mem hi); simpa using this)
  | some y =>
    have hy := List.find?_some hf
    obtain ⟨j, hj, rfl⟩ := List.mem_iff_getElem.1 (List.mem_of_find?_eq_some hf)
    have ht : L[j].tag = L[i].tag := by simp only [isI, Bool.and_eq_true, beq_iff_eq] at hy; exact hy.1.1.2
    rw [h j hj, h i hi] at ht
    have : j = i := by have := congrArg Prod.snd ht; simp at this; exact_mod_cast this
    subst this
    rw [openO, hf]; rfl
theorem openO_app {L M : List Iss} {k : Pr} {n : Nn} {hd b : Bs} {tg : Pr} {d : Bs} (h : openO L k n hd b tg = some d) : openO (L ++ M) k n hd b tg = some d := by
  rw [openO, Option.map_eq_some_iff] at h
  obtain ⟨x, hx, rfl⟩ := h
  rw [openO, List.find?_append, hx]; rfl
theorem openP_seal {md : Bool} {L : List Iss} {k : Pr} {n : Nn} {hd b : Bs} {tg : Pr} {d : Bs} (h : openP md L k n hd b tg = some d) (k2 : Pr) (n2 : Nn) (hd2 d2 : Bs) : openP md (sealL md L k2 n2 hd2 d2) k n hd b tg = some d := by
  cases md with
  | true => exact openO_app h
  | false => exact h
theorem openP_back {md : Bool} {L : List Iss} (hL : md = true → Seq L) (k : Pr) (n : Nn) (hd d : Bs) (h1 : hd.length ≤ 4000) (h2 : d.length ≤ 4000) : openP md (sealL md L k n hd d) k n hd (sealP md L k n hd d).1 (sealP md L k n hd d).2 = some d := by
  cases md with
  | true =>
    have := ((hL rfl).put k n hd d).found L.length (by simp)
    have hx : (L ++ [newI (L.length + 1) k n hd d])[L.length]'(by simp) = newI (L.length + 1) k n hd d := by simp
    rw [hx] at this
    exact this
  | false => exact gcmO_back2 k n hd d h1 h2
theorem sealP_wf {md : Bool} {L : List Iss} (hL : L.length ≤ 1000000) (k : Pr) (n : Nn) (hd d : Bs) : Wfp (sealP md L k n hd d).2 := by
  cases md with
  | true => simp only [sealP, newI, Wfp, ones]; omega
  | false => exact gcmT_wf _ _ _ _
theorem sealL_len (md : Bool) (L : List Iss) (k : Pr) (n : Nn) (hd d : Bs) : (sealL md L k n hd d).length ≤ L.length + 1 := by
  cases md with
  | true => simp [sealL]
  | false => simp [sealL]
theorem sealL_mem {md : Bool} {L : List Iss} {k : Pr} {n : Nn} {hd d : Bs} {P : Iss → Prop} (h : ∀ x ∈ L, P x) (h1 : P (newI (L.length + 1) k n hd d)) : ∀ x ∈ sealL md L k n hd d, P x := by
  cases md with
  | true =>
    intro x hx
    rcases List.mem_append.1 hx with hx | hx
    · exact h x hx
    · obtain rfl := List.mem_singleton.1 hx; exact h1
  | false => exact h
section
variable {md : Bool} {s : WS} {k : Nat} {boot : Int} {j : Nat} {r : Rt}
theorem logR_len : (s.logR md boot j r).2.length = 60 := recB_len _ _ _ _ ((sealP_len _ _ _ _ _ _).trans (rootB_len r))
theorem recAt_fit (hs : s.Fit k) (c : Int) : 0 ≤ recAt s.n c ∧ recAt s.n c + 60 ≤ s.n * 160 + 120 := by
  have hg := isG_cases hs.g
  unfold recAt; omega
theorem fit_logW (hs : s.Fit k) : (s.logW md boot j r).Fit (k + 1) := by
  have hp := recAt_fit hs r.c
  have hl := logR_len (md := md) (s := s) (boot := boot) (j := j) (r := r)
  have hll := hs.ll
  have h2 := sealL_len md s.L s.key (s.logN boot j) [] (rootB r)
  refine ⟨hs.g, hs.pw.spend, hs.sd.write (o := s.logR md boot j r) ⟨hp.1, ?_⟩ s.pw.can, Nat.le_succ_of_le hs.ss, by show (sealL md s.L s.key (s.logN boot j) [] (rootB r)).length ≤ _; omega⟩
  rw [hl, sizeG_pos hs.g]
  have hg := isG_cases hs.g
  show recAt s.n r.c + _ ≤ _
  omega
theorem logW_snap (hc : s.pw.can = true) : (s.logW md boot j r).sd.snap = layO s.sd.snap (s.logR md boot j r) := by
  simp [WS.logW, SdS.write, hc, SdS.snap, List.foldl_append]
theorem logW_rec (hs : s.Fit k) (hc : s.pw.can = true) (c : Int) : (s.logW md boot j r).recOf c = if c % 2 = r.c % 2 then (s.logR md boot j r).2 else s.recOf c := by
  have hp := recAt_fit hs c
  have hp2 := recAt_fit hs r.c
  have hl := logR_len (md := md) (s := s) (boot := boot) (j := j) (r := r)
  have hsl := snap_lenS hs
  have hg := isG_cases hs.g
  have e : (s.logW md boot j r).recOf c = sub (layO s.sd.snap (s.logR md boot j r)) (recAt s.n c).toNat 60 := by rw [WS.recOf, logW_snap hc]; rfl
  have h1 : (s.logR md boot j r).1 = recAt s.n r.c := rfl
  have hfit : (s.logR md boot j r).1.toNat + (s.logR md boot j r).2.length ≤ s.sd.snap.length := by rw [h1, hl]; omega
  rw [e]
  split
  · rename_i hh
    have : recAt s.n c = recAt s.n r.c := by unfold recAt; rw [hh]
    rw [this, sub_in hfit (by rw [h1]; omega) (by rw [h1, hl]; omega), h1, Nat.sub_self, sub, List.drop_zero, List.take_of_length_le (by omega)]
  · rename_i hh
    rw [sub_out hfit (by rw [h1, hl]; unfold recAt at *; omega)]; rfl
/-- The record of a count stands there. -/
structure Filed (md : Bool) (s : WS) (c : Int) (r : Rt) (e v : Int) (b : Bs) (tg : Pr) : Prop where
  rc : s.recOf c = recB e v b tg
  he : 0 ≤ e ∧ e < 4294967296
  hv : 0 ≤ v ∧ v < 18446744073709551616
  hb : b.length = 32
  ht : Wfp tg
  op : openP md s.L (ofK s.ks.seed e) (e, 65535, v) [] b tg = some (rootB r)
  wf : r.Wf
  g : isG r.n = true
  cc : r.c = c
theorem Filed.opened {c e v : Int} {b : Bs} {tg : Pr} (h : Filed md s c r e v b tg) (he : e ∈ s.ks.epochs) (ha : v / 4294967296 = s.ct.at') : (openedR md s (recD (s.recOf c))).bind rootO = some r := by
  rw [h.rc, recD_B e v b tg h.he h.hv h.hb h.ht, openedR, if_pos ⟨he, ha⟩, h.op, Option.bind_some, rootO, (rootG_B r h.wf h.g).1, if_pos rfl, (rootG_B r h.wf h.g).2]
theorem Filed.get {c e v : Int} {b : Bs} {tg : Pr} (h : Filed md s c r e v b tg) (he : e ∈ s.ks.epochs) (ha : v / 4294967296 = s.ct.at') (hn : r.n = s.n) : s.getR md c = some r := by
  rw [WS.getR, h.opened he ha, Option.bind_some, if_pos ⟨h.cc, hn⟩]
theorem filed_logW (hs : s.Fit k) (hk : k ≤ 9000) (hc : s.pw.can = true) (hcur : s.ks.cur ∈ s.ks.epochs ∧ 0 ≤ s.ks.cur ∧ s.ks.cur < 4294967296) (hb : 0 ≤ boot ∧ boot < 4294967296) (hj : j < 100) (hr : r.Wf) (hg : isG r.n = true) (hL : md = true → Seq s.L) :
    Filed md (s.logW md boot j r) r.c r s.ks.cur (boot * 4294967296 + ((j + 1 : Nat) : Int)) (s.logP md boot j r).1 (s.logP md boot j r).2 := by
  have hkey : s.key = ofK s.ks.seed s.ks.cur := by rw [WS.key, if_pos hcur.1]
  have hrb := rootB_len r
  refine ⟨by rw [logW_rec hs hc, if_pos rfl]; rfl, hcur.2, by omega, (sealP_len _ _ _ _ _ _).trans hrb, sealP_wf (Nat.le_trans hs.ll (by omega)) _ _ _ _, ?_, hr, hg, rfl⟩
  have t := openP_back (md := md) hL s.key (s.logN boot j) [] (rootB r) (by simp) (by omega)
  change openP md (sealL md s.L s.key (s.logN boot j) [] (rootB r)) (ofK s.ks.seed s.ks.cur) (s.logN boot j) [] (s.logP md boot j r).1 (s.logP md boot j r).2 = some (rootB r)
  rw [← hkey]
  exact t
theorem Filed.other {c e v : Int} {b : Bs} {tg : Pr} {q : Rt} (h : Filed md s c q e v b tg) (hs : s.Fit k) (hc : s.pw.can = true) (hne : c % 2 ≠ r.c % 2) : Filed md (s.logW md boot j r) c q e v b tg :=
  ⟨by rw [logW_rec hs hc, if_neg hne]; exact h.rc, h.he, h.hv, h.hb, h.ht, openP_seal h.op _ _ _ _, h.wf, h.g, h.cc⟩
/-- Where no epoch that is there is told, nothing is got. -/
theorem getR_none {c : Int} (h : (recD (s.recOf c)).e ∉ s.ks.epochs) : s.getR md c = none := by
  rw [WS.getR, openedR, if_neg (fun hh => h hh.1)]; rfl
end
theorem rec0 {n : Nat} (hg : isG n = true) (seed c : Int) : (recD ((ws0 n seed).recOf c)).e = 0 := by
  have hs := fit_ws0 hg seed
  have hp := recAt_fit hs c
  have hgn := isG_cases hg
  have e : (ws0 n seed).sd.snap = List.replicate (n * 160 + 120) 0 := rfl
  have h4 : ((ws0 n seed).recOf c).take 4 = [0, 0, 0, 0] := by
    rw [WS.recOf, e, sub, List.take_take, List.drop_replicate, List.take_replicate]
    have hn : (ws0 n seed).n = n := rfl
    rw [hn] at hp
    have : min (min 4 60) (n * 160 + 120 - (recAt (ws0 n seed).n c).toNat) = 4 := by rw [hn]; omega
    rw [this]; rfl
  show getB (((ws0 n seed).recOf c).take 4) = 0
  rw [h4]; rfl
theorem get_new {md : Bool} {n : Nat} (hg : isG n = true) (seed c : Int) : (ws0 n seed).getR md c = none :=
  getR_none (by rw [rec0 hg]; simp [ws0])
end Go.Proofs.Ytjehfcjfnmcjcaa


namespace Go.Proofs.Ytjehfcjfnmcjcaa
open Go Go.Abs

set_option maxHeartbeats 1000000 in
theorem law22_known_ae (h : AHeap) : AE Try.prog 53 [] h (.bool true) h := by
  refine AE.pureW is_law22_known (by simp) ?_
  unfold c_law22_known
  (refine go ?_)
  refine WL.callA rfl (by first | exact True.intro | exact rfl) gSL (world_NewG_ac true 4 rfl 1 h) ?_
  rintro _ h1 ⟨n, rfl, g1, hn, k1⟩
  have hF0 := fit_ws0 (n := 4) rfl 1
  have kk : Keeps h h1 := k1.keeps fun _ h => h
  have hx1 := k1.next
  have hE : (ws0 4 1).getE true 0 = 3 := by rw [WS.getE, get_new (n := 4) rfl]; rfl
  (refine go ?_)
  refine WL.call rfl (by first | exact True.intro | exact rfl) gSL (log_Get_ae g1.w hF0 (by omega) (by simp [ws0]) (by simp [ws0]) 0 (by decide)) ?_
  rw [hE]
  clear hE hF0 g1
  generalize (ws0 4 1).getT true 0 = t0
  (refine go ?_)
  refine WL.call rfl (by first | exact True.intro | exact rfl) gSL (log_GetN_ae 0 _) ?_
  (refine go ?_)
  refine WW.ret (PureQ.finD ?_)
  exact fz_b rfl
theorem fit_cur (n : Nat) (seed : Int) : (ws0 n seed).ks.cur = 1 := by simp [ws0, KsS.cur]
/-- A world that records are written in. -/
structure LSt (md : Bool) (s : WS) (k : Nat) : Prop where
  fit : s.Fit k
  free : s.pw.Free
  cur : s.ks.cur ∈ s.ks.epochs ∧ 0 ≤ s.ks.cur ∧ s.ks.cur < 4294967296
  seq : md = true → Seq s.L
  dat : ∀ x ∈ s.L, x.data.length ≤ 4000
  at' : 0 ≤ s.ct.at'
theorem lst0 (md : Bool) {m : Nat} (hG : isG m = true) (seed : Int) : LSt md (ws0 m seed) 0 :=
  ⟨fit_ws0 hG seed, free_ws0 m seed, by rw [fit_cur]; simp [ws0], fun _ => Seq.nil, by simp [ws0], by simp [ws0]⟩
theorem LSt.log {md : Bool} {s : WS} {k : Nat} (h : LSt md s k) (boot : Int) (j : Nat) (r : Rt) : LSt md (s.logW md boot j r) (k + 1) :=
  ⟨fit_logW h.fit, h.free.spend, h.cur, fun e => (h.seq e).sealL _ _ _ _, sealL_mem h.dat (by simp only [newI, rootB_len]; omega), h.at'⟩
end Go.Proofs.Ytjehfcjfnmcjcaa


namespace Go.Proofs.Ytjehfcjfnmcjcaa
open Go Go.Abs

theorem xor_self8 {x y : UInt8} (h : x ^^^ y = x) : y = 0 := by
  have h1 := xor_b8 x y
  rw [h] at h1
  have hx := x.toNat_lt
  have hy := y.toNat_lt
  have := (xor_u8 (a := (x.toNat : Int)) (b := (y.toNat : Int)) (by omega) (by omega)).1 h1
  exact UInt8.toNat_inj.1 (by simpa using this)
/-- A record with anything turned is not got, by an ideal lock. -/
theorem turned_none {s : WS} {c : Int} {X : Iss} {e v : Int} {b : Bs} {tg : Pr} (hL : s.L = [X]) (hX : X.n = (e, 65535, v)) (hb : X.out = b) (ht : X.tag = tg)
    (he : 0 ≤ e ∧ e < 4294967296) (hv : 0 ≤ v ∧ v < 18446744073709551616) (hbl : b.length = 32) (hw : Wfp tg) (hr : (s.recOf c).length = 60) (hne : s.recOf c ≠ recB e v b tg) : s.getR true c = none := by
  have hd := recD_B e v b tg he hv hbl hw
  rw [WS.getR, openedR]
  split
  · have hno : openP true s.L (ofK s.ks.seed (recD (s.recOf c)).e) ((recD (s.recOf c)).e, 65535, (recD (s.recOf c)).v) [] (recD (s.recOf c)).b (recD (s.recOf c)).tg = none := by
      rw [hL]
      show openO _ _ _ _ _ _ = none
      rw [openO, List.find?_cons]
      split
      · rename_i hh
        exfalso
        simp only [isI, Bool.and_eq_true, beq_iff_eq] at hh
        obtain ⟨⟨⟨⟨_, h2⟩, h3⟩, _⟩, h5⟩ := hh
        have h2' : (e, (65535 : Int), v) = ((recD (s.recOf c)).e, 65535, (recD (s.recOf c)).v) := hX.symm.trans h2
        simp only [Prod.mk.injEq, true_and] at h2'
        refine hne (recD_inj hr (recB_len _ _ _ _ hbl) ?_ ?_ ?_ ?_) <;> rw [hd]
        · exact h2'.1.symm
        · exact h2'.2.symm
        · exact h5.symm.trans hb
        · exact h3.symm.trans ht
      · rfl
    rw [hno]; rfl
  · rfl
set_option maxHeartbeats 4000000 in
theorem law22_LogFoe_ae (i : Int) (y : UInt8) (h : AHeap) : AE Try.prog 10 [.int .i64 i, .int .u8 y.toNat] h (.bool true) h := by
  refine AE.pureW is_law22_LogFoe (by simp) ?_
  unfold c_law22_LogFoe
  (refine go ?_)
  (apply WL.orB; exact rfl; exact rfl; exact rfl; exact BP.of; intro hz1)
  · (repeat first | (apply GW.goS; exact Stp.auto) | apply GW.nil | exact rfl)
  (refine go ?_)
  (apply WL.orB; exact rfl; exact rfl; exact rfl; exact BP.of; intro hz2)
  · (repeat first | (apply GW.goS; exact Stp.auto) | apply GW.nil | exact rfl)
  (refine go ?_)
  (refine WW.ifB rfl (fun hz3 => ?_) (fun hz3 => ?_))
  · (refine go ?_)
    refine WW.ret (PureQ.finD ?_)
    exact fz_b rfl
  have hgd : 0 ≤ i ∧ i ≤ 59 ∧ y ≠ 0 := by
    refine ⟨?_, ?_, ?_⟩
    · simp at hz3; omega
    · simp at hz3; omega
    · rintro rfl; simp at hz3
  obtain ⟨hi1, hi2, hy⟩ := hgd
  clear hz3
  obtain ⟨j, rfl⟩ : ∃ j : Nat, i = j := ⟨i.toNat, by omega⟩
  (refine go ?_)
  refine WL.callA rfl (by first | exact True.intro | exact rfl) gSL (world_NewG_ac true 4 rfl 9 h) ?_
  rintro _ h1 ⟨n, rfl, g1, hn, k1⟩
  have hx1 := k1.next
  have hnm : ∀ id, n.own true id → h.next ≤ id := fun id hi => hn id (.inl (WN.own_all hi))
  (refine go ?_)
  refine WL.call rfl (by first | exact True.intro | exact rfl) gSL (nonce_New_ae rfl 0 (by decide)) ?_
  have hmk : ¬ n.nm true h1.next := fun hi => by have := (g1.us _ hi).1; omega
  have hlt : ∀ id, n.nm true id → id < h1.next := fun id hi => (g1.us id hi).1
  refine WL.named (fun h2 => WG true h2 n (ws0 4 9) ∧ Kp (fun id => h.next ≤ id) h h2 ∧ BoxAt h2 h1.next (mkO 0 0)) ⟨g1.new (by repeat first | exact Kp.refl | assumption | with_reducible refine Kp.put ?_ (by omega) _ | with_reducible refine Kp.setN ?_ (by omega) _ | with_reducible refine Kp.keep ?_ _ | with_reducible refine Kp.setW ?_ (by rfl) _), (by repeat first | exact Kp.refl | assumption | with_reducible refine Kp.put ?_ (by omega) _ | with_reducible refine Kp.setN ?_ (by omega) _ | with_reducible refine Kp.keep ?_ _ | with_reducible refine Kp.setW ?_ (by rfl) _), ⟨put_used_nm, gH⟩⟩ ?_
  have hmh : h.next ≤ h1.next := hx1
  generalize h1.next = mk at *
  clear g1 k1
  rintro h2 ⟨g2, k2, b2⟩
  have S0 := lst0 true (m := 4) rfl 9
  have wa : (⟨6, 0, 4, (0, 0)⟩ : Rt).Wf := by constructor <;> decide
  have F1 := filed_logW (r := ⟨6, 0, 4, (0, 0)⟩) (boot := 0) (j := 0) S0.fit (by omega) S0.free.can S0.cur (by decide) (by decide) wa rfl S0.seq
  have S1 := S0.log 0 0 ⟨6, 0, 4, (0, 0)⟩
  have hcan := S0.free.can
  have hP := log_Put_ac g2 S0.fit (by omega) S0.cur.2 b2 (by decide) (by decide) hmk ⟨6, 0, 4, (0, 0)⟩ wa rfl rfl
  rw [hcan] at hP
  rw [fit_cur] at F1
  have hn1 : ((ws0 4 9).logW true 0 0 ⟨6, 0, 4, (0, 0)⟩).n = 4 := rfl
  have hL1 : ((ws0 4 9).logW true 0 0 ⟨6, 0, 4, (0, 0)⟩).L = [newI 1 (ws0 4 9).key (1, 65535, 0 * 4294967296 + ((0 + 1 : Nat) : Int)) [] (rootB ⟨6, 0, 4, (0, 0)⟩)] := rfl
  have hP1 : ((ws0 4 9).logP true 0 0 ⟨6, 0, 4, (0, 0)⟩) = ((newI 1 (ws0 4 9).key (1, 65535, 0 * 4294967296 + ((0 + 1 : Nat) : Int)) [] (rootB ⟨6, 0, 4, (0, 0)⟩)).out, (newI 1 (ws0 4 9).key (1, 65535, 0 * 4294967296 + ((0 + 1 : Nat) : Int)) [] (rootB ⟨6, 0, 4, (0, 0)⟩)).tag) := rfl
  rw [hP1] at F1
  have hXn : (newI 1 (ws0 4 9).key (1, 65535, 0 * 4294967296 + ((0 + 1 : Nat) : Int)) [] (rootB ⟨6, 0, 4, (0, 0)⟩)).n = (1, 65535, 0 * 4294967296 + ((0 + 1 : Nat) : Int)) := rfl
  generalize newI 1 (ws0 4 9).key (1, 65535, 0 * 4294967296 + ((0 + 1 : Nat) : Int)) [] (rootB ⟨6, 0, 4, (0, 0)⟩) = X at *
  clear hP1
  generalize (ws0 4 9).logW true 0 0 ⟨6, 0, 4, (0, 0)⟩ = s1 at *
  have hF1 := S1.fit
  (refine go ?_)
  refine WL.callA rfl (by first | exact True.intro | exact rfl) gSL (hP) ?_
  clear hP S0 hcan
  rintro _ h4 ⟨rfl, g4, b4, k4⟩
  have k5 : Kp (fun id => h.next ≤ id) h h4 := k2.trans (k4.mono fun id _ hh => hh.elim (hnm id) fun e => by omega)
  clear g2 k2 b2 k4 b4
  have hx5 := k5.next
  have hob := g4.w.w
  simp only [wRow] at hob
  have hll : s1.sd.lasts.length = (s1.n * 160 + 120).toNat := by rw [hF1.sd.len, sizeG_pos hF1.g]
  have hfit : ∀ o ∈ s1.sd.waits, 0 ≤ o.1 ∧ o.1 + o.2.length ≤ s1.sd.lasts.length := fun o ho => by have := hF1.sd.w o ho; rw [sizeG_pos hF1.g] at this; omega
  have hsl := snap_lenS hF1
  rw [hn1] at hll hsl
  (refine go ?_)
  refine WL.call rfl (by first | exact True.intro | exact rfl) gSL (ssd_Snap_ae g4.w.sd (by omega) (fun e => by rw [e] at hll; simp at hll) (Nat.le_trans hF1.sd.kw (by omega)) hfit) ?_
  (refine go ?_)
  (refine WW.ifB rfl (fun hz4 => ?_) (fun hz4 => ?_))
  · exfalso; omega
  have hnx := g4.w.nx
  (repeat first | refine WL.go ?_ | refine WW.seq ?_ | refine WW.reg ?_ | refine WL.nil ?_ | refine WW.skip ?_ | refine WW.block ?_ | refine WW.exit ?_ | refine WW.condT rfl ?_ | refine WW.condF rfl ?_ | refine WL.gox ?_ | refine thenN ?_ | refine blkN ?_)
  refine WW.dregX [14] [] n.devs gN (by decide +kernel) ?_
  (refine go ?_)
  have hjl : 640 + j < s1.sd.snap.length := by omega
  obtain ⟨x, hx⟩ : ∃ x, s1.sd.snap[640 + j] = x := ⟨_, rfl⟩
  refine DW.go (hs := Stp.loadi rfl (map_at (List.getElem?_eq_getElem hjl)) (by first | exact getC_at rfl rfl | exact getC_all rfl | exact getC_sub (Nat.le_of_ble_eq_true rfl) (by first | (simp only [putC, AV.cs, encP, encN, encI, encS, encA, List.take_succ_cons, List.take_zero, List.take_nil, List.drop_succ_cons, List.drop_zero, List.drop_nil, List.cons_append, List.nil_append, List.append_nil, List.length_cons, List.length_nil, Nat.zero_add, Nat.add_zero, Nat.reduceAdd]; exact rfl) | exact rfl) | exact getC_sub (by simp) (by first | (simp only [putC, AV.cs, encP, encN, encI, encS, encA, List.take_succ_cons, List.take_zero, List.take_nil, List.drop_succ_cons, List.drop_zero, List.drop_nil, List.cons_append, List.nil_append, List.append_nil, List.length_cons, List.length_nil, Nat.zero_add, Nat.add_zero, Nat.reduceAdd]; exact rfl) | exact rfl)) (by first | exact True.intro | exact rfl)) ?_
  rw [hx]
  (refine go ?_)
  rw [xor_b8]
  have hin : inB s1.sd.lasts.length (640 + (j : Int)) ([x ^^^ y] : Bs).length = true := by rw [hll]; simp [inB]; omega
  refine DW.callSW rfl (by first | exact True.intro | exact rfl) (vs := [.ptr (n.a + 1) 0 0, .int .i64 (640 + (j : Int)), .imm 1 (([x ^^^ y] : Bs).map encB)]) gSL rfl rfl (fun hp => phi_sd n _ _ hp) (ssd_Smash_ae g4.w.sd (by omega) (Nat.le_trans hF1.sd.kw (by omega)) hfit (640 + (j : Int)) [x ^^^ y] (by simp)) ?_
  refine DW.named (fun h6 => WG true h6 n (s1.smash (640 + (j : Int), [x ^^^ y])) ∧ Kp (fun id => h.next ≤ id) h h6) ⟨g4.step (g4.w.putSd _ _) (kp_sd n _ _), k5.trans ((kp_sd n _ _).mono fun id _ hi => hnm id hi)⟩ ?_
  clear g4 k5 hob
  rintro h6 ⟨g6, k6⟩
  have hF2 := fit_smash hF1 (640 + (j : Int), [x ^^^ y])
  have hss : (s1.smash (640 + (j : Int), [x ^^^ y])).sd.snap = layO s1.sd.snap (640 + (j : Int), [x ^^^ y]) := smash_snap hin
  have hro : (s1.smash (640 + (j : Int), [x ^^^ y])).recOf 6 = sub (layO s1.sd.snap (640 + (j : Int), [x ^^^ y])) 640 60 := by
    rw [WS.recOf, hss, show (s1.smash (640 + (j : Int), [x ^^^ y])).n = 4 from hn1]; rfl
  have hr1 : sub s1.sd.snap 640 60 = recB 1 (0 * 4294967296 + ((0 + 1 : Nat) : Int)) X.out X.tag := by
    have := F1.rc
    rw [WS.recOf, hn1] at this
    exact this
  have hfl : (640 + (j : Int)).toNat + ([x ^^^ y] : Bs).length ≤ s1.sd.snap.length := by simp; omega
  have hgR : (s1.smash (640 + (j : Int), [x ^^^ y])).getR true 6 = none := by
    refine turned_none (X := X) hL1 hXn rfl rfl F1.he F1.hv F1.hb F1.ht ?_ ?_
    · rw [hro, sub, List.length_take, List.length_drop, layO_len _ _ (by dsimp only; omega)]; omega
    · rw [hro, ← hr1]
      intro e
      have e1 := congrArg (fun l => l[j]?) e
      simp only [sub, List.getElem?_take, List.getElem?_drop] at e1
      rw [if_pos (by omega), if_pos (by omega), layO_get hfl, if_pos (by simp; omega), List.getElem?_eq_getElem hjl, hx] at e1
      have e2 : 640 + j - (640 + (j : Int)).toNat = 0 := by omega
      rw [e2] at e1
      exact hy (xor_self8 (Option.some.inj e1))
  have hE : (s1.smash (640 + (j : Int), [x ^^^ y])).getE true 6 = 3 := by rw [WS.getE, show (s1.smash (640 + (j : Int), [x ^^^ y])).pw.gone = false from S1.free.g, hgR]; rfl
  have hdat : ∀ z ∈ (s1.smash (640 + (j : Int), [x ^^^ y])).L, z.data.length ≤ 4000 := S1.dat
  have hat : 0 ≤ (s1.smash (640 + (j : Int), [x ^^^ y])).ct.at' := S1.at'
  generalize s1.smash (640 + (j : Int), [x ^^^ y]) = s2 at *
  (refine go ?_)
  refine WL.call rfl (by first | exact True.intro | exact rfl) gSL (log_Get_ae g6.w hF2 (by omega) hdat hat 6 (by decide)) ?_
  rw [hE]
  generalize s2.getT true 6 = t0
  clear hE hgR hro hss
  have hx6 := k6.next
  have kk : Keeps h h6 := k6.keeps fun _ h => h
  (refine go ?_)
  refine WL.call rfl (by first | exact True.intro | exact rfl) gSL (law22_known_ae _) ?_
  (refine go ?_)
  refine WW.ret (PureQ.finD ?_)
  exact fz_b rfl
theorem top_LogFoe (c0 : List AV) (t0 : TypL [.i .i64] c0) (c1 : List AV) (t1 : TypL [.i .u8] c1) :
    AE Try.prog 10 [c0.headD .nilp, c1.headD .nilp] noHeap (.bool true) noHeap := by
  obtain ⟨i, rfl, _⟩ := int_of t0
  obtain ⟨y, rfl⟩ := byte_of t1
  exact law22_LogFoe_ae i y noHeap
end Go.Proofs.Ytjehfcjfnmcjcaa


