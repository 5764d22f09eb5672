/- What the statement's proof needs, part 5. -/
import Derived.Test.YtjehfcjfnmcjcaaQLogKeys4
set_option linter.all false
namespace Go.Proofs.Ytjehfcjfnmcjcaa
open Go Go.Abs

theorem WG.reL {md : Bool} {h h' : AHeap} {n : WN} {s : WS} (hg : WG md h n s) (L' : List Iss) (hk : Kp (fun id => md = true ∧ (id = n.o ∨ id = n.t)) h h') (h1 : md = true → h'.get n.o = some (.mem 2 [[.app n.t 0 10 (L'.map encI), .map n.q]]) ∧ h'.get n.t = some (.tail 0 L'.length)) (h2 : md = false → L' = s.L) : WG md h' n { s with L := L' } := by
  have hw := hg.w
  have g : ∀ id, n.nm md id → (md = true → id ≠ n.o ∧ id ≠ n.t) → h'.get id = h.get id := fun id hi hne => hk.get id (hg.us id hi) fun ⟨e, h⟩ => h.elim (hne e).1 (hne e).2
  have hoB := hw.oB
  have ga : ∀ i, 0 < i ∧ i < 11 ∧ i ≠ 8 → h'.get (n.a + i) = h.get (n.a + i) := fun i hi => g _ (.inl (.inr (.inr (.inl (by omega))))) fun e => by have := hw.oo e; omega
  have gB : h'.get n.B = h.get n.B := g _ (.inl (.inr (.inr (.inl (by omega))))) fun e => by have := hw.oo e; omega
  have gE : h'.get n.E = h.get n.E := g _ (.inl (.inr (.inr (.inl (by omega))))) fun e => by have := hw.oo e; omega
  have gp : h'.get n.p = h.get n.p := g _ (.inl (.inl rfl)) fun e => by obtain ⟨a, b, _⟩ := hw.nep.2 e; exact ⟨Ne.symm a, Ne.symm b⟩
  have key : ∀ {i j : Nat} {y z : AObj}, h.get i = some y → h.get j = some z → y ≠ z → i ≠ j := fun hi hj hne e => by
    subst e; rw [hi] at hj; exact hne (Option.some.inj hj)
  have gl : h'.get n.l = h.get n.l := g _ (.inl (.inr (.inl rfl))) fun e => by
    obtain ⟨q0, q1, q2, q3⟩ := hw.lk.id e
    exact ⟨key q0 q1 (by simp [idC]), key q0 q2 (by simp)⟩
  have gq : md = true → h'.get n.q = h.get n.q := fun e => g _ (.inr rfl) fun _ => by
    obtain ⟨q0, q1, q2, q3⟩ := hw.lk.id e
    exact ⟨key q3 q1 (by simp), key q3 q2 (by simp)⟩
  have gqf : md = false → h'.get n.q = none := fun e => (g _ (.inr rfl) fun e' => by rw [e] at e'; cases e').trans (hg.qn e)
  refine ⟨⟨hw.sd.same gp (ga 1 (by omega)) gB (ga 2 (by omega)) (ga 3 (by omega)), hw.dk.same gp (ga 4 (by omega)) (ga 5 (by omega)) (ga 6 (by omega)), (ga 7 (by omega)).trans hw.ct, hw.ks.same (ga 9 (by omega)) gE, (ga 10 (by omega)).trans hw.w, ⟨fun e => ?_, fun e => gl.trans (hw.lk.re e)⟩, hw.op, hw.ol, hw.oo, Nat.le_trans hw.nx hk.next, hw.oB, ⟨Nat.lt_of_lt_of_le hw.nB.1 hk.next, Nat.lt_of_lt_of_le hw.nB.2 hk.next⟩⟩, fun id hi => hk.us id (hg.us id hi), gqf⟩
  obtain ⟨q0, q1, q2, q3⟩ := hw.lk.id e
  obtain ⟨e1, e2⟩ := h1 e
  exact ⟨gl.trans q0, ⟨e1, e2, (gq e).trans q3⟩⟩
def WS.logN (s : WS) (boot : Int) (j : Nat) : Nn := (s.ks.cur, 65535, boot * 4294967296 + ((j + 1 : Nat) : Int))
def WS.logP (md : Bool) (s : WS) (boot : Int) (j : Nat) (r : Rt) : Bs × Pr := sealP md s.L s.key (s.logN boot j) [] (rootB r)
def WS.logR (md : Bool) (s : WS) (boot : Int) (j : Nat) (r : Rt) : Wr := (recAt s.n r.c, recB s.ks.cur (boot * 4294967296 + ((j + 1 : Nat) : Int)) (s.logP md boot j r).1 (s.logP md boot j r).2)
def WS.logW (md : Bool) (s : WS) (boot : Int) (j : Nat) (r : Rt) : WS := { s with L := sealL md s.L s.key (s.logN boot j) [] (rootB r), pw := s.pw.spend, sd := s.sd.write (s.logR md boot j r) s.pw.can }
theorem sealP_len (md : Bool) (L : List Iss) (k : Pr) (n : Nn) (head data : Bs) : (sealP md L k n head data).1.length = data.length := by
  cases md with
  | true => simp only [sealP, newI, sealB, rep_len]
  | false => simp only [sealP, gcmB_len]
set_option maxHeartbeats 1000000 in
theorem log_Put_ac {md : Bool} {h : AHeap} {n : WN} {s : WS} {k : Nat} (hg : WG md h n s) (hs : s.Fit k) (hk : k ≤ 9000) (hcur : 0 ≤ s.ks.cur ∧ s.ks.cur < 4294967296) {mk : Nat} {boot : Int} {j : Nat} (hm : BoxAt h mk (mkO boot j)) (hb : 0 ≤ boot ∧ boot < 4294967296) (hj : j < 100) (hne : ¬ n.nm md mk) (r : Rt) (hr : r.Wf) (hrg : isG r.n = true) (hrn : r.n = s.n) :
    AC Try.prog 51 [.ptr (n.a + 10) 0 0, .ptr mk 0 0, .agg (encRt r)] h
      (fun v h' => v = .int .i64 (if s.pw.can then 0 else 7) ∧ WG md h' n (s.logW md boot j r) ∧ BoxAt h' mk (mkO boot (j + 1)) ∧ Kp (fun id => n.own md id ∨ id = mk) h h') := by
  refine AC.introW is_log_Put (by simp) ?_
  unfold c_log_Put
  have hob := hg.w.w
  simp only [wRow] at hob
  have hlt : ∀ id, n.nm md id → id < h.next := fun id hi => (hg.us id hi).1
  have hmk : mk < h.next := hm.u.1
  have hgg := isG_cases hs.g
  have hna : n.a + 11 ≤ h.next := hg.w.nx
  have hnB : n.B < h.next ∧ n.E < h.next := hg.w.nB
  have hoB := hg.w.oB
  have hop := hg.w.op
  (refine go ?_)
  refine WL.call rfl (by first | exact True.intro | exact rfl) gSL (root_Put_ae r hr _) ?_
  rw [hrg]
  simp only [if_true]
  (refine go ?_)
  (refine WW.ifB rfl (fun hz1 => ?_) (fun hz1 => ?_))
  · exfalso; simp at hz1; exact hz1 hrn
  have hcur' := hcur
  (refine go ?_)
  refine WL.call rfl (by first | exact True.intro | exact rfl) gSL (world_Key_ae (hg.new (by repeat first | exact Kp.refl | assumption | with_reducible refine Kp.put ?_ (by omega) _ | with_reducible refine Kp.setN ?_ (by omega) _ | with_reducible refine Kp.keep ?_ _ | with_reducible refine Kp.setW ?_ (by rfl) _)).w hcur) ?_
  (refine go ?_)
  refine WL.call rfl (by first | exact True.intro | exact rfl) gSL (nonce_Next_ae ((gE : _ = h.get mk).trans hm.g) hb hj s.ks.cur 65535 (by decide)) ?_
  refine WL.named (fun h3 => WG md h3 n s ∧ BoxAt h3 mk (mkO boot (j + 1)) ∧ Kp (fun id => id = mk) h h3 ∧ h3.get h.next = some (.mem 5 [encRt r]) ∧ h3.get (h.next + 1) = some (.mem 2 [encP s.key]) ∧ h3.next = h.next + 2) ⟨hg.kp (W := fun id => id = mk) (by repeat first | exact Kp.refl | assumption | with_reducible refine Kp.put ?_ (by omega) _ | with_reducible refine Kp.setN ?_ (by omega) _ | with_reducible refine Kp.keep ?_ _ | with_reducible refine Kp.setW ?_ (by simp; done) _) (fun id hi e => hne (e ▸ hi)), ⟨?_, gH⟩, (by repeat first | exact Kp.refl | assumption | with_reducible refine Kp.put ?_ (by omega) _ | with_reducible refine Kp.setN ?_ (by omega) _ | with_reducible refine Kp.keep ?_ _ | with_reducible refine Kp.setW ?_ (by simp; done) _), gH, gH, (gN : _ = h.next + 1 + 1)⟩ ?_
  · exact (((by repeat first | exact Kp.refl | assumption | with_reducible refine Kp.put ?_ (by omega) _ | with_reducible refine Kp.setN ?_ (by omega) _ | with_reducible refine Kp.keep ?_ _ | with_reducible refine Kp.setW ?_ (by simp; done) _) : Kp (fun id => id = mk) h _)).us mk hm.u
  clear hob
  rintro h3 ⟨g3, b3, k3, r1, r2, hn3⟩
  (refine go ?_)
  have hx3 := k3.next
  have hrb := rootB_len r
  have hll := hs.ll
  have hLk : n.l < h.next := hlt _ (.inl (.inr (.inl rfl)))
  refine WW.thenI (fun e' F' => subE [(0, some (.ptr (n.a + 10) 0 0)), (5, some (.ptr h.next 0 0)), (11, some (.ptr (h.next + 2) 0 0)), (13, some (.ptr (h.next + 3) 0 0))] e' ∧ WG md F' n { s with L := sealL md s.L s.key (s.logN boot j) [] (rootB r) } ∧ BoxAt F' mk (mkO boot (j + 1)) ∧ Kp (fun id => n.own md id ∨ id = mk) h F' ∧ F'.get h.next = some (.mem 5 [encRt r]) ∧ F'.get (h.next + 2) = some (.mem 3 [encN (s.logN boot j)]) ∧ F'.get (h.next + 3) = some (.mem 3 [encS (s.logP md boot j r).1 (s.logP md boot j r).2]) ∧ F'.next = h.next + 4) ?_ ?_
  · cases md with
    | true =>
      have hoL : n.o < h.next := hlt _ (.inl (.inr (.inr (.inr ⟨rfl, .inl rfl⟩))))
      have htL : n.t < h.next := hlt _ (.inl (.inr (.inr (.inr ⟨rfl, .inr (.inl rfl)⟩))))
      have hqL : n.q < h.next := hlt _ (.inr rfl)
      have hoo := g3.w.oo rfl
      have hob3 := g3.w.w
      simp only [wRow] at hob3
      refine WW.dregA [11] [7, 12] [7] [3, 4, 5] [n.t, n.o] gN (by decide +kernel) ?_
      iterate 3 (refine DA.go ?_)
      refine DA.goF (hs := fun h2 hp2 => by apply Stp.load1; exact rfl; exact (hp2 _ (by omega) (by simp; omega)).trans gH; exact (by first | exact getC_at rfl rfl | exact getC_all rfl | exact getC_sub (Nat.le_of_ble_eq_true rfl) (by first | (simp only [putC, AV.cs, encP, encN, encI, encS, encA, List.take_succ_cons, List.take_zero, List.take_nil, List.drop_succ_cons, List.drop_zero, List.drop_nil, List.cons_append, List.nil_append, List.append_nil, List.length_cons, List.length_nil, Nat.zero_add, Nat.add_zero, Nat.reduceAdd]; exact rfl) | exact rfl) | exact getC_sub (by simp) (by first | (simp only [putC, AV.cs, encP, encN, encI, encS, encA, List.take_succ_cons, List.take_zero, List.take_nil, List.drop_succ_cons, List.drop_zero, List.drop_nil, List.cons_append, List.nil_append, List.append_nil, List.length_cons, List.length_nil, Nat.zero_add, Nat.add_zero, Nat.reduceAdd]; exact rfl) | exact rfl)); exact (by first | exact True.intro | exact rfl)) ?_
      refine DA.goF (hs := fun h2 hp2 => by apply Stp.load1; exact rfl; exact (hp2 _ (by omega) (by simp; omega)).trans gH; exact (by first | exact getC_at rfl rfl | exact getC_all rfl | exact getC_sub (Nat.le_of_ble_eq_true rfl) (by first | (simp only [putC, AV.cs, encP, encN, encI, encS, encA, List.take_succ_cons, List.take_zero, List.take_nil, List.drop_succ_cons, List.drop_zero, List.drop_nil, List.cons_append, List.nil_append, List.append_nil, List.length_cons, List.length_nil, Nat.zero_add, Nat.add_zero, Nat.reduceAdd]; exact rfl) | exact rfl) | exact getC_sub (by simp) (by first | (simp only [putC, AV.cs, encP, encN, encI, encS, encA, List.take_succ_cons, List.take_zero, List.take_nil, List.drop_succ_cons, List.drop_zero, List.drop_nil, List.cons_append, List.nil_append, List.append_nil, List.length_cons, List.length_nil, Nat.zero_add, Nat.add_zero, Nat.reduceAdd]; exact rfl) | exact rfl)); exact (by first | exact True.intro | exact rfl)) ?_
      refine DA.goF (hs := fun h2 hp2 => by apply Stp.load1; exact rfl; exact (hp2 _ (by omega) (by simp; omega)).trans gH; exact (by first | exact getC_at rfl rfl | exact getC_all rfl | exact getC_sub (Nat.le_of_ble_eq_true rfl) (by first | (simp only [putC, AV.cs, encP, encN, encI, encS, encA, List.take_succ_cons, List.take_zero, List.take_nil, List.drop_succ_cons, List.drop_zero, List.drop_nil, List.cons_append, List.nil_append, List.append_nil, List.length_cons, List.length_nil, Nat.zero_add, Nat.add_zero, Nat.reduceAdd]; exact rfl) | exact rfl) | exact getC_sub (by simp) (by first | (simp only [putC, AV.cs, encP, encN, encI, encS, encA, List.take_succ_cons, List.take_zero, List.take_nil, List.drop_succ_cons, List.drop_zero, List.drop_nil, List.cons_append, List.nil_append, List.append_nil, List.length_cons, List.length_nil, Nat.zero_add, Nat.add_zero, Nat.reduceAdd]; exact rfl) | exact rfl)); exact (by first | exact True.intro | exact rfl)) ?_
      (repeat first | refine DA.go ?_ | refine DA.goF ?_ | refine DA.new ?_ | refine DA.set ?_ | refine DA.endL ?_ | refine thenN ?_ | refine blkN ?_)
      refine DA.callSS (i1 := n.t) (i2 := n.o) (vs := [.ptr n.l 0 0, .agg (encP s.key), .agg (encN (s.logN boot j)), .imm 1 (([] : Bs).map encB), .imm 1 ((rootB r).map encB)]) rfl (by first | exact True.intro | exact rfl) gSL rfl rfl rfl (fun _ hp => PhiW.setW (by simp) (PhiW.setW (by simp) hp)) ⟨by omega, by omega⟩
        (fun h5 hs => lock_SealI_ae ((g3.w.lk.same ((hs.2 _ (by omega)).trans gE) (fun _ => ⟨(hs.2 _ (by omega)).trans gE, (hs.2 _ (by omega)).trans gE, (hs.2 _ (by omega)).trans gE⟩)).id rfl) (by omega) s.key (s.logN boot j) [] (rootB r) (by simp) (by omega)) ?_
      (repeat first | refine DA.go ?_ | refine DA.goF ?_ | refine DA.new ?_ | refine DA.set ?_ | refine DA.endL ?_ | refine thenN ?_ | refine blkN ?_)
      have hSL : sealL true s.L s.key (s.logN boot j) [] (rootB r) = s.L ++ [newI (s.L.length + 1) s.key (s.logN boot j) [] (rootB r)] := rfl
      have hto : n.t ≠ n.o := fun e => by
        obtain ⟨q0, q1, q2, q3⟩ := g3.w.lk.id rfl
        rw [e, q1] at q2; cases q2
      have hom : n.nm true n.o := .inl (.inr (.inr (.inr ⟨rfl, .inl rfl⟩)))
      have htm : n.nm true n.t := .inl (.inr (.inr (.inr ⟨rfl, .inr (.inl rfl)⟩)))
      refine ⟨rfl, gSUB, g3.reL _ (by repeat first | exact Kp.refl | assumption | with_reducible refine Kp.put ?_ (by omega) _ | with_reducible refine Kp.setN ?_ (by omega) _ | with_reducible refine Kp.keep ?_ _ | with_reducible refine Kp.setW ?_ (by simp; done) _) (fun _ => ⟨by rw [hSL]; exact gH, by rw [hSL, List.length_append]; exact gH⟩) nofun, b3.kp (W := fun id => id = n.o ∨ id = n.t) (by repeat first | exact Kp.refl | assumption | with_reducible refine Kp.put ?_ (by omega) _ | with_reducible refine Kp.setN ?_ (by omega) _ | with_reducible refine Kp.keep ?_ _ | with_reducible refine Kp.setW ?_ (by simp; done) _) (fun hh => hne (hh.elim (fun e => e ▸ hom) fun e => e ▸ htm)), ?_, gH, gH, gH, ?_⟩
      · exact (k3.mono fun _ _ e => .inr e).trans (((by repeat first | exact Kp.refl | assumption | with_reducible refine Kp.put ?_ (by omega) _ | with_reducible refine Kp.setN ?_ (by omega) _ | with_reducible refine Kp.keep ?_ _ | with_reducible refine Kp.setW ?_ (by simp; done) _) : Kp (fun id => id = n.o ∨ id = n.t) h3 _).mono fun id _ e => .inl (.inr (.inr ⟨rfl, e.elim .inl fun e => .inr (.inl e)⟩)))
      · exact (show _ = h.next + 2 + 1 + 1 from next_setE (next_putK (by omega) (next_setE (next_setE (next_keepE (n := h.next + 2 + 1) gN)))))
    | false =>
      have hob3 := g3.w.w
      simp only [wRow] at hob3
      refine WW.dregA [11] [7, 12] [7] [3, 4, 5] [] gN (by decide +kernel) ?_
      (repeat first | refine DA.go ?_ | refine DA.goF ?_ | refine DA.new ?_ | refine DA.set ?_ | refine DA.endL ?_ | refine thenN ?_ | refine blkN ?_)
      refine DA.callP rfl (by first | exact True.intro | exact rfl) (vs := [.ptr n.l 0 0, .agg (encP s.key), .agg (encN (s.logN boot j)), .imm 1 (([] : Bs).map encB), .imm 1 ((rootB r).map encB)]) gSL rfl rfl rfl (fun h5 hs => lock_SealR_ae (((hs.2 _ (by omega)).trans gE).trans (g3.w.lk.re rfl)) s.key (s.logN boot j) [] (rootB r) (by simp) (by omega)) ?_
      (repeat first | refine DA.go ?_ | refine DA.goF ?_ | refine DA.new ?_ | refine DA.set ?_ | refine DA.endL ?_ | refine thenN ?_ | refine blkN ?_)
      refine ⟨rfl, gSUB, g3.reL _ (by repeat first | exact Kp.refl | assumption | with_reducible refine Kp.put ?_ (by omega) _ | with_reducible refine Kp.setN ?_ (by omega) _ | with_reducible refine Kp.keep ?_ _ | with_reducible refine Kp.setW ?_ (by simp; done) _) nofun (fun _ => rfl), b3.kp (W := fun _ => False) (by repeat first | exact Kp.refl | assumption | with_reducible refine Kp.put ?_ (by omega) _ | with_reducible refine Kp.setN ?_ (by omega) _ | with_reducible refine Kp.keep ?_ _ | with_reducible refine Kp.setW ?_ (by simp; done) _) (fun h => h), ?_, gH, gH, gH, ?_⟩
      · exact (k3.mono fun _ _ e => .inr e).trans (((by repeat first | exact Kp.refl | assumption | with_reducible refine Kp.put ?_ (by omega) _ | with_reducible refine Kp.setN ?_ (by omega) _ | with_reducible refine Kp.keep ?_ _ | with_reducible refine Kp.setW ?_ (by simp; done) _) : Kp (fun _ => False) h3 _).mono fun id _ e => e.elim)
      · exact (show _ = h.next + 2 + 1 + 1 from next_setE (next_putK (by omega) (next_keepE (n := h.next + 2 + 1) gN)))
  clear g3 b3 k3 r1 r2 hn3
  rintro e7 h5 ⟨hs7, g5, b5, k5, r1, r2, r3, hn5⟩
  refine WW.cvt (Cvt.sub hs7) ?_
  have hob5 := g5.w.w
  simp only [wRow] at hob5
  (refine go ?_)
  have hpl : (s.logP md boot j r).1.length = 32 := (sealP_len _ _ _ _ _ _).trans hrb
  have hv : 0 ≤ boot * 4294967296 + ((j + 1 : Nat) : Int) ∧ boot * 4294967296 + ((j + 1 : Nat) : Int) < 18446744073709551616 := by omega
  refine WL.call rfl (by first | exact True.intro | exact rfl) gSL (root_PutRec_ae s.ks.cur (boot * 4294967296 + ((j + 1 : Nat) : Int)) hcur hv (s.logP md boot j r).1 hpl (s.logP md boot j r).2 _) ?_
  have hxl := recB_len s.ks.cur (boot * 4294967296 + ((j + 1 : Nat) : Int)) (s.logP md boot j r).1 (s.logP md boot j r).2 hpl
  (repeat first | refine WL.go ?_ | refine WW.seq ?_ | refine WW.reg ?_ | refine WL.nil ?_ | refine WW.skip ?_ | refine WW.block ?_ | refine WW.exit ?_ | refine WW.condT rfl ?_ | refine WW.condF rfl ?_ | refine WL.gox ?_ | refine thenN ?_ | refine blkN ?_)
  refine WW.dregX [9] [] n.devs gN (by decide +kernel) ?_
  (refine go ?_)
  refine DW.callS rfl (by first | exact True.intro | exact rfl) gSL rfl (log_place_ae g5.w hs.g r.c hr.c) ?_
  (refine go ?_)
  have hlt5 : ∀ id, n.nm md id → id < h.next := hlt
  have hlls : s.sd.lasts.length = (s.n * 160 + 120).toNat := by rw [hs.sd.len, sizeG_pos hs.g]
  have hin : inB s.sd.lasts.length (recAt s.n r.c) 60 = true := by
    have hp : 0 ≤ recAt s.n r.c ∧ recAt s.n r.c + 60 ≤ s.n * 160 + 120 := by unfold recAt; omega
    rw [hlls]; generalize recAt s.n r.c = X at *; simp [inB]; omega
  refine DW.callSW rfl (by first | exact True.intro | exact rfl) gSL rfl rfl (fun hp => phi_sd n _ _ hp) (ssd_Write_ae g5.w.sd hs.pw (by omega) (by show s.sd.lasts.length ≤ _; omega) (Nat.le_trans hs.sd.kw (by omega)) (Nat.le_trans hs.sd.kt (by omega)) (recAt s.n r.c) (recB s.ks.cur (boot * 4294967296 + ((j + 1 : Nat) : Int)) (s.logP md boot j r).1 (s.logP md boot j r).2) (by omega)) ?_
  rw [hxl, show ((60 : Nat) : Int) = 60 from rfl, hin]
  simp only [Bool.true_and, if_true]
  refine DW.named (fun h6 => WG md h6 n (s.logW md boot j r) ∧ BoxAt h6 mk (mkO boot (j + 1)) ∧ Kp (fun id => n.own md id ∨ id = mk) h h6) ⟨g5.step (g5.w.putSd _ _) (kp_sd n _ _), b5.kp (kp_sd n _ _) (fun hi => hne (.inl (WN.own_all hi))), k5.trans ((kp_sd n _ _).mono fun id _ hi => .inl hi)⟩ ?_
  clear g5 b5 k5 hob5
  rintro h6 ⟨g6, b6, k6⟩
  cases hc : s.pw.can with
  | false =>
    (refine go ?_)
    exact WW.ret ⟨.inl rfl, _, gRES, rfl, g6, b6, k6⟩
  | true =>
    (refine go ?_)
    exact WW.ret ⟨.inl rfl, _, gRES, rfl, g6, b6, k6⟩
end Go.Proofs.Ytjehfcjfnmcjcaa


namespace Go.Proofs.Ytjehfcjfnmcjcaa
open Go Go.Abs

theorem recD_B (e v : Int) (b : Bs) (tg : Pr) (he : 0 ≤ e ∧ e < 4294967296) (hv : 0 ≤ v ∧ v < 18446744073709551616) (hb : b.length = 32) (ht : Wfp tg) : recD (recB e v b tg) = ⟨e, v, b, tg⟩ := by
  have e1 : (recB e v b tg).take 4 = putB e 4 := List.take_left' (putB_lenN _ 4 (by decide))
  have s4 : (recB e v b tg).drop 4 = putB v 8 ++ (b ++ pairB tg) := List.drop_left' (putB_lenN _ 4 (by decide))
  have s12 : (recB e v b tg).drop 12 = b ++ pairB tg := by
    rw [show 12 = 4 + 8 from rfl, ← List.drop_drop, s4]; exact List.drop_left' (putB_lenN _ 8 (by decide))
  have s44 : (recB e v b tg).drop 44 = pairB tg := by
    rw [show 44 = 12 + 32 from rfl, ← List.drop_drop, s12]; exact List.drop_left' hb
  have p16 : (pairB tg).take 16 = pairB tg := List.take_of_length_le (by simp [pairB])
  rw [recD, e1, s4, s12, s44, List.take_left' (putB_lenN _ 8 (by decide)), List.take_left' hb, p16, get_put4 _ he, get_put8 _ hv, pairF_B _ ht.1 ht.2]
theorem gcmT_wf (key : Pr) (n : Nn) (head b : Bs) : Wfp (gcmT key n head b) := ⟨x64_rng _ _, x64_rng _ _⟩
/-- Each that was sealed has its number for a tag. -/
def Seq (L : List Iss) : Prop := ∀ i (hi : i < L.length), L[i].tag = (ones, ((i + 1 : Nat) : Int))
theorem Seq.nil : Seq [] := fun i hi => by simp at hi
theorem Seq.put {L : List Iss} (h : Seq L) (k : Pr) (n : Nn) (hd d : Bs) : Seq (L ++ [newI (L.length + 1) k n hd d]) := fun i hi => by
  rw [List.getElem_append]
  split
  · exact h i _
  · have : i = L.length := by simp at hi; omega
    subst this
    simp [newI]
theorem Seq.sealL {md : Bool} {L : List Iss} (h : Seq L) (k : Pr) (n : Nn) (hd d : Bs) : Seq (sealL md L k n hd d) := by
  cases md with
  | true => exact h.put k n hd d
  | false => exact h
theorem Seq.found {L : List Iss} (h : Seq L) (i : Nat) (hi : i < L.length) : openO L L[i].key L[i].n L[i].head L[i].out L[i].tag = some L[i].data := by
  have hp : isI L[i].key L[i].n L[i].head L[i].out L[i].tag L[i] = true := by simp [isI]
  cases hf : L.find? (isI L[i].key L[i].n L[i].head L[i].out L[i].tag) with
  | none => exact absurd hp (by have := List.find?_eq_none.1 hf L[i] (List.getElem_mem hi); simpa using this)
  | some y =>
    have hy := List.find?_some hf
    obtain ⟨j, hj, rfl⟩ := List.mem_iff_getElem.1 (List.mem_of_find?_eq_some hf)
    have ht : L[j].tag = L[i].tag := by simp only [isI, Bool.and_eq_true, beq_iff_eq] at hy; exact hy.1.1.2
    rw [h j hj, h i hi] at ht
    have : j = i := by have := congrArg Prod.snd ht; simp at this; exact_mod_cast this
    subst this
    rw [openO, hf]; rfl
theorem openO_app {L M : List Iss} {k : Pr} {n : Nn} {hd b : Bs} {tg : Pr} {d : Bs} (h : openO L k n hd b tg = some d) : openO (L ++ M) k n hd b tg = some d := by
  rw [openO, Option.map_eq_some_iff] at h
  obtain ⟨x, hx, rfl⟩ := h
  rw [openO, List.find?_append, hx]; rfl
theorem openP_seal {md : Bool} {L : List Iss} {k : Pr} {n : Nn} {hd b : Bs} {tg : Pr} {d : Bs} (h : openP md L k n hd b tg = some d) (k2 : Pr) (n2 : Nn) (hd2 d2 : Bs) : openP md (sealL md L k2 n2 hd2 d2) k n hd b tg = some d := by
  cases md with
  | true => exact openO_app h
  | false => exact h
theorem openP_back {md : Bool} {L : List Iss} (hL : md = true → Seq L) (k : Pr) (n : Nn) (hd d : Bs) (h1 : hd.length ≤ 4000) (h2 : d.length ≤ 4000) : openP md (sealL md L k n hd d) k n hd (sealP md L k n hd d).1 (sealP md L k n hd d).2 = some d := by
  cases md with
  | true =>
    have := ((hL rfl).put k n hd d).found L.length (by simp)
    have hx : (L ++ [newI (L.length + 1) k n hd d])[L.length]'(by simp) = newI (L.length + 1) k n hd d := by simp
    rw [hx] at this
    exact this
  | false => exact gcmO_back2 k n hd d h1 h2
theorem sealP_wf {md : Bool} {L : List Iss} (hL : L.length ≤ 1000000) (k : Pr) (n : Nn) (hd d : Bs) : Wfp (sealP md L k n hd d).2 := by
  cases md with
  | true => simp only [sealP, newI, Wfp, ones]; omega
  | false => exact gcmT_wf _ _ _ _
theorem sealL_len (md : Bool) (L : List Iss) (k : Pr) (n : Nn) (hd d : Bs) : (sealL md L k n hd d).length ≤ L.length + 1 := by
  cases md with
  | true => simp [sealL]
  | false => simp [sealL]
theorem sealL_mem {md : Bool} {L : List Iss} {k : Pr} {n : Nn} {hd d : Bs} {P : Iss → Prop} (h : ∀ x ∈ L, P x) (h1 : P (newI (L.length + 1) k n hd d)) : ∀ x ∈ sealL md L k n hd d, P x := by
  cases md with
  | true =>
    intro x hx
    rcases List.mem_append.1 hx with hx | hx
    · exact h x hx
    · obtain rfl := List.mem_singleton.1 hx; exact h1
  | false => exact h
section
variable {md : Bool} {s : WS} {k : Nat} {boot : Int} {j : Nat} {r : Rt}
theorem logR_len : (s.logR md boot j r).2.length = 60 := recB_len _ _ _ _ ((sealP_len _ _ _ _ _ _).trans (rootB_len r))
theorem recAt_fit (hs : s.Fit k) (c : Int) : 0 ≤ recAt s.n c ∧ recAt s.n c + 60 ≤ s.n * 160 + 120 := by
  have hg := isG_cases hs.g
  unfold recAt; omega
theorem fit_logW (hs : s.Fit k) : (s.logW md boot j r).Fit (k + 1) := by
  have hp := recAt_fit hs r.c
  have hl := logR_len (md := md) (s := s) (boot := boot) (j := j) (r := r)
  have hll := hs.ll
  have h2 := sealL_len md s.L s.key (s.logN boot j) [] (rootB r)
  refine ⟨hs.g, hs.pw.spend, hs.sd.write (o := s.logR md boot j r) ⟨hp.1, ?_⟩ s.pw.can, Nat.le_succ_of_le hs.ss, by show (sealL md s.L s.key (s.logN boot j) [] (rootB r)).length ≤ _; omega⟩
  rw [hl, sizeG_pos hs.g]
  have hg := isG_cases hs.g
  show recAt s.n r.c + _ ≤ _
  omega
theorem logW_snap (hc : s.pw.can = true) : (s.logW md boot j r).sd.snap = layO s.sd.snap (s.logR md boot j r) := by
  simp [WS.logW, SdS.write, hc, SdS.snap, List.foldl_append]
theorem logW_rec (hs : s.Fit k) (hc : s.pw.can = true) (c : Int) : (s.logW md boot j r).recOf c = if c % 2 = r.c % 2 then (s.logR md boot j r).2 else s.recOf c := by
  have hp := recAt_fit hs c
  have hp2 := recAt_fit hs r.c
  have hl := logR_len (md := md) (s := s) (boot := boot) (j := j) (r := r)
  have hsl := snap_lenS hs
  have hg := isG_cases hs.g
  have e : (s.logW md boot j r).recOf c = sub (layO s.sd.snap (s.logR md boot j r)) (recAt s.n c).toNat 60 := by rw [WS.recOf, logW_snap hc]; rfl
  have h1 : (s.logR md boot j r).1 = recAt s.n r.c := rfl
  have hfit : (s.logR md boot j r).1.toNat + (s.logR md boot j r).2.length ≤ s.sd.snap.length := by rw [h1, hl]; omega
  rw [e]
  split
  · rename_i hh
    have : recAt s.n c = recAt s.n r.c := by unfold recAt; rw [hh]
    rw [this, sub_in hfit (by rw [h1]; omega) (by rw [h1, hl]; omega), h1, Nat.sub_self, sub, List.drop_zero, List.take_of_length_le (by omega)]
  · rename_i hh
    rw [sub_out hfit (by rw [h1, hl]; unfold recAt at *; omega)]; rfl
/-- The record of a count stands there. -/
structure Filed (md : Bool) (s : WS) (c : Int) (r : Rt) (e v : Int) (b : Bs) (tg : Pr) : Prop where
  rc : s.recOf c = recB e v b tg
  he : 0 ≤ e ∧ e < 4294967296
  hv : 0 ≤ v ∧ v < 18446744073709551616
  hb : b.length = 32
  ht : Wfp tg
  op : openP md s.L (ofK s.ks.seed e) (e, 65535, v) [] b tg = some (rootB r)
  wf : r.Wf
  g : isG r.n = true
  cc : r.c = c
theorem Filed.opened {c e v : Int} {b : Bs} {tg : Pr} (h : Filed md s c r e v b tg) (he : e ∈ s.ks.epochs) (ha : v / 4294967296 = s.ct.at') : (openedR md s (recD (s.recOf c))).bind rootO = some r := by
  rw [h.rc, recD_B e v b tg h.he h.hv h.hb h.ht, openedR, if_pos ⟨he, ha⟩, h.op, Option.bind_some, rootO, (rootG_B r h.wf h.g).1, if_pos rfl, (rootG_B r h.wf h.g).2]
theorem Filed.get {c e v : Int} {b : Bs} {tg : Pr} (h : Filed md s c r e v b tg) (he : e ∈ s.ks.epochs) (ha : v / 4294967296 = s.ct.at') (hn : r.n = s.n) : s.getR md c = some r := by
  rw [WS.getR, h.opened he ha, Option.bind_some, if_pos ⟨h.cc, hn⟩]
theorem Filed.late {c e v : Int} {b : Bs} {tg : Pr} (h : Filed md s c r e v b tg) (ha : ¬ (e ∈ s.ks.epochs ∧ v / 4294967296 = s.ct.at')) : s.getR md c = none := by
  rw [WS.getR, h.rc, recD_B e v b tg h.he h.hv h.hb h.ht, openedR, if_neg ha]; rfl
theorem filed_logW (hs : s.Fit k) (hk : k ≤ 9000) (hc : s.pw.can = true) (hcur : s.ks.cur ∈ s.ks.epochs ∧ 0 ≤ s.ks.cur ∧ s.ks.cur < 4294967296) (hb : 0 ≤ boot ∧ boot < 4294967296) (hj : j < 100) (hr : r.Wf) (hg : isG r.n = true) (hL : md = true → Seq s.L) :
    Filed md (s.logW md boot j r) r.c r s.ks.cur (boot * 4294967296 + ((j + 1 : Nat) : Int)) (s.logP md boot j r).1 (s.logP md boot j r).2 := by
  have hkey : s.key = ofK s.ks.seed s.ks.cur := by rw [WS.key, if_pos hcur.1]
  have hrb := rootB_len r
  refine ⟨by rw [logW_rec hs hc, if_pos rfl]; rfl, hcur.2, by omega, (sealP_len _ _ _ _ _ _).trans hrb, sealP_wf (Nat.le_trans hs.ll (by omega)) _ _ _ _, ?_, hr, hg, rfl⟩
  have t := openP_back (md := md) hL s.key (s.logN boot j) [] (rootB r) (by simp) (by omega)
  change openP md (sealL md s.L s.key (s.logN boot j) [] (rootB r)) (ofK s.ks.seed s.ks.cur) (s.logN boot j) [] (s.logP md boot j r).1 (s.logP md boot j r).2 = some (rootB r)
  rw [← hkey]
  exact t
theorem Filed.other {c e v : Int} {b : Bs} {tg : Pr} {q : Rt} (h : Filed md s c q e v b tg) (hs : s.Fit k) (hc : s.pw.can = true) (hne : c % 2 ≠ r.c % 2) : Filed md (s.logW md boot j r) c q e v b tg :=
  ⟨by rw [logW_rec hs hc, if_neg hne]; exact h.rc, h.he, h.hv, h.hb, h.ht, openP_seal h.op _ _ _ _, h.wf, h.g, h.cc⟩
/-- Where no epoch that is there is told, nothing is got. -/
theorem getR_none {c : Int} (h : (recD (s.recOf c)).e ∉ s.ks.epochs) : s.getR md c = none := by
  rw [WS.getR, openedR, if_neg (fun hh => h hh.1)]; rfl
end
theorem rec0 {n : Nat} (hg : isG n = true) (seed c : Int) : (recD ((ws0 n seed).recOf c)).e = 0 := by
  have hs := fit_ws0 hg seed
  have hp := recAt_fit hs c
  have hgn := isG_cases hg
  have e : (ws0 n seed).sd.snap = List.replicate (n * 160 + 120) 0 := rfl
  have h4 : ((ws0 n seed).recOf c).take 4 = [0, 0, 0, 0] := by
    rw [WS.recOf, e, sub, List.take_take, List.drop_replicate, List.take_replicate]
    have hn : (ws0 n seed).n = n := rfl
    rw [hn] at hp
    have : min (min 4 60) (n * 160 + 120 - (recAt (ws0 n seed).n c).toNat) = 4 := by rw [hn]; omega
    rw [this]; rfl
  show getB (((ws0 n seed).recOf c).take 4) = 0
  rw [h4]; rfl
theorem get_new {md : Bool} {n : Nat} (hg : isG n = true) (seed c : Int) : (ws0 n seed).getR md c = none :=
  getR_none (by rw [rec0 hg]; simp [ws0])
end Go.Proofs.Ytjehfcjfnmcjcaa


namespace Go.Proofs.Ytjehfcjfnmcjcaa
open Go Go.Abs

set_option maxHeartbeats 1000000 in
theorem law22_known_ae (h : AHeap) : AE Try.prog 53 [] h (.bool true) h := by
  refine AE.pureW is_law22_known (by simp) ?_
  unfold c_law22_known
  (refine go ?_)
  refine WL.callA rfl (by first | exact True.intro | exact rfl) gSL (world_NewG_ac true 4 rfl 1 h) ?_
  rintro _ h1 ⟨n, rfl, g1, hn, k1⟩
  have hF0 := fit_ws0 (n := 4) rfl 1
  have kk : Keeps h h1 := k1.keeps fun _ h => h
  have hx1 := k1.next
  have hE : (ws0 4 1).getE true 0 = 3 := by rw [WS.getE, get_new (n := 4) rfl]; rfl
  (refine go ?_)
  refine WL.call rfl (by first | exact True.intro | exact rfl) gSL (log_Get_ae g1.w hF0 (by omega) (by simp [ws0]) (by simp [ws0]) 0 (by decide)) ?_
  rw [hE]
  clear hE hF0 g1
  generalize (ws0 4 1).getT true 0 = t0
  (refine go ?_)
  refine WL.call rfl (by first | exact True.intro | exact rfl) gSL (log_GetN_ae 0 _) ?_
  (refine go ?_)
  refine WW.ret (PureQ.finD ?_)
  exact fz_b rfl
theorem fit_cur (n : Nat) (seed : Int) : (ws0 n seed).ks.cur = 1 := by simp [ws0, KsS.cur]
/-- A world that records are written in. -/
structure LSt (md : Bool) (s : WS) (k : Nat) : Prop where
  fit : s.Fit k
  free : s.pw.Free
  cur : s.ks.cur ∈ s.ks.epochs ∧ 0 ≤ s.ks.cur ∧ s.ks.cur < 4294967296
  seq : md = true → Seq s.L
  dat : ∀ x ∈ s.L, x.data.length ≤ 4000
  at' : 0 ≤ s.ct.at'
theorem lst0 (md : Bool) {m : Nat} (hG : isG m = true) (seed : Int) : LSt md (ws0 m seed) 0 :=
  ⟨fit_ws0 hG seed, free_ws0 m seed, by rw [fit_cur]; simp [ws0], fun _ => Seq.nil, by simp [ws0], by simp [ws0]⟩
theorem LSt.log {md : Bool} {s : WS} {k : Nat} (h : LSt md s k) (boot : Int) (j : Nat) (r : Rt) : LSt md (s.logW md boot j r) (k + 1) :=
  ⟨fit_logW h.fit, h.free.spend, h.cur, fun e => (h.seq e).sealL _ _ _ _, sealL_mem h.dat (by simp only [newI, rootB_len]; omega), h.at'⟩
end Go.Proofs.Ytjehfcjfnmcjcaa


namespace Go.Abs
open Go
section
variable {P : Program} {N : Nat} {e : Env} {h : AHeap} {m : Inj} {w : World} {nm : Nat}
theorem rename_mem (hr : HR m h w) (hf : ¬ h.used nm) {id sz b : Nat} {c : List (List AV)} (hg : h.get id = some (.mem sz c)) (hb : m id = some (b, 0)) :
    HR (upd m nm (some (b, 0))) ((h.set id none).put nm (.mem sz c)) w ∧ Step m h w (upd m nm (some (b, 0))) ((h.set id none).put nm (.mem sz c)) w := by
  have hrd := hr.del id
  obtain ⟨b', cc, T, q1, q2, q3, q4⟩ := hr.obj _ _ hg
  rw [hb] at q1; cases q1
  have hne : id ≠ nm := used_ne hf (hr.live _ _ hg)
  have sub : ∀ j y, j ≠ nm → ((h.set id none).put nm (.mem sz c)).get j = some y → h.get j = some y ∧ j ≠ id := fun j y hj hgj => by
    simp only [AHeap.put, if_neg hj, AHeap.set] at hgj
    by_cases e : j = id
    · simp [e] at hgj
    · rw [if_neg e] at hgj; exact ⟨hgj, e⟩
  have st : Step m h w (upd m nm (some (b, 0))) ((h.set id none).put nm (.mem sz c)) w := {
    os := rfl
    tape := rfl
    output := rfl
    size := Nat.le_refl _
    kind := fun k cc T fz hb _ => ⟨cc, hb, rfl⟩
    free := fun k hk hfr => ⟨rfl, fun j s y hgj hmj => by
      by_cases e : j = nm
      · subst e
        simp only [upd, if_true] at hmj
        cases hmj
        exact hfr id 0 _ hg hb
      · simp only [upd, if_neg e] at hmj; exact hfr j s y (sub j y e hgj).1 hmj⟩
    cell := fun k o v hcell hn => ⟨hcell, fun ⟨j, s, ⟨y, hgj⟩, hmj, hle⟩ => by
      by_cases e : j = nm
      · subst e
        simp only [upd, if_true] at hmj
        cases hmj
        exact hn ⟨id, 0, ⟨_, hg⟩, hb, Nat.zero_le _⟩
      · simp only [upd, if_neg e] at hmj; exact hn ⟨j, s, ⟨y, (sub j y e hgj).1⟩, hmj, hle⟩⟩
    used := fun _ hu => put_used (h := h.set id none) hu
    live := fun j x' huj hgj => by
      have e : j ≠ nm := used_ne hf huj
      exact ⟨x', (sub j x' e hgj).1, fun _ => by simp [upd, e], Compat.refl _⟩ }
  refine ⟨⟨hrd.put_gapl, hrd.put_live, fun i j y z b2 s r hi hj hmi hmj => ?_, fun j y hgj => ?_⟩, st⟩
  · by_cases ei : i = nm <;> by_cases ej : j = nm
    · rw [ei, ej]
    · subst ei
      simp only [upd, if_true] at hmi
      simp only [upd, if_neg ej] at hmj
      cases hmi
      exact absurd (hr.inj j id z _ b r 0 (sub j z ej hj).1 hg hmj hb) (sub j z ej hj).2
    · subst ej
      simp only [upd, if_true] at hmj
      simp only [upd, if_neg ei] at hmi
      cases hmj
      exact absurd (hr.inj i id y _ b s 0 (sub i y ei hi).1 hg hmi hb) (sub i y ei hi).2
    · simp only [upd, if_neg ei, if_neg ej] at hmi hmj
      exact hr.inj i j y z b2 s r (sub i y ei hi).1 (sub j z ej hj).1 hmi hmj
  · by_cases e : j = nm
    · subst e
      simp only [AHeap.put, if_true] at hgj
      cases hgj
      exact ⟨b, cc, T, by simp [upd], q2, q3, q4.step st⟩
    · exact (hr.obj j y (sub j y e hgj).1).step st (by simp [upd, e]) fun _ _ _ => rfl
theorem append_ref (hr : HR m h w) (hf : ¬ h.used nm) {t ty el : TypeId} {i : TypeInfo} {z : Value} (hu : P.underlying t = some (.slice el)) (hi : P.info? el = some i) (hz : i.zero = some z) (hsz : 0 < i.size) (hb : 0 < i.bytes) (hzz : z.cells.size = i.size)
    {id n : Nat} {c : List (List AV)} {cs : Value} (hs : VR m h w (.ref id 0 n) cs) (hid : h.get id = some (.mem i.size c)) (hn : c.length = n) {x : AV} {cx : Value} (hx : VR m h w x cx) {d : List (List AV)} (hd : rdS h.get i.size x = some d) (hd0 : d ≠ []) (hbig : (n + d.length) * i.bytes ≤ 140737488355328) :
    ∃ m' w' cv, (Builtin.append_ #[t, t] ty #[cs, cx]).run P w = .ok cv w' ∧ HR m' ((h.set id none).put nm (.mem i.size (c ++ d))) w' ∧ Step m h w m' ((h.set id none).put nm (.mem i.size (c ++ d))) w' ∧ VR m' ((h.set id none).put nm (.mem i.size (c ++ d))) w' (.ref nm 0 (n + d.length)) cv := by
  subst hn
  obtain ⟨ad, capx, G, rfl, hcapx, hrow, h1c, hcell⟩ := rdS_list hr hx hd
  obtain ⟨b2, o2, rfl, hc2⟩ := hcell hd0
  have hposd : 0 < d.length := List.length_pos_iff.2 hd0
  have hn1 : (c.length + d.length) * 1 ≤ (c.length + d.length) * i.bytes := Nat.mul_le_mul_left _ hb
  have hcl : (c ++ d).length = c.length + d.length := List.length_append
  cases hs with
  | ref _ _ _ cap a hu' hc ha =>
    obtain ⟨b, hmb, hle, had, cc, T, hcc, hsz2⟩ := ha _ _ hid
    obtain ⟨b', cc', T', q1, q2, q3, q4⟩ := hr.obj _ _ hid
    rw [hmb] at q1; cases q1
    rw [q2] at hcc; cases hcc
    have hrowcd := RowF.append q4 hrow
    have sd : Step m h w m (h.set id none) w := step_del id
    have hfd : ¬ (h.set id none).used nm := hf
    -- the row in a new block
    have fresh : ∀ (base : Addr), cap < c.length + d.length → (∀ j v, ((List.range (c.length * i.size)).map (fun k => cc.getD k undef))[j]? = some v → w.cell? (base.add j) = some v) →
        ∃ m' w' cv, (Builtin.append_ #[t, t] ty #[.slice (some base) c.length cap, .slice (some ⟨b2, o2, none⟩) d.length capx]).run P w = .ok cv w' ∧ HR m' ((h.set id none).put nm (.mem i.size (c ++ d))) w' ∧ Step m h w m' ((h.set id none).put nm (.mem i.size (c ++ d))) w' ∧ VR m' ((h.set id none).put nm (.mem i.size (c ++ d))) w' (.ref nm 0 (c.length + d.length)) cv := by
      intro base hfull holds
      have hg := grownCap_ge w (c.length + d.length) cap el
      obtain ⟨r1, r2, r3⟩ := grown_mem (T := el) (cap := grownCap w (c.length + d.length) cap el) (cc := ((List.range (c.length * i.size)).map (fun k => cc.getD k undef)).toArray ++ ((List.range (d.length * i.size)).map G).toArray ++ Builtin.zeroCells z.cells (grownCap w (c.length + d.length) cap el - (c.length + d.length))) (hr.del id) hfd (hrowcd.step sd) (by omega)
        (by
          simp only [Array.size_append, List.size_toArray, List.length_map, List.length_range, size_zeroCells, hzz, ← Nat.add_mul]
          exact Nat.mul_le_mul_right _ (by omega))
        (fun k hk => by
          rw [hcl, Nat.add_mul] at hk
          rw [Array.getElem?_append_left (by simp; omega)]
          by_cases hk1 : k < c.length * i.size
          · rw [if_pos hk1]; exact range_get (fun k => cc.getD k undef) _ k hk1 _
          · rw [if_neg hk1, Array.getElem?_append_right (by simp; omega)]
            simp [List.getElem?_range (show k - c.length * i.size < d.length * i.size by omega)])
      rw [hcl] at r3
      exact ⟨_, _, _, run_append_grow (P := P) w t ty el i z hu hi hz base c.length cap ((List.range (c.length * i.size)).map (fun k => cc.getD k undef)) (by simp) holds ⟨b2, o2, none⟩ d.length capx ((List.range (d.length * i.size)).map G) (by simp) hc2 (by omega) (by omega) (growslice_fits (by omega) hbig), r1, Step.trans sd r2, r3⟩
    by_cases hc0 : cap = 0
    · subst hc0
      have h0 : c.length = 0 := by omega
      exact fresh a (by omega) (by rw [h0]; simp)
    · rcases had with h00 | rfl
      · exact absurd h00 hc0
      · have holds : ∀ j v, ((List.range (c.length * i.size)).map (fun k => cc.getD k undef))[j]? = some v → w.cell? ((⟨b, 0 * i.size, none⟩ : Addr).add j) = some v := by
          intro j v hj
          have hlt : j < c.length * i.size := by simpa using (List.getElem?_eq_some_iff.1 hj).1
          rw [List.getElem?_map, List.getElem?_range hlt] at hj
          simp only [Option.map_some, Option.some.injEq] at hj
          subst hj
          rw [Nat.zero_mul, Addr.add_lit, Nat.zero_add, cell_of_row w b j cc T (0, 0) q2]
          simp [Array.getD_eq_getD_getElem?, show j < cc.size by omega]
        by_cases hroom : c.length + d.length ≤ cap
        · have hmul : (c.length + d.length) * i.size ≤ cap * i.size := Nat.mul_le_mul_right _ hroom
          rw [Nat.zero_add] at hsz2
          rw [Nat.add_mul] at hmul
          have hrun := run_append_room' (P := P) (w := w) t ty el T i hu hi b c.length cap cc q2 ⟨b2, o2, none⟩ d.length capx ((List.range (d.length * i.size)).map G) (by simp) hc2 h1c hroom (by simp; omega)
          generalize hnew : (cc.toList.take (c.length * i.size) ++ (List.range (d.length * i.size)).map G ++ cc.toList.drop (c.length * i.size + ((List.range (d.length * i.size)).map G).length)).toArray = c2 at hrun
          have hsz' : c2.size = cc.size := by rw [← hnew]; simp; omega
          have wu := WUpd.setRow w b cc c2 T (0, 0) q2 hsz'
          have hget : ∀ k, k < (c ++ d).length * i.size → (if k < c.length * i.size then cc.getD k undef else G (k - c.length * i.size)) = c2.getD k undef := by
            intro k hk
            rw [hcl, Nat.add_mul] at hk
            rw [← hnew, getD_splice cc _ _ (by simp; omega)]
            simp only [List.length_map, List.length_range]
            by_cases hk1 : k < c.length * i.size
            · rw [if_pos hk1, if_neg (by omega)]
            · rw [if_neg hk1, if_pos (by omega)]
              simp [List.getD_eq_getElem?_getD, List.getElem?_map, List.getElem?_range (show k - c.length * i.size < d.length * i.size by omega)]
          have hcm : Compat (.mem i.size c) (.mem i.size (c ++ d)) := ⟨rfl, by omega⟩
          have st := step_set hr hid hmb hcm wu
          have hr2 := HR.set hr hid hmb hcm wu ⟨b, c2, T, hmb, setRow_heap w b cc c2 T (0, 0) q2, by rw [hcl, Nat.add_mul]; omega, (hrowcd.congr hget).step st⟩
          obtain ⟨r1, r2⟩ := rename_mem (nm := nm) hr2 (show ¬ (h.set id _).used nm from hf) (show (h.set id (some (.mem i.size (c ++ d)))).get id = some (.mem i.size (c ++ d)) by simp [AHeap.set]) hmb
          have hss : (h.set id (some (.mem i.size (c ++ d)))).set id none = h.set id none := by
            simp only [AHeap.set, AHeap.mk.injEq, and_true]
            funext j; split <;> rfl
          rw [hss] at r1 r2
          rw [Nat.zero_mul]
          refine ⟨_, _, _, hrun, r1, Step.trans st r2, .ref nm 0 _ cap _ put_used_nm hroom fun sz c' hg => ?_⟩
          simp only [AHeap.put, if_true, Option.some.injEq, AObj.mem.injEq] at hg
          obtain ⟨rfl, rfl⟩ := hg
          exact ⟨b, by simp [upd], by omega, .inr (by simp), c2, T, setRow_heap w b cc c2 T (0, 0) q2, by rw [Nat.zero_add, hsz']; exact hsz2⟩
        · exact fresh _ (by omega) holds
/-- An append to a row that may be written by index: such a row again, under a new name. -/
theorem FX.appR {d : Nat} {sz bytes : Nat} {x y : Opd} {g : Option (Nat × Bool)} {v : AV} {id n : Nat} {c c2 : List (List AV)} (hf : ¬ h.used nm) (hx : ev e x = some (.ref id 0 n)) (hid : h.get id = some (.mem sz c)) (hn : c.length = n) (hy : ev e y = some v) (hc : rdS h.get sz v = some c2) (hne : c2 ≠ []) (hb : (n + c2.length) * bytes ≤ 140737488355328) (hg : met e g) :
    FX P N ⟨some d, .app sz bytes x y, g⟩ e h (some (.ref nm 0 (n + c2.length))) ((h.set id none).put nm (.mem sz (c ++ c2))) := by
  intro ops j o ho hcc e2 hs m w a K Q hr he hk
  have hraw := comp_plain hcc rfl
  rcases compI_ok hcc with ⟨hb1, hb2⟩ | ⟨hd, hdst, _, hgd⟩
  · cases hb1
  · obtain ⟨w1, w2⟩ := wanted_of he hgd
    have hi : ∀ s ∈ islots (.app sz bytes x y), lk s e2 = lk s e := fun s h => hs s (by unfold cslots; split <;> simp [h])
    have hw : Region.wanted o (yielded ops a.tmps) = true := by
      cases g with
      | none => exact w1 rfl
      | some sb =>
        obtain ⟨s, b⟩ := sb
        have hl : lk s e2 = some (.bool b) := (hs s (by simp [cslots])).trans hg
        rw [w2 s b b rfl hl]; simp
    simp only [wpOp, ho]
    rw [if_pos hw]
    left
    obtain ⟨cl, s, n', t, el, i, z, hop, hcal, hargs, hat, hu, h1, h2, hinf, hz, p1, p2, p3, rfl, rfl⟩ := cx_app hraw
    have hx2 : ev e2 x = some (.ref id 0 n) := (ev_congr fun s h => hi s (by simp [islots, h])).trans hx
    have hy2 : ev e2 y = some v := (ev_congr fun s h => hi s (by simp [islots, h])).trans hy
    have ha' : cl.args = #[s, n'] := by rw [← Array.toArray_toList (xs := cl.args), hargs]
    have hat' : cl.argTypes = #[t, t] := by rw [← Array.toArray_toList (xs := cl.argTypes), hat]
    have e1 := he.eval h1 hx2
    have e3 := he.eval h2 hy2
    obtain ⟨m', w', cv, q1, q2, q3, q4⟩ := append_ref (P := P) (ty := o.type) hr hf hu hinf hz p1 p2 p3 e1 hid hn e3 hc hne hb
    have hrun : (execOp a.eval o).run P w = .ok (.value cv) w' := by simp [execOp, hop, resolve, hcal, ha', hat', invoke, builtin, q1]
    have hd' : some d = o.dst := hd
    unfold Oper.wp
    rw [hrun, Oper.upon_value]
    refine hk m' w' _ q2 ?_ q3
    show ER N m' _ w' (putR (some d) (some _) e2) _
    rw [hd']
    exact (he.step q3).putR hdst q4
end
end Go.Abs


namespace Go.Abs
open Go
section
variable {P : Program} {N : Nat} {e : Env} {h : AHeap} {m : Inj} {w : World} {nm : Nat}
theorem cx_clr {o : Oper} {sz : Nat} {zs : List AV} {x : Opd} (hc : compileX P N o = some (.clr sz zs x)) : ∃ c xo t el i z, o.op = .call c ∧ c.callee = .builtin .clear ∧ c.args.toList = [xo] ∧ c.argTypes[0]? = some t ∧ P.underlying t = some (.slice el) ∧ ofOpd N xo = some x ∧ P.info? el = some i ∧ i.zero = some z ∧ ofL ofV z.cells.toList = some zs ∧ sz = i.size := by
  obtain ⟨c, hop⟩ := cx_call hc trivial
  simp only [compileX, hop] at hc
  split at hc
  case h_4 hcal =>
    repeat' split at hc
    all_goals first
      | (cases hc; exact ⟨_, _, _, _, _, _, hop, hcal, ‹_›, ‹_›, ‹_›, ‹_›, ‹_›, ‹_›, ‹_›, rfl⟩)
      | (cases hc; done)
  all_goals
    (repeat' split at hc
     all_goals (cases hc; done))
theorem XOK.clr {sz : Nat} {zs : List AV} {x : Opd} {id off n : Nat} {c : List (List AV)} (hx : ev e x = some (.ref id off n)) (hg : h.get id = some (.mem sz c)) (hz : zs.length = sz) (h0 : 0 < sz) : XOK P N (.clr sz zs x) e h (some (.tup [])) (.set id (.mem sz (c.take off ++ List.replicate n zs ++ c.drop (off + n)))) := by
  intro o hc e2 hs m w act hr he
  obtain ⟨cl, xo, t, el, i, z, hop, hcal, ha, hat, hu, h1, hinf, hzz, hzs, rfl⟩ := cx_clr hc
  have hx2 : ev e2 x = some (.ref id off n) := (ev_congr fun s h => hs s (by simp [xslots, h])).trans hx
  have ha' : cl.args = #[xo] := by rw [← Array.toArray_toList (xs := cl.args), ha]
  have e1 := he.eval h1 hx2
  generalize hcx : act.eval xo = cx at e1
  obtain ⟨q1, q2, q3⟩ := ofL_ofV (m := m) (h := h) (w := w) hzs
  have hsz : z.cells.size = i.size := by rw [← hz]; simpa using q1.symm
  cases e1 with
  | ref _ _ _ cap a hu' hcp hra =>
    obtain ⟨b, hmb, hle, had, cc, T, hcc, hsz2⟩ := hra _ _ hg
    obtain ⟨b', cc', T', p1, p2, p3, p4⟩ := hr.obj _ _ hg
    rw [hmb] at p1; cases p1
    rw [p2] at hcc; cases hcc
    have hcl : (c.take off ++ List.replicate n zs ++ c.drop (off + n)).length = c.length := by simp; omega
    rcases Nat.eq_zero_or_pos n with hn0 | hn0
    · subst hn0
      have hcc2 : c.take off ++ List.replicate 0 zs ++ c.drop (off + 0) = c := by simp
      rw [hcc2]
      refine ⟨m, w, by show HR m (h.set id _) w; rw [set_same hg]; exact hr, by show Step m h w m (h.set id _) w; rw [set_same hg]; exact Step.refl _ _ _, .tuple #[], ?_, .tup _ _ rfl (by simp)⟩
      simp [execOp, hop, resolve, hcal, ha', invoke, builtin, Builtin.clear_, hat, hcx, run_underlying hu]
    · rcases had with h00 | rfl
      · omega
      · have hmul : (off + n) * i.size ≤ c.length * i.size := Nat.mul_le_mul_right _ hle
        rw [Nat.add_mul] at hmul
        have hzl : (Builtin.zeroCells z.cells n).toList.length = n * i.size := by rw [Array.length_toList, size_zeroCells, hsz]
        have hone : ∀ u ∈ (Builtin.zeroCells z.cells n).toList, u.oneCell' = true := by
          intro u hu2
          obtain ⟨k, hk, rfl⟩ := List.mem_iff_getElem.1 hu2
          rw [hzl] at hk
          have hg2 := zeroCells_get (z := z.cells) (n := n) (k := k) (by rw [hsz]; exact hk)
          have hg3 : (Builtin.zeroCells z.cells n)[k]? = some (Builtin.zeroCells z.cells n).toList[k] := by rw [← Array.getElem?_toList, List.getElem?_eq_getElem]
          rw [hg3] at hg2
          have hm2 : k % z.cells.size < z.cells.size := Nat.mod_lt _ (by omega)
          have hlt : k % z.cells.size < zs.length := by omega
          have := q3 (k % z.cells.size) _ (List.getElem?_eq_getElem hlt)
          have hv2 : z.cells.toList.getD (k % z.cells.size) undef = z.cells.getD (k % z.cells.size) undef := by simp [Array.getD_eq_getD_getElem?, List.getD_eq_getElem?_getD]
          rw [Option.some.inj hg2, ← hv2]
          exact this.scalar_one (q2 _ (List.getElem_mem hlt))
        have hst := run_storeCells_at P b (off * i.size) T (Builtin.zeroCells z.cells n).toList 0 cc w p2 (by rw [hzl]; omega) hone
        simp only [Nat.add_zero] at hst
        generalize hnew : (cc.toList.take (off * i.size) ++ (Builtin.zeroCells z.cells n).toList ++ cc.toList.drop (off * i.size + (Builtin.zeroCells z.cells n).toList.length)).toArray = c2 at hst
        have hsz' : c2.size = cc.size := by rw [← hnew]; simp only [List.size_toArray, List.length_append, List.length_take, List.length_drop, hzl, Array.length_toList]; omega
        have hget : ∀ k, c2.getD k undef = if off * i.size ≤ k ∧ k < off * i.size + n * i.size then (Builtin.zeroCells z.cells n).toList.getD (k - off * i.size) undef else cc.getD k undef := by
          intro k
          rw [← hnew, getD_splice cc _ _ (by rw [hzl]; omega), hzl]
        have hrow : RowF m h w i.size (c.take off ++ List.replicate n zs ++ c.drop (off + n)) (fun k => c2.getD k undef) := by
          have r1 := p4.take off
          have r2 : RowF m h w i.size (List.replicate n zs) (fun k => c2.getD (off * i.size + k) undef) := rowF_zero hzs hsz h0 fun k hk => by
            rw [hget, if_pos ⟨by omega, by omega⟩, Nat.add_sub_cancel_left]
            have hg2 := zeroCells_get (z := z.cells) (n := n) (k := k) (by rw [hsz]; exact hk)
            rw [List.getD_eq_getElem?_getD, Array.getElem?_toList, hg2, hsz]; rfl
          have r3 := p4.drop (off + n)
          have r12 := RowF.append r1 r2
          have hl1 : (c.take off).length = off := by simp; omega
          have hl12 : (c.take off ++ List.replicate n zs).length = off + n := by simp; omega
          refine (RowF.append r12 r3).congr fun k hk => ?_
          rw [hl12, hl1, Nat.add_mul]
          rw [hcl] at hk
          by_cases k1 : k < off * i.size + n * i.size
          · rw [if_pos k1]
            by_cases k2 : k < off * i.size
            · rw [if_pos k2, hget, if_neg (by omega)]
            · rw [if_neg k2, show off * i.size + (k - off * i.size) = k by omega]
          · rw [if_neg k1, hget, if_neg (by omega)]
            congr 1; omega
        obtain ⟨r1, r2⟩ := write_row hr hg hmb p2 hsz' hcl p3 hrow
        refine ⟨_, _, r1, r2, .tuple #[], ?_, .tup _ _ rfl (by simp)⟩
        obtain ⟨n', rfl⟩ : ∃ n', n = n' + 1 := ⟨n - 1, by omega⟩
        simp [execOp, hop, resolve, hcal, ha', invoke, builtin, Builtin.clear_, hat, hcx, run_underlying hu, zeroValue, run_typeInfo' hinf, hzz, hst]
/-- A row that is written, told shorter, under a new name. -/
theorem trim_mem (hr : HR m h w) (hf : ¬ h.used nm) {id sz n : Nat} {c : List (List AV)} (hg : h.get id = some (.mem sz c)) (hn : n ≤ c.length) {v : Value} (hv : VR m h w (.ref id 0 n) v) :
    ∃ m', HR m' ((h.set id none).put nm (.mem sz (c.take n))) w ∧ Step m h w m' ((h.set id none).put nm (.mem sz (c.take n))) w ∧ VR m' ((h.set id none).put nm (.mem sz (c.take n))) w (.ref nm 0 n) v := by
  cases hv with
  | ref _ _ _ cap a hu hc ha =>
    obtain ⟨b, hb, hle, had, cc, T, hcc, hsz⟩ := ha _ _ hg
    obtain ⟨b', cc', T', q1, q2, q3, q4⟩ := hr.obj _ _ hg
    rw [hb] at q1; cases q1
    rw [q2] at hcc; cases hcc
    obtain ⟨r1, r2⟩ := rename_mem (nm := nm) hr hf hg hb
    have hsame : ((h.set id none).put nm (.mem sz (c.take n))).get nm = some (.mem sz (c.take n)) := by simp [AHeap.put]
    -- the same heap but for the row's length
    have st : Step m h w (upd m nm (some (b, 0))) ((h.set id none).put nm (.mem sz (c.take n))) w := {
      os := r2.os, tape := r2.tape, output := r2.output, size := r2.size
      kind := fun k cc T fz hk hfr => ⟨cc, hk, rfl⟩
      free := fun k hk hfr => ⟨rfl, fun j s y hgj hmj => by
        by_cases e : j = nm
        · subst e; exact (r2.free k hk hfr).2 j s (.mem sz c) (by simp [AHeap.put]) hmj
        · exact (r2.free k hk hfr).2 j s y (by simpa [AHeap.put, e] using hgj) hmj⟩
      cell := fun k o v hcell hn2 => ⟨hcell, fun ⟨j, s, ⟨y, hgj⟩, hmj, hle2⟩ => (r2.cell k o v hcell hn2).2 (by
        by_cases e : j = nm
        · subst e; exact ⟨j, s, ⟨.mem sz c, by simp [AHeap.put]⟩, hmj, hle2⟩
        · exact ⟨j, s, ⟨y, by simpa [AHeap.put, e] using hgj⟩, hmj, hle2⟩)⟩
      used := fun id hu => put_used (h := h.set _ none) hu
      live := fun j x' huj hgj => by
        have e : j ≠ nm := used_ne hf huj
        exact r2.live j x' huj (by simpa [AHeap.put, e] using hgj) }
    refine ⟨upd m nm (some (b, 0)), ⟨(hr.del id).put_gapl, (hr.del id).put_live, fun i j y z b2 s r hi hj hmi hmj => ?_, fun j y hgj => ?_⟩, st, .ref nm 0 n cap a put_used_nm hc fun sz' c' hg' => ?_⟩
    · have lv : ∀ k u, ((h.set id none).put nm (.mem sz (c.take n))).get k = some u → ∃ u', ((h.set id none).put nm (.mem sz c)).get k = some u' := fun k u hk => by
        by_cases e : k = nm
        · subst e; exact ⟨_, by simp [AHeap.put]; rfl⟩
        · exact ⟨u, by simpa [AHeap.put, e] using hk⟩
      obtain ⟨y', hy'⟩ := lv i y hi
      obtain ⟨z', hz'⟩ := lv j z hj
      exact r1.inj i j y' z' b2 s r hy' hz' hmi hmj
    · by_cases e : j = nm
      · subst e
        simp only [AHeap.put, if_true] at hgj
        cases hgj
        refine ⟨b, cc, T, by simp [upd], q2, ?_, (q4.take n).step st⟩
        have : (c.take n).length * sz ≤ c.length * sz := Nat.mul_le_mul_right _ (by simp; omega)
        omega
      · have hgj' : (h.set id none).get j = some y := by simpa [AHeap.put, e] using hgj
        have hne : j ≠ id := fun e2 => by subst e2; simp [AHeap.set] at hgj'
        have hgj2 : h.get j = some y := by simpa [AHeap.set, hne] using hgj'
        exact (hr.obj j y hgj2).step st (by simp [upd, e]) fun _ _ _ => rfl
    · rw [hsame] at hg'
      cases hg'
      exact ⟨b, by simp [upd], by simp; omega, had, cc, T, q2, hsz⟩
theorem Cvt.trim {s id n sz nx : Nat} {c c' : List (List AV)} (hs : lk s e = some (.ref id 0 n)) (hg : h.get id = some (.mem sz c)) (hn : n ≤ c.length) (hc : c.take n = c') (hx : h.next = nx) : Cvt e h ((s, some (.ref nx 0 n)) :: e) ((h.set id none).put nx (.mem sz c')) := fun N m w a hr he => by
  subst hx hc
  obtain ⟨m', k1, k2, k3⟩ := trim_mem hr (next_fresh hr) hg hn (he.val s _ hs)
  refine ⟨m', k1, ?_, k2⟩
  have he' := he.step k2
  refine ⟨he'.size, he'.defers, fun i v hi => ?_⟩
  simp only [lk_cons, lk_nil] at hi
  split at hi
  · rename_i e1; subst e1; cases hi; exact k3
  · exact he'.val i v hi
end
end Go.Abs


namespace Go.Proofs.Ytjehfcjfnmcjcaa
open Go Go.Abs

section
variable {h : AHeap} {E : Nat} {l : List Int} {f : Nat} {us ts : List AV} {p : Int → Bool}
theorem slices_IndexFuncE_ae (hE : h.get E = some (.mem 1 (l.map encE))) (hl : l.length ≤ 1000000) (hb : Bodied f) (hK : ∀ h2, Keeps h h2 → ∀ v ∈ l, AE Try.prog f (us ++ [.int .u32 v] ++ ts) h2 (.bool (p v)) h2) :
    AE Try.prog 131 [.ref E 0 l.length, .func (.func f) us ts] h (.int .i64 (if l.findIdx p < l.length then (l.findIdx p : Int) else -1)) h := by
  refine AE.wf fun hwf => ?_
  have h0 := hwf _ _ hE
  refine AE.pureW is_slices_IndexFuncuint32_uint32 (by simp) ?_
  unfold c_slices_IndexFuncuint32_uint32
  (refine go ?_)
  refine WW.loopE (fun (i : Nat) => [(0, some (.ref E 0 l.length)), (1, some (.func (.func f) us ts)), (7, some (.int .i64 l.length)), (8, some (.int .i64 i))])
    (fun i h' => h' = h ∧ i ≤ l.length ∧ i ≤ l.findIdx p) (fun i => l.length - i) 0 gSUB ⟨rfl, Nat.zero_le _, Nat.zero_le _⟩ ?_
  rintro i h' ⟨rfl, c1, c2⟩
  (refine go ?_)
  (refine WW.ifB rfl (fun hz1 => ?_) (fun hz1 => ?_))
  · have hi : i < l.length := by omega
    (repeat first | refine WW.seq ?_ | refine WW.reg ?_ | refine WL.nil ?_ | refine WW.skip ?_ | refine WW.block ?_ | refine thenN ?_ | refine blkN ?_); iterate 2 (refine WL.go ?_)
    (repeat first | refine WW.seq ?_ | refine WW.reg ?_ | refine WL.nil ?_ | refine WW.skip ?_ | refine WW.block ?_ | refine thenN ?_ | refine blkN ?_); iterate 5 (refine WL.go ?_)
    simp only [Nat.zero_add]
    refine WL.fx1 (FX.callv rfl rfl (by first | exact True.intro | exact rfl) hb.ok (hK _ (Keeps.refl _) l[i] (List.getElem_mem hi))) ?_
    cases hp : p l[i] with
    | true =>
      (refine go ?_)
      refine WW.ret (PureQ.finD ?_)
      have he : l.findIdx p = i := by
        rcases Nat.lt_or_ge i (l.findIdx p) with h1 | h1
        · have := List.not_of_lt_findIdx h1; rw [hp] at this; simp at this
        · omega
      rw [he, if_pos hi]
      exact fz_i rfl
    | false =>
      (refine go ?_)
      refine ⟨i + 1, gSUB, ⟨rfl, by omega, ?_⟩, by omega⟩
      rcases Nat.lt_or_ge i (l.findIdx p) with h1 | h1
      · exact h1
      · have he : l.findIdx p = i := by omega
        have := List.findIdx_getElem (p := p) (w := by rw [he]; exact hi)
        simp only [he] at this
        rw [hp] at this; cases this
  · (refine go ?_)
    refine WW.ret (PureQ.finD ?_)
    have : ¬ l.findIdx p < l.length := by omega
    rw [if_neg this]
    exact fz_i rfl
end
theorem filter_none {l : List Int} {p : Int → Bool} (h : ¬ l.findIdx p < l.length) : l.filter (fun v => !p v) = l := by
  rw [List.filter_eq_self]
  intro a ha
  have e : l.findIdx p = l.length := Nat.le_antisymm List.findIdx_le_length (by omega)
  have := List.findIdx_eq_length.1 e a ha
  simpa using this
set_option maxHeartbeats 1000000 in
theorem slices_DeleteFuncE_ac {h : AHeap} {E : Nat} {l : List Int} {f : Nat} {us ts : List AV} {p : Int → Bool} (hE : h.get E = some (.mem 1 (l.map encE))) (hl : l.length ≤ 1000000) (hb : Bodied f) (hK : ∀ h2, KeepsB [E] h h2 → ∀ v ∈ l, AE Try.prog f (us ++ [.int .u32 v] ++ ts) h2 (.bool (p v)) h2) :
    AC Try.prog 99 [.ref E 0 l.length, .func (.func f) us ts] h (fun r h' => ∃ E', r = .ref E' 0 (l.filter fun v => !p v).length ∧ (E' = E ∨ h.next ≤ E') ∧ BoxAt h' E' (.mem 1 ((l.filter fun v => !p v).map encE)) ∧ Kp (fun id => id = E) h h') := by
  refine AC.wfU fun hwu => ?_
  have hu0 := hwu _ _ hE
  have h0 := hu0.1
  refine AC.introW is_slices_DeleteFuncuint32_uint32 (by simp) ?_
  unfold c_slices_DeleteFuncuint32_uint32
  (refine go ?_)
  refine WL.call rfl (by first | exact True.intro | exact rfl) gSL (slices_IndexFuncE_ae hE hl hb (p := p) (fun h2 hk v hv => hK h2 ⟨hk.1, fun id hu _ => hk.2 id hu⟩ v hv)) ?_
  by_cases hx : l.findIdx p < l.length
  rotate_left
  · rw [if_neg hx]
    (refine go ?_)
    have hfl := filter_none (p := p) hx
    exact WW.ret ⟨.inl rfl, _, gRES, E, by rw [hfl]; rfl, .inl rfl, by rw [hfl]; exact ⟨hu0, hE⟩, Kp.refl⟩
  rw [if_pos hx]
  have hpx := List.findIdx_getElem (p := p) (w := hx)
  have hpre : (l.take (l.findIdx p)).filter (fun v => !p v) = l.take (l.findIdx p) := by
    rw [List.filter_eq_self]
    intro a ha
    obtain ⟨k, hk, rfl⟩ := List.mem_iff_getElem.1 ha
    rw [List.length_take] at hk
    have := List.not_of_lt_findIdx (p := p) (xs := l) (i := k) (by omega)
    rw [List.getElem_take]
    simpa using this
  generalize hk0 : l.findIdx p = k0 at *
  (refine go ?_)
  refine WW.loopE (fun (s : Nat × Nat × List Int) => [(0, some (.ref E 0 l.length)), (1, some (.func (.func f) us ts)), (5, some (.int .i64 s.1)), (6, some (.int .i64 s.2.1))])
    (fun s h' => h'.get E = some (.mem 1 (s.2.2.map encE)) ∧ Kp (fun id => id = E) h h' ∧ s.2.2.length = l.length ∧ s.1 < s.2.1 ∧ s.2.1 ≤ l.length ∧ s.2.2.take s.1 = (l.take s.2.1).filter (fun v => !p v) ∧ s.2.2.drop s.2.1 = l.drop s.2.1)
    (fun s => l.length - s.2.1) (k0, k0 + 1, l) gSUB ⟨hE, Kp.refl, rfl, by dsimp only; omega, by dsimp only; omega, ?_, rfl⟩ ?_
  · dsimp only
    rw [List.take_succ_eq_append_getElem hx, List.filter_append, hpre]
    simp [hpx]
  rintro ⟨i, j, c⟩ h' ⟨g1, g2, g3, g4, g5, g6, g7⟩
  dsimp only at g1 g2 g3 g4 g5 g6 g7 ⊢
  have hx' := g2.next
  (refine go ?_)
  (refine WW.ifB rfl (fun hz2 => ?_) (fun hz2 => ?_))
  · have hj : j < l.length := by omega
    have hcj : c[j]'(by omega) = l[j] := by
      have h1 : c[j]? = l[j]? := by
        have := congrArg (fun q : List Int => q[0]?) g7
        simpa [List.getElem?_drop] using this
      rw [List.getElem?_eq_getElem (by omega), List.getElem?_eq_getElem hj] at h1
      exact Option.some.inj h1
    (repeat first | refine WW.seq ?_ | refine WW.reg ?_ | refine WL.nil ?_ | refine WW.skip ?_ | refine WW.block ?_ | refine thenN ?_ | refine blkN ?_); iterate 5 (refine WL.go ?_)
    simp only [Nat.zero_add]
    rw [hcj]
    (repeat first | refine WW.seq ?_ | refine WW.reg ?_ | refine WL.nil ?_ | refine WW.skip ?_ | refine WW.block ?_ | refine thenN ?_ | refine blkN ?_); iterate 2 (refine WL.go ?_)
    refine WL.fx1 (FX.callv rfl rfl (by first | exact True.intro | exact rfl) hb.ok (hK _ ⟨g2.1, fun id hu hn => g2.get id hu (by simpa using hn)⟩ l[j] (List.getElem_mem hj))) ?_
    cases hp : p l[j] with
    | true =>
      (refine go ?_)
      refine ⟨(i, j + 1, c), gSUB, ⟨g1, g2, g3, by dsimp only; omega, by dsimp only; omega, ?_, ?_⟩, by dsimp only; omega⟩
      · dsimp only
        rw [g6, List.take_succ_eq_append_getElem hj, List.filter_append]
        simp [hp]
      · dsimp only
        rw [← List.drop_drop, ← List.drop_drop, g7]
    | false =>
      (refine go ?_)
      refine ⟨(i + 1, j + 1, c.set i l[j]), gSUB, ⟨?_, (by repeat first | exact Kp.refl | assumption | with_reducible refine Kp.put ?_ (by omega) _ | with_reducible refine Kp.setN ?_ (by omega) _ | with_reducible refine Kp.keep ?_ _ | with_reducible refine Kp.setW ?_ (by simp; done) _), by dsimp only; rw [List.length_set]; exact g3, by dsimp only; omega, by dsimp only; omega, ?_, ?_⟩, by dsimp only; omega⟩
      · dsimp only
        have hm : (c.set i l[j]).map encE = (c.map encE).set (0 + i) [.int .u32 l[j]] := by rw [List.map_set, Nat.zero_add]; rfl
        rw [hm]; exact gH
      · dsimp only
        rw [List.take_succ_eq_append_getElem hj, List.filter_append, ← g6]
        rw [List.take_succ_eq_append_getElem (by rw [List.length_set]; omega), List.take_set_of_le (by omega)]
        simp [hp]
      · dsimp only
        rw [List.drop_set_of_lt (by omega), ← List.drop_drop, ← List.drop_drop, g7]
  · have hj : j = l.length := by omega
    subst hj
    rw [List.take_of_length_le (Nat.le_refl _)] at g6
    have hfl : (l.filter fun v => !p v).length = i := by rw [← g6, List.length_take]; omega
    refine WW.exit ?_
    (repeat first | refine WW.seq ?_ | refine WW.reg ?_ | refine WL.nil ?_ | refine WW.skip ?_ | refine WW.block ?_ | refine thenN ?_ | refine blkN ?_); iterate 3 (refine WL.go ?_)
    have hcm : (c.map encE).length = l.length := by rw [List.length_map, g3]
    refine WL.fx0 (FX.raw (XOK.clr (off := 0 + i) (n := l.length - i) rfl g1 rfl (by decide)) (by first | exact True.intro | exact rfl)) ?_
    refine WL.named (fun h2 => h2.get E = some (.mem 1 ((c.take i).map encE ++ List.replicate (l.length - i) [.int .u32 0])) ∧ Kp (fun id => id = E) h h2) ⟨?_, ?_⟩ ?_
    · show (h'.set E _).get E = _
      rw [get_set_same, Nat.zero_add, show i + (l.length - i) = l.length by omega, List.drop_of_length_le (by omega), List.append_nil, ← List.map_take]
    · exact g2.setW rfl _
    clear g1 g2
    rintro h2 ⟨g1, g2⟩
    have hx2 := g2.next
    have hil : i ≤ l.length := by omega
    have hl2 : ((c.take i).map encE ++ List.replicate (l.length - i) [AV.int .u32 0]).length = l.length := by simp; omega
    (repeat first | refine WW.seq ?_ | refine WW.reg ?_ | refine WL.nil ?_ | refine WW.skip ?_ | refine WW.block ?_ | refine thenN ?_ | refine blkN ?_); iterate 4 (refine WL.go ?_)
    refine WL.cvt (Cvt.trim (s := 4) (id := E) (n := i) (c' := (c.take i).map encE) rfl g1 (by omega) (by rw [List.take_left' (by simp; omega)]) rfl) ?_
    (refine go ?_)
    refine WW.ret ⟨.inl rfl, _, gRES, h2.next, by rw [hfl]; rfl, .inr hx2, ?_, ?_⟩
    · rw [← g6]
      exact ⟨put_used_nm (x := .tail 0 0), gH⟩
    · exact (g2.setW rfl _).put hx2 _
/-- A world whose keys were turned, the row of them under a new name. -/
theorem WG.reE {md : Bool} {h h2 : AHeap} {n : WN} {s : WS} (hg : WG md h n s) (w' : PwS) (k' : KsS) {E : Nat} (hE : E = n.E ∨ h.next ≤ E) (hk : Kp (n.own md) h h2) (b2 : BoxAt h2 E (.mem 1 (k'.epochs.map encE))) (g1 : h2.get (n.a + 9) = some (k'.obj n.p E)) (gp : h2.get n.p = some (.mem 4 [w'.row])) (gr : ∀ id, n.nm md id → id ≠ n.p → id ≠ n.a + 9 → id ≠ n.E → h2.get id = h.get id) (hne : k'.epochs ≠ []) (hl : k'.epochs.length ≤ 1000000) :
    WG md h2 { n with E := E } { s with pw := w', ks := k' } := by
  have hw := hg.w
  have hna := hw.nx
  have hnB := hw.nB
  have hoB := hw.oB
  have hop := hw.op
  have hol := hw.ol
  have hx := hk.next
  have hpl := hw.nep.1
  have ga : ∀ i, 0 < i ∧ i < 11 ∧ i ≠ 8 ∧ i ≠ 9 → h2.get (n.a + i) = h.get (n.a + i) := fun i hi => gr _ (.inl (.inr (.inr (.inl (by omega))))) (by omega) (by omega) (by omega)
  have gB : h2.get n.B = h.get n.B := gr _ (.inl (.inr (.inr (.inl (by omega))))) (by omega) (by omega) (by omega)
  have gl : h2.get n.l = h.get n.l := gr _ (.inl (.inr (.inl rfl))) (by omega) (by omega) (by omega)
  obtain ⟨q1, q2, q3, q4, q5, q6⟩ := hw.sd
  obtain ⟨d1, d2, d3, d4, d5, d6⟩ := hw.dk
  refine ⟨⟨⟨gp, (ga 1 (by omega)).trans q2, gB.trans q3, (ga 2 (by omega)).trans q4, (ga 3 (by omega)).trans q5, q6⟩, ⟨gp, (ga 4 (by omega)).trans d2, (ga 5 (by omega)).trans d3, (ga 6 (by omega)).trans d4, d5, d6⟩, (ga 7 (by omega)).trans hw.ct, ⟨g1, b2.g, hne, hl⟩, (ga 10 (by omega)).trans hw.w, hw.lk.same gl fun e => ?_, hop, hol, hw.oo, by dsimp only; omega, ?_, ⟨by dsimp only; omega, b2.u.1⟩⟩, fun id hi => ?_, fun e => ?_⟩
  · have h1 := hw.oo e
    have h3 := hw.nep.2 e
    exact ⟨gr _ (.inl (.inr (.inr (.inr ⟨e, .inl rfl⟩)))) h3.1 (by omega) (by omega), gr _ (.inl (.inr (.inr (.inr ⟨e, .inr (.inl rfl)⟩)))) h3.2.1 (by omega) (by omega), gr _ (.inl (.inr (.inr (.inr ⟨e, .inr (.inr rfl)⟩)))) h3.2.2 (by omega) (by omega)⟩
  · dsimp only; omega
  · by_cases hid : id = E
    · subst hid; exact b2.u
    · refine hk.us id (hg.us id ?_)
      rcases hi with hi | hi
      · rcases hi with hi | hi | hi | hi
        · exact .inl (.inl hi)
        · exact .inl (.inr (.inl hi))
        · refine .inl (.inr (.inr (.inl ?_))); dsimp only at hi; omega
        · exact .inl (.inr (.inr (.inr hi)))
      · exact .inr hi
  · have hq := hg.qn e
    refine (gr n.q (.inr rfl) (fun e2 => ?_) (fun e2 => ?_) (fun e2 => ?_)).trans hq
    · rw [e2] at hq; rw [show h.get n.p = _ from q1] at hq; cases hq
    · rw [e2] at hq; rw [hw.ks.ob] at hq; cases hq
    · rw [e2] at hq; rw [hw.ks.tl] at hq; cases hq
/-- What is forgotten below an epoch. -/
def KsS.erase (k : KsS) (b : Int) (ok : Bool) : KsS := if ok then { k with epochs := k.epochs.filter fun v => !(decide (v < b) && decide (v ≠ k.cur)) } else k
def WS.addS (s : WS) : WS := { s with pw := s.pw.spend, ks := s.ks.add s.pw.can }
def WS.eraS (s : WS) (b : Int) : WS := { s with pw := s.pw.spend, ks := s.ks.erase b s.pw.can }
theorem ks_same {md : Bool} {h : AHeap} {n : WN} {s : WS} (hg : WG md h n s) : (h.set n.p (some (.mem 4 [s.pw.spend.row]))).get (n.a + 9) = h.get (n.a + 9) ∧ (h.set n.p (some (.mem 4 [s.pw.spend.row]))).get n.E = h.get n.E := by
  have hop := hg.w.op
  have hoB := hg.w.oB
  exact ⟨get_set_neE (by omega) rfl, get_set_neE (by omega) rfl⟩
set_option maxHeartbeats 1000000 in
theorem keys_Add_ac {md : Bool} {h : AHeap} {n : WN} {s : WS} {k : Nat} (hg : WG md h n s) (hs : s.Fit k) (hk : k ≤ 9000) (hc : 0 ≤ s.ks.cur ∧ s.ks.cur < 4294967295) (hl : s.ks.epochs.length ≤ 100000) :
    AC Try.prog 42 [.ptr (n.a + 9) 0 0] h (fun r h' => r = .bool s.pw.can ∧ ∃ E, (E = n.E ∨ h.next ≤ E) ∧ WG md h' { n with E := E } s.addS ∧ Kp (n.own md) h h') := by
  refine AC.introW is_keys_Keys_Add (by simp) ?_
  unfold c_keys_Keys_Add
  have hw := hg.w
  have hna := hw.nx
  have hnB := hw.nB
  have hoB := hw.oB
  have hop := hw.op
  obtain ⟨q1, q2, q3, q4⟩ := hw.ks
  have q1' := q1
  simp only [KsS.obj] at q1'
  have hks := ks_same hg
  have hpw : h.get n.p = some (.mem 4 [s.pw.row]) := hw.sd.pw
  (refine go ?_)
  refine WL.call rfl (by first | exact True.intro | exact rfl) gSL (power_Spend_ae hpw hs.pw (by omega)) ?_
  cases hcan : s.pw.can with
  | false =>
    (refine go ?_)
    refine WW.ret ⟨.inl rfl, _, gRES, rfl, n.E, .inl rfl, ?_, kp_pw n _⟩
    have := hg.step (hw.putPw s.pw.spend) (kp_pw n _)
    rw [WS.addS, KsS.add, hcan, if_neg (by simp)]
    exact this
  | true =>
    obtain ⟨nx, hnx⟩ : ∃ nx, h.next = nx := ⟨_, rfl⟩
    have hwr : IntKind.u32.wrap (s.ks.cur + 1) = s.ks.cur + 1 := wrap_in (And.intro (by omega) (by omega))
    (repeat first | refine WL.go ?_ | refine WW.seq ?_ | refine WW.reg ?_ | refine WL.nil ?_ | refine WW.skip ?_ | refine WW.block ?_ | refine WW.exit ?_ | refine WW.condT rfl ?_ | refine WW.condF rfl ?_ | refine WL.gox ?_ | refine thenN ?_ | refine blkN ?_)
    refine WW.dregX [9, 12] [] [n.E, n.a + 9] gN (by decide +kernel) ?_
    (refine go ?_)
    refine DW.callS rfl (by first | exact True.intro | exact rfl) gSL rfl (keys_Current_ae ⟨hks.1.trans q1, hks.2.trans q2, q3, q4⟩) ?_
    (refine go ?_)
    rw [hwr]
    refine DW.fx0 (FX.appR (nm := nx) (c2 := [[.int .u32 (s.ks.cur + 1)]]) (fun hu => absurd (show nx < h.next from hu.1) (by omega)) rfl (hks.2.trans q2) (List.length_map _) rfl rfl (by simp) (by simp; omega) (by first | exact True.intro | exact rfl)) rfl rfl (fun hp => PhiW.put (Nat.le_refl _) (PhiW.setW (by simp) hp)) rfl ?_
    (refine go ?_)
    have hadd : s.ks.add true = { s.ks with epochs := s.ks.epochs ++ [s.ks.cur + 1] } := rfl
    have hm2 : s.ks.epochs.map encE ++ [[AV.int .u32 (s.ks.cur + 1)]] = (s.ks.epochs ++ [s.ks.cur + 1]).map encE := by simp [encE]
    rw [hm2]
    refine WW.named (fun h2 => Kp (n.own md) h h2 ∧ BoxAt h2 nx (.mem 1 ((s.ks.epochs ++ [s.ks.cur + 1]).map encE)) ∧ h2.get (n.a + 9) = some ((s.ks.add true).obj n.p nx) ∧ h2.get n.p = some (.mem 4 [s.pw.spend.row]) ∧ ∀ id, n.nm md id → id ≠ n.p → id ≠ n.a + 9 → id ≠ n.E → h2.get id = h.get id) ⟨?_, ⟨put_used_nm (x := .tail 0 0), gH⟩, ?_, gH, fun id i0 i2 i3 i4 => by have i1 := (hg.us id i0).1; exact gE⟩ ?_
    · exact ((((Kp.refl.setW (.inl rfl) _).setW (.inr (.inl (by omega))) _).put (by omega) _).setW (.inr (.inl (by omega))) _)
    · have ho : (s.ks.add true).obj n.p nx = .mem 3 [[.ptr n.p 0 0, .int .u64 s.ks.seed, .ref nx 0 (s.ks.epochs.length + 1)]] := by simp [KsS.obj, hadd]
      rw [ho]; exact gH
    rintro h2 ⟨k2, b2, g1, gp, gr⟩
    refine WW.ret ⟨.inl rfl, _, gRES, rfl, nx, .inr (by omega), ?_, k2⟩
    have := hg.reE s.pw.spend (s.ks.add true) (.inr (by omega)) k2 (by rw [hadd]; exact b2) g1 gp gr (by rw [hadd]; simp) (by rw [hadd]; simp; omega)
    rw [WS.addS, hcan]
    exact this
theorem erase1_ae (h : AHeap) {a b : Nat} {x y v : Int} (ha : h.get a = some (.mem 1 [[.int .u32 x]])) (hb : h.get b = some (.mem 1 [[.int .u32 y]])) : AE Try.prog 100 [.int .u32 v, .ptr a 0 0, .ptr b 0 0] h (.bool (decide (v < x) && decide (v ≠ y))) h := by
  refine AE.wf fun hwf => ?_
  have h1 := hwf _ _ ha
  have h2 := hwf _ _ hb
  refine AE.pureW is_keys_Keys_Erase_1 (by simp) ?_
  unfold c_keys_Keys_Erase_1
  (refine go ?_)
  (refine WL.spB rfl (fun hz1 => ?_) (fun hz1 => ?_))
  · (refine go ?_)
    refine WW.ret (PureQ.finD ?_)
    refine fz_b ?_
    simp only [decide_eq_true hz1, Bool.true_and]
    by_cases e : v = y <;> simp [e]
  · (refine go ?_)
    refine WW.ret (PureQ.finD ?_)
    exact fz_b (by simp; omega)
theorem erase_ne {k : KsS} (b : Int) (h : k.epochs ≠ []) : (k.epochs.filter fun v => !(decide (v < b) && decide (v ≠ k.cur))) ≠ [] ∧ (k.epochs.filter fun v => !(decide (v < b) && decide (v ≠ k.cur))).length ≤ k.epochs.length := by
  refine ⟨fun e => ?_, List.length_filter_le _ _⟩
  have hm : k.cur ∈ k.epochs := by
    rw [KsS.cur, List.getLastD_eq_getLast?, List.getLast?_eq_some_getLast h]
    exact List.getLast_mem h
  have := List.filter_eq_nil_iff.1 e k.cur hm
  simp at this
set_option maxHeartbeats 1000000 in
theorem keys_Erase_ac {md : Bool} {h : AHeap} {n : WN} {s : WS} {k : Nat} (hg : WG md h n s) (hs : s.Fit k) (hk : k ≤ 9000) (b : Int) :
    AC Try.prog 57 [.ptr (n.a + 9) 0 0, .int .u32 b] h (fun r h' => r = .bool s.pw.can ∧ ∃ E, (E = n.E ∨ h.next ≤ E) ∧ WG md h' { n with E := E } (s.eraS b) ∧ Kp (n.own md) h h') := by
  refine AC.introW is_keys_Keys_Erase (by simp) ?_
  unfold c_keys_Keys_Erase
  have hw := hg.w
  have hna := hw.nx
  have hnB := hw.nB
  have hoB := hw.oB
  have hop := hw.op
  obtain ⟨q1, q2, q3, q4⟩ := hw.ks
  have q1' := q1
  simp only [KsS.obj] at q1'
  have hpw : h.get n.p = some (.mem 4 [s.pw.row]) := hw.sd.pw
  obtain ⟨nx, hnx⟩ : ∃ nx, h.next = nx := ⟨_, rfl⟩
  (refine go ?_)
  refine WL.call rfl (by first | exact True.intro | exact rfl) gSL (power_Spend_ae ((gE : _ = h.get n.p).trans hpw) hs.pw (by omega)) ?_
  cases hcan : s.pw.can with
  | false =>
    (refine go ?_)
    refine WW.ret ⟨.inl rfl, _, gRES, rfl, n.E, .inl rfl, ?_, ?_⟩
    · have := (hg.step (hw.putPw s.pw.spend) (kp_pw n _))
      rw [WS.eraS, KsS.erase, hcan, if_neg (by simp)]
      have h3 : WG md (h.set n.p (some (.mem 4 [s.pw.spend.row]))) n { s with pw := s.pw.spend } := this
      refine WG.kp (W := fun id => h.next ≤ id) h3 ⟨?_, fun id hu => ?_, fun id hu hw2 => ?_⟩ fun id hi e => by have := (hg.us id hi).1; omega
      · exact next_le_set (next_le_put (x := .tail 0 0) (Nat.le_refl _))
      · exact put_used (x := .tail 0 0) hu
      · have : id < h.next := hu.1
        simp only [get_set, get_put]
        split
        · rfl
        · rw [if_neg (by omega)]
    · exact (Kp.refl.put (by omega) _).setW (.inl rfl) _
  | true =>
    have hne := erase_ne b q3
    (refine go ?_)
    refine WL.call rfl (by first | exact True.intro | exact rfl) gSL (keys_Current_ae (hw.ks.same gE gE)) ?_
    (refine go ?_)
    refine WL.named (fun h3 => Kp (n.own md) h h3 ∧ BoxAt h3 nx (.mem 1 [[.int .u32 b]]) ∧ BoxAt h3 (nx + 1) (.mem 1 [[.int .u32 s.ks.cur]]) ∧ h3.get n.p = some (.mem 4 [s.pw.spend.row]) ∧ (∀ id, id < h.next → id ≠ n.p → h3.get id = h.get id) ∧ nx + 2 ≤ h3.next) ⟨?_, ⟨?_, gH⟩, ⟨?_, gH⟩, gH, fun id i1 i2 => gE, ?_⟩ ?_
    · repeat first | exact Kp.refl | refine Kp.put ?_ (by omega) _ | refine Kp.setN ?_ (by omega) _ | refine Kp.setW ?_ (.inl rfl) _
    · rw [← hnx]; exact put_used (x := .tail 0 0) (put_used_nm (x := .tail 0 0))
    · rw [← hnx]; exact put_used_nm (x := .tail 0 0)
    · rw [← hnx]; exact (leN gN (by omega))
    rintro h3 ⟨k3, bx, by', gp3, gr3, hx3⟩
    have gE : h3.get n.E = some (.mem 1 (s.ks.epochs.map encE)) := (gr3 _ (by omega) (by omega)).trans q2
    have gk : h3.get (n.a + 9) = some (.mem 3 [[.ptr n.p 0 0, .int .u64 s.ks.seed, .ref n.E 0 s.ks.epochs.length]]) := (gr3 _ (by omega) (by omega)).trans q1'
    (refine go ?_)
    refine WL.callA rfl (by first | exact True.intro | exact rfl) gSL (slices_DeleteFuncE_ac gE q4 ⟨by kernel_rfl⟩ (p := fun v => decide (v < b) && decide (v ≠ s.ks.cur)) (fun h2 hk2 v _ => erase1_ae h2 ((hk2.2 nx bx.u (by simp; omega)).trans bx.g) ((hk2.2 (nx + 1) by'.u (by simp; omega)).trans by'.g))) ?_
    rintro _ h4 ⟨E', rfl, hE', b4, k4⟩
    have gk4 := (k4.get (n.a + 9) (k3.us _ (hg.us _ (.inl (.inr (.inr (.inl (by omega))))))) (by omega)).trans gk
    have hx4 := k4.next
    (refine go ?_)
    have hera : s.ks.erase b true = { s.ks with epochs := s.ks.epochs.filter fun v => !(decide (v < b) && decide (v ≠ s.ks.cur)) } := rfl
    refine WW.named (fun h5 => Kp (n.own md) h h5 ∧ BoxAt h5 E' (.mem 1 ((s.ks.epochs.filter fun v => !(decide (v < b) && decide (v ≠ s.ks.cur))).map encE)) ∧ h5.get (n.a + 9) = some ((s.ks.erase b true).obj n.p E') ∧ h5.get n.p = some (.mem 4 [s.pw.spend.row]) ∧ ∀ id, n.nm md id → id ≠ n.p → id ≠ n.a + 9 → id ≠ n.E → h5.get id = h.get id) ⟨?_, ⟨b4.u, ?_⟩, ?_, ?_, fun id i1 i2 i3 i4 => ?_⟩ ?_
    · exact (k3.trans (k4.mono fun id _ e => by rw [e]; exact .inr (.inl (by omega)))).setW (.inr (.inl (by omega))) _
    · have := b4.g; exact gH
    · have ho : (s.ks.erase b true).obj n.p E' = .mem 3 [[.ptr n.p 0 0, .int .u64 s.ks.seed, .ref E' 0 (s.ks.epochs.filter fun v => !(decide (v < b) && decide (v ≠ s.ks.cur))).length]] := by simp [KsS.obj, hera]
      rw [ho]; exact gH
    · have := (k4.get n.p (k3.us _ (hg.us _ (.inl (.inl rfl)))) (by omega)).trans gp3
      exact gH
    · have i5 := hg.us id i1
      exact get_set_neE i3 ((k4.get id (k3.us id i5) i4).trans (gr3 id i5.1 i2))
    rintro h5 ⟨k5, b5, g1, gp5, gr⟩
    refine WW.ret ⟨.inl rfl, _, gRES, rfl, E', ?_, ?_, k5⟩
    · omega
    have := hg.reE s.pw.spend (s.ks.erase b true) ?_ k5 (by rw [hera]; exact b5) g1 gp5 gr (by rw [hera]; exact hne.1) (by rw [hera]; have := hne.2; dsimp only; omega)
    · rw [WS.eraS, hcan]
      exact this
    · omega
end Go.Proofs.Ytjehfcjfnmcjcaa


namespace Go.Proofs.Ytjehfcjfnmcjcaa
open Go Go.Abs

def epo (i : Nat) : List Int := (List.range (i + 1)).map fun j => ((j + 1 : Nat) : Int)
theorem epo_cur (seed : Int) (i : Nat) : (⟨seed, epo i⟩ : KsS).cur = ((i + 1 : Nat) : Int) := by
  simp [KsS.cur, epo, List.range_succ]
theorem epo_succ (i : Nat) : epo i ++ [((i + 1 : Nat) : Int) + 1] = epo (i + 1) := by
  rw [epo, epo, List.range_succ (n := i + 1), List.map_append]; rfl
/-- A world behind i more keys. -/
structure AddI (s1 : WS) (i : Nat) (s : WS) : Prop where
  fit : s.Fit (2 + i)
  fr : s.pw.Free
  ks : s.ks = ⟨9, epo i⟩
  n : s.n = s1.n
  sd : s.sd = s1.sd
  ct : s.ct = s1.ct
  L : s.L = s1.L
theorem AddI.step {s1 : WS} {i : Nat} {s : WS} (h : AddI s1 i s) : AddI s1 (i + 1) s.addS := by
  refine ⟨⟨h.fit.g, h.fit.pw.spend, h.fit.sd.mono (by omega), Nat.le_trans h.fit.ss (by omega), Nat.le_trans h.fit.ll (by omega)⟩, h.fr.spend, ?_, h.n, h.sd, h.ct, h.L⟩
  show s.ks.add s.pw.can = _
  rw [h.fr.can, h.ks, KsS.add, if_pos rfl, epo_cur, epo_succ]
theorem one_epo (i : Nat) (b : Int) (ok : Bool) : (1 : Int) ∈ ((⟨9, epo i⟩ : KsS).erase b ok).epochs ↔ (ok = false ∨ i = 0 ∨ b ≤ 1) := by
  have h1 : (1 : Int) ∈ epo i := by
    rw [epo, List.mem_map]
    exact ⟨0, by simp, rfl⟩
  cases ok with
  | false => simp [KsS.erase, h1]
  | true =>
    rw [KsS.erase, if_pos rfl]
    dsimp only
    rw [List.mem_filter, epo_cur]
    by_cases hb : (1 : Int) < b <;> by_cases hi : i = 0
    · subst hi; simp [h1]
    · have h2 : (1 : Int) ≠ ((i + 1 : Nat) : Int) := by omega
      have h3 : ¬ b ≤ 1 := by omega
      rw [decide_eq_true hb, decide_eq_true h2]; simp [hi, h3]
    · have h3 : b ≤ 1 := by omega
      rw [decide_eq_false hb]; simp [h1, h3]
    · have h3 : b ≤ 1 := by omega
      rw [decide_eq_false hb]; simp [h1, h3]
set_option maxHeartbeats 4000000 in
theorem law22_LogKeys_ae (md : Bool) (adds : Int) (er : Int) (her : 0 ≤ er ∧ er < 4294967296) (h : AHeap) : AE Try.prog 13 [.bool md, .int .i64 adds, .int .u32 er] h (.bool true) h := by
  refine AE.pureW is_law22_LogKeys (by simp) ?_
  unfold c_law22_LogKeys
  (refine go ?_)
  (refine WL.spB rfl (fun hz1 => ?_) (fun hz1 => ?_))
  · (refine go ?_)
    refine WW.ret (PureQ.finD ?_)
    exact fz_b rfl
  (refine go ?_)
  (refine WW.ifB rfl (fun hz2 => ?_) (fun hz2 => ?_))
  · (refine go ?_)
    refine WW.ret (PureQ.finD ?_)
    exact fz_b rfl
  obtain ⟨t, rfl⟩ : ∃ t : Nat, adds = t := ⟨adds.toNat, by omega⟩
  have ht : t ≤ 9 := by omega
  clear hz1 hz2
  (refine go ?_)
  refine WL.callA rfl (by first | exact True.intro | exact rfl) gSL (world_NewG_ac md 4 rfl 9 h) ?_
  rintro _ h1 ⟨n, rfl, g1, hn, k1⟩
  have hx1 := k1.next
  have hnm : ∀ id, n.own md id → h.next ≤ id := fun id hi => hn id (.inl (WN.own_all hi))
  have kk1 : Keeps h h1 := k1.keeps fun _ h => h
  (refine go ?_)
  refine WL.call rfl (by first | exact True.intro | exact rfl) gSL (nonce_New_ae rfl 0 (by decide)) ?_
  have hmk : ¬ n.nm md h1.next := fun hi => by have := (g1.us _ hi).1; omega
  have hlt : ∀ id, n.nm md id → id < h1.next := fun id hi => (g1.us id hi).1
  refine WL.named (fun h2 => WG md h2 n (ws0 4 9) ∧ Kp (fun id => h.next ≤ id) h h2 ∧ BoxAt h2 h1.next (mkO 0 0) ∧ h1.next < h2.next) ⟨g1.new (by repeat first | exact Kp.refl | assumption | with_reducible refine Kp.put ?_ (by omega) _ | with_reducible refine Kp.setN ?_ (by omega) _ | with_reducible refine Kp.keep ?_ _ | with_reducible refine Kp.setW ?_ (by rfl) _), (by repeat first | exact Kp.refl | assumption | with_reducible refine Kp.put ?_ (by omega) _ | with_reducible refine Kp.setN ?_ (by omega) _ | with_reducible refine Kp.keep ?_ _ | with_reducible refine Kp.setW ?_ (by rfl) _), ⟨put_used_nm, gH⟩, put_used_nm.1⟩ ?_
  generalize h1.next = mk at *
  clear g1 k1 kk1
  rintro h2 ⟨g2, k2, b2, hm2⟩
  have hx2 := k2.next
  obtain ⟨nx, hnx⟩ : ∃ nx, h2.next = nx := ⟨_, rfl⟩
  (refine go ?_)
  obtain ⟨ra, hra⟩ : ∃ ra : Rt, ra = ⟨6, 0, 4, (0, 0)⟩ := ⟨_, rfl⟩
  have wa : ra.Wf := by subst hra; constructor <;> dsimp only <;> decide
  have na : ra.n = 4 := by subst hra; rfl
  have ca : ra.c = 6 := by subst hra; rfl
  refine WL.named (fun h3 => WG md h3 n (ws0 4 9) ∧ Kp (fun id => h.next ≤ id) h h3 ∧ BoxAt h3 mk (mkO 0 0) ∧ BoxAt h3 nx (.mem 5 [encRt ra])) ⟨g2.new (by repeat first | exact Kp.refl | assumption | with_reducible refine Kp.put ?_ (by omega) _ | with_reducible refine Kp.setN ?_ (by omega) _ | with_reducible refine Kp.keep ?_ _ | with_reducible refine Kp.setW ?_ (by rfl) _), (by repeat first | exact Kp.refl | assumption | with_reducible refine Kp.put ?_ (by omega) _ | with_reducible refine Kp.setN ?_ (by omega) _ | with_reducible refine Kp.keep ?_ _ | with_reducible refine Kp.setW ?_ (by rfl) _), b2.kp (W := fun _ => False) (by repeat first | exact Kp.refl | assumption | with_reducible refine Kp.put ?_ (by omega) _ | with_reducible refine Kp.setN ?_ (by omega) _ | with_reducible refine Kp.keep ?_ _ | with_reducible refine Kp.setW ?_ (by rfl) _) (fun h => h), ?_⟩ ?_
  · subst hra
    exact ⟨put_used_nm (x := .tail 0 0), gH⟩
  clear g2 k2 b2
  rintro h3 ⟨g3, k3, b3, pa⟩
  have S0 := lst0 md (m := 4) rfl 9
  have F1 := filed_logW (r := ra) (boot := 0) (j := 0) S0.fit (by omega) S0.free.can S0.cur (by decide) (by decide) wa (by rw [na]; rfl) S0.seq
  have S1 := S0.log 0 0 ra
  have hcan := S0.free.can
  rw [fit_cur, ca] at F1
  have hk1 : ((ws0 4 9).logW md 0 0 ra).ks = ⟨9, [1]⟩ := rfl
  have hn1 : ((ws0 4 9).logW md 0 0 ra).n = 4 := rfl
  have hct1 : ((ws0 4 9).logW md 0 0 ra).ct = ⟨0, 0, 0⟩ := rfl
  have hP := log_Put_ac g3 S0.fit (by omega) S0.cur.2 b3 (by decide) (by decide) hmk ra wa (by rw [na]; rfl) na
  rw [hcan] at hP
  generalize (ws0 4 9).logW md 0 0 ra = s1 at *
  have qa := pa.g
  (refine go ?_)
  rw [show [AV.int .u64 6, .int .u32 0, .int .i64 4, .int .u64 0, .int .u64 0] = encRt ra by subst hra; rfl]
  refine WL.callA rfl (by first | exact True.intro | exact rfl) gSL (hP) ?_
  clear hP S0 hcan
  rintro _ h4 ⟨rfl, g4, b4, k4⟩
  have hwn : ∀ id, (n.own md id ∨ id = mk) → id ≠ nx := fun id hh e => hh.elim (fun hh => by have := hlt id (.inl (WN.own_all hh)); omega) (fun e2 => by omega)
  have pa4 := pa.kp k4 (fun hh => hwn _ hh rfl)
  have hmkh : h.next ≤ mk := by have := hlt (n.a + 10) (.inl (.inr (.inr (.inl (by omega))))); have := hn (n.a + 10) (.inl (.inr (.inr (.inl (by omega))))); omega
  have k5 : Kp (fun id => h.next ≤ id) h h4 := k3.trans (k4.mono fun id _ hh => hh.elim (hnm id) fun e => by omega)
  have hown : ∀ id, n.own md id → id < nx := fun id hi => by have := hlt id (.inl (WN.own_all hi)); omega
  clear g3 k3 b3 pa qa k4 b4 hwn
  have hx5 := k5.next
  have hnx4 : nx < h4.next := pa4.u.1
  have hnxh : h.next ≤ nx := by omega
  have A0 : AddI s1 0 s1 := ⟨S1.fit.mono (by omega), S1.free, hk1, rfl, rfl, rfl, rfl⟩
  (refine go ?_)
  refine WW.loopE (fun (r : Nat × WS × Nat) => [(0, some (.bool md)), (1, some (.int .i64 t)), (2, some (.int .u32 er)), (7, some (.ptr (n.a + 10) 0 0)), (11, some (.ptr nx 0 0)), (12, some (.int .i64 r.1))])
    (fun r h' => AddI s1 r.1 r.2.1 ∧ WG md h' { n with E := r.2.2 } r.2.1 ∧ (r.2.2 = n.E ∨ h.next ≤ r.2.2) ∧ r.2.2 ≠ nx ∧ Kp (fun id => h.next ≤ id) h h' ∧ BoxAt h' nx (.mem 5 [encRt ra]) ∧ r.1 ≤ t) (fun r => t - r.1) (0, s1, n.E) gSUB ⟨A0, g4, .inl rfl, ?_, k5, pa4, Nat.zero_le _⟩ ?_
  · have := hown n.E (.inr (.inl (by omega))); dsimp only; omega
  clear g4 k5 pa4 A0
  rintro ⟨i, s, E⟩ h' ⟨A, g3, hE, hEn, k3, pa3, i1⟩
  dsimp only at A g3 hE hEn k3 pa3 i1 ⊢
  have hown2 : ∀ id, WN.own md { n with E := E } id → h.next ≤ id ∧ id ≠ nx := fun id hi => by
    have key : n.own md id → h.next ≤ id ∧ id ≠ nx := fun h1 => ⟨hnm id h1, by have := hown id h1; omega⟩
    rcases hi with hi | hi | hi
    · exact key (.inl hi)
    · by_cases e : id = E
      · subst e
        refine ⟨hE.elim (fun e => ?_) (fun x => x), hEn⟩
        rw [e]; exact hnm n.E (.inr (.inl (by omega)))
      · refine key (.inr (.inl ?_)); dsimp only at hi; omega
    · exact key (.inr (.inr hi))
  have hob := g3.w.w
  simp only [wRow] at hob
  have hx3 := k3.next
  have hnx3 : nx < h'.next := pa3.u.1
  have hks := A.ks
  (refine go ?_)
  (refine WW.ifB rfl (fun hz3 => ?_) (fun hz3 => ?_))
  · have hi : i < t := by omega
    (refine go ?_)
    refine WL.callA rfl (by first | exact True.intro | exact rfl) gSL (keys_Add_ac g3 A.fit (by omega) (by rw [hks, epo_cur]; omega) (by rw [hks]; simp [epo]; omega)) ?_
    rintro _ h6 ⟨rfl, E2, hE2, g6, k6⟩
    have k7 : Kp (fun id => h.next ≤ id) h h6 := k3.trans (k6.mono fun id _ hi => (hown2 id hi).1)
    have pa6 := pa3.kp k6 (fun hi => (hown2 nx hi).2 rfl)
    clear g3 k3 pa3 hob
    rw [A.fr.can]
    (refine go ?_)
    exact ⟨(i + 1, s.addS, E2), gSUB, ⟨A.step, g6, by dsimp only at hE2 ⊢; omega, by dsimp only at hE2 ⊢; omega, k7, pa6, hi⟩, by dsimp only; omega⟩
  · have hi : i = t := by omega
    subst hi
    (refine go ?_)
    refine WL.callA rfl (by first | exact True.intro | exact rfl) gSL (keys_Erase_ac g3 A.fit (by omega) er) ?_
    rintro _ h6 ⟨rfl, E2, hE2, g6, k6⟩
    have k7 : Kp (fun id => h.next ≤ id) h h6 := k3.trans (k6.mono fun id _ hi => (hown2 id hi).1)
    have pa6 := pa3.kp k6 (fun hi => (hown2 nx hi).2 rfl)
    clear g3 k3 pa3 hob k6
    have hfit : (s.eraS er).Fit (3 + i) := ⟨A.fit.g, A.fit.pw.spend.mono (by omega), A.fit.sd.mono (by omega), Nat.le_trans A.fit.ss (by omega), Nat.le_trans A.fit.ll (by omega)⟩
    have hdat : ∀ x ∈ (s.eraS er).L, x.data.length ≤ 4000 := fun x hx => S1.dat x (by rw [← A.L]; exact hx)
    have hat : (s.eraS er).ct.at' = 0 := by show s.ct.at' = 0; rw [A.ct, hct1]
    have F2 : Filed md (s.eraS er) 6 ra 1 (0 * 4294967296 + ((0 + 1 : Nat) : Int)) _ _ := ⟨by rw [WS.recOf, show (s.eraS er).sd = s1.sd from A.sd, show (s.eraS er).n = s1.n from A.n]; exact F1.rc, F1.he, F1.hv, F1.hb, F1.ht, by rw [show (s.eraS er).L = s1.L from A.L, show (s.eraS er).ks.seed = s1.ks.seed by show (s.ks.erase er s.pw.can).seed = _; rw [A.fr.can, hks, hk1]; rfl]; exact F1.op, F1.wf, F1.g, F1.cc⟩
    have hep : (1 : Int) ∈ (s.eraS er).ks.epochs ↔ (i = 0 ∨ er ≤ 1) := by
      show (1 : Int) ∈ (s.ks.erase er s.pw.can).epochs ↔ _
      rw [hks, one_epo, A.fr.can]; simp
    have hgo : (s.eraS er).pw.gone = false := A.fr.spend.g
    have hns : ra.n = (s.eraS er).n := by rw [na]; exact (A.n.trans hn1).symm
    have kk : Keeps h h6 := k7.keeps fun _ h => h
    have hx7 := k7.next
    have pg := pa6.g
    have hpu := pa6.u.1
    by_cases hok : i = 0 ∨ er ≤ 1
    · have r1 : (s.eraS er).getR md 6 = some ra := F2.get (hep.2 hok) (by rw [hat]; decide) hns
      have e1 : (s.eraS er).getE md 6 = 0 := by rw [WS.getE, hgo, r1]; rfl
      have t1 : (s.eraS er).getT md 6 = ra := by rw [WS.getT, hgo, r1]; rfl
      (refine go ?_)
      refine WL.call rfl (by first | exact True.intro | exact rfl) gSL (log_Get_ae (n := { n with E := E2 }) g6.w hfit (by omega) hdat (by rw [hat]; decide) 6 (by decide)) ?_
      rw [e1, t1]
      (refine go ?_)
      by_cases hi0 : i = 0
      · subst hi0
        rw [show (((0 : Nat) : Int) == 0) = true from rfl]
        (refine go ?_)
        simp only [beq_self_eq_true, Bool.and_true]
        (refine go ?_)
        refine WL.call rfl (by first | exact True.intro | exact rfl) gSL (law22_known_ae _) ?_
        (refine go ?_)
        refine WW.ret (PureQ.finD ?_)
        exact fz_b rfl
      · have her1 : er ≤ 1 := hok.resolve_left hi0
        rw [show ((i : Int) == 0) = false by simp; omega]
        (refine go ?_)
        rw [decide_eq_true her1]
        (refine go ?_)
        simp only [beq_self_eq_true, Bool.and_true]
        (refine go ?_)
        refine WL.call rfl (by first | exact True.intro | exact rfl) gSL (law22_known_ae _) ?_
        (refine go ?_)
        refine WW.ret (PureQ.finD ?_)
        exact fz_b rfl
    · have r1 : (s.eraS er).getR md 6 = none := F2.late (fun hh => hok (hep.1 hh.1))
      have e1 : (s.eraS er).getE md 6 = 3 := by rw [WS.getE, hgo, r1]; rfl
      (refine go ?_)
      refine WL.call rfl (by first | exact True.intro | exact rfl) gSL (log_Get_ae (n := { n with E := E2 }) g6.w hfit (by omega) hdat (by rw [hat]; decide) 6 (by decide)) ?_
      rw [e1]
      generalize (s.eraS er).getT md 6 = t0
      (refine go ?_)
      rw [show ((i : Int) == 0) = false by simp; omega]
      (refine go ?_)
      rw [decide_eq_false (show ¬ er ≤ 1 by omega)]
      (refine go ?_)
      refine WL.call rfl (by first | exact True.intro | exact rfl) gSL (law22_known_ae _) ?_
      (refine go ?_)
      refine WW.ret (PureQ.finD ?_)
      exact fz_b rfl
theorem top_LogKeys (c0 : List AV) (t0 : TypL [.b] c0) (c1 : List AV) (t1 : TypL [.i .i64] c1) (c2 : List AV) (t2 : TypL [.i .u32] c2) :
    AE Try.prog 13 [c0.headD .nilp, c1.headD .nilp, c2.headD .nilp] noHeap (.bool true) noHeap := by
  obtain ⟨md, rfl⟩ := bool_of20 t0
  obtain ⟨adds, rfl, _⟩ := int_of t1
  obtain ⟨er, rfl, hw⟩ := int_of t2
  exact law22_LogKeys_ae md adds er (wf32 hw) noHeap
end Go.Proofs.Ytjehfcjfnmcjcaa


