/- What the statement's proof needs, part 5. -/
import Derived.Test.YtjehfcjfnmcjcaaQLogRecords4
set_option linter.all false
namespace Go.Proofs.Ytjehfcjfnmcjcaa
open Go Go.Abs

theorem WG.reL {md : Bool} {h h' : AHeap} {n : WN} {s : WS} (hg : WG md h n s) (L' : List Iss) (hk : Kp (fun id => md = true ∧ (id = n.o ∨ id = n.t)) h h') (h1 : md = true → h'.get n.o = some (.mem 2 [[.app n.t 0 10 (L'.map encI), .map n.q]]) ∧ h'.get n.t = some (.tail 0 L'.length)) (h2 : md = false → L' = s.L) : WG md h' n { s with L := L' } := by
  have hw := hg.w
  have g : ∀ id, n.nm md id → (md = true → id ≠ n.o ∧ id ≠ n.t) → h'.get id = h.get id := fun id hi hne => hk.get id (hg.us id hi) fun ⟨e, h⟩ => h.elim (hne e).1 (hne e).2
  have ga : ∀ i, i < 11 → h'.get (n.a + i) = h.get (n.a + i) := fun i hi => g _ (.inl (.inr (.inr (.inl (by omega))))) fun e => by have := hw.oo e; omega
  have gp : h'.get n.p = h.get n.p := g _ (.inl (.inl rfl)) fun e => by obtain ⟨a, b, _⟩ := hw.nep.2 e; exact ⟨Ne.symm a, Ne.symm b⟩
  have key : ∀ {i j : Nat} {y z : AObj}, h.get i = some y → h.get j = some z → y ≠ z → i ≠ j := fun hi hj hne e => by
    subst e; rw [hi] at hj; exact hne (Option.some.inj hj)
  have gl : h'.get n.l = h.get n.l := g _ (.inl (.inr (.inl rfl))) fun e => by
    obtain ⟨q0, q1, q2, q3⟩ := hw.lk.id e
    exact ⟨key q0 q1 (by simp [idC]), key q0 q2 (by simp)⟩
  have gq : md = true → h'.get n.q = h.get n.q := fun e => g _ (.inr rfl) fun _ => by
    obtain ⟨q0, q1, q2, q3⟩ := hw.lk.id e
    exact ⟨key q3 q1 (by simp), key q3 q2 (by simp)⟩
  have gqf : md = false → h'.get n.q = none := fun e => (g _ (.inr rfl) fun e' => by rw [e] at e'; cases e').trans (hg.qn e)
  refine ⟨⟨hw.sd.same gp (ga 1 (by omega)) (ga 0 (by omega)) (ga 2 (by omega)) (ga 3 (by omega)), hw.dk.same gp (ga 4 (by omega)) (ga 5 (by omega)) (ga 6 (by omega)), (ga 7 (by omega)).trans hw.ct, hw.ks.same (ga 9 (by omega)) (ga 8 (by omega)), (ga 10 (by omega)).trans hw.w, ⟨fun e => ?_, fun e => gl.trans (hw.lk.re e)⟩, hw.op, hw.ol, hw.oo, Nat.le_trans hw.nx hk.next⟩, fun id hi => hk.us id (hg.us id hi), gqf⟩
  obtain ⟨q0, q1, q2, q3⟩ := hw.lk.id e
  obtain ⟨e1, e2⟩ := h1 e
  exact ⟨gl.trans q0, ⟨e1, e2, (gq e).trans q3⟩⟩
def WS.logN (s : WS) (boot : Int) (j : Nat) : Nn := (s.ks.cur, 65535, boot * 4294967296 + ((j + 1 : Nat) : Int))
def WS.logP (md : Bool) (s : WS) (boot : Int) (j : Nat) (r : Rt) : Bs × Pr := sealP md s.L s.key (s.logN boot j) [] (rootB r)
def WS.logR (md : Bool) (s : WS) (boot : Int) (j : Nat) (r : Rt) : Wr := (recAt s.n r.c, recB s.ks.cur (boot * 4294967296 + ((j + 1 : Nat) : Int)) (s.logP md boot j r).1 (s.logP md boot j r).2)
def WS.logW (md : Bool) (s : WS) (boot : Int) (j : Nat) (r : Rt) : WS := { s with L := sealL md s.L s.key (s.logN boot j) [] (rootB r), pw := s.pw.spend, sd := s.sd.write (s.logR md boot j r) s.pw.can }
theorem sealP_len (md : Bool) (L : List Iss) (k : Pr) (n : Nn) (head data : Bs) : (sealP md L k n head data).1.length = data.length := by
  cases md with
  | true => simp only [sealP, newI, sealB, rep_len]
  | false => simp only [sealP, gcmB_len]
theorem log_Put_arg {md : Bool} {h : AHeap} {n : WN} {s : WS} (hw : WAt md h n s) (m : AV) (r : Rt) (hr : r.Wf) (hno : (isG r.n && decide (r.n = s.n)) = false) : AE Try.prog 51 [.ptr (n.a + 10) 0 0, m, .agg (encRt r)] h (.int .i64 1) h := by
  refine AE.wfU fun hwu => ?_
  have hob := hw.w
  have h0 := (hwu _ _ hob).1
  simp only [wRow] at hob
  refine AE.pureW is_log_Put (by simp) ?_
  unfold c_log_Put
  (refine go ?_)
  refine WL.call rfl (by first | exact True.intro | exact rfl) gSL (root_Put_ae r hr _) ?_
  cases hg : isG r.n with
  | false =>
    (refine go ?_)
    refine WW.ret (PureQ.finD ?_)
    exact fz_i rfl
  | true =>
    rw [hg, Bool.true_and] at hno
    (refine go ?_)
    (refine WW.ifB rfl (fun hz1 => ?_) (fun hz1 => ?_))
    · (refine go ?_)
      refine WW.ret (PureQ.finD ?_)
      exact fz_i rfl
    · exfalso; simp at hz1 hno; exact hno hz1
set_option maxHeartbeats 1000000 in
theorem log_Put_ac {md : Bool} {h : AHeap} {n : WN} {s : WS} {k : Nat} (hg : WG md h n s) (hs : s.Fit k) (hk : k ≤ 9000) (hcur : 0 ≤ s.ks.cur ∧ s.ks.cur < 4294967296) {mk : Nat} {boot : Int} {j : Nat} (hm : BoxAt h mk (mkO boot j)) (hb : 0 ≤ boot ∧ boot < 4294967296) (hj : j < 100) (hne : ¬ n.nm md mk) (r : Rt) (hr : r.Wf) (hrg : isG r.n = true) (hrn : r.n = s.n) :
    AC Try.prog 51 [.ptr (n.a + 10) 0 0, .ptr mk 0 0, .agg (encRt r)] h
      (fun v h' => v = .int .i64 (if s.pw.can then 0 else 7) ∧ WG md h' n (s.logW md boot j r) ∧ BoxAt h' mk (mkO boot (j + 1)) ∧ Kp (fun id => n.own md id ∨ id = mk) h h') := by
  refine AC.introW is_log_Put (by simp) ?_
  unfold c_log_Put
  have hob := hg.w.w
  simp only [wRow] at hob
  have hlt : ∀ id, n.nm md id → id < h.next := fun id hi => (hg.us id hi).1
  have hmk : mk < h.next := hm.u.1
  have hgg := isG_cases hs.g
  have hna : n.a + 11 ≤ h.next := hg.w.nx
  have hop := hg.w.op
  (refine go ?_)
  refine WL.call rfl (by first | exact True.intro | exact rfl) gSL (root_Put_ae r hr _) ?_
  rw [hrg]
  simp only [if_true]
  (refine go ?_)
  (refine WW.ifB rfl (fun hz1 => ?_) (fun hz1 => ?_))
  · exfalso; simp at hz1; exact hz1 hrn
  have hcur' := hcur
  (refine go ?_)
  refine WL.call rfl (by first | exact True.intro | exact rfl) gSL (world_Key_ae (hg.new (by repeat first | exact Kp.refl | assumption | with_reducible refine Kp.put ?_ (by omega) _ | with_reducible refine Kp.setN ?_ (by omega) _ | with_reducible refine Kp.keep ?_ _ | with_reducible refine Kp.setW ?_ (by rfl) _)).w hcur) ?_
  (refine go ?_)
  refine WL.call rfl (by first | exact True.intro | exact rfl) gSL (nonce_Next_ae ((gE : _ = h.get mk).trans hm.g) hb hj s.ks.cur 65535 (by decide)) ?_
  refine WL.named (fun h3 => WG md h3 n s ∧ BoxAt h3 mk (mkO boot (j + 1)) ∧ Kp (fun id => id = mk) h h3 ∧ h3.get h.next = some (.mem 5 [encRt r]) ∧ h3.get (h.next + 1) = some (.mem 2 [encP s.key]) ∧ h3.next = h.next + 2) ⟨hg.kp (W := fun id => id = mk) (by repeat first | exact Kp.refl | assumption | with_reducible refine Kp.put ?_ (by omega) _ | with_reducible refine Kp.setN ?_ (by omega) _ | with_reducible refine Kp.keep ?_ _ | with_reducible refine Kp.setW ?_ (by simp; done) _) (fun id hi e => hne (e ▸ hi)), ⟨?_, gH⟩, (by repeat first | exact Kp.refl | assumption | with_reducible refine Kp.put ?_ (by omega) _ | with_reducible refine Kp.setN ?_ (by omega) _ | with_reducible refine Kp.keep ?_ _ | with_reducible refine Kp.setW ?_ (by simp; done) _), gH, gH, (gN : _ = h.next + 1 + 1)⟩ ?_
  · exact (((by repeat first | exact Kp.refl | assumption | with_reducible refine Kp.put ?_ (by omega) _ | with_reducible refine Kp.setN ?_ (by omega) _ | with_reducible refine Kp.keep ?_ _ | with_reducible refine Kp.setW ?_ (by simp; done) _) : Kp (fun id => id = mk) h _)).us mk hm.u
  clear hob
  rintro h3 ⟨g3, b3, k3, r1, r2, hn3⟩
  (refine go ?_)
  have hx3 := k3.next
  have hrb := rootB_len r
  have hll := hs.ll
  have hLk : n.l < h.next := hlt _ (.inl (.inr (.inl rfl)))
  refine WW.thenI (fun e' F' => subE [(0, some (.ptr (n.a + 10) 0 0)), (5, some (.ptr h.next 0 0)), (11, some (.ptr (h.next + 2) 0 0)), (13, some (.ptr (h.next + 3) 0 0))] e' ∧ WG md F' n { s with L := sealL md s.L s.key (s.logN boot j) [] (rootB r) } ∧ BoxAt F' mk (mkO boot (j + 1)) ∧ Kp (fun id => n.own md id ∨ id = mk) h F' ∧ F'.get h.next = some (.mem 5 [encRt r]) ∧ F'.get (h.next + 2) = some (.mem 3 [encN (s.logN boot j)]) ∧ F'.get (h.next + 3) = some (.mem 3 [encS (s.logP md boot j r).1 (s.logP md boot j r).2]) ∧ F'.next = h.next + 4) ?_ ?_
  · cases md with
    | true =>
      have hoL : n.o < h.next := hlt _ (.inl (.inr (.inr (.inr ⟨rfl, .inl rfl⟩))))
      have htL : n.t < h.next := hlt _ (.inl (.inr (.inr (.inr ⟨rfl, .inr (.inl rfl)⟩))))
      have hqL : n.q < h.next := hlt _ (.inr rfl)
      have hoo := g3.w.oo rfl
      have hob3 := g3.w.w
      simp only [wRow] at hob3
      refine WW.dregA [11] [7, 12] [7] [3, 4, 5] [n.t, n.o] gN (by decide +kernel) ?_
      iterate 3 (refine DA.go ?_)
      refine DA.goF (hs := fun h2 hp2 => by apply Stp.load1; exact rfl; exact (hp2 _ (by omega) (by simp; omega)).trans gH; exact (by first | exact getC_at rfl rfl | exact getC_all rfl | exact getC_sub (Nat.le_of_ble_eq_true rfl) (by first | (simp only [putC, AV.cs, encP, encN, encI, encS, encA, List.take_succ_cons, List.take_zero, List.take_nil, List.drop_succ_cons, List.drop_zero, List.drop_nil, List.cons_append, List.nil_append, List.append_nil, List.length_cons, List.length_nil, Nat.zero_add, Nat.add_zero, Nat.reduceAdd]; exact rfl) | exact rfl) | exact getC_sub (by simp) (by first | (simp only [putC, AV.cs, encP, encN, encI, encS, encA, List.take_succ_cons, List.take_zero, List.take_nil, List.drop_succ_cons, List.drop_zero, List.drop_nil, List.cons_append, List.nil_append, List.append_nil, List.length_cons, List.length_nil, Nat.zero_add, Nat.add_zero, Nat.reduceAdd]; exact rfl) | exact rfl)); exact (by first | exact True.intro | exact rfl)) ?_
      refine DA.goF (hs := fun h2 hp2 => by apply Stp.load1; exact rfl; exact (hp2 _ (by omega) (by simp; omega)).trans gH; exact (by first | exact getC_at rfl rfl | exact getC_all rfl | exact getC_sub (Nat.le_of_ble_eq_true rfl) (by first | (simp only [putC, AV.cs, encP, encN, encI, encS, encA, List.take_succ_cons, List.take_zero, List.take_nil, List.drop_succ_cons, List.drop_zero, List.drop_nil, List.cons_append, List.nil_append, List.append_nil, List.length_cons, List.length_nil, Nat.zero_add, Nat.add_zero, Nat.reduceAdd]; exact rfl) | exact rfl) | exact getC_sub (by simp) (by first | (simp only [putC, AV.cs, encP, encN, encI, encS, encA, List.take_succ_cons, List.take_zero, List.take_nil, List.drop_succ_cons, List.drop_zero, List.drop_nil, List.cons_append, List.nil_append, List.append_nil, List.length_cons, List.length_nil, Nat.zero_add, Nat.add_zero, Nat.reduceAdd]; exact rfl) | exact rfl)); exact (by first | exact True.intro | exact rfl)) ?_
      refine DA.goF (hs := fun h2 hp2 => by apply Stp.load1; exact rfl; exact (hp2 _ (by omega) (by simp; omega)).trans gH; exact (by first | exact getC_at rfl rfl | exact getC_all rfl | exact getC_sub (Nat.le_of_ble_eq_true rfl) (by first | (simp only [putC, AV.cs, encP, encN, encI, encS, encA, List.take_succ_cons, List.take_zero, List.take_nil, List.drop_succ_cons, List.drop_zero, List.drop_nil, List.cons_append, List.nil_append, List.append_nil, List.length_cons, List.length_nil, Nat.zero_add, Nat.add_zero, Nat.reduceAdd]; exact rfl) | exact rfl) | exact getC_sub (by simp) (by first | (simp only [putC, AV.cs, encP, encN, encI, encS, encA, List.take_succ_cons, List.take_zero, List.take_nil, List.drop_succ_cons, List.drop_zero, List.drop_nil, List.cons_append, List.nil_append, List.append_nil, List.length_cons, List.length_nil, Nat.zero_add, Nat.add_zero, Nat.reduceAdd]; exact rfl) | exact rfl)); exact (by first | exact True.intro | exact rfl)) ?_
      (repeat first | refine DA.go ?_ | refine DA.goF ?_ | refine DA.new ?_ | refine DA.set ?_ | refine DA.endL ?_ | refine thenN ?_ | refine blkN ?_)
      refine DA.callSS (i1 := n.t) (i2 := n.o) (vs := [.ptr n.l 0 0, .agg (encP s.key), .agg (encN (s.logN boot j)), .imm 1 (([] : Bs).map encB), .imm 1 ((rootB r).map encB)]) rfl (by first | exact True.intro | exact rfl) gSL rfl rfl rfl (fun _ hp => PhiW.setW (by simp) (PhiW.setW (by simp) hp)) ⟨by omega, by omega⟩
        (fun h5 hs => lock_SealI_ae ((g3.w.lk.same ((hs.2 _ (by omega)).trans gE) (fun _ => ⟨(hs.2 _ (by omega)).trans gE, (hs.2 _ (by omega)).trans gE, (hs.2 _ (by omega)).trans gE⟩)).id rfl) (by omega) s.key (s.logN boot j) [] (rootB r) (by simp) (by omega)) ?_
      (repeat first | refine DA.go ?_ | refine DA.goF ?_ | refine DA.new ?_ | refine DA.set ?_ | refine DA.endL ?_ | refine thenN ?_ | refine blkN ?_)
      have hSL : sealL true s.L s.key (s.logN boot j) [] (rootB r) = s.L ++ [newI (s.L.length + 1) s.key (s.logN boot j) [] (rootB r)] := rfl
      have hto : n.t ≠ n.o := fun e => by
        obtain ⟨q0, q1, q2, q3⟩ := g3.w.lk.id rfl
        rw [e, q1] at q2; cases q2
      have hom : n.nm true n.o := .inl (.inr (.inr (.inr ⟨rfl, .inl rfl⟩)))
      have htm : n.nm true n.t := .inl (.inr (.inr (.inr ⟨rfl, .inr (.inl rfl)⟩)))
      refine ⟨rfl, gSUB, g3.reL _ (by repeat first | exact Kp.refl | assumption | with_reducible refine Kp.put ?_ (by omega) _ | with_reducible refine Kp.setN ?_ (by omega) _ | with_reducible refine Kp.keep ?_ _ | with_reducible refine Kp.setW ?_ (by simp; done) _) (fun _ => ⟨by rw [hSL]; exact gH, by rw [hSL, List.length_append]; exact gH⟩) nofun, b3.kp (W := fun id => id = n.o ∨ id = n.t) (by repeat first | exact Kp.refl | assumption | with_reducible refine Kp.put ?_ (by omega) _ | with_reducible refine Kp.setN ?_ (by omega) _ | with_reducible refine Kp.keep ?_ _ | with_reducible refine Kp.setW ?_ (by simp; done) _) (fun hh => hne (hh.elim (fun e => e ▸ hom) fun e => e ▸ htm)), ?_, gH, gH, gH, ?_⟩
      · exact (k3.mono fun _ _ e => .inr e).trans (((by repeat first | exact Kp.refl | assumption | with_reducible refine Kp.put ?_ (by omega) _ | with_reducible refine Kp.setN ?_ (by omega) _ | with_reducible refine Kp.keep ?_ _ | with_reducible refine Kp.setW ?_ (by simp; done) _) : Kp (fun id => id = n.o ∨ id = n.t) h3 _).mono fun id _ e => .inl (.inr (.inr ⟨rfl, e.elim .inl fun e => .inr (.inl e)⟩)))
      · exact (show _ = h.next + 2 + 1 + 1 from next_setE (next_putK (by omega) (next_setE (next_setE (next_keepE (n := h.next + 2 + 1) gN)))))
    | false =>
      have hob3 := g3.w.w
      simp only [wRow] at hob3
      refine WW.dregA [11] [7, 12] [7] [3, 4, 5] [] gN (by decide +kernel) ?_
      (repeat first | refine DA.go ?_ | refine DA.goF ?_ | refine DA.new ?_ | refine DA.set ?_ | refine DA.endL ?_ | refine thenN ?_ | refine blkN ?_)
      refine DA.callP rfl (by first | exact True.intro | exact rfl) (vs := [.ptr n.l 0 0, .agg (encP s.key), .agg (encN (s.logN boot j)), .imm 1 (([] : Bs).map encB), .imm 1 ((rootB r).map encB)]) gSL rfl rfl rfl (fun h5 hs => lock_SealR_ae (((hs.2 _ (by omega)).trans gE).trans (g3.w.lk.re rfl)) s.key (s.logN boot j) [] (rootB r) (by simp) (by omega)) ?_
      (repeat first | refine DA.go ?_ | refine DA.goF ?_ | refine DA.new ?_ | refine DA.set ?_ | refine DA.endL ?_ | refine thenN ?_ | refine blkN ?_)
      refine ⟨rfl, gSUB, g3.reL _ (by repeat first | exact Kp.refl | assumption | with_reducible refine Kp.put ?_ (by omega) _ | with_reducible refine Kp.setN ?_ (by omega) _ | with_reducible refine Kp.keep ?_ _ | with_reducible refine Kp.setW ?_ (by simp; done) _) nofun (fun _ => rfl), b3.kp (W := fun _ => False) (by repeat first | exact Kp.refl | assumption | with_reducible refine Kp.put ?_ (by omega) _ | with_reducible refine Kp.setN ?_ (by omega) _ | with_reducible refine Kp.keep ?_ _ | with_reducible refine Kp.setW ?_ (by simp; done) _) (fun h => h), ?_, gH, gH, gH, ?_⟩
      · exact (k3.mono fun _ _ e => .inr e).trans (((by repeat first | exact Kp.refl | assumption | with_reducible refine Kp.put ?_ (by omega) _ | with_reducible refine Kp.setN ?_ (by omega) _ | with_reducible refine Kp.keep ?_ _ | with_reducible refine Kp.setW ?_ (by simp; done) _) : Kp (fun _ => False) h3 _).mono fun id _ e => e.elim)
      · exact (show _ = h.next + 2 + 1 + 1 from next_setE (next_putK (by omega) (next_keepE (n := h.next + 2 + 1) gN)))
  clear g3 b3 k3 r1 r2 hn3
  rintro e7 h5 ⟨hs7, g5, b5, k5, r1, r2, r3, hn5⟩
  refine WW.cvt (Cvt.sub hs7) ?_
  have hob5 := g5.w.w
  simp only [wRow] at hob5
  (refine go ?_)
  have hpl : (s.logP md boot j r).1.length = 32 := (sealP_len _ _ _ _ _ _).trans hrb
  have hv : 0 ≤ boot * 4294967296 + ((j + 1 : Nat) : Int) ∧ boot * 4294967296 + ((j + 1 : Nat) : Int) < 18446744073709551616 := by omega
  refine WL.call rfl (by first | exact True.intro | exact rfl) gSL (root_PutRec_ae s.ks.cur (boot * 4294967296 + ((j + 1 : Nat) : Int)) hcur hv (s.logP md boot j r).1 hpl (s.logP md boot j r).2 _) ?_
  have hxl := recB_len s.ks.cur (boot * 4294967296 + ((j + 1 : Nat) : Int)) (s.logP md boot j r).1 (s.logP md boot j r).2 hpl
  (repeat first | refine WL.go ?_ | refine WW.seq ?_ | refine WW.reg ?_ | refine WL.nil ?_ | refine WW.skip ?_ | refine WW.block ?_ | refine WW.exit ?_ | refine WW.condT rfl ?_ | refine WW.condF rfl ?_ | refine WL.gox ?_ | refine thenN ?_ | refine blkN ?_)
  refine WW.dregX [9] [] n.devs gN (by decide +kernel) ?_
  (refine go ?_)
  refine DW.callS rfl (by first | exact True.intro | exact rfl) gSL rfl (log_place_ae g5.w hs.g r.c hr.c) ?_
  (refine go ?_)
  have hlt5 : ∀ id, n.nm md id → id < h.next := hlt
  have hlls : s.sd.lasts.length = (s.n * 160 + 120).toNat := by rw [hs.sd.len, sizeG_pos hs.g]
  have hin : inB s.sd.lasts.length (recAt s.n r.c) 60 = true := by
    have hp : 0 ≤ recAt s.n r.c ∧ recAt s.n r.c + 60 ≤ s.n * 160 + 120 := by unfold recAt; omega
    rw [hlls]; generalize recAt s.n r.c = X at *; simp [inB]; omega
  refine DW.callSW rfl (by first | exact True.intro | exact rfl) gSL rfl rfl (fun hp => phi_sd n _ _ hp) (ssd_Write_ae g5.w.sd hs.pw (by omega) (by show s.sd.lasts.length ≤ _; omega) (Nat.le_trans hs.sd.kw (by omega)) (Nat.le_trans hs.sd.kt (by omega)) (recAt s.n r.c) (recB s.ks.cur (boot * 4294967296 + ((j + 1 : Nat) : Int)) (s.logP md boot j r).1 (s.logP md boot j r).2) (by omega)) ?_
  rw [hxl, show ((60 : Nat) : Int) = 60 from rfl, hin]
  simp only [Bool.true_and, if_true]
  refine DW.named (fun h6 => WG md h6 n (s.logW md boot j r) ∧ BoxAt h6 mk (mkO boot (j + 1)) ∧ Kp (fun id => n.own md id ∨ id = mk) h h6) ⟨g5.step (g5.w.putSd _ _) (kp_sd n _ _), b5.kp (kp_sd n _ _) (fun hi => hne (.inl (WN.own_all hi))), k5.trans ((kp_sd n _ _).mono fun id _ hi => .inl hi)⟩ ?_
  clear g5 b5 k5 hob5
  rintro h6 ⟨g6, b6, k6⟩
  cases hc : s.pw.can with
  | false =>
    (refine go ?_)
    exact WW.ret ⟨.inl rfl, _, gRES, rfl, g6, b6, k6⟩
  | true =>
    (refine go ?_)
    exact WW.ret ⟨.inl rfl, _, gRES, rfl, g6, b6, k6⟩
end Go.Proofs.Ytjehfcjfnmcjcaa


namespace Go.Proofs.Ytjehfcjfnmcjcaa
open Go Go.Abs

theorem WAt.uniq {md : Bool} {h1 h2 : AHeap} {n : WN} {s : WS} (w1 : WAt md h1 n s) (w2 : WAt md h2 n s) {id : Nat} (hi : n.all md id) : h1.get id = h2.get id := by
  have a := w1.sd; have b := w2.sd
  have c := w1.dk; have d := w2.dk
  have e := w1.ks; have f := w2.ks
  rcases hi with rfl | rfl | hi | ⟨hm, rfl | rfl | rfl⟩
  · exact a.pw.trans b.pw.symm
  · cases md with
    | true => exact (w1.lk.id rfl).cells.trans (w2.lk.id rfl).cells.symm
    | false => exact (w1.lk.re rfl).trans (w2.lk.re rfl).symm
  · have : id = n.a ∨ id = n.a + 1 ∨ id = n.a + 2 ∨ id = n.a + 3 ∨ id = n.a + 4 ∨ id = n.a + 5 ∨ id = n.a + 6 ∨ id = n.a + 7 ∨ id = n.a + 8 ∨ id = n.a + 9 ∨ id = n.a + 10 := by omega
    rcases this with rfl | rfl | rfl | rfl | rfl | rfl | rfl | rfl | rfl | rfl | rfl
    · exact a.bl.trans b.bl.symm
    · exact a.ob.trans b.ob.symm
    · exact a.wt.trans b.wt.symm
    · exact a.tr.trans b.tr.symm
    · exact c.ob.trans d.ob.symm
    · exact c.wt.trans d.wt.symm
    · exact c.tr.trans d.tr.symm
    · exact w1.ct.trans w2.ct.symm
    · exact e.tl.trans f.tl.symm
    · exact e.ob.trans f.ob.symm
    · exact w1.w.trans w2.w.symm
  all_goals
    obtain ⟨q0, q1, q2, q3⟩ := w1.lk.id hm
    obtain ⟨r0, r1, r2, r3⟩ := w2.lk.id hm
    first | exact q1.trans r1.symm | exact q2.trans r2.symm | exact q3.trans r3.symm
theorem ext_lk {md : Bool} {h : AHeap} {l o t q : Nat} {L : List Iss} {S : List Bs} (hl : LkAt md h l o t q L S) (L' : List Iss) : Ext h (lkPut md o t q L' h) := by
  cases md with
  | false => exact Ext.refl
  | true =>
    obtain ⟨q0, q1, q2, q3⟩ := hl.id rfl
    refine Ext.set (Ext.set (x := .tail _ _) Ext.refl (Nm.old q2) trivial) (Nm.old q1) ?_
    intro x hx v hv
    simp only [List.mem_singleton] at hx
    subst hx
    simp only [List.mem_cons, List.not_mem_nil, or_false] at hv
    rcases hv with rfl | rfl
    · exact .app _ _ _ _ (Nm.old q2) fun x hx v hv => by
        obtain ⟨i, _, rfl⟩ := List.mem_map.1 hx
        exact clo_encI i v hv
    · exact .map _ (Nm.old q3)
/-- The heap behind a record's writing. -/
def logH (md : Bool) (n : WN) (s : WS) (boot : Int) (j : Nat) (mk : Nat) (r : Rt) (h : AHeap) : AHeap :=
  sdPut n.sdN s.pw.spend (s.sd.write (s.logR md boot j r) s.pw.can) (lkPut md n.o n.t n.q (sealL md s.L s.key (s.logN boot j) [] (rootB r)) (h.set mk (some (mkO boot (j + 1)))))
section
variable {md : Bool} {h : AHeap} {n : WN} {s : WS} {mk : Nat} {boot : Int} {j : Nat} {r : Rt}
theorem logH_at (hg : WG md h n s) (hm : BoxAt h mk (mkO boot j)) (hne : ¬ n.nm md mk) : WG md (logH md n s boot j mk r h) n (s.logW md boot j r) ∧ BoxAt (logH md n s boot j mk r h) mk (mkO boot (j + 1)) ∧ Kp (fun id => n.own md id ∨ id = mk) h (logH md n s boot j mk r h) := by
  have g1 : WG md (h.set mk (some (mkO boot (j + 1)))) n s := hg.kp (W := fun id => id = mk) (by repeat first | exact Kp.refl | assumption | with_reducible refine Kp.put ?_ (by omega) _ | with_reducible refine Kp.setN ?_ (by omega) _ | with_reducible refine Kp.keep ?_ _ | with_reducible refine Kp.setW ?_ (by simp; done) _) fun id hi e => hne (e ▸ hi)
  have b1 : BoxAt (h.set mk (some (mkO boot (j + 1)))) mk (mkO boot (j + 1)) := ⟨hm.u, get_set_same⟩
  have k1 : Kp (fun id => id = mk) h (h.set mk (some (mkO boot (j + 1)))) := (by repeat first | exact Kp.refl | assumption | with_reducible refine Kp.put ?_ (by omega) _ | with_reducible refine Kp.setN ?_ (by omega) _ | with_reducible refine Kp.keep ?_ _ | with_reducible refine Kp.setW ?_ (by simp; done) _)
  have k2 : Kp (fun id => md = true ∧ (id = n.o ∨ id = n.t)) (h.set mk (some (mkO boot (j + 1)))) (lkPut md n.o n.t n.q (sealL md s.L s.key (s.logN boot j) [] (rootB r)) (h.set mk (some (mkO boot (j + 1))))) := by
    cases md with
    | false => exact Kp.refl
    | true => exact (Kp.refl.setW ⟨rfl, .inr rfl⟩ _).setW ⟨rfl, .inl rfl⟩ _
  have g2 := g1.reL (sealL md s.L s.key (s.logN boot j) [] (rootB r)) k2 (fun e => by
    subst e
    have hto : n.t ≠ n.o := fun e => by
      obtain ⟨q0, q1, q2, q3⟩ := hg.w.lk.id rfl
      rw [e, q1] at q2; cases q2
    exact ⟨get_set_same, get_set_neE hto get_set_same⟩) (fun e => by subst e; rfl)
  have hom : ∀ id, md = true ∧ (id = n.o ∨ id = n.t) → n.own md id := fun id ⟨e, hh⟩ => .inr (.inr ⟨e, hh.elim .inl fun e => .inr (.inl e)⟩)
  have b2 := b1.kp k2 (fun hh => hne (.inl (WN.own_all (hom _ hh))))
  exact ⟨g2.step (g2.w.putSd _ _) (kp_sd n _ _), b2.kp (kp_sd n _ _) (fun hi => hne (.inl (WN.own_all hi))), ((k1.mono fun _ _ e => .inr e).trans (k2.mono fun id _ hh => .inl (hom id hh))).trans ((kp_sd n _ _).mono fun id _ hi => .inl hi)⟩
theorem logH_next : (logH md n s boot j mk r h).next = h.next := by
  show (lkPut md n.o n.t n.q _ _).next = _
  rw [lkPut_next]; rfl
theorem logH_used (id : Nat) : (logH md n s boot j mk r h).used id ↔ h.used id := by
  cases md <;> exact Iff.rfl
theorem logH_ext (hg : WG md h n s) (hm : BoxAt h mk (mkO boot j)) (hne : ¬ n.nm md mk) : Ext h (logH md n s boot j mk r h) := by
  have g1 : WG md (h.set mk (some (mkO boot (j + 1)))) n s := hg.kp (W := fun id => id = mk) (by repeat first | exact Kp.refl | assumption | with_reducible refine Kp.put ?_ (by omega) _ | with_reducible refine Kp.setN ?_ (by omega) _ | with_reducible refine Kp.keep ?_ _ | with_reducible refine Kp.setW ?_ (by simp; done) _) fun id hi e => hne (e ▸ hi)
  have x1 : Ext h (h.set mk (some (mkO boot (j + 1)))) := Ext.set Ext.refl (Nm.old hm.g) (clo_flat4 (by simp [AV.flat]))
  have x2 := ext_lk g1.w.lk (sealL md s.L s.key (s.logN boot j) [] (rootB r))
  have k2 : Kp (fun id => md = true ∧ (id = n.o ∨ id = n.t)) (h.set mk (some (mkO boot (j + 1)))) (lkPut md n.o n.t n.q (sealL md s.L s.key (s.logN boot j) [] (rootB r)) (h.set mk (some (mkO boot (j + 1))))) := by
    cases md with
    | false => exact Kp.refl
    | true => exact (Kp.refl.setW ⟨rfl, .inr rfl⟩ _).setW ⟨rfl, .inl rfl⟩ _
  have g2 := g1.reL (sealL md s.L s.key (s.logN boot j) [] (rootB r)) k2 (fun e => by
    subst e
    have hto : n.t ≠ n.o := fun e => by
      obtain ⟨q0, q1, q2, q3⟩ := hg.w.lk.id rfl
      rw [e, q1] at q2; cases q2
    exact ⟨get_set_same, get_set_neE hto get_set_same⟩) (fun e => by subst e; rfl)
  exact (x1.trans x2).trans (ext_sd g2.w.sd _ _)
theorem log_Put_ae {k : Nat} (hg : WG md h n s) (hs : s.Fit k) (hk : k ≤ 9000) (hcur : 0 ≤ s.ks.cur ∧ s.ks.cur < 4294967296) (hm : BoxAt h mk (mkO boot j)) (hb : 0 ≤ boot ∧ boot < 4294967296) (hj : j < 100) (hne : ¬ n.nm md mk) (r : Rt) (hr : r.Wf) (hrg : isG r.n = true) (hrn : r.n = s.n) :
    AE Try.prog 51 [.ptr (n.a + 10) 0 0, .ptr mk 0 0, .agg (encRt r)] h (.int .i64 (if s.pw.can then 0 else 7)) (logH md n s boot j mk r h) := by
  refine AC.shrink ((log_Put_ac hg hs hk hcur hm hb hj hne r hr hrg hrn).mono ?_)
  rintro _ h1 ⟨rfl, g1, b1, k1⟩
  obtain ⟨g2, b2, k2⟩ := logH_at (r := r) hg hm hne
  refine ⟨_, _, logH_ext (r := r) hg hm hne, ⟨by rw [logH_next]; exact k1.next, fun id hu => ?_⟩, .clo _ (.int _ _), rfl, rfl⟩
  have hu' := (logH_used (md := md) (n := n) (s := s) (boot := boot) (j := j) (mk := mk) (r := r) (h := h) id).1 hu
  by_cases hw : n.own md id ∨ id = mk
  · rcases hw with hw | rfl
    · exact g1.w.uniq g2.w (WN.own_all hw)
    · exact b1.g.trans b2.g.symm
  · exact (k1.get id hu' hw).trans (k2.get id hu' hw).symm
end
end Go.Proofs.Ytjehfcjfnmcjcaa


namespace Go.Proofs.Ytjehfcjfnmcjcaa
open Go Go.Abs

theorem recD_B (e v : Int) (b : Bs) (tg : Pr) (he : 0 ≤ e ∧ e < 4294967296) (hv : 0 ≤ v ∧ v < 18446744073709551616) (hb : b.length = 32) (ht : Wfp tg) : recD (recB e v b tg) = ⟨e, v, b, tg⟩ := by
  have e1 : (recB e v b tg).take 4 = putB e 4 := List.take_left' (putB_lenN _ 4 (by decide))
  have s4 : (recB e v b tg).drop 4 = putB v 8 ++ (b ++ pairB tg) := List.drop_left' (putB_lenN _ 4 (by decide))
  have s12 : (recB e v b tg).drop 12 = b ++ pairB tg := by
    rw [show 12 = 4 + 8 from rfl, ← List.drop_drop, s4]; exact List.drop_left' (putB_lenN _ 8 (by decide))
  have s44 : (recB e v b tg).drop 44 = pairB tg := by
    rw [show 44 = 12 + 32 from rfl, ← List.drop_drop, s12]; exact List.drop_left' hb
  have p16 : (pairB tg).take 16 = pairB tg := List.take_of_length_le (by simp [pairB])
  rw [recD, e1, s4, s12, s44, List.take_left' (putB_lenN _ 8 (by decide)), List.take_left' hb, p16, get_put4 _ he, get_put8 _ hv, pairF_B _ ht.1 ht.2]
theorem gcmT_wf (key : Pr) (n : Nn) (head b : Bs) : Wfp (gcmT key n head b) := ⟨x64_rng _ _, x64_rng _ _⟩
/-- Each that was sealed has its number for a tag. -/
def Seq (L : List Iss) : Prop := ∀ i (hi : i < L.length), L[i].tag = (ones, ((i + 1 : Nat) : Int))
theorem Seq.nil : Seq [] := fun i hi => by simp at hi
theorem Seq.put {L : List Iss} (h : Seq L) (k : Pr) (n : Nn) (hd d : Bs) : Seq (L ++ [newI (L.length + 1) k n hd d]) := fun i hi => by
  rw [List.getElem_append]
  split
  · exact h i _
  · have : i = L.length := by simp at hi; omega
    subst this
    simp [newI]
theorem Seq.sealL {md : Bool} {L : List Iss} (h : Seq L) (k : Pr) (n : Nn) (hd d : Bs) : Seq (sealL md L k n hd d) := by
  cases md with
  | true => exact h.put k n hd d
  | false => exact h
theorem Seq.found {L : List Iss} (h : Seq L) (i : Nat) (hi : i < L.length) : openO L L[i].key L[i].n L[i].head L[i].out L[i].tag = some L[i].data := by
  have hp : isI L[i].key L[i].n L[i].head L[i].out L[i].tag L[i] = true := by simp [isI]
  cases hf : L.find? (isI L[i].key L[i].n L[i].head L[i].out L[i].tag) with
  | none => exact absurd hp (by have := List.find?_eq_none.1 hf L[i] (List.getElem_mem hi); simpa using this)
  | some y =>
    have hy := List.find?_some hf
    obtain ⟨j, hj, rfl⟩ := List.mem_iff_getElem.1 (List.mem_of_find?_eq_some hf)
    have ht : L[j].tag = L[i].tag := by simp only [isI, Bool.and_eq_true, beq_iff_eq] at hy; exact hy.1.1.2
    rw [h j hj, h i hi] at ht
    have : j = i := by have := congrArg Prod.snd ht; simp at this; exact_mod_cast this
    subst this
    rw [openO, hf]; rfl
theorem openO_app {L M : List Iss} {k : Pr} {n : Nn} {hd b : Bs} {tg : Pr} {d : Bs} (h : openO L k n hd b tg = some d) : openO (L ++ M) k n hd b tg = some d := by
  rw [openO, Option.map_eq_some_iff] at h
  obtain ⟨x, hx, rfl⟩ := h
  rw [openO, List.find?_append, hx]; rfl
theorem openP_seal {md : Bool} {L : List Iss} {k : Pr} {n : Nn} {hd b : Bs} {tg : Pr} {d : Bs} (h : openP md L k n hd b tg = some d) (k2 : Pr) (n2 : Nn) (hd2 d2 : Bs) : openP md (sealL md L k2 n2 hd2 d2) k n hd b tg = some d := by
  cases md with
  | true => exact openO_app h
  | false => exact h
theorem openP_back {md : Bool} {L : List Iss} (hL : md = true → Seq L) (k : Pr) (n : Nn) (hd d : Bs) (h1 : hd.length ≤ 4000) (h2 : d.length ≤ 4000) : openP md (sealL md L k n hd d) k n hd (sealP md L k n hd d).1 (sealP md L k n hd d).2 = some d := by
  cases md with
  | true =>
    have := ((hL rfl).put k n hd d).found L.length (by simp)
    have hx : (L ++ [newI (L.length + 1) k n hd d])[L.length]'(by simp) = newI (L.length + 1) k n hd d := by simp
    rw [hx] at this
    exact this
  | false => exact gcmO_back2 k n hd d h1 h2
theorem sealP_wf {md : Bool} {L : List Iss} (hL : L.length ≤ 1000000) (k : Pr) (n : Nn) (hd d : Bs) : Wfp (sealP md L k n hd d).2 := by
  cases md with
  | true => simp only [sealP, newI, Wfp, ones]; omega
  | false => exact gcmT_wf _ _ _ _
theorem sealL_len (md : Bool) (L : List Iss) (k : Pr) (n : Nn) (hd d : Bs) : (sealL md L k n hd d).length ≤ L.length + 1 := by
  cases md with
  | true => simp [sealL]
  | false => simp [sealL]
theorem sealL_mem {md : Bool} {L : List Iss} {k : Pr} {n : Nn} {hd d : Bs} {P : Iss → Prop} (h : ∀ x ∈ L, P x) (h1 : P (newI (L.length + 1) k n hd d)) : ∀ x ∈ sealL md L k n hd d, P x := by
  cases md with
  | true =>
    intro x hx
    rcases List.mem_append.1 hx with hx | hx
    · exact h x hx
    · obtain rfl := List.mem_singleton.1 hx; exact h1
  | false => exact h
section
variable {md : Bool} {s : WS} {k : Nat} {boot : Int} {j : Nat} {r : Rt}
theorem logR_len : (s.logR md boot j r).2.length = 60 := recB_len _ _ _ _ ((sealP_len _ _ _ _ _ _).trans (rootB_len r))
theorem recAt_fit (hs : s.Fit k) (c : Int) : 0 ≤ recAt s.n c ∧ recAt s.n c + 60 ≤ s.n * 160 + 120 := by
  have hg := isG_cases hs.g
  unfold recAt; omega
theorem fit_logW (hs : s.Fit k) : (s.logW md boot j r).Fit (k + 1) := by
  have hp := recAt_fit hs r.c
  have hl := logR_len (md := md) (s := s) (boot := boot) (j := j) (r := r)
  have hll := hs.ll
  have h2 := sealL_len md s.L s.key (s.logN boot j) [] (rootB r)
  refine ⟨hs.g, hs.pw.spend, hs.sd.write (o := s.logR md boot j r) ⟨hp.1, ?_⟩ s.pw.can, Nat.le_succ_of_le hs.ss, by show (sealL md s.L s.key (s.logN boot j) [] (rootB r)).length ≤ _; omega⟩
  rw [hl, sizeG_pos hs.g]
  have hg := isG_cases hs.g
  show recAt s.n r.c + _ ≤ _
  omega
theorem logW_snap (hc : s.pw.can = true) : (s.logW md boot j r).sd.snap = layO s.sd.snap (s.logR md boot j r) := by
  simp [WS.logW, SdS.write, hc, SdS.snap, List.foldl_append]
theorem logW_rec (hs : s.Fit k) (hc : s.pw.can = true) (c : Int) : (s.logW md boot j r).recOf c = if c % 2 = r.c % 2 then (s.logR md boot j r).2 else s.recOf c := by
  have hp := recAt_fit hs c
  have hp2 := recAt_fit hs r.c
  have hl := logR_len (md := md) (s := s) (boot := boot) (j := j) (r := r)
  have hsl := snap_lenS hs
  have hg := isG_cases hs.g
  have e : (s.logW md boot j r).recOf c = sub (layO s.sd.snap (s.logR md boot j r)) (recAt s.n c).toNat 60 := by rw [WS.recOf, logW_snap hc]; rfl
  have h1 : (s.logR md boot j r).1 = recAt s.n r.c := rfl
  have hfit : (s.logR md boot j r).1.toNat + (s.logR md boot j r).2.length ≤ s.sd.snap.length := by rw [h1, hl]; omega
  rw [e]
  split
  · rename_i hh
    have : recAt s.n c = recAt s.n r.c := by unfold recAt; rw [hh]
    rw [this, sub_in hfit (by rw [h1]; omega) (by rw [h1, hl]; omega), h1, Nat.sub_self, sub, List.drop_zero, List.take_of_length_le (by omega)]
  · rename_i hh
    rw [sub_out hfit (by rw [h1, hl]; unfold recAt at *; omega)]; rfl
/-- The record of a count stands there. -/
structure Filed (md : Bool) (s : WS) (c : Int) (r : Rt) (e v : Int) (b : Bs) (tg : Pr) : Prop where
  rc : s.recOf c = recB e v b tg
  he : 0 ≤ e ∧ e < 4294967296
  hv : 0 ≤ v ∧ v < 18446744073709551616
  hb : b.length = 32
  ht : Wfp tg
  op : openP md s.L (ofK s.ks.seed e) (e, 65535, v) [] b tg = some (rootB r)
  wf : r.Wf
  g : isG r.n = true
  cc : r.c = c
theorem Filed.opened {c e v : Int} {b : Bs} {tg : Pr} (h : Filed md s c r e v b tg) (he : e ∈ s.ks.epochs) (ha : v / 4294967296 = s.ct.at') : (openedR md s (recD (s.recOf c))).bind rootO = some r := by
  rw [h.rc, recD_B e v b tg h.he h.hv h.hb h.ht, openedR, if_pos ⟨he, ha⟩, h.op, Option.bind_some, rootO, (rootG_B r h.wf h.g).1, if_pos rfl, (rootG_B r h.wf h.g).2]
theorem Filed.get {c e v : Int} {b : Bs} {tg : Pr} (h : Filed md s c r e v b tg) (he : e ∈ s.ks.epochs) (ha : v / 4294967296 = s.ct.at') (hn : r.n = s.n) : s.getR md c = some r := by
  rw [WS.getR, h.opened he ha, Option.bind_some, if_pos ⟨h.cc, hn⟩]
theorem filed_logW (hs : s.Fit k) (hk : k ≤ 9000) (hc : s.pw.can = true) (hcur : s.ks.cur ∈ s.ks.epochs ∧ 0 ≤ s.ks.cur ∧ s.ks.cur < 4294967296) (hb : 0 ≤ boot ∧ boot < 4294967296) (hj : j < 100) (hr : r.Wf) (hg : isG r.n = true) (hL : md = true → Seq s.L) :
    Filed md (s.logW md boot j r) r.c r s.ks.cur (boot * 4294967296 + ((j + 1 : Nat) : Int)) (s.logP md boot j r).1 (s.logP md boot j r).2 := by
  have hkey : s.key = ofK s.ks.seed s.ks.cur := by rw [WS.key, if_pos hcur.1]
  have hrb := rootB_len r
  refine ⟨by rw [logW_rec hs hc, if_pos rfl]; rfl, hcur.2, by omega, (sealP_len _ _ _ _ _ _).trans hrb, sealP_wf (Nat.le_trans hs.ll (by omega)) _ _ _ _, ?_, hr, hg, rfl⟩
  have t := openP_back (md := md) hL s.key (s.logN boot j) [] (rootB r) (by simp) (by omega)
  change openP md (sealL md s.L s.key (s.logN boot j) [] (rootB r)) (ofK s.ks.seed s.ks.cur) (s.logN boot j) [] (s.logP md boot j r).1 (s.logP md boot j r).2 = some (rootB r)
  rw [← hkey]
  exact t
theorem Filed.other {c e v : Int} {b : Bs} {tg : Pr} {q : Rt} (h : Filed md s c q e v b tg) (hs : s.Fit k) (hc : s.pw.can = true) (hne : c % 2 ≠ r.c % 2) : Filed md (s.logW md boot j r) c q e v b tg :=
  ⟨by rw [logW_rec hs hc, if_neg hne]; exact h.rc, h.he, h.hv, h.hb, h.ht, openP_seal h.op _ _ _ _, h.wf, h.g, h.cc⟩
/-- Where no epoch that is there is told, nothing is got. -/
theorem getR_none {c : Int} (h : (recD (s.recOf c)).e ∉ s.ks.epochs) : s.getR md c = none := by
  rw [WS.getR, openedR, if_neg (fun hh => h hh.1)]; rfl
end
theorem rec0 {n : Nat} (hg : isG n = true) (seed c : Int) : (recD ((ws0 n seed).recOf c)).e = 0 := by
  have hs := fit_ws0 hg seed
  have hp := recAt_fit hs c
  have hgn := isG_cases hg
  have e : (ws0 n seed).sd.snap = List.replicate (n * 160 + 120) 0 := rfl
  have h4 : ((ws0 n seed).recOf c).take 4 = [0, 0, 0, 0] := by
    rw [WS.recOf, e, sub, List.take_take, List.drop_replicate, List.take_replicate]
    have hn : (ws0 n seed).n = n := rfl
    rw [hn] at hp
    have : min (min 4 60) (n * 160 + 120 - (recAt (ws0 n seed).n c).toNat) = 4 := by rw [hn]; omega
    rw [this]; rfl
  show getB (((ws0 n seed).recOf c).take 4) = 0
  rw [h4]; rfl
theorem get_new {md : Bool} {n : Nat} (hg : isG n = true) (seed c : Int) : (ws0 n seed).getR md c = none :=
  getR_none (by rw [rec0 hg]; simp [ws0])
end Go.Proofs.Ytjehfcjfnmcjcaa


namespace Go.Proofs.Ytjehfcjfnmcjcaa
open Go Go.Abs

set_option maxHeartbeats 1000000 in
theorem law22_known_ae (h : AHeap) : AE Try.prog 53 [] h (.bool true) h := by
  refine AE.pureW is_law22_known (by simp) ?_
  unfold c_law22_known
  (refine go ?_)
  refine WL.callA rfl (by first | exact True.intro | exact rfl) gSL (world_NewG_ac true 4 rfl 1 h) ?_
  rintro _ h1 ⟨n, rfl, g1, hn, k1⟩
  have hF0 := fit_ws0 (n := 4) rfl 1
  have kk : Keeps h h1 := k1.keeps fun _ h => h
  have hx1 := k1.next
  have hE : (ws0 4 1).getE true 0 = 3 := by rw [WS.getE, get_new (n := 4) rfl]; rfl
  (refine go ?_)
  refine WL.call rfl (by first | exact True.intro | exact rfl) gSL (log_Get_ae g1.w hF0 (by omega) (by simp [ws0]) (by simp [ws0]) 0 (by decide)) ?_
  rw [hE]
  clear hE hF0 g1
  generalize (ws0 4 1).getT true 0 = t0
  (refine go ?_)
  refine WL.call rfl (by first | exact True.intro | exact rfl) gSL (log_GetN_ae 0 _) ?_
  (refine go ?_)
  refine WW.ret (PureQ.finD ?_)
  exact fz_b rfl
theorem fit_cur (n : Nat) (seed : Int) : (ws0 n seed).ks.cur = 1 := by simp [ws0, KsS.cur]
/-- A world that records are written in. -/
structure LSt (md : Bool) (s : WS) (k : Nat) : Prop where
  fit : s.Fit k
  free : s.pw.Free
  cur : s.ks.cur ∈ s.ks.epochs ∧ 0 ≤ s.ks.cur ∧ s.ks.cur < 4294967296
  seq : md = true → Seq s.L
  dat : ∀ x ∈ s.L, x.data.length ≤ 4000
  at' : 0 ≤ s.ct.at'
theorem lst0 (md : Bool) {m : Nat} (hG : isG m = true) (seed : Int) : LSt md (ws0 m seed) 0 :=
  ⟨fit_ws0 hG seed, free_ws0 m seed, by rw [fit_cur]; simp [ws0], fun _ => Seq.nil, by simp [ws0], by simp [ws0]⟩
theorem LSt.log {md : Bool} {s : WS} {k : Nat} (h : LSt md s k) (boot : Int) (j : Nat) (r : Rt) : LSt md (s.logW md boot j r) (k + 1) :=
  ⟨fit_logW h.fit, h.free.spend, h.cur, fun e => (h.seq e).sealL _ _ _ _, sealL_mem h.dat (by simp only [newI, rootB_len]; omega), h.at'⟩
/-- What a record's writing turns. -/
def WN.lks (md : Bool) (n : WN) : List Nat := match md with
  | true => [n.o, n.t]
  | false => []
def WN.logs (md : Bool) (n : WN) (mk : Nat) : List Nat := n.devs ++ (n.lks md ++ [mk])
theorem phi_log {nx : Nat} {h0 h : AHeap} {md : Bool} (n : WN) (s : WS) (boot : Int) (j mk : Nat) (r : Rt) (hp : PhiW nx (n.logs md mk) h0 h) : PhiW nx (n.logs md mk) h0 (logH md n s boot j mk r h) := by
  have h1 : PhiW nx (n.logs md mk) h0 (h.set mk (some (mkO boot (j + 1)))) := PhiW.setW (by simp [WN.logs]) hp
  have h2 : PhiW nx (n.logs md mk) h0 (lkPut md n.o n.t n.q (sealL md s.L s.key (s.logN boot j) [] (rootB r)) (h.set mk (some (mkO boot (j + 1))))) := by
    cases md with
    | false => exact h1
    | true => exact PhiW.setW (by simp [WN.logs, WN.lks]) (PhiW.setW (by simp [WN.logs, WN.lks]) h1)
  unfold logH sdPut
  repeat' refine PhiW.setW (by simp [WN.logs, WN.devs, WN.sdN]) ?_
  exact h2
set_option maxHeartbeats 4000000 in
theorem law22_LogRecords_ae (md : Bool) (c : Int) (hc : Wf64 c) (sl : Int) (h : AHeap) : AE Try.prog 8 [.bool md, .int .u64 c, .int .i64 sl] h (.bool true) h := by
  refine AE.pureW is_law22_LogRecords (by simp) ?_
  unfold c_law22_LogRecords
  obtain ⟨hc1, hc2⟩ := id hc
  (refine go ?_)
  (refine WL.spB rfl (fun hz1 => ?_) (fun hz1 => ?_))
  · (refine go ?_)
    refine WW.ret (PureQ.finD ?_)
    exact fz_b rfl
  (refine go ?_)
  refine WL.call rfl (by first | exact True.intro | exact rfl) gSL (ref17_Is_ae sl _) ?_
  cases hG : isG sl with
  | false =>
    (refine go ?_)
    refine WW.ret (PureQ.finD ?_)
    exact fz_b rfl
  | true =>
    have hgs := isG_cases hG
    obtain ⟨m, rfl⟩ : ∃ m : Nat, sl = m := ⟨sl.toNat, by omega⟩
    (refine go ?_)
    refine WL.callA rfl (by first | exact True.intro | exact rfl) gSL (world_NewG_ac md m hG 9 h) ?_
    rintro _ h1 ⟨n, rfl, g1, hn, k1⟩
    have hx1 := k1.next
    have hF0 := fit_ws0 hG 9
    have hf0 := free_ws0 m 9
    have hnm : ∀ id, n.own md id → h.next ≤ id := fun id hi => hn id (.inl (WN.own_all hi))
    (refine go ?_)
    refine WL.call rfl (by first | exact True.intro | exact rfl) gSL (nonce_New_ae rfl 0 (by decide)) ?_
    have hmk : ¬ n.nm md h1.next := fun hi => by have := (g1.us _ hi).1; omega
    have hlt : ∀ id, n.nm md id → id < h1.next := fun id hi => (g1.us id hi).1
    refine WL.named (fun h2 => WG md h2 n (ws0 m 9) ∧ Kp (fun id => h.next ≤ id) h h2 ∧ BoxAt h2 h1.next (mkO 0 0) ∧ h1.next < h2.next) ⟨g1.new (by repeat first | exact Kp.refl | assumption | with_reducible refine Kp.put ?_ (by omega) _ | with_reducible refine Kp.setN ?_ (by omega) _ | with_reducible refine Kp.keep ?_ _ | with_reducible refine Kp.setW ?_ (by rfl) _), (by repeat first | exact Kp.refl | assumption | with_reducible refine Kp.put ?_ (by omega) _ | with_reducible refine Kp.setN ?_ (by omega) _ | with_reducible refine Kp.keep ?_ _ | with_reducible refine Kp.setW ?_ (by rfl) _), ⟨put_used_nm, gH⟩, put_used_nm.1⟩ ?_
    generalize h1.next = mk at *
    clear g1 k1
    rintro h2 ⟨g2, k2, b2, hm2⟩
    have hx2 := k2.next
    obtain ⟨nx, hnx⟩ : ∃ nx, h2.next = nx := ⟨_, rfl⟩
    (repeat first | refine WL.go ?_ | refine WW.seq ?_ | refine WW.reg ?_ | refine WL.nil ?_ | refine WW.skip ?_ | refine WW.block ?_ | refine WW.exit ?_ | refine WW.condT rfl ?_ | refine WW.condF rfl ?_ | refine WL.gox ?_ | refine thenN ?_ | refine blkN ?_)
    generalize hra : (⟨c, 0, m, (1, 2)⟩ : Rt) = ra
    generalize hrb : (⟨c + 1, 0, m, (0, 0)⟩ : Rt) = rb
    have hcc : c ≤ 1099511627776 := by omega
    have wa : ra.Wf := by subst hra; constructor <;> dsimp only <;> have := hc.1 <;> have := hc.2 <;> omega
    have wb : rb.Wf := by subst hrb; constructor <;> dsimp only <;> have := hc.1 <;> omega
    have na : ra.n = m := by subst hra; rfl
    have nb : rb.n = m := by subst hrb; rfl
    have ca : ra.c = c := by subst hra; rfl
    have cb : rb.c = c + 1 := by subst hrb; rfl
    refine WW.named (fun h3 => WG md h3 n (ws0 m 9) ∧ Kp (fun id => h.next ≤ id) h h3 ∧ BoxAt h3 mk (mkO 0 0) ∧ BoxAt h3 nx (.mem 5 [encRt ra]) ∧ BoxAt h3 (nx + 1) (.mem 5 [encRt rb]) ∧ h3.next = nx + 2) ⟨g2.new (by repeat first | exact Kp.refl | assumption | with_reducible refine Kp.put ?_ (by omega) _ | with_reducible refine Kp.setN ?_ (by omega) _ | with_reducible refine Kp.keep ?_ _ | with_reducible refine Kp.setW ?_ (by rfl) _), (by repeat first | exact Kp.refl | assumption | with_reducible refine Kp.put ?_ (by omega) _ | with_reducible refine Kp.setN ?_ (by omega) _ | with_reducible refine Kp.keep ?_ _ | with_reducible refine Kp.setW ?_ (by rfl) _), b2.kp (W := fun _ => False) (by repeat first | exact Kp.refl | assumption | with_reducible refine Kp.put ?_ (by omega) _ | with_reducible refine Kp.setN ?_ (by omega) _ | with_reducible refine Kp.keep ?_ _ | with_reducible refine Kp.setW ?_ (by rfl) _) (fun h => h), ?_, ?_, (gN : _ = nx + 1 + 1)⟩ ?_
    · subst hra
      exact ⟨put_used (x := .tail 0 0) (put_used_nm (x := .tail 0 0)), gH⟩
    · subst hrb
      exact ⟨put_used_nm (x := .tail 0 0), gH⟩
    clear g2 k2 b2
    rintro h3 ⟨g3, k3, b3, pa, pb, hn3⟩
    have qa := pa.g
    have qb := pb.g
    have hna : n.a + 11 ≤ mk := by have := hlt (n.a + 10) (.inl (.inr (.inr (.inl (by omega))))); omega
    have hp := g3.w.op
    have hoo : md = true → n.o < n.a ∧ n.t < n.a := fun e => by have := g3.w.oo e; omega
    have hph : PhiW (nx + 2) (n.logs md mk) h3 h3 := PhiW.refl
    have hW : ∀ id, nx ≤ id → id ∉ n.logs md mk := fun id hi hm => by
      cases md with
      | true => have := hoo rfl; simp [WN.logs, WN.devs, WN.lks] at hm; omega
      | false => simp [WN.logs, WN.devs, WN.lks] at hm; omega
    have hc0 := hf0.can
    have hcur0 : (ws0 m 9).ks.cur = 1 := fit_cur m 9
    have hek : (1 : Int) ∈ (ws0 m 9).ks.epochs := by simp [ws0]
    refine WW.dregX [3, 7] [6] (n.logs md mk) gN (by decide +kernel) ?_
    iterate 3 (refine DW.go ?_)
    refine DW.callSW rfl (by first | exact True.intro | exact rfl) gSL rfl rfl (fun hp => phi_log n _ _ _ _ _ hp) (log_Put_ae g3 hF0 (by omega) (by rw [hcur0]; decide) b3 (by decide) (by decide) hmk ra wa (by rw [na]; exact hG) na) ?_
    have S0 := lst0 md hG 9
    have F1 := filed_logW (r := ra) (boot := 0) (j := 0) S0.fit (by omega) S0.free.can S0.cur (by decide) (by decide) wa (by rw [na]; exact hG) S0.seq
    have S1 := S0.log 0 0 ra
    rw [S0.free.can]
    have hk1 : ((ws0 m 9).logW md 0 0 ra).ks = ⟨9, [1]⟩ := rfl
    have hn1 : ((ws0 m 9).logW md 0 0 ra).n = m := rfl
    have hat1 : ((ws0 m 9).logW md 0 0 ra).ct.at' = 0 := rfl
    rw [hcur0] at F1
    refine DW.named (fun h5 => WG md h5 n ((ws0 m 9).logW md 0 0 ra) ∧ BoxAt h5 mk (mkO 0 1) ∧ Kp (fun id => h.next ≤ id) h h5 ∧ PhiW (nx + 2) (n.logs md mk) h3 h5 ∧ BoxAt h5 nx (.mem 5 [encRt ra]) ∧ BoxAt h5 (nx + 1) (.mem 5 [encRt rb]) ∧ h5.next = nx + 2) ?_ ?_
    · obtain ⟨u1, u2, u3⟩ := logH_at (r := ra) g3 b3 hmk
      have hwn : ∀ id, nx ≤ id → ¬ (n.own md id ∨ id = mk) := fun id hi hh => hh.elim (fun hh => by have := hlt id (.inl (WN.own_all hh)); omega) (fun e => by omega)
      exact ⟨u1, u2, k3.trans (u3.mono fun id _ hh => hh.elim (hnm id) fun e => by omega), phi_log n _ _ _ _ _ hph, pa.kp u3 (hwn _ (by omega)), pb.kp u3 (hwn _ (by omega)), logH_next.trans hn3⟩
    generalize (ws0 m 9).logW md 0 0 ra = s1 at *
    clear g3 b3 pa pb k3
    rintro h5 ⟨g5, b5, k5, hph5, pa, pb, hn5⟩
    iterate 2 (refine DW.go ?_)
    refine DW.goF ?_ (hs := fun h2 hp2 => Stp.load1 rfl ((hp2 _ (by omega) (hW _ (by omega))).trans qb) (by first | exact getC_at rfl rfl | exact getC_all rfl | exact getC_sub (Nat.le_of_ble_eq_true rfl) (by first | (simp only [putC, AV.cs, encP, encN, encI, encS, encA, List.take_succ_cons, List.take_zero, List.take_nil, List.drop_succ_cons, List.drop_zero, List.drop_nil, List.cons_append, List.nil_append, List.append_nil, List.length_cons, List.length_nil, Nat.zero_add, Nat.add_zero, Nat.reduceAdd]; exact rfl) | exact rfl) | exact getC_sub (by simp) (by first | (simp only [putC, AV.cs, encP, encN, encI, encS, encA, List.take_succ_cons, List.take_zero, List.take_nil, List.drop_succ_cons, List.drop_zero, List.drop_nil, List.cons_append, List.nil_append, List.append_nil, List.length_cons, List.length_nil, Nat.zero_add, Nat.add_zero, Nat.reduceAdd]; exact rfl) | exact rfl)) (by first | exact True.intro | exact rfl)) (hp := hph5)
    have hcur1 : s1.ks.cur = 1 := by rw [hk1]; simp [KsS.cur]
    have F2 := filed_logW (r := rb) (boot := 0) (j := 1) S1.fit (by omega) S1.free.can S1.cur (by decide) (by decide) wb (by rw [nb]; exact hG) S1.seq
    have F1' := F1.other (r := rb) (boot := 0) (j := 1) S1.fit S1.free.can (by rw [ca, cb]; omega)
    have S2 := S1.log 0 1 rb
    refine DW.callSW rfl (by first | exact True.intro | exact rfl) gSL rfl rfl (fun hp => phi_log n _ _ _ _ _ hp) (log_Put_ae g5 S1.fit (by omega) S1.cur.2 b5 (by decide) (by decide) hmk rb wb (by rw [nb]; exact hG) (nb.trans hn1.symm)) ?_
    rw [S1.free.can]
    have hk2 : (s1.logW md 0 1 rb).ks = ⟨9, [1]⟩ := hk1
    have hn2 : (s1.logW md 0 1 rb).n = m := hn1
    have hat2 : (s1.logW md 0 1 rb).ct.at' = 0 := hat1
    rw [hcur1] at F2
    refine DW.named (fun h6 => WG md h6 n (s1.logW md 0 1 rb) ∧ BoxAt h6 mk (mkO 0 2) ∧ Kp (fun id => h.next ≤ id) h h6 ∧ BoxAt h6 nx (.mem 5 [encRt ra]) ∧ BoxAt h6 (nx + 1) (.mem 5 [encRt rb]) ∧ h6.next = nx + 2) ?_ ?_
    · obtain ⟨u1, u2, u3⟩ := logH_at (r := rb) g5 b5 hmk
      have hwn : ∀ id, nx ≤ id → ¬ (n.own md id ∨ id = mk) := fun id hi hh => hh.elim (fun hh => by have := hlt id (.inl (WN.own_all hh)); omega) (fun e => by omega)
      exact ⟨u1, u2, k5.trans (u3.mono fun id _ hh => hh.elim (hnm id) fun e => by omega), pa.kp u3 (hwn _ (by omega)), pb.kp u3 (hwn _ (by omega)), logH_next.trans hn5⟩
    generalize s1.logW md 0 1 rb = s2 at *
    clear g5 b5 pa pb qa qb k5 hph5 hph F1
    rintro h6 ⟨g6, b6, k6, pa, pb, hn6⟩
    have qa := pa.g
    have qb := pb.g
    have kk : Keeps h h6 := k6.keeps fun _ h => h
    have r1 : s2.getR md c = some ra := by
      have := F1'.get (by rw [hk2]; simp) (by rw [hat2]; rfl) (na.trans hn2.symm)
      rwa [ca] at this
    have r2 : s2.getR md (c + 1) = some rb := by
      have := F2.get (by rw [hk2]; simp) (by rw [hat2]; rfl) (nb.trans hn2.symm)
      rwa [cb] at this
    have e1 : s2.getE md c = 0 := by rw [WS.getE, S2.free.g, r1]; rfl
    have e2 : s2.getE md (c + 1) = 0 := by rw [WS.getE, S2.free.g, r2]; rfl
    have t1 : s2.getT md c = ra := by rw [WS.getT, S2.free.g, r1]; rfl
    have t2 : s2.getT md (c + 1) = rb := by rw [WS.getT, S2.free.g, r2]; rfl
    have w6 := g6.w
    (refine go ?_)
    refine WL.call rfl (by first | exact True.intro | exact rfl) gSL (log_Get_ae w6 S2.fit (by omega) S2.dat S2.at' c hc) ?_
    rw [e1, t1]
    (refine go ?_)
    refine WL.named (fun h7 => WG md h7 n s2 ∧ Kp (fun id => h.next ≤ id) h h7 ∧ h7.get nx = some (.mem 5 [encRt ra]) ∧ h7.get (nx + 1) = some (.mem 5 [encRt rb]) ∧ h7.get (nx + 2) = some (.mem 5 [encRt ra]) ∧ h7.next = nx + 3) ⟨g6.new (by repeat first | exact Kp.refl | assumption | with_reducible refine Kp.put ?_ (by omega) _ | with_reducible refine Kp.setN ?_ (by omega) _ | with_reducible refine Kp.keep ?_ _ | with_reducible refine Kp.setW ?_ (by rfl) _), (by repeat first | exact Kp.refl | assumption | with_reducible refine Kp.put ?_ (by omega) _ | with_reducible refine Kp.setN ?_ (by omega) _ | with_reducible refine Kp.keep ?_ _ | with_reducible refine Kp.setW ?_ (by rfl) _), gH, gH, gH, (gN : _ = nx + 2 + 1)⟩ ?_
    clear g6 k6 pa pb qa qb w6 kk b6
    rintro h7 ⟨g7, k7, qa, qb, qc, hn7⟩
    refine WL.call rfl (by first | exact True.intro | exact rfl) gSL (log_Get_ae g7.w S2.fit (by omega) S2.dat S2.at' (c + 1) (by omega)) ?_
    rw [e2, t2]
    (refine go ?_)
    refine WL.named (fun h8 => WG md h8 n s2 ∧ Kp (fun id => h.next ≤ id) h h8 ∧ h8.get nx = some (.mem 5 [encRt ra]) ∧ h8.get (nx + 1) = some (.mem 5 [encRt rb]) ∧ h8.get (nx + 2) = some (.mem 5 [encRt ra]) ∧ h8.get (nx + 3) = some (.mem 5 [encRt rb])) ⟨g7.new (by repeat first | exact Kp.refl | assumption | with_reducible refine Kp.put ?_ (by omega) _ | with_reducible refine Kp.setN ?_ (by omega) _ | with_reducible refine Kp.keep ?_ _ | with_reducible refine Kp.setW ?_ (by rfl) _), (by repeat first | exact Kp.refl | assumption | with_reducible refine Kp.put ?_ (by omega) _ | with_reducible refine Kp.setN ?_ (by omega) _ | with_reducible refine Kp.keep ?_ _ | with_reducible refine Kp.setW ?_ (by rfl) _), gH, gH, gH, gH⟩ ?_
    clear g7 k7 qa qb qc hn7
    rintro h8 ⟨g8, k8, qa, qb, qc, qd⟩
    simp only [beq_self_eq_true, Bool.and_true]
    (refine go ?_)
    simp only [beq_self_eq_true, Bool.and_true]
    (refine go ?_)
    have hno : (isG (⟨0, 0, 20 - (m : Int), (0, 0)⟩ : Rt).n && decide ((⟨0, 0, 20 - (m : Int), (0, 0)⟩ : Rt).n = s2.n)) = false := by
      rw [hn2]
      rcases hgs with e | e | e <;> rw [e] <;> rfl
    have wno : (⟨0, 0, 20 - (m : Int), (0, 0)⟩ : Rt).Wf := by constructor <;> dsimp only <;> omega
    refine WL.call rfl (by first | exact True.intro | exact rfl) gSL (log_Put_arg g8.w (.ptr mk 0 0) ⟨0, 0, 20 - (m : Int), (0, 0)⟩ wno hno) ?_
    (refine go ?_)
    refine WL.call rfl (by first | exact True.intro | exact rfl) gSL (law22_known_ae _) ?_
    have kk : Keeps h h8 := k8.keeps fun _ h => h
    (refine go ?_)
    refine WW.ret (PureQ.finD ?_)
    exact fz_b rfl
theorem top_LogRecords (c0 : List AV) (t0 : TypL [.b] c0) (c1 : List AV) (t1 : TypL [.i .u64] c1) (c2 : List AV) (t2 : TypL [.i .i64] c2) :
    AE Try.prog 8 [c0.headD .nilp, c1.headD .nilp, c2.headD .nilp] noHeap (.bool true) noHeap := by
  obtain ⟨md, rfl⟩ := bool_of20 t0
  obtain ⟨c, rfl, hw⟩ := int_of t1
  obtain ⟨sl, rfl, _⟩ := int_of t2
  exact law22_LogRecords_ae md c (wf64 hw) sl noHeap
end Go.Proofs.Ytjehfcjfnmcjcaa


