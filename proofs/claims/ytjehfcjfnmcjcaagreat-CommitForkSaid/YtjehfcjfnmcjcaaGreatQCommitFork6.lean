/- What the statement's proof needs, part 6. -/
import Derived.Test.YtjehfcjfnmcjcaaGreatQCommitFork5
set_option linter.all false
namespace Go.Proofs.YtjehfcjfnmcjcaaGreat
open Go Go.Abs

section
variable {md : Bool} {s : WS} {boot : Int} {j : Nat} {lv : List Lf}
theorem doC_1 (a1 : (s.pw.can && s.pw.spend.can) = false) : s.doC md boot j lv = (7, s.areaW md s.doA lv, j) := by
  rw [WS.doC]; dsimp only; rw [if_pos a1]
theorem doC_2 (a1 : (s.pw.can && s.pw.spend.can) = true) (a2 : (s.areaW md s.doA lv).pw.can = false) : s.doC md boot j lv = (7, (s.areaW md s.doA lv).barS, j) := by
  rw [WS.doC]; dsimp only; rw [if_neg (by rw [a1]; simp), if_pos a2]
theorem doC_3 (a1 : (s.pw.can && s.pw.spend.can) = true) (a2 : (s.areaW md s.doA lv).pw.can = true) (a3 : j = 100) : s.doC md boot j lv = (6, (s.areaW md s.doA lv).barS, j) := by
  rw [WS.doC]; dsimp only; rw [if_neg (by rw [a1]; simp), if_neg (by rw [a2]; simp), if_pos a3]
theorem doC_4 (a1 : (s.pw.can && s.pw.spend.can) = true) (a2 : (s.areaW md s.doA lv).pw.can = true) (a3 : j ≠ 100) : s.doC md boot j lv =
    (let s3 := (s.areaW md s.doA lv).barS.logW md boot j (s.doR md lv)
     if (s.areaW md s.doA lv).barS.pw.can = false then (7, s3, j + 1)
     else if s3.pw.can = false then (7, s3.barS, j + 1)
     else if s3.barS.pw.can = false then (7, s3.barS.bmpS, j + 1)
     else (0, s3.barS.bmpS, j + 1)) := by
  rw [WS.doC]; dsimp only; rw [if_neg (by rw [a1]; simp), if_neg (by rw [a2]; simp), if_neg a3]
end
theorem bar_ae {md : Bool} {h : AHeap} {n : WN} {s : WS} {k : Nat} (hg : WG md h n s) (hs : s.Fit k) (hk : k ≤ 9000) : AE Tryz.prog 62 [.ptr (n.a + 1) 0 0] h (.bool s.pw.can) (sdPut n.sdN s.pw.spend (s.sd.barrier s.pw.can) h) := by
  have hgg := isG_cases hs.g
  have hll : s.sd.lasts.length = (s.n * 160 + 120).toNat := by rw [hs.sd.len, sizeG_pos hs.g]
  have hfit : ∀ o ∈ s.sd.waits, 0 ≤ o.1 ∧ o.1 + o.2.length ≤ s.sd.lasts.length := fun o ho => by have := hs.sd.w o ho; rw [sizeG_pos hs.g] at this; omega
  exact ssd_Barrier_ae hg.w.sd hs.pw (by omega) (by omega) (Nat.le_trans hs.sd.kw (by omega)) (Nat.le_trans hs.sd.kt (by omega)) hfit
set_option maxHeartbeats 4000000 in
theorem commit_Do_ac {md : Bool} {h : AHeap} {n : WN} {s : WS} {k : Nat} (hg : WG md h n s) (hs : WSt md s k) (hk : k ≤ 8000) {mk : Nat} {boot : Int} {j : Nat} (hm : BoxAt h mk (mkO boot j)) (hb : 0 ≤ boot ∧ boot < 4294967296) (hj : j ≤ 100) (hne : ¬ n.nm md mk) (lv : List Lf) (hl : (lv.length : Int) = s.n) (hw : ∀ x ∈ lv, x.Wf) (hok : lvOk lv 0 = true) :
    AC Tryz.prog 17 [.ptr (n.a + 10) 0 0, .ptr mk 0 0, .imm 8 (lv.map encL)] h
      (fun r h' => r = .int .i64 (s.doC md boot j lv).1 ∧ WG md h' n (s.doC md boot j lv).2.1 ∧ BoxAt h' mk (mkO boot (s.doC md boot j lv).2.2) ∧ Kp (fun id => n.own md id ∨ id = mk) h h') := by
  refine AC.introW is_commit_Do (by simp) ?_
  unfold c_commit_Do
  have hob := hg.w.w
  simp only [wRow] at hob
  have hlt : ∀ id, n.nm md id → id < h.next := fun id hi => (hg.us id hi).1
  have hmk : mk < h.next := hm.u.1
  have hna : n.a + 11 ≤ h.next := hg.w.nx
  have hnB : n.B < h.next := hg.w.nB
  have hoB := hg.w.oB
  have hop := hg.w.op
  have hgg := isG_cases hs.fit.g
  obtain ⟨⟨cv1, cv2⟩, ⟨cb1, cb2⟩, ⟨ca1, ca2⟩⟩ := hs.ct
  have hown : ∀ id, n.own md id → ¬ id = mk := fun id hi e => hne (e ▸ .inl (WN.own_all hi))
  (refine go ?_)
  refine WL.call rfl (by first | exact True.intro | exact rfl) gSL (count_Value_ae (p := n.p) hg.w.ct) ?_
  (refine go ?_)
  have hmod : (s.ct.value + 1).tmod 2 = s.doA := Int.tmod_eq_emod_of_nonneg (by omega)
  have ha := doA_rng s
  rw [hmod, wrap_in (k := .i64) (n := s.doA) (by constructor <;> omega)]
  have f1 := hs.area (md := md) (lv := lv) s.doA ha hl
  refine WL.callA rfl (by first | exact True.intro | exact rfl) gSL (area_Write_ac hg hs.fit (by omega) s.doA ha lv hl hw hok) ?_
  rintro _ h2 ⟨rfl, g2, k2⟩
  have b2 := hm.kp k2 (fun hi => hown _ hi rfl)
  have k2' : Kp (fun id => n.own md id ∨ id = mk) h h2 := k2.mono fun _ _ hi => .inl hi
  have hx2 := k2.next
  clear k2 hob
  cases a1 : (s.pw.can && s.pw.spend.can) with
  | false =>
    rw [doC_1 a1]
    (refine go ?_)
    refine WW.ret ⟨.inl rfl, _, gRES, rfl, g2.new (by repeat first | exact Kp.refl | assumption | with_reducible refine Kp.put ?_ (by omega) _ | with_reducible refine Kp.setN ?_ (by omega) _ | with_reducible refine Kp.keep ?_ _ | with_reducible refine Kp.setW ?_ (by rfl) _), b2.kp (W := fun _ => False) (by repeat first | exact Kp.refl | assumption | with_reducible refine Kp.put ?_ (by omega) _ | with_reducible refine Kp.setN ?_ (by omega) _ | with_reducible refine Kp.keep ?_ _ | with_reducible refine Kp.setW ?_ (by rfl) _) (fun h => h), ?_⟩
    exact k2'.trans (((by repeat first | exact Kp.refl | assumption | with_reducible refine Kp.put ?_ (by omega) _ | with_reducible refine Kp.setN ?_ (by omega) _ | with_reducible refine Kp.keep ?_ _ | with_reducible refine Kp.setW ?_ (by rfl) _) : Kp (fun _ => False) h2 _).mono fun _ _ h => h.elim)
  | true =>
    simp only [if_true]
    rw [show (s.nodes md lv).getD 1 (0, 0) = (s.doR md lv).g from rfl]
    generalize htop : (s.doR md lv).g = top
    have hob := g2.w.w
    simp only [wRow] at hob
    (refine go ?_)
    refine WL.named (fun h3 => WG md h3 n (s.areaW md s.doA lv) ∧ BoxAt h3 mk (mkO boot j) ∧ Kp (fun id => n.own md id ∨ id = mk) h h3 ∧ BoxAt h3 h2.next (.mem 2 [encP top]) ∧ h2.next < h3.next) ⟨g2.new (by repeat first | exact Kp.refl | assumption | with_reducible refine Kp.put ?_ (by omega) _ | with_reducible refine Kp.setN ?_ (by omega) _ | with_reducible refine Kp.keep ?_ _ | with_reducible refine Kp.setW ?_ (by rfl) _), b2.kp (W := fun _ => False) (by repeat first | exact Kp.refl | assumption | with_reducible refine Kp.put ?_ (by omega) _ | with_reducible refine Kp.setN ?_ (by omega) _ | with_reducible refine Kp.keep ?_ _ | with_reducible refine Kp.setW ?_ (by rfl) _) (fun h => h), k2'.trans (((by repeat first | exact Kp.refl | assumption | with_reducible refine Kp.put ?_ (by omega) _ | with_reducible refine Kp.setN ?_ (by omega) _ | with_reducible refine Kp.keep ?_ _ | with_reducible refine Kp.setW ?_ (by rfl) _) : Kp (fun _ => False) h2 _).mono fun _ _ h => h.elim), ⟨put_used_nm (x := .tail 0 0), gH⟩, (put_used_nm (x := .tail 0 0)).1⟩ ?_
    generalize h2.next = tp at *
    clear g2 b2 k2' hob
    rintro h3 ⟨g3, b3, k3, t3, hx3⟩
    have hob := g3.w.w
    simp only [wRow] at hob
    refine WL.call rfl (by first | exact True.intro | exact rfl) gSL (bar_ae g3 f1.fit (by omega)) ?_
    have htp : ∀ id, n.own md id → ¬ id = tp := fun id hi e => by have := hlt id (.inl (WN.own_all hi)); omega
    refine WL.named (fun h4 => WG md h4 n (s.areaW md s.doA lv).barS ∧ BoxAt h4 mk (mkO boot j) ∧ Kp (fun id => n.own md id ∨ id = mk) h h4 ∧ BoxAt h4 tp (.mem 2 [encP top]) ∧ tp < h4.next) ⟨g3.step (g3.w.putSd _ _) (kp_sd n _ _), b3.kp (kp_sd n _ _) (fun hi => hown _ hi rfl), k3.trans ((kp_sd n _ _).mono fun _ _ hi => .inl hi), t3.kp (kp_sd n _ _) (fun hi => htp _ hi rfl), hx3⟩ ?_
    clear g3 b3 k3 t3 hx3 hob
    rintro h4 ⟨g4, b4, k4, t4, hx4⟩
    have hob := g4.w.w
    simp only [wRow] at hob
    cases a2 : (s.areaW md s.doA lv).pw.can with
    | false =>
      rw [doC_2 a1 a2]
      (refine go ?_)
      exact WW.ret ⟨.inl rfl, _, gRES, rfl, g4, b4, k4⟩
    | true =>
      have q4 := t4.g
      obtain ⟨nx, hnx⟩ : ∃ nx, h4.next = nx := ⟨_, rfl⟩
      obtain ⟨e1, e2, e3, e4⟩ := areaW_ks md s s.doA lv
      have eks : (s.areaW md s.doA lv).barS.ks = s.ks := e1
      have en : (s.areaW md s.doA lv).barS.n = s.n := e4
      have hna4 : n.a + 11 ≤ h4.next := g4.w.nx
      rw [en] at hob
      have hcr : ∀ h5 : AHeap, h5.get (n.a + 9) = h4.get (n.a + 9) → h5.get (n.a + 8) = h4.get (n.a + 8) → AE Tryz.prog 63 [.ptr (n.a + 9) 0 0] h5 (.int .u32 s.ks.cur) h5 := fun h5 x1 x2 => by
        have := keys_Current_ae (g4.w.ks.same x1 x2)
        rw [eks] at this
        exact this
      have hR : encRt (s.doR md lv) = [.int .u64 (s.ct.value + 1), .int .u32 s.ks.cur, .int .i64 s.n, .int .u64 top.1, .int .u64 top.2] := by rw [← htop]; rfl
      have hss := hs.fit.ss
      have wr : (s.doR md lv).Wf := by
        have ht := (buildF_tree md (lv.map leafB) s.S (by rw [List.length_map]; omega)).2
        have hbl := (buildF_len md (lv.map leafB) s.S).2
        rw [List.length_map] at hbl
        have hwt := ht.wfG (j := 1) (by omega) (by omega) (by rw [List.length_map]; omega)
        exact ⟨by show 0 ≤ s.ct.value + 1 ∧ s.ct.value + 1 < _; omega, hs.cur.2, hwt.1, hwt.2⟩
      (repeat first | refine WL.go ?_ | refine WW.seq ?_ | refine WW.reg ?_ | refine WL.nil ?_ | refine WW.skip ?_ | refine WW.block ?_ | refine WW.exit ?_ | refine WW.condT rfl ?_ | refine WW.condF rfl ?_ | refine WL.gox ?_ | refine thenN ?_ | refine blkN ?_)
      refine WW.dregA [13] [5, 14] [5] [4, 10, 11] [] gN (by decide +kernel) ?_
      (repeat first | refine DA.go ?_ | refine DA.goF ?_ | refine DA.new ?_ | refine DA.set ?_ | refine DA.endL ?_ | refine thenN ?_ | refine blkN ?_)
      refine DA.callP rfl (by first | exact True.intro | exact rfl) gSL rfl rfl rfl (fun h5 hs => hcr h5 (hs.2 _ (by omega)) (hs.2 _ (by omega))) ?_
      (repeat first | refine DA.go ?_ | refine DA.goF ?_ | refine DA.new ?_ | refine DA.set ?_ | refine DA.endL ?_ | refine thenN ?_ | refine blkN ?_)
      refine WW.named (fun h5 => WG md h5 n (s.areaW md s.doA lv).barS ∧ BoxAt h5 mk (mkO boot j) ∧ Kp (fun id => n.own md id ∨ id = mk) h h5 ∧ h5.get nx = some (.mem 5 [encRt (s.doR md lv)])) ⟨g4.new (by repeat first | exact Kp.refl | assumption | with_reducible refine Kp.put ?_ (by omega) _ | with_reducible refine Kp.setN ?_ (by omega) _ | with_reducible refine Kp.keep ?_ _ | with_reducible refine Kp.setW ?_ (by rfl) _), b4.kp (W := fun _ => False) (by repeat first | exact Kp.refl | assumption | with_reducible refine Kp.put ?_ (by omega) _ | with_reducible refine Kp.setN ?_ (by omega) _ | with_reducible refine Kp.keep ?_ _ | with_reducible refine Kp.setW ?_ (by rfl) _) (fun h => h), k4.trans (((by repeat first | exact Kp.refl | assumption | with_reducible refine Kp.put ?_ (by omega) _ | with_reducible refine Kp.setN ?_ (by omega) _ | with_reducible refine Kp.keep ?_ _ | with_reducible refine Kp.setW ?_ (by rfl) _) : Kp (fun _ => False) h4 _).mono fun _ _ h => h.elim), by rw [hR]; exact gH⟩ ?_
      clear g4 b4 k4 t4 q4 hob hcr
      rintro h5 ⟨g5, b5, k5, q5⟩
      (refine go ?_)
      have f2 := f1.bar
      by_cases a3 : j = 100
      · rw [doC_3 a1 a2 a3]
        subst a3
        refine WL.call rfl (by first | exact True.intro | exact rfl) gSL (log_Put_ex g5 f2.cur.2 b5 (s.doR md lv) wr hs.fit.g en.symm) ?_
        (refine go ?_)
        exact WW.ret ⟨.inl rfl, _, gRES, rfl, g5, b5, k5⟩
      rw [doC_4 a1 a2 a3]
      dsimp only
      refine WL.callA rfl (by first | exact True.intro | exact rfl) gSL (log_Put_ac g5 f2.fit (by omega) f2.cur.2 b5 hb (by omega) hne (s.doR md lv) wr hs.fit.g en.symm) ?_
      rintro _ h6 ⟨rfl, g6, b6, k6⟩
      have f3 := f2.log boot j (s.doR md lv)
      have k7 := k5.trans k6
      clear g5 b5 k5 k6 q5
      cases a4 : (s.areaW md s.doA lv).barS.pw.can with
      | false =>
        simp only [if_true]
        (refine go ?_)
        exact WW.ret ⟨.inl rfl, _, gRES, rfl, g6, b6, k7⟩
      | true =>
        simp only [if_true, Bool.true_eq_false, if_false]
        have f4 := f3.bar
        generalize (s.areaW md s.doA lv).barS.logW md boot j (s.doR md lv) = s3 at *
        have hob := g6.w.w
        simp only [wRow] at hob
        (refine go ?_)
        refine WL.call rfl (by first | exact True.intro | exact rfl) gSL (bar_ae g6 f3.fit (by omega)) ?_
        refine WL.named (fun h7 => WG md h7 n s3.barS ∧ BoxAt h7 mk (mkO boot (j + 1)) ∧ Kp (fun id => n.own md id ∨ id = mk) h h7) ⟨g6.step (g6.w.putSd _ _) (kp_sd n _ _), b6.kp (kp_sd n _ _) (fun hi => hown _ hi rfl), k7.trans ((kp_sd n _ _).mono fun _ _ hi => .inl hi)⟩ ?_
        clear g6 b6 k7 hob
        rintro h7 ⟨g7, b7, k7⟩
        have hob := g7.w.w
        simp only [wRow] at hob
        cases a5 : s3.pw.can with
        | false =>
          simp only [if_true]
          (refine go ?_)
          exact WW.ret ⟨.inl rfl, _, gRES, rfl, g7, b7, k7⟩
        | true =>
          simp only [Bool.true_eq_false, if_false]
          (refine go ?_)
          refine WL.call rfl (by first | exact True.intro | exact rfl) gSL (count_Bump_ae (p := n.p) g7.w.sd.pw g7.w.ct f4.fit.pw f4.ct (by omega)) ?_
          refine WL.named (fun h8 => WG md h8 n s3.barS.bmpS ∧ BoxAt h8 mk (mkO boot (j + 1)) ∧ Kp (fun id => n.own md id ∨ id = mk) h h8) ⟨g7.step (g7.w.putCt _ _) (kp_ct n _ _), b7.kp (kp_ct n _ _) (fun hi => hown _ hi rfl), k7.trans ((kp_ct n _ _).mono fun _ _ hi => .inl hi)⟩ ?_
          clear g7 b7 k7 hob
          rintro h8 ⟨g8, b8, k8⟩
          cases a6 : s3.barS.pw.can with
          | false =>
            simp only [if_true]
            (refine go ?_)
            exact WW.ret ⟨.inl rfl, _, gRES, rfl, g8, b8, k8⟩
          | true =>
            simp only [Bool.true_eq_false, if_false]
            (refine go ?_)
            exact WW.ret ⟨.inl rfl, _, gRES, rfl, g8, b8, k8⟩
set_option maxHeartbeats 1000000 in
theorem commit_Load_ac {md : Bool} {h : AHeap} {n : WN} {s : WS} {k : Nat} (hg : WG md h n s) (hs : WSt md s k) (hk : k ≤ 8000) :
    AC Tryz.prog 19 [.ptr (n.a + 10) 0 0] h
      (fun r h' => r = .tup [.imm 8 ((s.loadL md).map encL), .int .i64 (s.loadE md)] ∧ WG md h' n (s.loadS md) ∧ Kp (n.own md) h h') := by
  refine AC.introW is_commit_Load (by simp) ?_
  unfold c_commit_Load
  have hob := hg.w.w
  simp only [wRow] at hob
  have hna : n.a + 11 ≤ h.next := hg.w.nx
  have hnB : n.B < h.next := hg.w.nB
  have hoB := hg.w.oB
  have hgg := isG_cases hs.fit.g
  have hlt : ∀ id, n.nm md id → id < h.next := fun id hi => (hg.us id hi).1
  obtain ⟨⟨cv1, cv2⟩, ⟨cb1, cb2⟩, ⟨ca1, ca2⟩⟩ := hs.ct
  (refine go ?_)
  refine WL.call rfl (by first | exact True.intro | exact rfl) gSL (power_On_ae hg.w.sd.pw) ?_
  cases hgo : s.pw.gone with
  | true =>
    have h1 : s.loadE md = 7 := by rw [WS.loadE, hgo, if_pos rfl]
    have h2 : s.loadL md = [] := by rw [WS.loadL, hgo, if_pos rfl]
    have h3 : s.loadS md = s := by rw [WS.loadS, hgo, if_pos rfl]
    rw [h1, h2, h3]
    (refine go ?_)
    refine WW.cvt (Cvt.sub1 (s := 2) (v := .imm 8 []) rfl SubV.nil) ?_
    exact WW.ret ⟨.inl rfl, _, gRES, rfl, hg, Kp.refl⟩
  | false =>
    (refine go ?_)
    refine WL.call rfl (by first | exact True.intro | exact rfl) gSL (count_Value_ae (p := n.p) hg.w.ct) ?_
    (refine go ?_)
    (refine WW.ifB rfl (fun hz1 => ?_) (fun hz1 => ?_))
    · obtain ⟨h1, h2, h3⟩ := load_zero (md := md) hgo hz1
      rw [h1, h2, h3]
      obtain ⟨m, hm⟩ : ∃ m : Nat, s.n = m := ⟨s.n.toNat, by omega⟩
      have hmn : s.n.toNat = m := by omega
      rw [hm] at hob
      (refine go ?_)
      refine WW.cvt (Cvt.frzE (s := 2) (c' := (List.replicate s.n.toNat lf0).map encL) rfl gH (by rw [hmn, List.map_replicate, List.drop_zero, List.take_of_length_le (by simp)]; rfl)) ?_
      refine WW.ret ⟨.inl rfl, _, gRES, rfl, hg.new (by repeat first | exact Kp.refl | assumption | with_reducible refine Kp.put ?_ (by omega) _ | with_reducible refine Kp.setN ?_ (by omega) _ | with_reducible refine Kp.keep ?_ _ | with_reducible refine Kp.setW ?_ (by rfl) _), ?_⟩
      exact ((by repeat first | exact Kp.refl | assumption | with_reducible refine Kp.put ?_ (by omega) _ | with_reducible refine Kp.setN ?_ (by omega) _ | with_reducible refine Kp.keep ?_ _ | with_reducible refine Kp.setW ?_ (by rfl) _) : Kp (fun _ => False) h _).mono fun _ _ h => h.elim
    · have hvz : ¬ s.ct.value = 0 := hz1
      (refine go ?_)
      refine WL.call rfl (by first | exact True.intro | exact rfl) gSL (log_Get_ae hg.w hs.fit (by omega) hs.dat ca1 s.ct.value (by omega)) ?_
      have h1 : s.loadE md = if s.getE md s.ct.value ≠ 0 then s.getE md s.ct.value else s.readE md (s.ct.value % 2) (s.getT md s.ct.value).g := by rw [WS.loadE, hgo]; simp [hvz]
      have h2 : s.loadL md = if s.getE md s.ct.value ≠ 0 then [] else s.readL md (s.ct.value % 2) (s.getT md s.ct.value).g := by rw [WS.loadL, hgo]; simp [hvz]
      have h3 : s.loadS md = if s.getE md s.ct.value ≠ 0 then s else s.readS md (s.ct.value % 2) := by rw [WS.loadS, hgo]; simp [hvz]
      rw [h1, h2, h3]
      generalize s.getT md s.ct.value = R at *
      generalize s.getE md s.ct.value = G at *
      clear h1 h2 h3
      (refine go ?_)
      (refine WW.ifB rfl (fun hz2 => ?_) (fun hz2 => ?_))
      · rw [if_pos hz2, if_pos hz2, if_pos hz2]
        (refine go ?_)
        refine WW.cvt (Cvt.sub1 (s := 2) (v := .imm 8 []) rfl SubV.nil) ?_
        refine WW.ret ⟨.inl rfl, _, gRES, rfl, hg.new (by repeat first | exact Kp.refl | assumption | with_reducible refine Kp.put ?_ (by omega) _ | with_reducible refine Kp.setN ?_ (by omega) _ | with_reducible refine Kp.keep ?_ _ | with_reducible refine Kp.setW ?_ (by rfl) _), ?_⟩
        exact ((by repeat first | exact Kp.refl | assumption | with_reducible refine Kp.put ?_ (by omega) _ | with_reducible refine Kp.setN ?_ (by omega) _ | with_reducible refine Kp.keep ?_ _ | with_reducible refine Kp.setW ?_ (by rfl) _) : Kp (fun _ => False) h _).mono fun _ _ h => h.elim
      · have hG0 : ¬ G ≠ 0 := by simpa using hz2
        rw [if_neg hG0, if_neg hG0, if_neg hG0]
        refine WW.named (fun h3 => WG md h3 n s ∧ Kp (fun _ => False) h h3 ∧ h3.get h.next = some (.mem 5 [encRt R])) ⟨hg.new (by repeat first | exact Kp.refl | assumption | with_reducible refine Kp.put ?_ (by omega) _ | with_reducible refine Kp.setN ?_ (by omega) _ | with_reducible refine Kp.keep ?_ _ | with_reducible refine Kp.setW ?_ (by rfl) _), (by repeat first | exact Kp.refl | assumption | with_reducible refine Kp.put ?_ (by omega) _ | with_reducible refine Kp.setN ?_ (by omega) _ | with_reducible refine Kp.keep ?_ _ | with_reducible refine Kp.setW ?_ (by rfl) _), gH⟩ ?_
        rintro h3 ⟨g3, k3, q3⟩
        (refine go ?_)
        have hmod : s.ct.value.tmod 2 = s.ct.value % 2 := Int.tmod_eq_emod_of_nonneg (by omega)
        rw [hmod, wrap_in (k := .i64) (n := s.ct.value % 2) (by constructor <;> omega)]
        refine WL.callA rfl (by first | exact True.intro | exact rfl) gSL (area_Read_ac g3 hs.fit (by omega) (s.ct.value % 2) (by omega) R.g) ?_
        rintro _ h4 ⟨rfl, g4, k4⟩
        (refine go ?_)
        exact WW.ret ⟨.inl rfl, _, gRES, rfl, g4, (k3.mono fun _ _ h => h.elim).trans k4⟩
end Go.Proofs.YtjehfcjfnmcjcaaGreat


namespace Go.Proofs.YtjehfcjfnmcjcaaGreat
open Go Go.Abs

set_option maxHeartbeats 1000000 in
theorem law23_some_ae (n : Nat) (hn : n ≤ 1000) (K T : List Int) (hK : K.length ≤ maxLen) (hT : T.length ≤ maxLen) (h : AHeap) : AE Tryz.prog 18 [.int .i64 n, .imm 1 (K.map encJ), .imm 1 (T.map encU)] h (.imm 8 ((someL n K T).map encL)) h := by
  refine AE.pureW is_law23_some (by simp) ?_
  unfold c_law23_some
  (refine go ?_)
  rw [show List.replicate n [AV.int .i64 0, .bool false, .int .i64 0, .int .u32 0, .int .u32 0, .int .u64 0, .int .u64 0, .int .u64 0] = (partL n K T 0).map encL from partL_zero n K T]
  refine WW.loopE (fun (i : Nat) => [(0, some (.int .i64 n)), (1, some (.imm 1 (K.map encJ))), (2, some (.imm 1 (T.map encU))), (7, some (.ref h.next 0 n)), (8, some (.int .i64 i))])
    (fun i h' => h' = h.put h.next (.mem 8 ((partL n K T i).map encL)) ∧ i ≤ n) (fun i => n - i) 0 gSUB ⟨rfl, Nat.zero_le _⟩ ?_
  rintro i _ ⟨rfl, g2⟩
  have hpl := partL_len n K T i
  (refine go ?_)
  (refine WW.ifB rfl (fun hz1 => ?_) (fun hz1 => ?_))
  · have hi : i < n := by omega
    (refine go ?_)
    refine WW.thenI (fun e' F' => subE [(0, some (.int .i64 n)), (1, some (.imm 1 (K.map encJ))), (2, some (.imm 1 (T.map encU))), (7, some (.ref h.next 0 n)), (8, some (.int .i64 i)), (9, some (.int .i64 (pick K i))), (10, some (.int .u64 0))] e' ∧ F' = h.put h.next (.mem 8 ((partL n K T i).map encL))) ?_ ?_
    · (refine WW.ifB rfl (fun hz2 => ?_) (fun hz2 => ?_))
      · have hm : i % K.length < K.length := Nat.mod_lt _ (by omega)
        have hmod : ((i : Int) % (K.length : Int)) = ((i % K.length : Nat) : Int) := by simp
        (refine go ?_)
        rw [Int.natAbs_natCast]
        refine WL.go (hs := Stp.loadi rfl (map_at (List.getElem?_eq_getElem hm)) (by first | exact getC_at rfl rfl | exact getC_all rfl | exact getC_sub (Nat.le_of_ble_eq_true rfl) (by first | (simp only [putC, AV.cs, encP, encN, encI, encS, encA, List.take_succ_cons, List.take_zero, List.take_nil, List.drop_succ_cons, List.drop_zero, List.drop_nil, List.cons_append, List.nil_append, List.append_nil, List.length_cons, List.length_nil, Nat.zero_add, Nat.add_zero, Nat.reduceAdd]; exact rfl) | exact rfl) | exact getC_sub (by simp) (by first | (simp only [putC, AV.cs, encP, encN, encI, encS, encA, List.take_succ_cons, List.take_zero, List.take_nil, List.drop_succ_cons, List.drop_zero, List.drop_nil, List.cons_append, List.nil_append, List.append_nil, List.length_cons, List.length_nil, Nat.zero_add, Nat.add_zero, Nat.reduceAdd]; exact rfl) | exact rfl)) (by first | exact True.intro | exact rfl)) ?_
        rw [pick_at i hm]
        (refine go ?_)
        exact ⟨rfl, gSUB, rfl⟩
      · rw [pick_nil (by omega)]
        (refine go ?_)
        exact ⟨rfl, gSUB, rfl⟩
    rintro e7 _ ⟨hs7, rfl⟩
    refine WW.cvt (Cvt.sub hs7) ?_
    clear hs7
    (refine go ?_)
    refine WW.thenI (fun e' F' => subE [(0, some (.int .i64 n)), (1, some (.imm 1 (K.map encJ))), (2, some (.imm 1 (T.map encU))), (7, some (.ref h.next 0 n)), (8, some (.int .i64 i)), (9, some (.int .i64 (pick K i))), (10, some (.int .u64 (pick T i)))] e' ∧ F' = h.put h.next (.mem 8 ((partL n K T i).map encL))) ?_ ?_
    · (refine WW.ifB rfl (fun hz3 => ?_) (fun hz3 => ?_))
      · have hm : i % T.length < T.length := Nat.mod_lt _ (by omega)
        (refine go ?_)
        rw [Int.natAbs_natCast]
        refine WL.go (hs := Stp.loadi rfl (map_at (List.getElem?_eq_getElem hm)) (by first | exact getC_at rfl rfl | exact getC_all rfl | exact getC_sub (Nat.le_of_ble_eq_true rfl) (by first | (simp only [putC, AV.cs, encP, encN, encI, encS, encA, List.take_succ_cons, List.take_zero, List.take_nil, List.drop_succ_cons, List.drop_zero, List.drop_nil, List.cons_append, List.nil_append, List.append_nil, List.length_cons, List.length_nil, Nat.zero_add, Nat.add_zero, Nat.reduceAdd]; exact rfl) | exact rfl) | exact getC_sub (by simp) (by first | (simp only [putC, AV.cs, encP, encN, encI, encS, encA, List.take_succ_cons, List.take_zero, List.take_nil, List.drop_succ_cons, List.drop_zero, List.drop_nil, List.cons_append, List.nil_append, List.append_nil, List.length_cons, List.length_nil, Nat.zero_add, Nat.add_zero, Nat.reduceAdd]; exact rfl) | exact rfl)) (by first | exact True.intro | exact rfl)) ?_
        rw [pick_at i hm]
        (refine go ?_)
        exact ⟨rfl, gSUB, rfl⟩
      · rw [pick_nil (K := T) (by omega)]
        (refine go ?_)
        exact ⟨rfl, gSUB, rfl⟩
    rintro e7 _ ⟨hs7, rfl⟩
    refine WW.cvt (Cvt.sub hs7) ?_
    clear hs7
    obtain ⟨c, hc, hb⟩ := and3 (pick K i)
    (refine go ?_)
    rw [hb]
    have hfit : i < (partL n K T i).length := by omega
    have hd : ∀ x : Lf, List.drop 8 (encL x) = [] := fun _ => rfl
    have hc4 : c = 0 ∨ c = 1 ∨ c = 2 ∨ c = 3 := by omega
    rcases hc4 with rfl | rfl | rfl | rfl
    · (refine go ?_)
      refine ⟨i + 1, gSUB, ⟨?_, by omega⟩, by omega⟩
      rw [partL_next n K T i (by simp [someF, hb])]
    · (refine go ?_)
      refine ⟨i + 1, gSUB, ⟨?_, by omega⟩, by omega⟩
      rw [← partL_set, hd, Nat.zero_add, put_set, show encL (someF K T i) = [.int .i64 2, .bool true, .int .i64 i, .int .u32 0, .int .u32 0, .int .u64 0, .int .u64 0, .int .u64 0] by simp [someF, hb, encL]]
    · (refine go ?_)
      refine ⟨i + 1, gSUB, ⟨?_, by omega⟩, by omega⟩
      rw [← partL_set, hd, Nat.zero_add, put_set, show encL (someF K T i) = [.int .i64 1, .bool (bits .and .i64 (pick K i) 3 == 2), .int .i64 ((i : Int) + 16), .int .u32 1, .int .u32 i, .int .u64 (pick T i), .int .u64 (pick T i), .int .u64 i] by simp [someF, hb, encL]]
    · (refine go ?_)
      refine ⟨i + 1, gSUB, ⟨?_, by omega⟩, by omega⟩
      rw [← partL_set, hd, Nat.zero_add, put_set, show encL (someF K T i) = [.int .i64 1, .bool (bits .and .i64 (pick K i) 3 == 2), .int .i64 ((i : Int) + 16), .int .u32 1, .int .u32 i, .int .u64 (pick T i), .int .u64 (pick T i), .int .u64 i] by simp [someF, hb, encL]]
  · have hi : i = n := by omega
    subst hi
    (refine go ?_)
    refine WW.ret (PureQ.finD ?_)
    exact fz_ref gH (Nat.le_refl _) (by simp [hpl]) (by rw [partL_end]) flatC_L
theorem wst0 (md : Bool) {m : Nat} (hG : isG m = true) (seed : Int) : WSt md (ws0 m seed) 0 := by
  have h := lst0 md hG seed
  exact ⟨h.fit, h.cur, h.seq, h.dat, ⟨by simp [ws0], by simp [ws0], by simp [ws0]⟩⟩
theorem wf0 : ∀ x ∈ List.replicate 4 lf0, x.Wf := by intro x hx; obtain ⟨_, rfl⟩ := List.mem_replicate.1 hx; constructor <;> decide
set_option maxHeartbeats 1000000 in
theorem law23_known_ae (h : AHeap) : AE Tryz.prog 22 [] h (.bool true) h := by
  refine AE.pureW is_law23_known (by simp) ?_
  unfold c_law23_known
  (refine go ?_)
  refine WL.callA rfl (by first | exact True.intro | exact rfl) gSL (world_NewG_ac true 4 rfl 1 h) ?_
  rintro _ h1 ⟨n, rfl, g1, hn, k1⟩
  have hx1 := k1.next
  have hnm : ∀ id, n.own true id → h.next ≤ id := fun id hi => hn id (.inl (WN.own_all hi))
  (refine go ?_)
  refine WL.call rfl (by first | exact True.intro | exact rfl) gSL (nonce_New_ae rfl 0 (by decide)) ?_
  have hmk : ¬ n.nm true h1.next := fun hi => by have := (g1.us _ hi).1; omega
  refine WL.named (fun h2 => WG true h2 n (ws0 4 1) ∧ Kp (fun id => h.next ≤ id) h h2 ∧ BoxAt h2 h1.next (mkO 0 0)) ⟨g1.new (by repeat first | exact Kp.refl | assumption | with_reducible refine Kp.put ?_ (by omega) _ | with_reducible refine Kp.setN ?_ (by omega) _ | with_reducible refine Kp.keep ?_ _ | with_reducible refine Kp.setW ?_ (by rfl) _), (by repeat first | exact Kp.refl | assumption | with_reducible refine Kp.put ?_ (by omega) _ | with_reducible refine Kp.setN ?_ (by omega) _ | with_reducible refine Kp.keep ?_ _ | with_reducible refine Kp.setW ?_ (by rfl) _), ⟨put_used_nm, gH⟩⟩ ?_
  generalize h1.next = mk at *
  clear g1 k1
  rintro h2 ⟨g2, k2, b2⟩
  have hx2 := k2.next
  (refine go ?_)
  refine WL.cvt (Cvt.frzE (s := 20) (c' := (List.replicate 4 lf0).map encL) rfl gH rfl) ?_
  refine WL.named (fun h3 => WG true h3 n (ws0 4 1) ∧ Kp (fun id => h.next ≤ id) h h3 ∧ BoxAt h3 mk (mkO 0 0)) ⟨g2.new (by repeat first | exact Kp.refl | assumption | with_reducible refine Kp.put ?_ (by omega) _ | with_reducible refine Kp.setN ?_ (by omega) _ | with_reducible refine Kp.keep ?_ _ | with_reducible refine Kp.setW ?_ (by rfl) _), (by repeat first | exact Kp.refl | assumption | with_reducible refine Kp.put ?_ (by omega) _ | with_reducible refine Kp.setN ?_ (by omega) _ | with_reducible refine Kp.keep ?_ _ | with_reducible refine Kp.setW ?_ (by rfl) _), b2.kp (W := fun _ => False) (by repeat first | exact Kp.refl | assumption | with_reducible refine Kp.put ?_ (by omega) _ | with_reducible refine Kp.setN ?_ (by omega) _ | with_reducible refine Kp.keep ?_ _ | with_reducible refine Kp.setW ?_ (by rfl) _) (fun h => h)⟩ ?_
  clear g2 k2 b2 hx2
  rintro h3 ⟨g3, k3, b3⟩
  have S0 := wst0 true (m := 4) rfl 1
  have hf0 := free_ws0 4 1
  have hd := doC_e (md := true) (s := ws0 4 1) (boot := 0) (j := 0) (lv := List.replicate 4 lf0)
  rw [doE_free hf0, if_neg (by decide)] at hd
  have hgd := good_done (md := true) (lv := List.replicate 4 lf0) S0 (by omega) rfl wf0 (by decide) (show (0 : Int) = (ws0 4 1).ct.boots from rfl) (j := 0) (by omega) hd
  have hct := doC_ct (md := true) (s := ws0 4 1) (boot := 0) (j := 0) (lv := List.replicate 4 lf0)
  rw [if_pos hd] at hct
  have hS1 := doC_wst (md := true) (boot := 0) (j := 0) (lv := List.replicate 4 lf0) S0 rfl
  have hf1 := doC_free (md := true) (boot := 0) (j := 0) (lv := List.replicate 4 lf0) hf0
  have hst : ((ws0 4 1).doC true 0 0 (List.replicate 4 lf0)).2.1.pw.steps = 6 := by
    rw [doC_pw hd]; rfl
  have hP := commit_Do_ac g3 S0 (by omega) b3 (by decide) (by omega) hmk (List.replicate 4 lf0) rfl wf0 (by decide)
  rw [hd] at hP
  generalize ((ws0 4 1).doC true 0 0 (List.replicate 4 lf0)).2.2 = j1 at *
  obtain ⟨_, G⟩ := hgd
  have hv1 : (ws0 4 1).ct.value + 1 = ((ws0 4 1).doC true 0 0 (List.replicate 4 lf0)).2.1.ct.value := by rw [hct]; rfl
  rw [hv1] at G
  have hv : ((ws0 4 1).doC true 0 0 (List.replicate 4 lf0)).2.1.ct.value = 1 := by rw [hct]; rfl
  generalize ((ws0 4 1).doC true 0 0 (List.replicate 4 lf0)).2.1 = s1 at *
  refine WL.callA rfl (by first | exact True.intro | exact rfl) gSL (hP) ?_
  rintro _ h4 ⟨rfl, g4, b4, k4⟩
  have k5 : Kp (fun id => h.next ≤ id) h h4 := k3.trans (k4.mono fun id _ hh => hh.elim (hnm id) fun e => by omega)
  obtain ⟨l1, l2⟩ := G.load hS1.fit hf1.g
  clear hd hct S0 hf0 hP g3 k3 b3 k4 hv1 G
  (refine go ?_)
  refine WL.callA rfl (by first | exact True.intro | exact rfl) gSL (commit_Load_ac g4 hS1 (by omega)) ?_
  rintro _ h6 ⟨rfl, g6, k6⟩
  rw [l1, l2]
  have k7 : Kp (fun id => h.next ≤ id) h h6 := k5.trans (k6.mono fun id _ hi => hnm id hi)
  obtain ⟨e1, e2, e3, e4, e5, e6⟩ := loadS_sd true s1
  have hob := g6.w.w
  simp only [wRow] at hob
  have hct6 := g6.w.ct
  have hpw6 := g6.w.sd.pw
  rw [e4] at hct6
  rw [e3] at hpw6
  have kk : Keeps h h6 := k7.keeps fun _ h => h
  (refine go ?_)
  refine WL.call rfl (by first | exact True.intro | exact rfl) gSL (power_Steps_ae hpw6) ?_
  rw [hst]
  (refine go ?_)
  refine WL.call rfl (by first | exact True.intro | exact rfl) gSL (count_Value_ae (p := n.p) hct6) ?_
  rw [hv]
  (refine go ?_)
  refine WW.ret (PureQ.finD ?_)
  exact fz_b rfl
end Go.Proofs.YtjehfcjfnmcjcaaGreat


namespace Go.Proofs.YtjehfcjfnmcjcaaGreat
open Go Go.Abs

section
variable {md : Bool} {s : WS} {boot : Int} {j : Nat} {lv : List Lf}
theorem doC_j1 (hd : (s.doC md boot j lv).1 = 0) : (s.doC md boot j lv).2.2 = j + 1 := by
  revert hd
  exact doC_ind (P := fun d => d.1 = 0 → d.2.2 = j + 1) (fun _ h => by cases h) (fun _ _ h => by cases h) (fun _ _ _ h => by cases h) (fun _ _ _ _ _ => rfl) (fun _ _ _ _ _ _ => rfl) (fun _ _ _ _ _ _ _ => rfl) (fun _ _ _ _ _ _ _ => rfl)
end
/-- A world behind i commits of leaves. -/
structure EndI (lv : List Lf) (i : Nat) (s : WS) (j : Nat) : Prop where
  st : WSt true s (50 * i)
  fr : s.pw.Free
  n : s.n = 4
  jj : j = min i 100
  v : s.ct.value = ((min i 100 : Nat) : Int)
  b : s.ct.boots = 0
  g : 0 < i → ∃ top e v b tg, Good true s lv s.ct.value top e v b tg
theorem EndI.step {lv : List Lf} {i : Nat} {s : WS} {j : Nat} (h : EndI lv i s j) (hi : i < 120) (hl : lv.length = 4) (hw : ∀ x ∈ lv, x.Wf) (hok : lvOk lv 0 = true) :
    (s.doC true 0 j lv).1 = (if i < 100 then 0 else 6) ∧ EndI lv (i + 1) (s.doC true 0 j lv).2.1 (s.doC true 0 j lv).2.2 := by
  have hjj := h.jj
  have hln : (lv.length : Int) = s.n := by rw [hl, h.n]; rfl
  have he := doC_e (md := true) (s := s) (boot := 0) (j := j) (lv := lv)
  rw [doE_free h.fr] at he
  have hct := doC_ct (md := true) (s := s) (boot := 0) (j := j) (lv := lv)
  have hst := (doC_wst (md := true) (boot := 0) (j := j) h.st hln).mono (k' := 50 * (i + 1)) (by omega)
  have hfr := doC_free (md := true) (boot := 0) (j := j) (lv := lv) h.fr
  have hn := (doC_n (md := true) (s := s) (boot := 0) (j := j) (lv := lv)).1.trans h.n
  by_cases h100 : i < 100
  · rw [if_neg (by omega)] at he
    rw [he, if_pos rfl] at hct
    obtain ⟨_, G⟩ := good_done (md := true) h.st (by omega) hln hw hok h.b.symm (by omega) he
    have hv : (s.doC true 0 j lv).2.1.ct.value = s.ct.value + 1 := by rw [hct]; rfl
    have hhv := h.v
    refine ⟨by rw [if_pos h100, he], hst, hfr, hn, by rw [doC_j1 he]; omega, by rw [hv]; omega, by rw [hct]; exact h.b, fun _ => ?_⟩
    rw [hv]
    exact ⟨_, _, _, _, _, G⟩
  · have hj : j = 100 := by omega
    rw [if_pos hj] at he
    have hj2 := doC_j (md := true) (s := s) (boot := 0) (j := j) (lv := lv) (by omega)
    rw [he, if_neg (by decide)] at hct
    obtain ⟨top, e, v, b, tg, G⟩ := h.g (by omega)
    have G2 := G.undone (lw := lv) (boot := 0) (j := j) h.st hln (by rw [he]; decide)
    have hhv := h.v
    refine ⟨by rw [if_neg h100, he], hst, hfr, hn, by omega, by rw [hct]; omega, by rw [hct]; exact h.b, fun _ => ?_⟩
    rw [hct]
    exact ⟨_, _, _, _, _, G2⟩
end Go.Proofs.YtjehfcjfnmcjcaaGreat


namespace Go.Proofs.YtjehfcjfnmcjcaaGreat
open Go Go.Abs

theorem WSt.crash {md : Bool} {s : WS} {k : Nat} (h : WSt md s k) (K : Nat → Bool) : WSt md (s.crash K) k := by
  have hl := settle_len K s.sd.lasts.length s.sd.waits 0 s.sd.lasts (fun y hy => by have := h.fit.sd.w y hy; rw [h.fit.sd.len]; exact this) rfl
  obtain ⟨p1, p2, p3, p4⟩ := h.fit.pw
  refine ⟨⟨h.fit.g, ⟨fun hh => by simp [WS.crash] at hh, p2, p3, p4⟩, ⟨?_, fun y hy => by simp [WS.crash, SdS.settle] at hy, Nat.zero_le _, h.fit.sd.kt⟩, h.fit.ss, h.fit.ll⟩, h.cur, h.seq, h.dat, h.ct⟩
  show (settleF K 0 s.sd.waits s.sd.lasts).length = _
  rw [hl, h.fit.sd.len]; rfl
theorem doC_dk {md : Bool} {s : WS} {boot : Int} {j : Nat} {lv : List Lf} : (s.doC md boot j lv).2.1.dk = s.dk := by
  have e : (s.areaW md s.doA lv).dk = s.dk := by rw [WS.areaW]; split <;> rfl
  exact doC_ind (P := fun d => d.2.1.dk = s.dk) (fun _ => e) (fun _ _ => e) (fun _ _ _ => e) (fun _ _ _ _ => e) (fun _ _ _ _ _ => e) (fun _ _ _ _ _ _ => e) (fun _ _ _ _ _ _ => e)
theorem crash_ac {md : Bool} {h : AHeap} {n : WN} {s : WS} {k : Nat} (hg : WG md h n s) (hs : s.Fit k) (hk : k ≤ 9000) (hd : s.dk.waits = []) (keep : List Bool) (hkl : keep.length ≤ 9223372036854775807) :
    AC Tryz.prog 23 [.ptr (n.a + 10) 0 0, .imm 1 (keep.map encBo)] h (fun r h' => r = .tup [] ∧ WG md h' n (s.crash (keepF keep)) ∧ Kp (n.own md) h h') := by
  have hgg := isG_cases hs.g
  have hll : s.sd.lasts.length = (s.n * 160 + 120).toNat := by rw [hs.sd.len, sizeG_pos hs.g]
  have hfit : ∀ o ∈ s.sd.waits, 0 ≤ o.1 ∧ o.1 + o.2.length ≤ s.sd.lasts.length := fun o ho => by have := hs.sd.w o ho; rw [sizeG_pos hs.g] at this; omega
  refine (world_Crash_ac hg.w (by omega) (Nat.le_trans hs.sd.kw (by omega)) hfit (by rw [hd]; decide) (by rw [hd]; simp) keep hkl).mono ?_
  rintro _ h' ⟨rfl, w, kp⟩
  exact ⟨rfl, hg.step w kp, kp⟩
def WS.fused (s : WS) (m : Int) : WS := { s with pw := { s.pw with fuse := decide (0 ≤ m), left := m } }
theorem WSt.fused {md : Bool} {s : WS} {k : Nat} (h : WSt md s k) (m : Int) (hm : -9223372036854775808 ≤ m ∧ m ≤ 9223372036854775807) : WSt md (s.fused m) k := by
  obtain ⟨p1, p2, p3, p4⟩ := h.fit.pw
  exact ⟨⟨h.fit.g, ⟨fun hh => by simpa [WS.fused] using hh, hm, p3, p4⟩, h.fit.sd, h.fit.ss, h.fit.ll⟩, h.cur, h.seq, h.dat, h.ct⟩
end Go.Proofs.YtjehfcjfnmcjcaaGreat


namespace Go.Proofs.YtjehfcjfnmcjcaaGreat
open Go Go.Abs

def WS.back (s : WS) (b : Bs) : WS := { s with sd := { s.sd with lasts := b, waits := [], gen := s.sd.gen + 1 } }
theorem back_snap (s : WS) (b : Bs) : (s.back b).sd.snap = b := rfl
theorem fit_back {s : WS} {k : Nat} (hs : s.Fit k) {b : Bs} (hb : b.length = s.sd.lasts.length) : (s.back b).Fit k :=
  ⟨hs.g, hs.pw, ⟨hb.trans hs.sd.len, fun y hy => by simp [WS.back] at hy, Nat.zero_le _, hs.sd.kt⟩, hs.ss, hs.ll⟩
theorem WSt.back {md : Bool} {s : WS} {k : Nat} (h : WSt md s k) {b : Bs} (hb : b.length = s.sd.lasts.length) : WSt md (s.back b) k := ⟨fit_back h.fit hb, h.cur, h.seq, h.dat, h.ct⟩
theorem snap_ae {md : Bool} {h : AHeap} {n : WN} {s : WS} {k : Nat} (hg : WG md h n s) (hs : s.Fit k) (hk : k ≤ 9000) : AE Tryz.prog 26 [.ptr (n.a + 1) 0 0] h (.imm 1 (s.sd.snap.map encB)) h := by
  have hgg := isG_cases hs.g
  have hll : s.sd.lasts.length = (s.n * 160 + 120).toNat := by rw [hs.sd.len, sizeG_pos hs.g]
  have hfit : ∀ o ∈ s.sd.waits, 0 ≤ o.1 ∧ o.1 + o.2.length ≤ s.sd.lasts.length := fun o ho => by have := hs.sd.w o ho; rw [sizeG_pos hs.g] at this; omega
  exact ssd_Snap_ae hg.w.sd (by omega) (fun e => by rw [e] at hll; simp at hll; omega) (Nat.le_trans hs.sd.kw (by omega)) hfit
set_option maxHeartbeats 1000000 in
theorem ssd_Back_ac {md : Bool} {h : AHeap} {n : WN} {s : WS} {k : Nat} (hg : WG md h n s) (hs : s.Fit k) {b : Bs} (hb : b.length = s.sd.lasts.length) :
    AC Tryz.prog 27 [.ptr (n.a + 1) 0 0, .imm 1 (b.map encB)] h (fun r h' => r = .bool true ∧ ∃ B, h.next ≤ B ∧ WG md h' { n with B := B } (s.back b) ∧ Kp (n.own md) h h') := by
  refine AC.introW is_ssd_SSD_Back (by simp) ?_
  unfold c_ssd_SSD_Back
  have hgg := isG_cases hs.g
  have hll : s.sd.lasts.length = (s.n * 160 + 120).toNat := by rw [hs.sd.len, sizeG_pos hs.g]
  have hne : b ≠ [] := fun e => by rw [e] at hb; simp at hb; omega
  obtain ⟨q1, q2, q3, q4, q5, q6⟩ := hg.w.sd
  simp only [SdS.obj] at q2
  have hna : n.a + 11 ≤ h.next := hg.w.nx
  have hnB : n.B < h.next := hg.w.nB
  have hoB := hg.w.oB
  have hop := hg.w.op
  obtain ⟨nx, hnx⟩ : ∃ nx, h.next = nx := ⟨_, rfl⟩
  have q0 := hg.w.sd.ob
  (refine go ?_)
  refine WL.call rfl (by first | exact True.intro | exact rfl) gSL (ssd_Size_ae q0) ?_
  (refine go ?_)
  (refine WW.ifB rfl (fun hz1 => ?_) (fun hz1 => ?_))
  · exfalso; simp at hz1; omega
  (repeat first | refine WW.seq ?_ | refine WW.reg ?_ | refine WL.nil ?_ | refine WW.skip ?_ | refine WW.block ?_ | refine thenN ?_ | refine blkN ?_); iterate 4 (refine WL.go ?_)
  refine WL.fx1 (FX.appM (nm := h.next) (c := b.map encB) (fun hu => Nat.lt_irrefl _ hu.1) rfl rfl rfl (by simpa using hne) (by simp; omega) (by first | exact True.intro | exact rfl)) ?_
  rw [List.length_map]
  (repeat first | refine WW.seq ?_ | refine WW.reg ?_ | refine WL.nil ?_ | refine WW.skip ?_ | refine WW.block ?_ | refine thenN ?_ | refine blkN ?_); iterate 6 (refine WL.go ?_)
  refine WL.cvt (Cvt.anewM 2 (id := n.a + 1) (i := 0) (j := 2) (t := n.a + 2) (g := s.sd.gen) (n := s.sd.waits.length) gH gH rfl rfl) ?_
  (refine go ?_)
  rw [show ([] : List (List AV)) = [] from rfl]
  refine WW.named (fun h2 => Kp (n.own md) h h2 ∧ BoxAt h2 h.next (.mem 1 (b.map encB)) ∧ h2.get (n.a + 1) = some ((s.back b).sd.obj { n with B := h.next }.sdN) ∧ h2.get (n.a + 2) = some (.tail (s.sd.gen + 1) 0) ∧ (∀ id, id < h.next → id ≠ n.a + 1 → id ≠ n.a + 2 → h2.get id = h.get id) ∧ h.next < h2.next) ⟨?_, ⟨?_, gH⟩, ?_, gH, fun id i1 i2 i3 => gE, ?_⟩ ?_
  · repeat first | exact Kp.refl | refine Kp.put ?_ (Nat.le_refl _) _ | refine Kp.setW ?_ (.inr (.inl (.inl ⟨by omega, by omega⟩))) _
  · exact put_used_nm (x := .tail 0 0)
  · have ho : (s.back b).sd.obj { n with B := h.next }.sdN = .mem 4 [[.ptr n.p 0 0, .ref h.next 0 b.length, .app (n.a + 2) (s.sd.gen + 1) 2 [], .app (n.a + 3) 0 2 (s.sd.trace.map encO)]] := rfl
    rw [ho]; exact gH
  · exact (leN gN (by omega))
  rintro h2 ⟨k2, b2, g1, g2, gr, hx2⟩
  have hn' : ∀ id, n.all md id → id ≠ n.a + 1 → id ≠ n.a + 2 → h2.get id = h.get id := fun id hi => gr id (hg.w.lt hi)
  have hw := hg.w
  have ga : ∀ i, 2 < i ∧ i < 11 → h2.get (n.a + i) = h.get (n.a + i) := fun i hi => hn' _ (.inr (.inr (.inl (by omega)))) (by omega) (by omega)
  have hlk : h2.get n.l = h.get n.l := hn' _ (.inr (.inl rfl)) (by have := hw.ol; omega) (by have := hw.ol; omega)
  refine WW.ret ⟨.inl rfl, _, gRES, rfl, h.next, Nat.le_refl _, ⟨⟨⟨?_, g1, b2.g, g2, ?_, by dsimp only; omega⟩, hw.dk.same ?_ (ga 4 (by omega)) (ga 5 (by omega)) (ga 6 (by omega)), (ga 7 (by omega)).trans hw.ct, hw.ks.same (ga 9 (by omega)) (ga 8 (by omega)), (ga 10 (by omega)).trans hw.w, hw.lk.same hlk fun e => ⟨?_, ?_, ?_⟩, hw.op, hw.ol, hw.oo, by dsimp only; omega, .inr (by dsimp only; omega), hx2⟩, fun id hi => ?_, fun e => ?_⟩, k2⟩
  · exact (hn' _ (.inl rfl) (by omega) (by omega)).trans q1
  · exact (ga 3 (by omega)).trans q5
  · exact hn' _ (.inl rfl) (by dsimp only; omega) (by dsimp only; omega)
  · have := (hw.oo e).1; exact hn' _ (.inr (.inr (.inr ⟨e, .inl rfl⟩))) (by omega) (by omega)
  · have := (hw.oo e).2.1; exact hn' _ (.inr (.inr (.inr ⟨e, .inr (.inl rfl)⟩))) (by omega) (by omega)
  · have := (hw.oo e).2.2; exact hn' _ (.inr (.inr (.inr ⟨e, .inr (.inr rfl)⟩))) (by omega) (by omega)
  · by_cases hid : id = h.next
    · subst hid; exact b2.u
    · refine k2.us id (hg.us id ?_)
      rcases hi with hi | hi
      · rcases hi with hi | hi | hi | hi
        · exact .inl (.inl hi)
        · exact .inl (.inr (.inl hi))
        · exact .inl (.inr (.inr (.inl (hi.elim .inl fun e => absurd e hid))))
        · exact .inl (.inr (.inr (.inr hi)))
      · exact .inr hi
  · have hq := hg.qn e
    have hu := hg.us n.q (.inr rfl)
    refine (gr n.q hu.1 (fun e2 => ?_) (fun e2 => ?_)).trans hq
    · rw [e2] at hq; rw [show h.get (n.a + 1) = _ from q2] at hq; cases hq
    · rw [e2] at hq; rw [show h.get (n.a + 2) = _ from q4] at hq; cases hq
end Go.Proofs.YtjehfcjfnmcjcaaGreat


namespace Go.Proofs.YtjehfcjfnmcjcaaGreat
open Go Go.Abs

def WS.bootS (s : WS) : WS := { s with pw := s.pw.spend, ct := s.ct.boot s.pw.can }
theorem WSt.boot {md : Bool} {s : WS} {k : Nat} (h : WSt md s k) : WSt md s.bootS (k + 1) :=
  ⟨⟨h.fit.g, h.fit.pw.spend, h.fit.sd.mono (by omega), Nat.le_succ_of_le h.fit.ss, Nat.le_succ_of_le h.fit.ll⟩, h.cur, h.seq, h.dat, h.ct.boot _⟩
theorem boot_ct {s : WS} (h : s.pw.Free) : s.bootS.ct = ⟨s.ct.value, s.ct.boots + 1, s.ct.at'⟩ := by rw [WS.bootS, h.can]; rfl
theorem bar_snap (s : WS) : s.barS.sd.snap = s.sd.snap := by
  show (s.sd.barrier s.pw.can).snap = _
  cases s.pw.can with
  | false => rfl
  | true =>
    show settleF (fun _ => true) 0 s.sd.waits s.sd.lasts = _
    rw [settle_all]; rfl
theorem getR_late {md : Bool} {s : WS} {c e v : Int} {b : Bs} {tg : Pr} (rc : s.recOf c = recB e v b tg) (he : 0 ≤ e ∧ e < 4294967296) (hv : 0 ≤ v ∧ v < 18446744073709551616) (hb : b.length = 32) (ht : Wfp tg) (ha : v / 4294967296 ≠ s.ct.at') : s.getR md c = none := by
  rw [WS.getR, rc, recD_B e v b tg he hv hb ht, openedR, if_neg (fun h => ha h.2)]; rfl
/-- A commit whose Bump has no power. -/
theorem doC_five {md : Bool} {s : WS} {boot st : Int} {j : Nat} {lv : List Lf} (hp : s.pw = ⟨false, true, 5, st⟩) (hj : j ≠ 100) : s.doC md boot j lv = (7, ((s.areaW md s.doA lv).barS.logW md boot j (s.doR md lv)).barS.bmpS, j + 1) ∧ (s.areaW md s.doA lv).barS.pw.can = true := by
  have a1 : (s.pw.can && s.pw.spend.can) = true := by rw [hp]; rfl
  have e := areaW_pw2 (md := md) (lv := lv) s.doA a1
  have a2 : (s.areaW md s.doA lv).pw.can = true := by rw [e, hp]; rfl
  have a4 : (s.areaW md s.doA lv).barS.pw.can = true := by show (s.areaW md s.doA lv).pw.spend.can = true; rw [e, hp]; rfl
  have a5 : ((s.areaW md s.doA lv).barS.logW md boot j (s.doR md lv)).pw.can = true := by show (s.areaW md s.doA lv).pw.spend.spend.can = true; rw [e, hp]; rfl
  have a6 : ((s.areaW md s.doA lv).barS.logW md boot j (s.doR md lv)).barS.pw.can = false := by show (s.areaW md s.doA lv).pw.spend.spend.spend.can = false; rw [e, hp]; rfl
  refine ⟨?_, a4⟩
  rw [doC_4 a1 a2 hj]
  dsimp only
  rw [if_neg (by rw [a4]; simp), if_neg (by rw [a5]; simp), if_pos a6]
/-- Its record stands there, with its boot. -/
theorem five_rec {md : Bool} {s : WS} {k : Nat} {boot st : Int} {j : Nat} {lv : List Lf} (hs : WSt md s k) (hk : k ≤ 8000) (hl : (lv.length : Int) = s.n) (hb : 0 ≤ boot ∧ boot < 4294967296) (hp : s.pw = ⟨false, true, 5, st⟩) (hj : j < 100) :
    ∃ b tg, (s.doC md boot j lv).2.1.recOf (s.ct.value + 1) = recB s.ks.cur (boot * 4294967296 + ((j + 1 : Nat) : Int)) b tg ∧ b.length = 32 ∧ Wfp tg := by
  obtain ⟨q1, q2⟩ := doC_five (md := md) (boot := boot) (lv := lv) hp (show j ≠ 100 by omega)
  have hg := isG_cases hs.fit.g
  have hss := hs.fit.ss
  obtain ⟨ct1, ct2, ct3⟩ := hs.ct
  obtain ⟨e1, e2, e3, e4⟩ := areaW_ks md s s.doA lv
  have f1 := hs.area (md := md) s.doA (doA_rng s) hl
  have hwt : Wfp ((s.nodes md lv).getD 1 (0, 0)) := by
    have ht := (buildF_tree md (lv.map leafB) s.S (by rw [List.length_map]; omega)).2
    have hbl := (buildF_len md (lv.map leafB) s.S).2
    rw [List.length_map] at hbl
    exact ht.wfG (j := 1) (by omega) (by omega) (by rw [List.length_map]; omega)
  have wr : (s.doR md lv).Wf := ⟨by show 0 ≤ s.ct.value + 1 ∧ s.ct.value + 1 < _; omega, hs.cur.2, hwt.1, hwt.2⟩
  have rg : isG (s.doR md lv).n = true := hs.fit.g
  have F := filed_logW (md := md) (s := (s.areaW md s.doA lv).barS) (boot := boot) (j := j) (r := s.doR md lv) f1.bar.fit (by omega) q2 f1.bar.cur hb (by omega) wr rg f1.bar.seq
  have hrc := F.rc
  rw [show (s.areaW md s.doA lv).barS.ks = s.ks from e1, show (s.doR md lv).c = s.ct.value + 1 from rfl] at hrc
  refine ⟨_, _, ?_, F.hb, F.ht⟩
  rw [q1, ← hrc]
  dsimp only
  rw [WS.recOf, WS.recOf]
  have := bar_snap ((s.areaW md s.doA lv).barS.logW md boot j (s.doR md lv))
  show sub (((s.areaW md s.doA lv).barS.logW md boot j (s.doR md lv)).barS.sd.snap) _ _ = _
  rw [this]; rfl
theorem crash_free (s : WS) (K : Nat → Bool) : (s.crash K).pw.Free := ⟨rfl, rfl⟩
/-- What a fork's parts are. -/
structure ForkI (s : WS) (k : Nat) (v b a : Int) : Prop where
  st : WSt true s k
  n : s.n = 4
  ct : s.ct = ⟨v, b, a⟩
  dk : s.dk.waits = []
theorem back_e3 {s : WS} {b : Bs} {e v : Int} {c : Bs} {tg : Pr} (hgo : s.pw.gone = false) (hn : s.n = 4) (hct : s.ct = ⟨1, 2, 2⟩) (rc : sub b (recAt 4 1).toNat 60 = recB e v c tg) (he : 0 ≤ e ∧ e < 4294967296) (hv : 0 ≤ v ∧ v < 18446744073709551616) (hb : c.length = 32) (ht : Wfp tg) (ha : v / 4294967296 ≠ 2) : (s.back b).loadE true = 3 ∧ (s.back b).loadL true = [] := by
  have hr : (s.back b).getR true 1 = none := getR_late (e := e) (v := v) (b := c) (tg := tg) (by rw [WS.recOf, back_snap]; show sub b (recAt s.n 1).toNat 60 = _; rw [hn]; exact rc) he hv hb ht (by show _ ≠ s.ct.at'; rw [hct]; exact ha)
  have h1 : (s.back b).pw.gone = false := hgo
  have h2 : (s.back b).ct.value = 1 := by show s.ct.value = 1; rw [hct]
  have hE : (s.back b).getE true 1 = 3 := by rw [WS.getE, h1, hr]; rfl
  exact ⟨by rw [WS.loadE, h1, h2, hE]; rfl, by rw [WS.loadL, h1, h2, hE]; rfl⟩
end Go.Proofs.YtjehfcjfnmcjcaaGreat


namespace Go.Proofs.YtjehfcjfnmcjcaaGreat
open Go Go.Abs

theorem boot_ae {md : Bool} {h : AHeap} {n : WN} {s : WS} {k : Nat} (hg : WG md h n s) (hs : WSt md s k) (hk : k ≤ 9000) : AE Tryz.prog 24 [.ptr (n.a + 7) 0 0] h (.bool s.pw.can) ((h.set n.p (some (.mem 4 [s.pw.spend.row]))).set (n.a + 7) (some ((s.ct.boot s.pw.can).obj n.p))) :=
  count_Boot_ae (p := n.p) hg.w.sd.pw hg.w.ct hs.fit.pw hs.ct (by omega)
theorem WG.boot {md : Bool} {h : AHeap} {n : WN} {s : WS} (hg : WG md h n s) : WG md ((h.set n.p (some (.mem 4 [s.pw.spend.row]))).set (n.a + 7) (some ((s.ct.boot s.pw.can).obj n.p))) n s.bootS := hg.step (hg.w.putCt _ _) (kp_ct n _ _)
theorem doC_ok {md : Bool} {s : WS} {boot : Int} {j : Nat} {lv : List Lf} (hf : s.pw.Free) (hj : j < 100) : (s.doC md boot j lv).1 = 0 := by
  rw [doC_e, doE_free hf, if_neg (by omega)]
theorem loadS_dk (md : Bool) (s : WS) : (s.loadS md).dk = s.dk := by
  have hr : ∀ a, (s.readS md a).dk = s.dk := fun a => by rw [WS.readS]; split <;> rfl
  rw [WS.loadS]
  repeat' split
  · rfl
  · rfl
  · rfl
  · exact hr _
set_option maxHeartbeats 4000000 in
theorem law23_CommitFork_ae (A B T : List Int) (hA : A.length ≤ maxLen) (hB : B.length ≤ maxLen) (hT : T.length ≤ maxLen) (hTw : ∀ t ∈ T, Wf64 t) (h : AHeap) : AE Tryz.prog 6 [.imm 1 (A.map encJ), .imm 1 (B.map encJ), .imm 1 (T.map encU)] h (.bool true) h := by
  refine AE.pureW is_law23_CommitFork (by simp) ?_
  unfold c_law23_CommitFork
  (refine go ?_)
  refine WL.callA rfl (by first | exact True.intro | exact rfl) gSL (world_NewG_ac true 4 rfl 9 h) ?_
  rintro _ h1 ⟨n, rfl, g1, hn, k1⟩
  have hx1 := k1.next
  have hnm : ∀ id, n.own true id → h.next ≤ id := fun id hi => hn id (.inl (WN.own_all hi))
  have k1' : Kp (fun id => h.next ≤ id) h h1 := (by repeat first | exact Kp.refl | assumption | with_reducible refine Kp.put ?_ (by omega) _ | with_reducible refine Kp.setN ?_ (by omega) _ | with_reducible refine Kp.keep ?_ _ | with_reducible refine Kp.setW ?_ (by rfl) _)
  have lA := someL_len 4 A T
  have oA := someL_ok 4 (by decide) A T
  have wA := someL_wf 4 (by decide) A T hTw
  have lB := someL_len 4 B T
  have oB := someL_ok 4 (by decide) B T
  have wB := someL_wf 4 (by decide) B T hTw
  have S0 := wst0 true (m := 4) rfl 9
  have hf0 := free_ws0 4 9
  have I0 : ForkI (ws0 4 9) 0 0 0 0 := ⟨S0, rfl, rfl, rfl⟩
  clear S0 k1
  generalize ws0 4 9 = s0 at *
  have hob := g1.w.w
  simp only [wRow] at hob
  (refine go ?_)
  refine WL.call rfl (by first | exact True.intro | exact rfl) gSL (boot_ae g1 I0.st (by omega)) ?_
  refine WL.named (fun h2 => WG true h2 n s0.bootS ∧ Kp (fun id => h.next ≤ id) h h2) ⟨g1.boot, k1'.trans ((kp_ct (md := true) n _ _).mono fun id _ hi => hnm id hi)⟩ ?_
  clear g1 k1' hob
  rintro h2 ⟨g2, k2⟩
  have I1 : ForkI s0.bootS 1 0 1 0 := ⟨I0.st.boot, I0.n, by rw [boot_ct hf0, I0.ct]; rfl, I0.dk⟩
  have hf1 : s0.bootS.pw.Free := hf0.spend
  clear I0 hf0
  generalize s0.bootS = s1 at *
  have hob := g2.w.w
  simp only [wRow] at hob
  have hct2 := g2.w.ct
  rw [I1.ct] at hct2
  (refine go ?_)
  refine WL.call rfl (by first | exact True.intro | exact rfl) gSL (count_Boots_ae (p := n.p) hct2) ?_
  (refine go ?_)
  refine WL.call rfl (by first | exact True.intro | exact rfl) gSL (nonce_New_ae rfl 1 (by decide)) ?_
  have hx2 := k2.next
  have hmk : ¬ n.nm true h2.next := fun hi => by have := (g2.us _ hi).1; omega
  refine WL.named (fun h3 => WG true h3 n s1 ∧ Kp (fun id => h.next ≤ id) h h3 ∧ BoxAt h3 h2.next (mkO 1 0)) ⟨g2.new (by repeat first | exact Kp.refl | assumption | with_reducible refine Kp.put ?_ (by omega) _ | with_reducible refine Kp.setN ?_ (by omega) _ | with_reducible refine Kp.keep ?_ _ | with_reducible refine Kp.setW ?_ (by rfl) _), (by repeat first | exact Kp.refl | assumption | with_reducible refine Kp.put ?_ (by omega) _ | with_reducible refine Kp.setN ?_ (by omega) _ | with_reducible refine Kp.keep ?_ _ | with_reducible refine Kp.setW ?_ (by rfl) _), ⟨put_used_nm, gH⟩⟩ ?_
  have hmx : h.next ≤ h2.next := hx2
  generalize h2.next = mk at *
  clear g2 k2 hob hct2 hx2
  rintro h3 ⟨g3, k3, b3⟩
  have hob := g3.w.w
  simp only [wRow] at hob
  have hown : ∀ id, n.own true id → ¬ id = mk := fun id hi e => hmk (e ▸ .inl (WN.own_all hi))
  (refine go ?_)
  refine WL.call rfl (by first | exact True.intro | exact rfl) gSL (power_Fuse_ae g3.w.sd.pw 5) ?_
  refine WL.named (fun h4 => WG true h4 n (s1.fused 5) ∧ BoxAt h4 mk (mkO 1 0) ∧ Kp (fun id => h.next ≤ id) h h4) ⟨g3.step (g3.w.putPw _) (kp_pw n _), b3.kp (kp_pw n _) (fun hi => hown _ hi rfl), k3.trans ((kp_pw (md := true) n _).mono fun id _ hi => hnm id hi)⟩ ?_
  clear g3 b3 k3 hob
  rintro h4 ⟨g4, b4, k4⟩
  have I2 : ForkI (s1.fused 5) 1 0 1 0 := ⟨I1.st.fused 5 (by decide), I1.n, I1.ct, I1.dk⟩
  have hpw : (s1.fused 5).pw = ⟨false, true, 5, s1.pw.steps⟩ := by
    show ({ s1.pw with fuse := _, left := _ } : PwS) = _
    have := hf1.g
    cases hq : s1.pw with
    | mk a b c d => rw [hq] at this; dsimp only at this ⊢; rw [this]; rfl
  clear I1
  generalize s1.fused 5 = s2 at *
  have hlA : ((someL 4 A T).length : Int) = s2.n := by rw [lA, I2.n]; rfl
  have hP := commit_Do_ac g4 I2.st (by omega) b4 (by decide) (by omega) hmk (someL 4 A T) hlA wA oA
  have h5 := (doC_five (md := true) (boot := 1) (j := 0) (lv := someL 4 A T) hpw (by decide)).1
  have h51 : (s2.doC true 1 0 (someL 4 A T)).1 = 7 := by rw [h5]
  have hR := five_rec (md := true) (boot := 1) (j := 0) (lv := someL 4 A T) I2.st (by omega) hlA (by decide) hpw (by decide)
  obtain ⟨rb, rt, hrc, hrl, hrt⟩ := hR
  have hdn := doC_n (md := true) (s := s2) (boot := 1) (j := 0) (lv := someL 4 A T)
  have hcur := I2.st.cur.2
  have I3 : ForkI (s2.doC true 1 0 (someL 4 A T)).2.1 51 0 1 0 := ⟨doC_wst (md := true) (boot := 1) (j := 0) I2.st hlA, hdn.1.trans I2.n, by rw [doC_ct, h51, if_neg (by decide)]; exact I2.ct, by rw [doC_dk]; exact I2.dk⟩
  rw [show s2.ct.value + 1 = 1 by rw [I2.ct]; rfl] at hrc
  generalize s2.ks.cur = ce at *
  rw [h51] at hP
  clear h5 h51 hpw hdn hlA I2
  generalize (s2.doC true 1 0 (someL 4 A T)).2.1 = s3 at *
  generalize (s2.doC true 1 0 (someL 4 A T)).2.2 = j3 at *
  (refine go ?_)
  refine WL.call rfl (by first | exact True.intro | exact rfl) gSL (law23_some_ae 4 (by omega) A T hA hT _) ?_
  refine WL.callA rfl (by first | exact True.intro | exact rfl) gSL (hP) ?_
  rintro _ h6 ⟨rfl, g6, b6, k6⟩
  have k7 : Kp (fun id => h.next ≤ id) h h6 := k4.trans (k6.mono fun id _ hh => hh.elim (hnm id) fun e => by omega)
  clear hP g4 b4 k4 b6 k6
  have hob := g6.w.w
  simp only [wRow] at hob
  (refine go ?_)
  refine WL.call rfl (by first | exact True.intro | exact rfl) gSL (snap_ae g6 I3.st.fit (by omega)) ?_
  have hsl := snap_lenS I3.st.fit
  rw [WS.recOf, I3.n] at hrc
  have hsl4 : s3.sd.snap.length = 760 := by rw [hsl, I3.n]; rfl
  generalize s3.sd.snap = snap at *
  clear hsl
  (refine go ?_)
  refine WL.callA rfl (by first | exact True.intro | exact rfl) gSL (crash_ac g6 I3.st.fit (by omega) I3.dk [] (by decide)) ?_
  rintro _ h8 ⟨rfl, g8, k8⟩
  have k9 : Kp (fun id => h.next ≤ id) h h8 := k7.trans (k8.mono fun id _ hi => hnm id hi)
  have hf4 := crash_free s3 (keepF [])
  have I4 : ForkI (s3.crash (keepF [])) 51 0 1 0 := ⟨I3.st.crash _, I3.n, I3.ct, by show (s3.dk.crash _).waits = []; rfl⟩
  clear g6 k7 k8 I3 hob
  generalize s3.crash (keepF []) = s4 at *
  have hob := g8.w.w
  simp only [wRow] at hob
  (refine go ?_)
  refine WL.call rfl (by first | exact True.intro | exact rfl) gSL (boot_ae g8 I4.st (by omega)) ?_
  refine WL.named (fun h2 => WG true h2 n s4.bootS ∧ Kp (fun id => h.next ≤ id) h h2) ⟨g8.boot, k9.trans ((kp_ct (md := true) n _ _).mono fun id _ hi => hnm id hi)⟩ ?_
  clear g8 k9 hob
  rintro h9 ⟨g9, k9⟩
  have I5 : ForkI s4.bootS 52 0 2 0 := ⟨I4.st.boot, I4.n, by rw [boot_ct hf4, I4.ct]; rfl, I4.dk⟩
  have hf5 : s4.bootS.pw.Free := hf4.spend
  clear I4 hf4
  generalize s4.bootS = s5 at *
  have hob := g9.w.w
  simp only [wRow] at hob
  have hct9 := g9.w.ct
  rw [I5.ct] at hct9
  (refine go ?_)
  refine WL.call rfl (by first | exact True.intro | exact rfl) gSL (count_Boots_ae (p := n.p) hct9) ?_
  (refine go ?_)
  refine WL.call rfl (by first | exact True.intro | exact rfl) gSL (nonce_New_ae rfl 2 (by decide)) ?_
  have hx9 := k9.next
  have hmk2 : ¬ n.nm true h9.next := fun hi => by have := (g9.us _ hi).1; omega
  refine WL.named (fun h3 => WG true h3 n s5 ∧ Kp (fun id => h.next ≤ id) h h3 ∧ BoxAt h3 h9.next (mkO 2 0)) ⟨g9.new (by repeat first | exact Kp.refl | assumption | with_reducible refine Kp.put ?_ (by omega) _ | with_reducible refine Kp.setN ?_ (by omega) _ | with_reducible refine Kp.keep ?_ _ | with_reducible refine Kp.setW ?_ (by rfl) _), (by repeat first | exact Kp.refl | assumption | with_reducible refine Kp.put ?_ (by omega) _ | with_reducible refine Kp.setN ?_ (by omega) _ | with_reducible refine Kp.keep ?_ _ | with_reducible refine Kp.setW ?_ (by rfl) _), ⟨put_used_nm, gH⟩⟩ ?_
  clear hmk hmx hown
  have hmx : h.next ≤ h9.next := hx9
  generalize h9.next = mj at *
  clear g9 k9 hob hct9 hx9
  rintro h10 ⟨g10, k10, b10⟩
  have hlB : ((someL 4 B T).length : Int) = s5.n := by rw [lB, I5.n]; rfl
  have hP := commit_Do_ac g10 I5.st (by omega) b10 (by decide) (by omega) hmk2 (someL 4 B T) hlB wB oB
  have h50 := doC_ok (md := true) (boot := 2) (j := 0) (lv := someL 4 B T) hf5 (by decide)
  rw [h50] at hP
  obtain ⟨_, G⟩ := good_done (md := true) (lv := someL 4 B T) I5.st (by omega) hlB wB oB (show (2 : Int) = s5.ct.boots by rw [I5.ct]) (j := 0) (by omega) h50
  have hdn := doC_n (md := true) (s := s5) (boot := 2) (j := 0) (lv := someL 4 B T)
  have I6 : ForkI (s5.doC true 2 0 (someL 4 B T)).2.1 102 1 2 2 := ⟨doC_wst (md := true) (boot := 2) (j := 0) I5.st hlB, hdn.1.trans I5.n, by rw [doC_ct, h50, if_pos rfl, I5.ct]; rfl, by rw [doC_dk]; exact I5.dk⟩
  have hf6 := doC_free (md := true) (boot := 2) (j := 0) (lv := someL 4 B T) hf5
  rw [show s5.ct.value + 1 = (s5.doC true 2 0 (someL 4 B T)).2.1.ct.value by rw [I6.ct, I5.ct]; rfl] at G
  obtain ⟨l1, l2⟩ := G.load I6.st.fit hf6.g
  clear G hdn h50 hlB
  generalize (s5.doC true 2 0 (someL 4 B T)).2.1 = s6 at *
  generalize (s5.doC true 2 0 (someL 4 B T)).2.2 = j6 at *
  (refine go ?_)
  refine WL.call rfl (by first | exact True.intro | exact rfl) gSL (law23_some_ae 4 (by omega) B T hB hT _) ?_
  refine WL.callA rfl (by first | exact True.intro | exact rfl) gSL (hP) ?_
  rintro _ h12 ⟨rfl, g12, b12, k12⟩
  have k13 : Kp (fun id => h.next ≤ id) h h12 := k10.trans (k12.mono fun id _ hh => hh.elim (hnm id) fun e => by omega)
  clear hP g10 b10 k10 b12 k12
  (refine go ?_)
  refine WL.callA rfl (by first | exact True.intro | exact rfl) gSL (commit_Load_ac g12 I6.st (by omega)) ?_
  rintro _ h14 ⟨rfl, g14, k14⟩
  rw [l1, l2]
  have k15 : Kp (fun id => h.next ≤ id) h h14 := k13.trans (k14.mono fun id _ hi => hnm id hi)
  obtain ⟨e1, e2, e3, e4, e5, e6⟩ := loadS_sd true s6
  have I7 : ForkI (s6.loadS true) 142 1 2 2 := ⟨I6.st.load, e2.trans I6.n, e4.trans I6.ct, ?_⟩
  rotate_left
  · rw [loadS_dk]; exact I6.dk
  have hgo7 : (s6.loadS true).pw.gone = false := by rw [e3]; exact hf6.g
  clear g12 k13 k14 e1 e2 e3 e4 e5 e6 l1 l2 I6 hf6
  generalize s6.loadS true = s7 at *
  have hob := g14.w.w
  simp only [wRow] at hob
  have hbl : snap.length = s7.sd.lasts.length := by rw [hsl4, I7.st.fit.sd.len, I7.n]; rfl
  (refine go ?_)
  refine WL.callA rfl (by first | exact True.intro | exact rfl) gSL (ssd_Back_ac g14 I7.st.fit hbl) ?_
  rintro _ h16 ⟨rfl, Bk, hBk, g16, k16⟩
  have k17 : Kp (fun id => h.next ≤ id) h h16 := k15.trans (k16.mono fun id _ hi => hnm id hi)
  have hx15 := k15.next
  have hnm2 : ∀ id, WN.own true { n with B := Bk } id → h.next ≤ id := fun id hi => by
    rcases hi with hi | hi | hi
    · exact hnm id (.inl hi)
    · rcases hi with hi | hi
      · exact hnm id (.inr (.inl (.inl hi)))
      · dsimp only at hi; omega
    · exact hnm id (.inr (.inr hi))
  have S8 := I7.st.back hbl
  obtain ⟨r1, r2⟩ := back_e3 (b := snap) hgo7 I7.n I7.ct hrc hcur (by decide) hrl hrt (by decide)
  clear g14 k15 k16 hob
  (refine go ?_)
  refine WL.callA rfl (by first | exact True.intro | exact rfl) gSL (commit_Load_ac (n := { n with B := Bk }) g16 S8 (by omega)) ?_
  rintro _ h18 ⟨rfl, g18, k18⟩
  rw [r1, r2]
  have k19 : Kp (fun id => h.next ≤ id) h h18 := k17.trans (k18.mono fun id _ hi => hnm2 id hi)
  have kk : Keeps h h18 := k19.keeps fun _ h => h
  have hx19 := k19.next
  clear g16 k17 k18 g18 k19
  (refine go ?_)
  refine WL.call rfl (by first | exact True.intro | exact rfl) gSL (law23_some_ae 4 (by omega) B T hB hT _) ?_
  (refine go ?_)
  refine WL.call rfl (by first | exact True.intro | exact rfl) gSL (ref15_Same_ae (someL 4 B T) (someL 4 B T) (by omega) (by omega) _) ?_
  rw [decide_eq_true rfl]
  (refine go ?_)
  refine WL.call rfl (by first | exact True.intro | exact rfl) gSL (law23_known_ae _) ?_
  (refine go ?_)
  refine WW.ret (PureQ.finD ?_)
  exact fz_b rfl
theorem top_CommitFork (c0 : List AV) (t0 : TypL [.sl [.i .i64]] c0) (c1 : List AV) (t1 : TypL [.sl [.i .i64]] c1) (c2 : List AV) (t2 : TypL [.sl [.i .u64]] c2) :
    AE Tryz.prog 6 [c0.headD .nilp, c1.headD .nilp, c2.headD .nilp] noHeap (.bool true) noHeap := by
  obtain ⟨A, rfl, hA⟩ := ints_of t0
  obtain ⟨B, rfl, hB⟩ := ints_of t1
  obtain ⟨T, rfl, hT, hTw⟩ := u64s_of t2
  exact law23_CommitFork_ae A B T hA hB hT hTw noHeap
end Go.Proofs.YtjehfcjfnmcjcaaGreat


