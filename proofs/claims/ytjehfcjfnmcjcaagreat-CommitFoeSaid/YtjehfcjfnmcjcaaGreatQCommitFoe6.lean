/- What the statement's proof needs, part 6. -/
import Derived.Test.YtjehfcjfnmcjcaaGreatQCommitFoe5
set_option linter.all false
namespace Go.Proofs.YtjehfcjfnmcjcaaGreat
open Go Go.Abs

section
variable {md : Bool} {s : WS} {boot : Int} {j : Nat} {lv : List Lf}
theorem doC_1 (a1 : (s.pw.can && s.pw.spend.can) = false) : s.doC md boot j lv = (7, s.areaW md s.doA lv, j) := by
  rw [WS.doC]; dsimp only; rw [if_pos a1]
theorem doC_2 (a1 : (s.pw.can && s.pw.spend.can) = true) (a2 : (s.areaW md s.doA lv).pw.can = false) : s.doC md boot j lv = (7, (s.areaW md s.doA lv).barS, j) := by
  rw [WS.doC]; dsimp only; rw [if_neg (by rw [a1]; simp), if_pos a2]
theorem doC_3 (a1 : (s.pw.can && s.pw.spend.can) = true) (a2 : (s.areaW md s.doA lv).pw.can = true) (a3 : j = 100) : s.doC md boot j lv = (6, (s.areaW md s.doA lv).barS, j) := by
  rw [WS.doC]; dsimp only; rw [if_neg (by rw [a1]; simp), if_neg (by rw [a2]; simp), if_pos a3]
theorem doC_4 (a1 : (s.pw.can && s.pw.spend.can) = true) (a2 : (s.areaW md s.doA lv).pw.can = true) (a3 : j ≠ 100) : s.doC md boot j lv =
    (let s3 := (s.areaW md s.doA lv).barS.logW md boot j (s.doR md lv)
     if (s.areaW md s.doA lv).barS.pw.can = false then (7, s3, j + 1)
     else if s3.pw.can = false then (7, s3.barS, j + 1)
     else if s3.barS.pw.can = false then (7, s3.barS.bmpS, j + 1)
     else (0, s3.barS.bmpS, j + 1)) := by
  rw [WS.doC]; dsimp only; rw [if_neg (by rw [a1]; simp), if_neg (by rw [a2]; simp), if_neg a3]
end
theorem bar_ae {md : Bool} {h : AHeap} {n : WN} {s : WS} {k : Nat} (hg : WG md h n s) (hs : s.Fit k) (hk : k ≤ 9000) : AE Tryz.prog 62 [.ptr (n.a + 1) 0 0] h (.bool s.pw.can) (sdPut n.sdN s.pw.spend (s.sd.barrier s.pw.can) h) := by
  have hgg := isG_cases hs.g
  have hll : s.sd.lasts.length = (s.n * 160 + 120).toNat := by rw [hs.sd.len, sizeG_pos hs.g]
  have hfit : ∀ o ∈ s.sd.waits, 0 ≤ o.1 ∧ o.1 + o.2.length ≤ s.sd.lasts.length := fun o ho => by have := hs.sd.w o ho; rw [sizeG_pos hs.g] at this; omega
  exact ssd_Barrier_ae hg.w.sd hs.pw (by omega) (by omega) (Nat.le_trans hs.sd.kw (by omega)) (Nat.le_trans hs.sd.kt (by omega)) hfit
set_option maxHeartbeats 4000000 in
theorem commit_Do_ac {md : Bool} {h : AHeap} {n : WN} {s : WS} {k : Nat} (hg : WG md h n s) (hs : WSt md s k) (hk : k ≤ 8000) {mk : Nat} {boot : Int} {j : Nat} (hm : BoxAt h mk (mkO boot j)) (hb : 0 ≤ boot ∧ boot < 4294967296) (hj : j ≤ 100) (hne : ¬ n.nm md mk) (lv : List Lf) (hl : (lv.length : Int) = s.n) (hw : ∀ x ∈ lv, x.Wf) (hok : lvOk lv 0 = true) :
    AC Tryz.prog 17 [.ptr (n.a + 10) 0 0, .ptr mk 0 0, .imm 8 (lv.map encL)] h
      (fun r h' => r = .int .i64 (s.doC md boot j lv).1 ∧ WG md h' n (s.doC md boot j lv).2.1 ∧ BoxAt h' mk (mkO boot (s.doC md boot j lv).2.2) ∧ Kp (fun id => n.own md id ∨ id = mk) h h') := by
  refine AC.introW is_commit_Do (by simp) ?_
  unfold c_commit_Do
  have hob := hg.w.w
  simp only [wRow] at hob
  have hlt : ∀ id, n.nm md id → id < h.next := fun id hi => (hg.us id hi).1
  have hmk : mk < h.next := hm.u.1
  have hna : n.a + 11 ≤ h.next := hg.w.nx
  have hnB : n.B < h.next := hg.w.nB
  have hoB := hg.w.oB
  have hop := hg.w.op
  have hgg := isG_cases hs.fit.g
  obtain ⟨⟨cv1, cv2⟩, ⟨cb1, cb2⟩, ⟨ca1, ca2⟩⟩ := hs.ct
  have hown : ∀ id, n.own md id → ¬ id = mk := fun id hi e => hne (e ▸ .inl (WN.own_all hi))
  (refine go ?_)
  refine WL.call rfl (by first | exact True.intro | exact rfl) gSL (count_Value_ae (p := n.p) hg.w.ct) ?_
  (refine go ?_)
  have hmod : (s.ct.value + 1).tmod 2 = s.doA := Int.tmod_eq_emod_of_nonneg (by omega)
  have ha := doA_rng s
  rw [hmod, wrap_in (k := .i64) (n := s.doA) (by constructor <;> omega)]
  have f1 := hs.area (md := md) (lv := lv) s.doA ha hl
  refine WL.callA rfl (by first | exact True.intro | exact rfl) gSL (area_Write_ac hg hs.fit (by omega) s.doA ha lv hl hw hok) ?_
  rintro _ h2 ⟨rfl, g2, k2⟩
  have b2 := hm.kp k2 (fun hi => hown _ hi rfl)
  have k2' : Kp (fun id => n.own md id ∨ id = mk) h h2 := k2.mono fun _ _ hi => .inl hi
  have hx2 := k2.next
  clear k2 hob
  cases a1 : (s.pw.can && s.pw.spend.can) with
  | false =>
    rw [doC_1 a1]
    (refine go ?_)
    refine WW.ret ⟨.inl rfl, _, gRES, rfl, g2.new (by repeat first | exact Kp.refl | assumption | with_reducible refine Kp.put ?_ (by omega) _ | with_reducible refine Kp.setN ?_ (by omega) _ | with_reducible refine Kp.keep ?_ _ | with_reducible refine Kp.setW ?_ (by rfl) _), b2.kp (W := fun _ => False) (by repeat first | exact Kp.refl | assumption | with_reducible refine Kp.put ?_ (by omega) _ | with_reducible refine Kp.setN ?_ (by omega) _ | with_reducible refine Kp.keep ?_ _ | with_reducible refine Kp.setW ?_ (by rfl) _) (fun h => h), ?_⟩
    exact k2'.trans (((by repeat first | exact Kp.refl | assumption | with_reducible refine Kp.put ?_ (by omega) _ | with_reducible refine Kp.setN ?_ (by omega) _ | with_reducible refine Kp.keep ?_ _ | with_reducible refine Kp.setW ?_ (by rfl) _) : Kp (fun _ => False) h2 _).mono fun _ _ h => h.elim)
  | true =>
    simp only [if_true]
    rw [show (s.nodes md lv).getD 1 (0, 0) = (s.doR md lv).g from rfl]
    generalize htop : (s.doR md lv).g = top
    have hob := g2.w.w
    simp only [wRow] at hob
    (refine go ?_)
    refine WL.named (fun h3 => WG md h3 n (s.areaW md s.doA lv) ∧ BoxAt h3 mk (mkO boot j) ∧ Kp (fun id => n.own md id ∨ id = mk) h h3 ∧ BoxAt h3 h2.next (.mem 2 [encP top]) ∧ h2.next < h3.next) ⟨g2.new (by repeat first | exact Kp.refl | assumption | with_reducible refine Kp.put ?_ (by omega) _ | with_reducible refine Kp.setN ?_ (by omega) _ | with_reducible refine Kp.keep ?_ _ | with_reducible refine Kp.setW ?_ (by rfl) _), b2.kp (W := fun _ => False) (by repeat first | exact Kp.refl | assumption | with_reducible refine Kp.put ?_ (by omega) _ | with_reducible refine Kp.setN ?_ (by omega) _ | with_reducible refine Kp.keep ?_ _ | with_reducible refine Kp.setW ?_ (by rfl) _) (fun h => h), k2'.trans (((by repeat first | exact Kp.refl | assumption | with_reducible refine Kp.put ?_ (by omega) _ | with_reducible refine Kp.setN ?_ (by omega) _ | with_reducible refine Kp.keep ?_ _ | with_reducible refine Kp.setW ?_ (by rfl) _) : Kp (fun _ => False) h2 _).mono fun _ _ h => h.elim), ⟨put_used_nm (x := .tail 0 0), gH⟩, (put_used_nm (x := .tail 0 0)).1⟩ ?_
    generalize h2.next = tp at *
    clear g2 b2 k2' hob
    rintro h3 ⟨g3, b3, k3, t3, hx3⟩
    have hob := g3.w.w
    simp only [wRow] at hob
    refine WL.call rfl (by first | exact True.intro | exact rfl) gSL (bar_ae g3 f1.fit (by omega)) ?_
    have htp : ∀ id, n.own md id → ¬ id = tp := fun id hi e => by have := hlt id (.inl (WN.own_all hi)); omega
    refine WL.named (fun h4 => WG md h4 n (s.areaW md s.doA lv).barS ∧ BoxAt h4 mk (mkO boot j) ∧ Kp (fun id => n.own md id ∨ id = mk) h h4 ∧ BoxAt h4 tp (.mem 2 [encP top]) ∧ tp < h4.next) ⟨g3.step (g3.w.putSd _ _) (kp_sd n _ _), b3.kp (kp_sd n _ _) (fun hi => hown _ hi rfl), k3.trans ((kp_sd n _ _).mono fun _ _ hi => .inl hi), t3.kp (kp_sd n _ _) (fun hi => htp _ hi rfl), hx3⟩ ?_
    clear g3 b3 k3 t3 hx3 hob
    rintro h4 ⟨g4, b4, k4, t4, hx4⟩
    have hob := g4.w.w
    simp only [wRow] at hob
    cases a2 : (s.areaW md s.doA lv).pw.can with
    | false =>
      rw [doC_2 a1 a2]
      (refine go ?_)
      exact WW.ret ⟨.inl rfl, _, gRES, rfl, g4, b4, k4⟩
    | true =>
      have q4 := t4.g
      obtain ⟨nx, hnx⟩ : ∃ nx, h4.next = nx := ⟨_, rfl⟩
      obtain ⟨e1, e2, e3, e4⟩ := areaW_ks md s s.doA lv
      have eks : (s.areaW md s.doA lv).barS.ks = s.ks := e1
      have en : (s.areaW md s.doA lv).barS.n = s.n := e4
      have hna4 : n.a + 11 ≤ h4.next := g4.w.nx
      rw [en] at hob
      have hcr : ∀ h5 : AHeap, h5.get (n.a + 9) = h4.get (n.a + 9) → h5.get (n.a + 8) = h4.get (n.a + 8) → AE Tryz.prog 63 [.ptr (n.a + 9) 0 0] h5 (.int .u32 s.ks.cur) h5 := fun h5 x1 x2 => by
        have := keys_Current_ae (g4.w.ks.same x1 x2)
        rw [eks] at this
        exact this
      have hR : encRt (s.doR md lv) = [.int .u64 (s.ct.value + 1), .int .u32 s.ks.cur, .int .i64 s.n, .int .u64 top.1, .int .u64 top.2] := by rw [← htop]; rfl
      have hss := hs.fit.ss
      have wr : (s.doR md lv).Wf := by
        have ht := (buildF_tree md (lv.map leafB) s.S (by rw [List.length_map]; omega)).2
        have hbl := (buildF_len md (lv.map leafB) s.S).2
        rw [List.length_map] at hbl
        have hwt := ht.wfG (j := 1) (by omega) (by omega) (by rw [List.length_map]; omega)
        exact ⟨by show 0 ≤ s.ct.value + 1 ∧ s.ct.value + 1 < _; omega, hs.cur.2, hwt.1, hwt.2⟩
      (repeat first | refine WL.go ?_ | refine WW.seq ?_ | refine WW.reg ?_ | refine WL.nil ?_ | refine WW.skip ?_ | refine WW.block ?_ | refine WW.exit ?_ | refine WW.condT rfl ?_ | refine WW.condF rfl ?_ | refine WL.gox ?_ | refine thenN ?_ | refine blkN ?_)
      refine WW.dregA [13] [5, 14] [5] [4, 10, 11] [] gN (by decide +kernel) ?_
      (repeat first | refine DA.go ?_ | refine DA.goF ?_ | refine DA.new ?_ | refine DA.set ?_ | refine DA.endL ?_ | refine thenN ?_ | refine blkN ?_)
      refine DA.callP rfl (by first | exact True.intro | exact rfl) gSL rfl rfl rfl (fun h5 hs => hcr h5 (hs.2 _ (by omega)) (hs.2 _ (by omega))) ?_
      (repeat first | refine DA.go ?_ | refine DA.goF ?_ | refine DA.new ?_ | refine DA.set ?_ | refine DA.endL ?_ | refine thenN ?_ | refine blkN ?_)
      refine WW.named (fun h5 => WG md h5 n (s.areaW md s.doA lv).barS ∧ BoxAt h5 mk (mkO boot j) ∧ Kp (fun id => n.own md id ∨ id = mk) h h5 ∧ h5.get nx = some (.mem 5 [encRt (s.doR md lv)])) ⟨g4.new (by repeat first | exact Kp.refl | assumption | with_reducible refine Kp.put ?_ (by omega) _ | with_reducible refine Kp.setN ?_ (by omega) _ | with_reducible refine Kp.keep ?_ _ | with_reducible refine Kp.setW ?_ (by rfl) _), b4.kp (W := fun _ => False) (by repeat first | exact Kp.refl | assumption | with_reducible refine Kp.put ?_ (by omega) _ | with_reducible refine Kp.setN ?_ (by omega) _ | with_reducible refine Kp.keep ?_ _ | with_reducible refine Kp.setW ?_ (by rfl) _) (fun h => h), k4.trans (((by repeat first | exact Kp.refl | assumption | with_reducible refine Kp.put ?_ (by omega) _ | with_reducible refine Kp.setN ?_ (by omega) _ | with_reducible refine Kp.keep ?_ _ | with_reducible refine Kp.setW ?_ (by rfl) _) : Kp (fun _ => False) h4 _).mono fun _ _ h => h.elim), by rw [hR]; exact gH⟩ ?_
      clear g4 b4 k4 t4 q4 hob hcr
      rintro h5 ⟨g5, b5, k5, q5⟩
      (refine go ?_)
      have f2 := f1.bar
      by_cases a3 : j = 100
      · rw [doC_3 a1 a2 a3]
        subst a3
        refine WL.call rfl (by first | exact True.intro | exact rfl) gSL (log_Put_ex g5 f2.cur.2 b5 (s.doR md lv) wr hs.fit.g en.symm) ?_
        (refine go ?_)
        exact WW.ret ⟨.inl rfl, _, gRES, rfl, g5, b5, k5⟩
      rw [doC_4 a1 a2 a3]
      dsimp only
      refine WL.callA rfl (by first | exact True.intro | exact rfl) gSL (log_Put_ac g5 f2.fit (by omega) f2.cur.2 b5 hb (by omega) hne (s.doR md lv) wr hs.fit.g en.symm) ?_
      rintro _ h6 ⟨rfl, g6, b6, k6⟩
      have f3 := f2.log boot j (s.doR md lv)
      have k7 := k5.trans k6
      clear g5 b5 k5 k6 q5
      cases a4 : (s.areaW md s.doA lv).barS.pw.can with
      | false =>
        simp only [if_true]
        (refine go ?_)
        exact WW.ret ⟨.inl rfl, _, gRES, rfl, g6, b6, k7⟩
      | true =>
        simp only [if_true, Bool.true_eq_false, if_false]
        have f4 := f3.bar
        generalize (s.areaW md s.doA lv).barS.logW md boot j (s.doR md lv) = s3 at *
        have hob := g6.w.w
        simp only [wRow] at hob
        (refine go ?_)
        refine WL.call rfl (by first | exact True.intro | exact rfl) gSL (bar_ae g6 f3.fit (by omega)) ?_
        refine WL.named (fun h7 => WG md h7 n s3.barS ∧ BoxAt h7 mk (mkO boot (j + 1)) ∧ Kp (fun id => n.own md id ∨ id = mk) h h7) ⟨g6.step (g6.w.putSd _ _) (kp_sd n _ _), b6.kp (kp_sd n _ _) (fun hi => hown _ hi rfl), k7.trans ((kp_sd n _ _).mono fun _ _ hi => .inl hi)⟩ ?_
        clear g6 b6 k7 hob
        rintro h7 ⟨g7, b7, k7⟩
        have hob := g7.w.w
        simp only [wRow] at hob
        cases a5 : s3.pw.can with
        | false =>
          simp only [if_true]
          (refine go ?_)
          exact WW.ret ⟨.inl rfl, _, gRES, rfl, g7, b7, k7⟩
        | true =>
          simp only [Bool.true_eq_false, if_false]
          (refine go ?_)
          refine WL.call rfl (by first | exact True.intro | exact rfl) gSL (count_Bump_ae (p := n.p) g7.w.sd.pw g7.w.ct f4.fit.pw f4.ct (by omega)) ?_
          refine WL.named (fun h8 => WG md h8 n s3.barS.bmpS ∧ BoxAt h8 mk (mkO boot (j + 1)) ∧ Kp (fun id => n.own md id ∨ id = mk) h h8) ⟨g7.step (g7.w.putCt _ _) (kp_ct n _ _), b7.kp (kp_ct n _ _) (fun hi => hown _ hi rfl), k7.trans ((kp_ct n _ _).mono fun _ _ hi => .inl hi)⟩ ?_
          clear g7 b7 k7 hob
          rintro h8 ⟨g8, b8, k8⟩
          cases a6 : s3.barS.pw.can with
          | false =>
            simp only [if_true]
            (refine go ?_)
            exact WW.ret ⟨.inl rfl, _, gRES, rfl, g8, b8, k8⟩
          | true =>
            simp only [Bool.true_eq_false, if_false]
            (refine go ?_)
            exact WW.ret ⟨.inl rfl, _, gRES, rfl, g8, b8, k8⟩
set_option maxHeartbeats 1000000 in
theorem commit_Load_ac {md : Bool} {h : AHeap} {n : WN} {s : WS} {k : Nat} (hg : WG md h n s) (hs : WSt md s k) (hk : k ≤ 8000) :
    AC Tryz.prog 19 [.ptr (n.a + 10) 0 0] h
      (fun r h' => r = .tup [.imm 8 ((s.loadL md).map encL), .int .i64 (s.loadE md)] ∧ WG md h' n (s.loadS md) ∧ Kp (n.own md) h h') := by
  refine AC.introW is_commit_Load (by simp) ?_
  unfold c_commit_Load
  have hob := hg.w.w
  simp only [wRow] at hob
  have hna : n.a + 11 ≤ h.next := hg.w.nx
  have hnB : n.B < h.next := hg.w.nB
  have hoB := hg.w.oB
  have hgg := isG_cases hs.fit.g
  have hlt : ∀ id, n.nm md id → id < h.next := fun id hi => (hg.us id hi).1
  obtain ⟨⟨cv1, cv2⟩, ⟨cb1, cb2⟩, ⟨ca1, ca2⟩⟩ := hs.ct
  (refine go ?_)
  refine WL.call rfl (by first | exact True.intro | exact rfl) gSL (power_On_ae hg.w.sd.pw) ?_
  cases hgo : s.pw.gone with
  | true =>
    have h1 : s.loadE md = 7 := by rw [WS.loadE, hgo, if_pos rfl]
    have h2 : s.loadL md = [] := by rw [WS.loadL, hgo, if_pos rfl]
    have h3 : s.loadS md = s := by rw [WS.loadS, hgo, if_pos rfl]
    rw [h1, h2, h3]
    (refine go ?_)
    refine WW.cvt (Cvt.sub1 (s := 2) (v := .imm 8 []) rfl SubV.nil) ?_
    exact WW.ret ⟨.inl rfl, _, gRES, rfl, hg, Kp.refl⟩
  | false =>
    (refine go ?_)
    refine WL.call rfl (by first | exact True.intro | exact rfl) gSL (count_Value_ae (p := n.p) hg.w.ct) ?_
    (refine go ?_)
    (refine WW.ifB rfl (fun hz1 => ?_) (fun hz1 => ?_))
    · obtain ⟨h1, h2, h3⟩ := load_zero (md := md) hgo hz1
      rw [h1, h2, h3]
      obtain ⟨m, hm⟩ : ∃ m : Nat, s.n = m := ⟨s.n.toNat, by omega⟩
      have hmn : s.n.toNat = m := by omega
      rw [hm] at hob
      (refine go ?_)
      refine WW.cvt (Cvt.frzE (s := 2) (c' := (List.replicate s.n.toNat lf0).map encL) rfl gH (by rw [hmn, List.map_replicate, List.drop_zero, List.take_of_length_le (by simp)]; rfl)) ?_
      refine WW.ret ⟨.inl rfl, _, gRES, rfl, hg.new (by repeat first | exact Kp.refl | assumption | with_reducible refine Kp.put ?_ (by omega) _ | with_reducible refine Kp.setN ?_ (by omega) _ | with_reducible refine Kp.keep ?_ _ | with_reducible refine Kp.setW ?_ (by rfl) _), ?_⟩
      exact ((by repeat first | exact Kp.refl | assumption | with_reducible refine Kp.put ?_ (by omega) _ | with_reducible refine Kp.setN ?_ (by omega) _ | with_reducible refine Kp.keep ?_ _ | with_reducible refine Kp.setW ?_ (by rfl) _) : Kp (fun _ => False) h _).mono fun _ _ h => h.elim
    · have hvz : ¬ s.ct.value = 0 := hz1
      (refine go ?_)
      refine WL.call rfl (by first | exact True.intro | exact rfl) gSL (log_Get_ae hg.w hs.fit (by omega) hs.dat ca1 s.ct.value (by omega)) ?_
      have h1 : s.loadE md = if s.getE md s.ct.value ≠ 0 then s.getE md s.ct.value else s.readE md (s.ct.value % 2) (s.getT md s.ct.value).g := by rw [WS.loadE, hgo]; simp [hvz]
      have h2 : s.loadL md = if s.getE md s.ct.value ≠ 0 then [] else s.readL md (s.ct.value % 2) (s.getT md s.ct.value).g := by rw [WS.loadL, hgo]; simp [hvz]
      have h3 : s.loadS md = if s.getE md s.ct.value ≠ 0 then s else s.readS md (s.ct.value % 2) := by rw [WS.loadS, hgo]; simp [hvz]
      rw [h1, h2, h3]
      generalize s.getT md s.ct.value = R at *
      generalize s.getE md s.ct.value = G at *
      clear h1 h2 h3
      (refine go ?_)
      (refine WW.ifB rfl (fun hz2 => ?_) (fun hz2 => ?_))
      · rw [if_pos hz2, if_pos hz2, if_pos hz2]
        (refine go ?_)
        refine WW.cvt (Cvt.sub1 (s := 2) (v := .imm 8 []) rfl SubV.nil) ?_
        refine WW.ret ⟨.inl rfl, _, gRES, rfl, hg.new (by repeat first | exact Kp.refl | assumption | with_reducible refine Kp.put ?_ (by omega) _ | with_reducible refine Kp.setN ?_ (by omega) _ | with_reducible refine Kp.keep ?_ _ | with_reducible refine Kp.setW ?_ (by rfl) _), ?_⟩
        exact ((by repeat first | exact Kp.refl | assumption | with_reducible refine Kp.put ?_ (by omega) _ | with_reducible refine Kp.setN ?_ (by omega) _ | with_reducible refine Kp.keep ?_ _ | with_reducible refine Kp.setW ?_ (by rfl) _) : Kp (fun _ => False) h _).mono fun _ _ h => h.elim
      · have hG0 : ¬ G ≠ 0 := by simpa using hz2
        rw [if_neg hG0, if_neg hG0, if_neg hG0]
        refine WW.named (fun h3 => WG md h3 n s ∧ Kp (fun _ => False) h h3 ∧ h3.get h.next = some (.mem 5 [encRt R])) ⟨hg.new (by repeat first | exact Kp.refl | assumption | with_reducible refine Kp.put ?_ (by omega) _ | with_reducible refine Kp.setN ?_ (by omega) _ | with_reducible refine Kp.keep ?_ _ | with_reducible refine Kp.setW ?_ (by rfl) _), (by repeat first | exact Kp.refl | assumption | with_reducible refine Kp.put ?_ (by omega) _ | with_reducible refine Kp.setN ?_ (by omega) _ | with_reducible refine Kp.keep ?_ _ | with_reducible refine Kp.setW ?_ (by rfl) _), gH⟩ ?_
        rintro h3 ⟨g3, k3, q3⟩
        (refine go ?_)
        have hmod : s.ct.value.tmod 2 = s.ct.value % 2 := Int.tmod_eq_emod_of_nonneg (by omega)
        rw [hmod, wrap_in (k := .i64) (n := s.ct.value % 2) (by constructor <;> omega)]
        refine WL.callA rfl (by first | exact True.intro | exact rfl) gSL (area_Read_ac g3 hs.fit (by omega) (s.ct.value % 2) (by omega) R.g) ?_
        rintro _ h4 ⟨rfl, g4, k4⟩
        (refine go ?_)
        exact WW.ret ⟨.inl rfl, _, gRES, rfl, g4, (k3.mono fun _ _ h => h.elim).trans k4⟩
end Go.Proofs.YtjehfcjfnmcjcaaGreat


namespace Go.Proofs.YtjehfcjfnmcjcaaGreat
open Go Go.Abs

set_option maxHeartbeats 1000000 in
theorem law23_some_ae (n : Nat) (hn : n ≤ 1000) (K T : List Int) (hK : K.length ≤ maxLen) (hT : T.length ≤ maxLen) (h : AHeap) : AE Tryz.prog 18 [.int .i64 n, .imm 1 (K.map encJ), .imm 1 (T.map encU)] h (.imm 8 ((someL n K T).map encL)) h := by
  refine AE.pureW is_law23_some (by simp) ?_
  unfold c_law23_some
  (refine go ?_)
  rw [show List.replicate n [AV.int .i64 0, .bool false, .int .i64 0, .int .u32 0, .int .u32 0, .int .u64 0, .int .u64 0, .int .u64 0] = (partL n K T 0).map encL from partL_zero n K T]
  refine WW.loopE (fun (i : Nat) => [(0, some (.int .i64 n)), (1, some (.imm 1 (K.map encJ))), (2, some (.imm 1 (T.map encU))), (7, some (.ref h.next 0 n)), (8, some (.int .i64 i))])
    (fun i h' => h' = h.put h.next (.mem 8 ((partL n K T i).map encL)) ∧ i ≤ n) (fun i => n - i) 0 gSUB ⟨rfl, Nat.zero_le _⟩ ?_
  rintro i _ ⟨rfl, g2⟩
  have hpl := partL_len n K T i
  (refine go ?_)
  (refine WW.ifB rfl (fun hz1 => ?_) (fun hz1 => ?_))
  · have hi : i < n := by omega
    (refine go ?_)
    refine WW.thenI (fun e' F' => subE [(0, some (.int .i64 n)), (1, some (.imm 1 (K.map encJ))), (2, some (.imm 1 (T.map encU))), (7, some (.ref h.next 0 n)), (8, some (.int .i64 i)), (9, some (.int .i64 (pick K i))), (10, some (.int .u64 0))] e' ∧ F' = h.put h.next (.mem 8 ((partL n K T i).map encL))) ?_ ?_
    · (refine WW.ifB rfl (fun hz2 => ?_) (fun hz2 => ?_))
      · have hm : i % K.length < K.length := Nat.mod_lt _ (by omega)
        have hmod : ((i : Int) % (K.length : Int)) = ((i % K.length : Nat) : Int) := by simp
        (refine go ?_)
        rw [Int.natAbs_natCast]
        refine WL.go (hs := Stp.loadi rfl (map_at (List.getElem?_eq_getElem hm)) (by first | exact getC_at rfl rfl | exact getC_all rfl | exact getC_sub (Nat.le_of_ble_eq_true rfl) (by first | (simp only [putC, AV.cs, encP, encN, encI, encS, encA, List.take_succ_cons, List.take_zero, List.take_nil, List.drop_succ_cons, List.drop_zero, List.drop_nil, List.cons_append, List.nil_append, List.append_nil, List.length_cons, List.length_nil, Nat.zero_add, Nat.add_zero, Nat.reduceAdd]; exact rfl) | exact rfl) | exact getC_sub (by simp) (by first | (simp only [putC, AV.cs, encP, encN, encI, encS, encA, List.take_succ_cons, List.take_zero, List.take_nil, List.drop_succ_cons, List.drop_zero, List.drop_nil, List.cons_append, List.nil_append, List.append_nil, List.length_cons, List.length_nil, Nat.zero_add, Nat.add_zero, Nat.reduceAdd]; exact rfl) | exact rfl)) (by first | exact True.intro | exact rfl)) ?_
        rw [pick_at i hm]
        (refine go ?_)
        exact ⟨rfl, gSUB, rfl⟩
      · rw [pick_nil (by omega)]
        (refine go ?_)
        exact ⟨rfl, gSUB, rfl⟩
    rintro e7 _ ⟨hs7, rfl⟩
    refine WW.cvt (Cvt.sub hs7) ?_
    clear hs7
    (refine go ?_)
    refine WW.thenI (fun e' F' => subE [(0, some (.int .i64 n)), (1, some (.imm 1 (K.map encJ))), (2, some (.imm 1 (T.map encU))), (7, some (.ref h.next 0 n)), (8, some (.int .i64 i)), (9, some (.int .i64 (pick K i))), (10, some (.int .u64 (pick T i)))] e' ∧ F' = h.put h.next (.mem 8 ((partL n K T i).map encL))) ?_ ?_
    · (refine WW.ifB rfl (fun hz3 => ?_) (fun hz3 => ?_))
      · have hm : i % T.length < T.length := Nat.mod_lt _ (by omega)
        (refine go ?_)
        rw [Int.natAbs_natCast]
        refine WL.go (hs := Stp.loadi rfl (map_at (List.getElem?_eq_getElem hm)) (by first | exact getC_at rfl rfl | exact getC_all rfl | exact getC_sub (Nat.le_of_ble_eq_true rfl) (by first | (simp only [putC, AV.cs, encP, encN, encI, encS, encA, List.take_succ_cons, List.take_zero, List.take_nil, List.drop_succ_cons, List.drop_zero, List.drop_nil, List.cons_append, List.nil_append, List.append_nil, List.length_cons, List.length_nil, Nat.zero_add, Nat.add_zero, Nat.reduceAdd]; exact rfl) | exact rfl) | exact getC_sub (by simp) (by first | (simp only [putC, AV.cs, encP, encN, encI, encS, encA, List.take_succ_cons, List.take_zero, List.take_nil, List.drop_succ_cons, List.drop_zero, List.drop_nil, List.cons_append, List.nil_append, List.append_nil, List.length_cons, List.length_nil, Nat.zero_add, Nat.add_zero, Nat.reduceAdd]; exact rfl) | exact rfl)) (by first | exact True.intro | exact rfl)) ?_
        rw [pick_at i hm]
        (refine go ?_)
        exact ⟨rfl, gSUB, rfl⟩
      · rw [pick_nil (K := T) (by omega)]
        (refine go ?_)
        exact ⟨rfl, gSUB, rfl⟩
    rintro e7 _ ⟨hs7, rfl⟩
    refine WW.cvt (Cvt.sub hs7) ?_
    clear hs7
    obtain ⟨c, hc, hb⟩ := and3 (pick K i)
    (refine go ?_)
    rw [hb]
    have hfit : i < (partL n K T i).length := by omega
    have hd : ∀ x : Lf, List.drop 8 (encL x) = [] := fun _ => rfl
    have hc4 : c = 0 ∨ c = 1 ∨ c = 2 ∨ c = 3 := by omega
    rcases hc4 with rfl | rfl | rfl | rfl
    · (refine go ?_)
      refine ⟨i + 1, gSUB, ⟨?_, by omega⟩, by omega⟩
      rw [partL_next n K T i (by simp [someF, hb])]
    · (refine go ?_)
      refine ⟨i + 1, gSUB, ⟨?_, by omega⟩, by omega⟩
      rw [← partL_set, hd, Nat.zero_add, put_set, show encL (someF K T i) = [.int .i64 2, .bool true, .int .i64 i, .int .u32 0, .int .u32 0, .int .u64 0, .int .u64 0, .int .u64 0] by simp [someF, hb, encL]]
    · (refine go ?_)
      refine ⟨i + 1, gSUB, ⟨?_, by omega⟩, by omega⟩
      rw [← partL_set, hd, Nat.zero_add, put_set, show encL (someF K T i) = [.int .i64 1, .bool (bits .and .i64 (pick K i) 3 == 2), .int .i64 ((i : Int) + 16), .int .u32 1, .int .u32 i, .int .u64 (pick T i), .int .u64 (pick T i), .int .u64 i] by simp [someF, hb, encL]]
    · (refine go ?_)
      refine ⟨i + 1, gSUB, ⟨?_, by omega⟩, by omega⟩
      rw [← partL_set, hd, Nat.zero_add, put_set, show encL (someF K T i) = [.int .i64 1, .bool (bits .and .i64 (pick K i) 3 == 2), .int .i64 ((i : Int) + 16), .int .u32 1, .int .u32 i, .int .u64 (pick T i), .int .u64 (pick T i), .int .u64 i] by simp [someF, hb, encL]]
  · have hi : i = n := by omega
    subst hi
    (refine go ?_)
    refine WW.ret (PureQ.finD ?_)
    exact fz_ref gH (Nat.le_refl _) (by simp [hpl]) (by rw [partL_end]) flatC_L
theorem wst0 (md : Bool) {m : Nat} (hG : isG m = true) (seed : Int) : WSt md (ws0 m seed) 0 := by
  have h := lst0 md hG seed
  exact ⟨h.fit, h.cur, h.seq, h.dat, ⟨by simp [ws0], by simp [ws0], by simp [ws0]⟩⟩
theorem wf0 : ∀ x ∈ List.replicate 4 lf0, x.Wf := by intro x hx; obtain ⟨_, rfl⟩ := List.mem_replicate.1 hx; constructor <;> decide
set_option maxHeartbeats 1000000 in
theorem law23_known_ae (h : AHeap) : AE Tryz.prog 22 [] h (.bool true) h := by
  refine AE.pureW is_law23_known (by simp) ?_
  unfold c_law23_known
  (refine go ?_)
  refine WL.callA rfl (by first | exact True.intro | exact rfl) gSL (world_NewG_ac true 4 rfl 1 h) ?_
  rintro _ h1 ⟨n, rfl, g1, hn, k1⟩
  have hx1 := k1.next
  have hnm : ∀ id, n.own true id → h.next ≤ id := fun id hi => hn id (.inl (WN.own_all hi))
  (refine go ?_)
  refine WL.call rfl (by first | exact True.intro | exact rfl) gSL (nonce_New_ae rfl 0 (by decide)) ?_
  have hmk : ¬ n.nm true h1.next := fun hi => by have := (g1.us _ hi).1; omega
  refine WL.named (fun h2 => WG true h2 n (ws0 4 1) ∧ Kp (fun id => h.next ≤ id) h h2 ∧ BoxAt h2 h1.next (mkO 0 0)) ⟨g1.new (by repeat first | exact Kp.refl | assumption | with_reducible refine Kp.put ?_ (by omega) _ | with_reducible refine Kp.setN ?_ (by omega) _ | with_reducible refine Kp.keep ?_ _ | with_reducible refine Kp.setW ?_ (by rfl) _), (by repeat first | exact Kp.refl | assumption | with_reducible refine Kp.put ?_ (by omega) _ | with_reducible refine Kp.setN ?_ (by omega) _ | with_reducible refine Kp.keep ?_ _ | with_reducible refine Kp.setW ?_ (by rfl) _), ⟨put_used_nm, gH⟩⟩ ?_
  generalize h1.next = mk at *
  clear g1 k1
  rintro h2 ⟨g2, k2, b2⟩
  have hx2 := k2.next
  (refine go ?_)
  refine WL.cvt (Cvt.frzE (s := 20) (c' := (List.replicate 4 lf0).map encL) rfl gH rfl) ?_
  refine WL.named (fun h3 => WG true h3 n (ws0 4 1) ∧ Kp (fun id => h.next ≤ id) h h3 ∧ BoxAt h3 mk (mkO 0 0)) ⟨g2.new (by repeat first | exact Kp.refl | assumption | with_reducible refine Kp.put ?_ (by omega) _ | with_reducible refine Kp.setN ?_ (by omega) _ | with_reducible refine Kp.keep ?_ _ | with_reducible refine Kp.setW ?_ (by rfl) _), (by repeat first | exact Kp.refl | assumption | with_reducible refine Kp.put ?_ (by omega) _ | with_reducible refine Kp.setN ?_ (by omega) _ | with_reducible refine Kp.keep ?_ _ | with_reducible refine Kp.setW ?_ (by rfl) _), b2.kp (W := fun _ => False) (by repeat first | exact Kp.refl | assumption | with_reducible refine Kp.put ?_ (by omega) _ | with_reducible refine Kp.setN ?_ (by omega) _ | with_reducible refine Kp.keep ?_ _ | with_reducible refine Kp.setW ?_ (by rfl) _) (fun h => h)⟩ ?_
  clear g2 k2 b2 hx2
  rintro h3 ⟨g3, k3, b3⟩
  have S0 := wst0 true (m := 4) rfl 1
  have hf0 := free_ws0 4 1
  have hd := doC_e (md := true) (s := ws0 4 1) (boot := 0) (j := 0) (lv := List.replicate 4 lf0)
  rw [doE_free hf0, if_neg (by decide)] at hd
  have hgd := good_done (md := true) (lv := List.replicate 4 lf0) S0 (by omega) rfl wf0 (by decide) (show (0 : Int) = (ws0 4 1).ct.boots from rfl) (j := 0) (by omega) hd
  have hct := doC_ct (md := true) (s := ws0 4 1) (boot := 0) (j := 0) (lv := List.replicate 4 lf0)
  rw [if_pos hd] at hct
  have hS1 := doC_wst (md := true) (boot := 0) (j := 0) (lv := List.replicate 4 lf0) S0 rfl
  have hf1 := doC_free (md := true) (boot := 0) (j := 0) (lv := List.replicate 4 lf0) hf0
  have hst : ((ws0 4 1).doC true 0 0 (List.replicate 4 lf0)).2.1.pw.steps = 6 := by
    rw [doC_pw hd]; rfl
  have hP := commit_Do_ac g3 S0 (by omega) b3 (by decide) (by omega) hmk (List.replicate 4 lf0) rfl wf0 (by decide)
  rw [hd] at hP
  generalize ((ws0 4 1).doC true 0 0 (List.replicate 4 lf0)).2.2 = j1 at *
  obtain ⟨_, G⟩ := hgd
  have hv1 : (ws0 4 1).ct.value + 1 = ((ws0 4 1).doC true 0 0 (List.replicate 4 lf0)).2.1.ct.value := by rw [hct]; rfl
  rw [hv1] at G
  have hv : ((ws0 4 1).doC true 0 0 (List.replicate 4 lf0)).2.1.ct.value = 1 := by rw [hct]; rfl
  generalize ((ws0 4 1).doC true 0 0 (List.replicate 4 lf0)).2.1 = s1 at *
  refine WL.callA rfl (by first | exact True.intro | exact rfl) gSL (hP) ?_
  rintro _ h4 ⟨rfl, g4, b4, k4⟩
  have k5 : Kp (fun id => h.next ≤ id) h h4 := k3.trans (k4.mono fun id _ hh => hh.elim (hnm id) fun e => by omega)
  obtain ⟨l1, l2⟩ := G.load hS1.fit hf1.g
  clear hd hct S0 hf0 hP g3 k3 b3 k4 hv1 G
  (refine go ?_)
  refine WL.callA rfl (by first | exact True.intro | exact rfl) gSL (commit_Load_ac g4 hS1 (by omega)) ?_
  rintro _ h6 ⟨rfl, g6, k6⟩
  rw [l1, l2]
  have k7 : Kp (fun id => h.next ≤ id) h h6 := k5.trans (k6.mono fun id _ hi => hnm id hi)
  obtain ⟨e1, e2, e3, e4, e5, e6⟩ := loadS_sd true s1
  have hob := g6.w.w
  simp only [wRow] at hob
  have hct6 := g6.w.ct
  have hpw6 := g6.w.sd.pw
  rw [e4] at hct6
  rw [e3] at hpw6
  have kk : Keeps h h6 := k7.keeps fun _ h => h
  (refine go ?_)
  refine WL.call rfl (by first | exact True.intro | exact rfl) gSL (power_Steps_ae hpw6) ?_
  rw [hst]
  (refine go ?_)
  refine WL.call rfl (by first | exact True.intro | exact rfl) gSL (count_Value_ae (p := n.p) hct6) ?_
  rw [hv]
  (refine go ?_)
  refine WW.ret (PureQ.finD ?_)
  exact fz_b rfl
end Go.Proofs.YtjehfcjfnmcjcaaGreat


namespace Go.Proofs.YtjehfcjfnmcjcaaGreat
open Go Go.Abs

section
variable {md : Bool} {s : WS} {boot : Int} {j : Nat} {lv : List Lf}
theorem doC_j1 (hd : (s.doC md boot j lv).1 = 0) : (s.doC md boot j lv).2.2 = j + 1 := by
  revert hd
  exact doC_ind (P := fun d => d.1 = 0 → d.2.2 = j + 1) (fun _ h => by cases h) (fun _ _ h => by cases h) (fun _ _ _ h => by cases h) (fun _ _ _ _ _ => rfl) (fun _ _ _ _ _ _ => rfl) (fun _ _ _ _ _ _ _ => rfl) (fun _ _ _ _ _ _ _ => rfl)
end
/-- A world behind i commits of leaves. -/
structure EndI (lv : List Lf) (i : Nat) (s : WS) (j : Nat) : Prop where
  st : WSt true s (50 * i)
  fr : s.pw.Free
  n : s.n = 4
  jj : j = min i 100
  v : s.ct.value = ((min i 100 : Nat) : Int)
  b : s.ct.boots = 0
  g : 0 < i → ∃ top e v b tg, Good true s lv s.ct.value top e v b tg
theorem EndI.step {lv : List Lf} {i : Nat} {s : WS} {j : Nat} (h : EndI lv i s j) (hi : i < 120) (hl : lv.length = 4) (hw : ∀ x ∈ lv, x.Wf) (hok : lvOk lv 0 = true) :
    (s.doC true 0 j lv).1 = (if i < 100 then 0 else 6) ∧ EndI lv (i + 1) (s.doC true 0 j lv).2.1 (s.doC true 0 j lv).2.2 := by
  have hjj := h.jj
  have hln : (lv.length : Int) = s.n := by rw [hl, h.n]; rfl
  have he := doC_e (md := true) (s := s) (boot := 0) (j := j) (lv := lv)
  rw [doE_free h.fr] at he
  have hct := doC_ct (md := true) (s := s) (boot := 0) (j := j) (lv := lv)
  have hst := (doC_wst (md := true) (boot := 0) (j := j) h.st hln).mono (k' := 50 * (i + 1)) (by omega)
  have hfr := doC_free (md := true) (boot := 0) (j := j) (lv := lv) h.fr
  have hn := (doC_n (md := true) (s := s) (boot := 0) (j := j) (lv := lv)).1.trans h.n
  by_cases h100 : i < 100
  · rw [if_neg (by omega)] at he
    rw [he, if_pos rfl] at hct
    obtain ⟨_, G⟩ := good_done (md := true) h.st (by omega) hln hw hok h.b.symm (by omega) he
    have hv : (s.doC true 0 j lv).2.1.ct.value = s.ct.value + 1 := by rw [hct]; rfl
    have hhv := h.v
    refine ⟨by rw [if_pos h100, he], hst, hfr, hn, by rw [doC_j1 he]; omega, by rw [hv]; omega, by rw [hct]; exact h.b, fun _ => ?_⟩
    rw [hv]
    exact ⟨_, _, _, _, _, G⟩
  · have hj : j = 100 := by omega
    rw [if_pos hj] at he
    have hj2 := doC_j (md := true) (s := s) (boot := 0) (j := j) (lv := lv) (by omega)
    rw [he, if_neg (by decide)] at hct
    obtain ⟨top, e, v, b, tg, G⟩ := h.g (by omega)
    have G2 := G.undone (lw := lv) (boot := 0) (j := j) h.st hln (by rw [he]; decide)
    have hhv := h.v
    refine ⟨by rw [if_neg h100, he], hst, hfr, hn, by omega, by rw [hct]; omega, by rw [hct]; exact h.b, fun _ => ?_⟩
    rw [hct]
    exact ⟨_, _, _, _, _, G2⟩
end Go.Proofs.YtjehfcjfnmcjcaaGreat


namespace Go.Proofs.YtjehfcjfnmcjcaaGreat
open Go Go.Abs

theorem WSt.crash {md : Bool} {s : WS} {k : Nat} (h : WSt md s k) (K : Nat → Bool) : WSt md (s.crash K) k := by
  have hl := settle_len K s.sd.lasts.length s.sd.waits 0 s.sd.lasts (fun y hy => by have := h.fit.sd.w y hy; rw [h.fit.sd.len]; exact this) rfl
  obtain ⟨p1, p2, p3, p4⟩ := h.fit.pw
  refine ⟨⟨h.fit.g, ⟨fun hh => by simp [WS.crash] at hh, p2, p3, p4⟩, ⟨?_, fun y hy => by simp [WS.crash, SdS.settle] at hy, Nat.zero_le _, h.fit.sd.kt⟩, h.fit.ss, h.fit.ll⟩, h.cur, h.seq, h.dat, h.ct⟩
  show (settleF K 0 s.sd.waits s.sd.lasts).length = _
  rw [hl, h.fit.sd.len]; rfl
theorem doC_dk {md : Bool} {s : WS} {boot : Int} {j : Nat} {lv : List Lf} : (s.doC md boot j lv).2.1.dk = s.dk := by
  have e : (s.areaW md s.doA lv).dk = s.dk := by rw [WS.areaW]; split <;> rfl
  exact doC_ind (P := fun d => d.2.1.dk = s.dk) (fun _ => e) (fun _ _ => e) (fun _ _ _ => e) (fun _ _ _ _ => e) (fun _ _ _ _ _ => e) (fun _ _ _ _ _ _ => e) (fun _ _ _ _ _ _ => e)
theorem crash_ac {md : Bool} {h : AHeap} {n : WN} {s : WS} {k : Nat} (hg : WG md h n s) (hs : s.Fit k) (hk : k ≤ 9000) (hd : s.dk.waits = []) (keep : List Bool) (hkl : keep.length ≤ 9223372036854775807) :
    AC Tryz.prog 23 [.ptr (n.a + 10) 0 0, .imm 1 (keep.map encBo)] h (fun r h' => r = .tup [] ∧ WG md h' n (s.crash (keepF keep)) ∧ Kp (n.own md) h h') := by
  have hgg := isG_cases hs.g
  have hll : s.sd.lasts.length = (s.n * 160 + 120).toNat := by rw [hs.sd.len, sizeG_pos hs.g]
  have hfit : ∀ o ∈ s.sd.waits, 0 ≤ o.1 ∧ o.1 + o.2.length ≤ s.sd.lasts.length := fun o ho => by have := hs.sd.w o ho; rw [sizeG_pos hs.g] at this; omega
  refine (world_Crash_ac hg.w (by omega) (Nat.le_trans hs.sd.kw (by omega)) hfit (by rw [hd]; decide) (by rw [hd]; simp) keep hkl).mono ?_
  rintro _ h' ⟨rfl, w, kp⟩
  exact ⟨rfl, hg.step w kp, kp⟩
def WS.fused (s : WS) (m : Int) : WS := { s with pw := { s.pw with fuse := decide (0 ≤ m), left := m } }
theorem WSt.fused {md : Bool} {s : WS} {k : Nat} (h : WSt md s k) (m : Int) (hm : -9223372036854775808 ≤ m ∧ m ≤ 9223372036854775807) : WSt md (s.fused m) k := by
  obtain ⟨p1, p2, p3, p4⟩ := h.fit.pw
  exact ⟨⟨h.fit.g, ⟨fun hh => by simpa [WS.fused] using hh, hm, p3, p4⟩, h.fit.sd, h.fit.ss, h.fit.ll⟩, h.cur, h.seq, h.dat, h.ct⟩
end Go.Proofs.YtjehfcjfnmcjcaaGreat


namespace Go.Proofs.YtjehfcjfnmcjcaaGreat
open Go Go.Abs

def WS.back (s : WS) (b : Bs) : WS := { s with sd := { s.sd with lasts := b, waits := [], gen := s.sd.gen + 1 } }
theorem fit_back {s : WS} {k : Nat} (hs : s.Fit k) {b : Bs} (hb : b.length = s.sd.lasts.length) : (s.back b).Fit k :=
  ⟨hs.g, hs.pw, ⟨hb.trans hs.sd.len, fun y hy => by simp [WS.back] at hy, Nat.zero_le _, hs.sd.kt⟩, hs.ss, hs.ll⟩
theorem WSt.back {md : Bool} {s : WS} {k : Nat} (h : WSt md s k) {b : Bs} (hb : b.length = s.sd.lasts.length) : WSt md (s.back b) k := ⟨fit_back h.fit hb, h.cur, h.seq, h.dat, h.ct⟩
theorem snap_ae {md : Bool} {h : AHeap} {n : WN} {s : WS} {k : Nat} (hg : WG md h n s) (hs : s.Fit k) (hk : k ≤ 9000) : AE Tryz.prog 26 [.ptr (n.a + 1) 0 0] h (.imm 1 (s.sd.snap.map encB)) h := by
  have hgg := isG_cases hs.g
  have hll : s.sd.lasts.length = (s.n * 160 + 120).toNat := by rw [hs.sd.len, sizeG_pos hs.g]
  have hfit : ∀ o ∈ s.sd.waits, 0 ≤ o.1 ∧ o.1 + o.2.length ≤ s.sd.lasts.length := fun o ho => by have := hs.sd.w o ho; rw [sizeG_pos hs.g] at this; omega
  exact ssd_Snap_ae hg.w.sd (by omega) (fun e => by rw [e] at hll; simp at hll; omega) (Nat.le_trans hs.sd.kw (by omega)) hfit
set_option maxHeartbeats 1000000 in
theorem ssd_Back_ac {md : Bool} {h : AHeap} {n : WN} {s : WS} {k : Nat} (hg : WG md h n s) (hs : s.Fit k) {b : Bs} (hb : b.length = s.sd.lasts.length) :
    AC Tryz.prog 27 [.ptr (n.a + 1) 0 0, .imm 1 (b.map encB)] h (fun r h' => r = .bool true ∧ ∃ B, h.next ≤ B ∧ WG md h' { n with B := B } (s.back b) ∧ Kp (n.own md) h h') := by
  refine AC.introW is_ssd_SSD_Back (by simp) ?_
  unfold c_ssd_SSD_Back
  have hgg := isG_cases hs.g
  have hll : s.sd.lasts.length = (s.n * 160 + 120).toNat := by rw [hs.sd.len, sizeG_pos hs.g]
  have hne : b ≠ [] := fun e => by rw [e] at hb; simp at hb; omega
  obtain ⟨q1, q2, q3, q4, q5, q6⟩ := hg.w.sd
  simp only [SdS.obj] at q2
  have hna : n.a + 11 ≤ h.next := hg.w.nx
  have hnB : n.B < h.next := hg.w.nB
  have hoB := hg.w.oB
  have hop := hg.w.op
  obtain ⟨nx, hnx⟩ : ∃ nx, h.next = nx := ⟨_, rfl⟩
  have q0 := hg.w.sd.ob
  (refine go ?_)
  refine WL.call rfl (by first | exact True.intro | exact rfl) gSL (ssd_Size_ae q0) ?_
  (refine go ?_)
  (refine WW.ifB rfl (fun hz1 => ?_) (fun hz1 => ?_))
  · exfalso; simp at hz1; omega
  (repeat first | refine WW.seq ?_ | refine WW.reg ?_ | refine WL.nil ?_ | refine WW.skip ?_ | refine WW.block ?_ | refine thenN ?_ | refine blkN ?_); iterate 4 (refine WL.go ?_)
  refine WL.fx1 (FX.appM (nm := h.next) (c := b.map encB) (fun hu => Nat.lt_irrefl _ hu.1) rfl rfl rfl (by simpa using hne) (by simp; omega) (by first | exact True.intro | exact rfl)) ?_
  rw [List.length_map]
  (repeat first | refine WW.seq ?_ | refine WW.reg ?_ | refine WL.nil ?_ | refine WW.skip ?_ | refine WW.block ?_ | refine thenN ?_ | refine blkN ?_); iterate 6 (refine WL.go ?_)
  refine WL.cvt (Cvt.anewM 2 (id := n.a + 1) (i := 0) (j := 2) (t := n.a + 2) (g := s.sd.gen) (n := s.sd.waits.length) gH gH rfl rfl) ?_
  (refine go ?_)
  rw [show ([] : List (List AV)) = [] from rfl]
  refine WW.named (fun h2 => Kp (n.own md) h h2 ∧ BoxAt h2 h.next (.mem 1 (b.map encB)) ∧ h2.get (n.a + 1) = some ((s.back b).sd.obj { n with B := h.next }.sdN) ∧ h2.get (n.a + 2) = some (.tail (s.sd.gen + 1) 0) ∧ (∀ id, id < h.next → id ≠ n.a + 1 → id ≠ n.a + 2 → h2.get id = h.get id) ∧ h.next < h2.next) ⟨?_, ⟨?_, gH⟩, ?_, gH, fun id i1 i2 i3 => gE, ?_⟩ ?_
  · repeat first | exact Kp.refl | refine Kp.put ?_ (Nat.le_refl _) _ | refine Kp.setW ?_ (.inr (.inl (.inl ⟨by omega, by omega⟩))) _
  · exact put_used_nm (x := .tail 0 0)
  · have ho : (s.back b).sd.obj { n with B := h.next }.sdN = .mem 4 [[.ptr n.p 0 0, .ref h.next 0 b.length, .app (n.a + 2) (s.sd.gen + 1) 2 [], .app (n.a + 3) 0 2 (s.sd.trace.map encO)]] := rfl
    rw [ho]; exact gH
  · exact (leN gN (by omega))
  rintro h2 ⟨k2, b2, g1, g2, gr, hx2⟩
  have hn' : ∀ id, n.all md id → id ≠ n.a + 1 → id ≠ n.a + 2 → h2.get id = h.get id := fun id hi => gr id (hg.w.lt hi)
  have hw := hg.w
  have ga : ∀ i, 2 < i ∧ i < 11 → h2.get (n.a + i) = h.get (n.a + i) := fun i hi => hn' _ (.inr (.inr (.inl (by omega)))) (by omega) (by omega)
  have hlk : h2.get n.l = h.get n.l := hn' _ (.inr (.inl rfl)) (by have := hw.ol; omega) (by have := hw.ol; omega)
  refine WW.ret ⟨.inl rfl, _, gRES, rfl, h.next, Nat.le_refl _, ⟨⟨⟨?_, g1, b2.g, g2, ?_, by dsimp only; omega⟩, hw.dk.same ?_ (ga 4 (by omega)) (ga 5 (by omega)) (ga 6 (by omega)), (ga 7 (by omega)).trans hw.ct, hw.ks.same (ga 9 (by omega)) (ga 8 (by omega)), (ga 10 (by omega)).trans hw.w, hw.lk.same hlk fun e => ⟨?_, ?_, ?_⟩, hw.op, hw.ol, hw.oo, by dsimp only; omega, .inr (by dsimp only; omega), hx2⟩, fun id hi => ?_, fun e => ?_⟩, k2⟩
  · exact (hn' _ (.inl rfl) (by omega) (by omega)).trans q1
  · exact (ga 3 (by omega)).trans q5
  · exact hn' _ (.inl rfl) (by dsimp only; omega) (by dsimp only; omega)
  · have := (hw.oo e).1; exact hn' _ (.inr (.inr (.inr ⟨e, .inl rfl⟩))) (by omega) (by omega)
  · have := (hw.oo e).2.1; exact hn' _ (.inr (.inr (.inr ⟨e, .inr (.inl rfl)⟩))) (by omega) (by omega)
  · have := (hw.oo e).2.2; exact hn' _ (.inr (.inr (.inr ⟨e, .inr (.inr rfl)⟩))) (by omega) (by omega)
  · by_cases hid : id = h.next
    · subst hid; exact b2.u
    · refine k2.us id (hg.us id ?_)
      rcases hi with hi | hi
      · rcases hi with hi | hi | hi | hi
        · exact .inl (.inl hi)
        · exact .inl (.inr (.inl hi))
        · exact .inl (.inr (.inr (.inl (hi.elim .inl fun e => absurd e hid))))
        · exact .inl (.inr (.inr (.inr hi)))
      · exact .inr hi
  · have hq := hg.qn e
    have hu := hg.us n.q (.inr rfl)
    refine (gr n.q hu.1 (fun e2 => ?_) (fun e2 => ?_)).trans hq
    · rw [e2] at hq; rw [show h.get (n.a + 1) = _ from q2] at hq; cases hq
    · rw [e2] at hq; rw [show h.get (n.a + 2) = _ from q4] at hq; cases hq
end Go.Proofs.YtjehfcjfnmcjcaaGreat


namespace Go.Proofs.YtjehfcjfnmcjcaaGreat
open Go Go.Abs

def WS.bootS (s : WS) : WS := { s with pw := s.pw.spend, ct := s.ct.boot s.pw.can }
theorem WSt.boot {md : Bool} {s : WS} {k : Nat} (h : WSt md s k) : WSt md s.bootS (k + 1) :=
  ⟨⟨h.fit.g, h.fit.pw.spend, h.fit.sd.mono (by omega), Nat.le_succ_of_le h.fit.ss, Nat.le_succ_of_le h.fit.ll⟩, h.cur, h.seq, h.dat, h.ct.boot _⟩
theorem boot_ct {s : WS} (h : s.pw.Free) : s.bootS.ct = ⟨s.ct.value, s.ct.boots + 1, s.ct.at'⟩ := by rw [WS.bootS, h.can]; rfl
theorem crash_free (s : WS) (K : Nat → Bool) : (s.crash K).pw.Free := ⟨rfl, rfl⟩
end Go.Proofs.YtjehfcjfnmcjcaaGreat


namespace Go.Proofs.YtjehfcjfnmcjcaaGreat
open Go Go.Abs

theorem boot_ae {md : Bool} {h : AHeap} {n : WN} {s : WS} {k : Nat} (hg : WG md h n s) (hs : WSt md s k) (hk : k ≤ 9000) : AE Tryz.prog 24 [.ptr (n.a + 7) 0 0] h (.bool s.pw.can) ((h.set n.p (some (.mem 4 [s.pw.spend.row]))).set (n.a + 7) (some ((s.ct.boot s.pw.can).obj n.p))) :=
  count_Boot_ae (p := n.p) hg.w.sd.pw hg.w.ct hs.fit.pw hs.ct (by omega)
theorem WG.boot {md : Bool} {h : AHeap} {n : WN} {s : WS} (hg : WG md h n s) : WG md ((h.set n.p (some (.mem 4 [s.pw.spend.row]))).set (n.a + 7) (some ((s.ct.boot s.pw.can).obj n.p))) n s.bootS := hg.step (hg.w.putCt _ _) (kp_ct n _ _)
end Go.Proofs.YtjehfcjfnmcjcaaGreat


namespace Go.Proofs.YtjehfcjfnmcjcaaGreat
open Go Go.Abs

/-- What a commit adds to what was sealed. -/
theorem doC_L {s : WS} {boot : Int} {j : Nat} {lv : List Lf} : ∀ x ∈ (s.doC true boot j lv).2.1.L, x ∈ s.L ∨ (x.n.2.2 = boot * 4294967296 + ((j + 1 : Nat) : Int) ∧ x.data = rootB (s.doR true lv)) := by
  obtain ⟨_, e2, _, _⟩ := areaW_ks true s s.doA lv
  have a1 : ∀ x ∈ (s.areaW true s.doA lv).L, x ∈ s.L ∨ (x.n.2.2 = boot * 4294967296 + ((j + 1 : Nat) : Int) ∧ x.data = rootB (s.doR true lv)) := fun x hx => by rw [e2] at hx; exact .inl hx
  have a3 : ∀ x ∈ ((s.areaW true s.doA lv).barS.logW true boot j (s.doR true lv)).L, x ∈ s.L ∨ (x.n.2.2 = boot * 4294967296 + ((j + 1 : Nat) : Int) ∧ x.data = rootB (s.doR true lv)) := by
    have := sealL_mem (md := true) (L := (s.areaW true s.doA lv).barS.L) (k := (s.areaW true s.doA lv).barS.key) (n := (s.areaW true s.doA lv).barS.logN boot j) (hd := []) (d := rootB (s.doR true lv)) (P := fun x => x ∈ s.L ∨ (x.n.2.2 = boot * 4294967296 + ((j + 1 : Nat) : Int) ∧ x.data = rootB (s.doR true lv))) a1 (.inr ⟨rfl, rfl⟩)
    exact this
  exact doC_ind (P := fun d => ∀ x ∈ d.2.1.L, x ∈ s.L ∨ (x.n.2.2 = boot * 4294967296 + ((j + 1 : Nat) : Int) ∧ x.data = rootB (s.doR true lv))) (fun _ => a1) (fun _ _ => a1) (fun _ _ _ => a1) (fun _ _ _ _ => a3) (fun _ _ _ _ _ => a3) (fun _ _ _ _ _ _ => a3) (fun _ _ _ _ _ _ => a3)
/-- The last commit, and that the number of its boot is its alone. -/
def LastC (s : WS) (want : List Lf) : Prop :=
  (s.ct.value = 0 ∧ want = List.replicate 4 lf0) ∨ ∃ top e v b tg, Good true s want s.ct.value top e v b tg ∧ ∀ x ∈ s.L, x.n.2.2 / 4294967296 = s.ct.at' → x.data = rootB ⟨s.ct.value, e, s.n, top⟩
structure FoeI (i : Nat) (s : WS) (want : List Lf) : Prop where
  st : WSt true s (60 * i)
  fr : s.pw.Free
  n : s.n = 4
  dk : s.dk.waits = []
  b : s.ct.boots = i
  a : s.ct.at' ≤ i
  one : ∀ x ∈ s.L, x.n.2.2 / 4294967296 ≤ i
  w : want.length = 4
  g : LastC s want
theorem foe0 : FoeI 0 (ws0 4 9) (List.replicate 4 lf0) :=
  ⟨wst0 true (m := 4) rfl 9, free_ws0 4 9, rfl, rfl, rfl, by decide, fun x hx => (by cases hx), rfl, .inl ⟨rfl, rfl⟩⟩
theorem fused_ct (s : WS) (m : Int) : (s.fused m).ct = s.ct := rfl
theorem FoeI.step {i : Nat} {s : WS} {want lv : List Lf} (h : FoeI i s want) (hi : i < 12) (m : Int) (hm : -9223372036854775808 ≤ m ∧ m ≤ 9223372036854775807) (hl : lv.length = 4) (hw : ∀ x ∈ lv, x.Wf) (hok : lvOk lv 0 = true) (K : Nat → Bool) :
    WSt true (s.bootS.fused m) (60 * i + 1) ∧ FoeI (i + 1) (((s.bootS.fused m).doC true ((i + 1 : Nat) : Int) 0 lv).2.1.crash K) (if s.ct.value < ((s.bootS.fused m).doC true ((i + 1 : Nat) : Int) 0 lv).2.1.ct.value then lv else want) ∧ WSt true ((s.bootS.fused m).doC true ((i + 1 : Nat) : Int) 0 lv).2.1 (60 * i + 51) ∧ ((s.bootS.fused m).doC true ((i + 1 : Nat) : Int) 0 lv).2.1.dk.waits = [] ∧ ((s.bootS.fused m).doC true ((i + 1 : Nat) : Int) 0 lv).2.1.n = 4 := by
  have S1 : WSt true (s.bootS.fused m) (60 * i + 1) := h.st.boot.fused m hm
  have hb : (s.bootS.fused m).ct = ⟨s.ct.value, s.ct.boots + 1, s.ct.at'⟩ := boot_ct h.fr
  have hln : (lv.length : Int) = (s.bootS.fused m).n := by rw [hl]; exact h.n.symm
  have S2 := doC_wst (md := true) (boot := ((i + 1 : Nat) : Int)) (j := 0) S1 hln
  have hdk : ((s.bootS.fused m).doC true ((i + 1 : Nat) : Int) 0 lv).2.1.dk.waits = [] := by rw [doC_dk]; exact h.dk
  have hn2 := (doC_n (md := true) (s := s.bootS.fused m) (boot := ((i + 1 : Nat) : Int)) (j := 0) (lv := lv)).1
  have hn4 : ((s.bootS.fused m).doC true ((i + 1 : Nat) : Int) 0 lv).2.1.n = 4 := hn2.trans h.n
  have hL := doC_L (s := s.bootS.fused m) (boot := ((i + 1 : Nat) : Int)) (j := 0) (lv := lv)
  have hct := doC_ct (md := true) (s := s.bootS.fused m) (boot := ((i + 1 : Nat) : Int)) (j := 0) (lv := lv)
  have hbb := h.b
  have hone := h.one
  have haa := h.a
  have hq : (((i + 1 : Nat) : Int) * 4294967296 + ((0 + 1 : Nat) : Int)) / 4294967296 = i + 1 := by omega
  have hLs : (s.bootS.fused m).L = s.L := rfl
  rw [hLs] at hL
  have hone2 : ∀ x ∈ ((s.bootS.fused m).doC true ((i + 1 : Nat) : Int) 0 lv).2.1.L, x.n.2.2 / 4294967296 ≤ ((i + 1 : Nat) : Int) := fun x hx => by
    rcases hL x hx with hx | ⟨hx, _⟩
    · have := hone x hx; omega
    · rw [hx, hq]; omega
  refine ⟨S1, ?_, S2, hdk, hn4⟩
  by_cases hd : ((s.bootS.fused m).doC true ((i + 1 : Nat) : Int) 0 lv).1 = 0
  · rw [if_pos hd, hb] at hct
    obtain ⟨_, G⟩ := good_done (md := true) (lv := lv) S1 (by omega) hln hw hok (show ((i + 1 : Nat) : Int) = (s.bootS.fused m).ct.boots by rw [hb]; dsimp only; omega) (j := 0) (by omega) hd
    have hv : ((s.bootS.fused m).doC true ((i + 1 : Nat) : Int) 0 lv).2.1.ct.value = (s.bootS.fused m).ct.value + 1 := by rw [hct, hb]; rfl
    rw [if_pos (by rw [hv, hb]; dsimp only; omega)]
    have hat : ((s.bootS.fused m).doC true ((i + 1 : Nat) : Int) 0 lv).2.1.ct.at' = ((i + 1 : Nat) : Int) := by rw [hct]; show s.ct.boots + 1 = _; omega
    refine ⟨(S2.crash K).mono (by omega), crash_free _ _, hn4, rfl, by show ((s.bootS.fused m).doC true ((i + 1 : Nat) : Int) 0 lv).2.1.ct.boots = _; rw [hct]; show s.ct.boots + 1 = _; omega, by show ((s.bootS.fused m).doC true ((i + 1 : Nat) : Int) 0 lv).2.1.ct.at' ≤ _; omega, hone2, hl, .inr ?_⟩
    rw [← hv] at G
    refine ⟨_, _, _, _, _, G.settle S2.fit K, fun x hx hxa => ?_⟩
    rcases hL x hx with hx | ⟨_, hx⟩
    · have := hone x hx
      have hxa' : x.n.2.2 / 4294967296 = ((s.bootS.fused m).doC true ((i + 1 : Nat) : Int) 0 lv).2.1.ct.at' := hxa
      omega
    · rw [hx]
      show rootB ⟨(s.bootS.fused m).ct.value + 1, (s.bootS.fused m).ks.cur, (s.bootS.fused m).n, _⟩ = rootB ⟨((s.bootS.fused m).doC true ((i + 1 : Nat) : Int) 0 lv).2.1.ct.value, _, ((s.bootS.fused m).doC true ((i + 1 : Nat) : Int) 0 lv).2.1.n, _⟩
      rw [hv, hn2]
  · rw [if_neg hd] at hct
    rw [if_neg (by rw [hct, hb]; dsimp only; omega)]
    refine ⟨(S2.crash K).mono (by omega), crash_free _ _, hn4, rfl, by show ((s.bootS.fused m).doC true ((i + 1 : Nat) : Int) 0 lv).2.1.ct.boots = _; rw [hct, hb]; dsimp only; omega, by show ((s.bootS.fused m).doC true ((i + 1 : Nat) : Int) 0 lv).2.1.ct.at' ≤ _; rw [hct, hb]; dsimp only; omega, hone2, h.w, ?_⟩
    rcases h.g with ⟨g1, g2⟩ | ⟨top, e, v, b, tg, G, g2⟩
    · exact .inl ⟨by show ((s.bootS.fused m).doC true ((i + 1 : Nat) : Int) 0 lv).2.1.ct.value = 0; rw [hct, hb]; exact g1, g2⟩
    · refine .inr ⟨top, e, v, b, tg, ?_, fun x hx hxa => ?_⟩
      · have G1 : Good true (s.bootS.fused m) want (s.bootS.fused m).ct.value top e v b tg := by
          rw [show (s.bootS.fused m).ct.value = s.ct.value by rw [hb]]
          exact G.to rfl rfl (by rw [hb]) G.op (Pre.refl _) G.kl G.kr
        have G2 := G1.undone (lw := lv) (boot := ((i + 1 : Nat) : Int)) (j := 0) S1 hln hd
        rw [show (s.bootS.fused m).ct.value = ((s.bootS.fused m).doC true ((i + 1 : Nat) : Int) 0 lv).2.1.ct.value by rw [hct]] at G2
        exact G2.settle S2.fit K
      · have hxa' : x.n.2.2 / 4294967296 = ((s.bootS.fused m).doC true ((i + 1 : Nat) : Int) 0 lv).2.1.ct.at' := hxa
        rw [hct, hb] at hxa'
        rcases hL x hx with hx | ⟨hx, _⟩
        · rw [g2 x hx hxa']
          show rootB ⟨s.ct.value, e, s.n, top⟩ = rootB ⟨((s.bootS.fused m).doC true ((i + 1 : Nat) : Int) 0 lv).2.1.ct.value, e, ((s.bootS.fused m).doC true ((i + 1 : Nat) : Int) 0 lv).2.1.n, top⟩
          rw [hct, hb, hn2]; rfl
        · rw [hx, hq] at hxa'; dsimp only at hxa'; omega
theorem LastC.load {s : WS} {want : List Lf} {k : Nat} (h : LastC s want) (hs : s.Fit k) (hgo : s.pw.gone = false) (hn : s.n = 4) : s.loadE true = 0 ∧ s.loadL true = want := by
  rcases h with ⟨g1, g2⟩ | ⟨top, e, v, b, tg, G, _⟩
  · obtain ⟨q1, q2, _⟩ := load_zero (md := true) hgo g1
    exact ⟨q1, by rw [q2, hn, g2]; rfl⟩
  · exact G.load hs hgo
/-- Whatever bytes stand there: what is loaded is what was committed last, or it is refused. -/
theorem LastC.foe {s s' : WS} {want : List Lf} {k : Nat} (h : LastC s want) (hs : s'.Fit k) (hk : k ≤ 9000) (hgo : s'.pw.gone = false) (hn4 : s.n = 4) (hn : s'.n = s.n) (hct : s'.ct = s.ct) (hL : s'.L = s.L) (hS : Pre s.S s'.S) : (s'.loadE true = 0 ∧ s'.loadL true = want) ∨ (s'.loadE true = 3 ∧ s'.loadL true = []) := by
  rcases h with ⟨g1, g2⟩ | ⟨top, e, v, b, tg, G, g2⟩
  · obtain ⟨q1, q2, _⟩ := load_zero (md := true) hgo (show s'.ct.value = 0 by rw [hct]; exact g1)
    exact .inl ⟨q1, by rw [q2, hn, hn4, g2]; rfl⟩
  · have hv : ¬ s'.ct.value = 0 := by rw [hct]; have := G.c1; omega
    cases hr : s'.getR true s'.ct.value with
    | none =>
      have hE : s'.getE true s'.ct.value = 3 := by rw [WS.getE, hgo, hr]; rfl
      exact .inr ⟨by rw [WS.loadE, hgo, hE]; simp [hv], by rw [WS.loadL, hgo, hE]; simp [hv]⟩
    | some r =>
      have hE : s'.getE true s'.ct.value = 0 := by rw [WS.getE, hgo, hr]; rfl
      have hT : s'.getT true s'.ct.value = r := by rw [WS.getT, hgo, hr]; rfl
      have hrt : r.g = top := by
        rw [WS.getR, openedR] at hr
        split at hr
        · rename_i hc
          rw [Option.bind_eq_some_iff] at hr
          obtain ⟨r2, h1, h2⟩ := hr
          rw [Option.bind_eq_some_iff] at h1
          obtain ⟨d, h3, h4⟩ := h1
          have h3' : openO s'.L (ofK s'.ks.seed (recD (s'.recOf s'.ct.value)).e) ((recD (s'.recOf s'.ct.value)).e, 65535, (recD (s'.recOf s'.ct.value)).v) [] (recD (s'.recOf s'.ct.value)).b (recD (s'.recOf s'.ct.value)).tg = some d := h3
          rw [openO, Option.map_eq_some_iff] at h3'
          obtain ⟨x, hx, rfl⟩ := h3'
          have hxm := List.mem_of_find?_eq_some hx
          have hxi := List.find?_some hx
          simp only [isI, Bool.and_eq_true, beq_iff_eq] at hxi
          have hxn := hxi.1.1.1.2
          have hxa : x.n.2.2 / 4294967296 = s.ct.at' := by rw [hxn, ← hct]; exact hc.2
          rw [hL] at hxm
          have hxd := g2 x hxm hxa
          have wf : (⟨s.ct.value, e, s.n, top⟩ : Rt).Wf := ⟨by have := G.c1; dsimp only; omega, G.he, G.tw.1, G.tw.2⟩
          have hgn : isG s.n = true := by rw [← hn]; exact hs.g
          rw [hxd, rootO, (rootG_B _ wf hgn).1, if_pos rfl, (rootG_B _ wf hgn).2] at h4
          obtain rfl := Option.some.inj h4
          split at h2
          · obtain rfl := Option.some.inj h2; rfl
          · cases h2
        · cases hr
      rcases read_foe (a := s'.ct.value % 2) hs hk (by rw [hn]; exact G.l) G.w G.ok hgo (G.top.pre hS) with ⟨r1, r2⟩ | ⟨r1, r2⟩
      · exact .inl ⟨by rw [WS.loadE, hgo, hE, hT, hrt, r1]; simp [hv], by rw [WS.loadL, hgo, hE, hT, hrt, r2]; simp [hv]⟩
      · exact .inr ⟨by rw [WS.loadE, hgo, hE, hT, hrt, r1]; simp [hv], by rw [WS.loadL, hgo, hE, hT, hrt, r2]; simp [hv]⟩
end Go.Proofs.YtjehfcjfnmcjcaaGreat


namespace Go.Proofs.YtjehfcjfnmcjcaaGreat
open Go Go.Abs

section
variable {P : Program} {N : Nat} {e : Env} {h : AHeap}
theorem WW.join {c : CC} {K : Env → AHeap → Prop} {Q : Exit → Env → AHeap → Prop} (M : Env → AHeap → Prop) (h1 : WW P N c (fun x e h => x = .normal ∧ M e h) e h) (h2 : ∀ e h, M e h → K e h) : WW P N c (thenQ K Q) e h :=
  h1.mono fun ex e h hq => by obtain ⟨rfl, hm⟩ := hq; exact h2 e h hm
end
theorem mapG {α : Type} {f : α → List AV} {Q : α → Prop} {R : List AV → Prop} (h1 : ∀ c, R c → ∃ x, c = f x ∧ Q x) : ∀ {c : List (List AV)}, (∀ x ∈ c, R x) → ∃ l : List α, c = l.map f ∧ ∀ x ∈ l, Q x
  | [], _ => ⟨[], rfl, by simp⟩
  | x :: r, h => by
    obtain ⟨y, rfl, hy⟩ := h1 x (h x (by simp))
    obtain ⟨l, rfl, hl⟩ := mapG h1 (c := r) fun z hz => h z (by simp [hz])
    exact ⟨y :: l, rfl, fun z hz => by rcases List.mem_cons.1 hz with rfl | hz; exact hy; exact hl z hz⟩
abbrev encKs (K : List Int) : List AV := [.imm 1 (K.map encJ)]
theorem intsl_of {cells : List AV} (h : TypL [.sl [.sl [.i .i64]]] cells) : ∃ l : List (List Int), cells = [.imm 1 (l.map encKs)] ∧ ∀ K ∈ l, K.length ≤ maxLen := by
  obtain ⟨v, vs, rfl, h1, h2⟩ := h.cons_inv
  obtain rfl := h2.nil_inv
  obtain ⟨c, rfl, hl, hc⟩ := h1.sl_inv
  obtain ⟨l, rfl, hq⟩ := mapG (f := encKs) (Q := fun K : List Int => K.length ≤ maxLen) (R := TypL [.sl [.i .i64]]) (fun _ h => by obtain ⟨n, rfl, hw⟩ := ints_of h; exact ⟨n, rfl, hw⟩) hc
  exact ⟨l, rfl, hq⟩
def Rng64 (m : Int) : Prop := -9223372036854775808 ≤ m ∧ m ≤ 9223372036854775807
theorem rng64 {m : Int} (h : (Lit.int .i64 m).wf = true) : Rng64 m := by
  simp only [Lit.wf, Bool.and_eq_true, decide_eq_true_eq] at h
  have m1 : IntKind.i64.min = -9223372036854775808 := by decide
  have m2 : IntKind.i64.max = 9223372036854775807 := by decide
  rw [m1, m2] at h
  exact h
theorem intsR_of {cells : List AV} (h : TypL [.sl [.i .i64]] cells) : ∃ b : List Int, cells = [.imm 1 (b.map encJ)] ∧ b.length ≤ maxLen ∧ ∀ t ∈ b, Rng64 t := by
  obtain ⟨v, vs, rfl, h1, h2⟩ := h.cons_inv
  obtain rfl := h2.nil_inv
  obtain ⟨c, rfl, hl, hc⟩ := h1.sl_inv
  obtain ⟨l, rfl, hq⟩ := map_ofP (f := encJ) (Q := Rng64) (R := TypL [.i .i64]) (fun _ h => by obtain ⟨n, rfl, hw⟩ := int_of h; exact ⟨n, rfl, rng64 hw⟩) hc
  exact ⟨l, rfl, by simpa using hl, hq⟩
theorem loadS_pre (s : WS) {k : Nat} (hs : s.Fit k) : Pre s.S (s.loadS true).S := by
  have hg := isG_cases hs.g
  rw [WS.loadS]
  repeat' split
  · exact Pre.refl _
  · exact Pre.refl _
  · exact Pre.refl _
  · exact readS_pre true _ (by omega)
set_option maxHeartbeats 4000000 in
theorem law23_CommitFoe_ae (Ks : List (List Int)) (T : List Int) (tk : Int) (Fs : List Int) (off : Int) (by' : Bs) (hKs : ∀ K ∈ Ks, K.length ≤ maxLen) (hT : T.length ≤ maxLen) (hTw : ∀ t ∈ T, Wf64 t) (hFs : Fs.length ≤ maxLen ∧ ∀ m ∈ Fs, Rng64 m) (h : AHeap) : AE Tryz.prog 7 [.imm 1 (Ks.map encKs), .imm 1 (T.map encU), .int .i64 tk, .imm 1 (Fs.map encJ), .int .i64 off, .imm 1 (by'.map encB)] h (.bool true) h := by
  refine AE.pureW is_law23_CommitFoe (by simp) ?_
  unfold c_law23_CommitFoe
  (refine go ?_)
  (apply WL.orB; exact rfl; exact rfl; exact rfl; exact BP.of; intro hz1)
  · (repeat first | (apply GW.goS; exact Stp.auto) | apply GW.nil | exact rfl)
  (refine go ?_)
  (apply WL.orB; exact rfl; exact rfl; exact rfl; exact BP.of; intro hz2)
  · (repeat first | (apply GW.goS; exact Stp.auto) | apply GW.nil | exact rfl)
  (refine go ?_)
  (apply WL.orB; exact rfl; exact rfl; exact rfl; exact BP.of; intro hz3)
  · (repeat first | (apply GW.goS; exact Stp.auto) | apply GW.nil | exact rfl)
  (refine go ?_)
  (apply WL.orB; exact rfl; exact rfl; exact rfl; exact BP.of; intro hz4)
  · (repeat first | (apply GW.goS; exact Stp.auto) | apply GW.nil | exact rfl)
  (refine go ?_)
  (refine WW.ifB rfl (fun hz5 => ?_) (fun hz5 => ?_))
  · (refine go ?_)
    refine WW.ret (PureQ.finD ?_)
    exact fz_b rfl
  obtain ⟨t, rfl⟩ : ∃ t : Nat, tk = t := ⟨tk.toNat, by simp at hz5; omega⟩
  have hgd : 1 ≤ Ks.length ∧ Ks.length ≤ 12 ∧ by'.length ≤ 80 ∧ t < Ks.length := by simp at hz5; omega
  clear hz5
  obtain ⟨hk1, hk2, hby, htk⟩ := hgd
  (refine go ?_)
  refine WL.callA rfl (by first | exact True.intro | exact rfl) gSL (world_NewG_ac true 4 rfl 9 h) ?_
  rintro _ h1 ⟨n, rfl, g1, hn, k1⟩
  have hx1 := k1.next
  have hnm : ∀ id, n.own true id → h.next ≤ id := fun id hi => hn id (.inl (WN.own_all hi))
  have k1' : Kp (fun id => h.next ≤ id) h h1 := (by repeat first | exact Kp.refl | assumption | with_reducible refine Kp.put ?_ (by omega) _ | with_reducible refine Kp.setN ?_ (by omega) _ | with_reducible refine Kp.keep ?_ _ | with_reducible refine Kp.setW ?_ (by rfl) _)
  clear k1
  (repeat first | refine WL.go ?_ | refine WW.seq ?_ | refine WW.reg ?_ | refine WL.nil ?_ | refine WW.skip ?_ | refine WW.block ?_ | refine WW.exit ?_ | refine WW.condT rfl ?_ | refine WW.condF rfl ?_ | refine WL.gox ?_ | refine thenN ?_ | refine blkN ?_)
  refine WW.cvt (Cvt.sub1 (s := 15) (v := .imm 1 (([] : Bs).map encB)) rfl SubV.nil) ?_
  refine WW.cvt (Cvt.frzE (s := 16) (c' := (List.replicate 4 lf0).map encL) rfl gH rfl) ?_
  refine WW.named (fun h2 => WG true h2 n (ws0 4 9) ∧ Kp (fun id => h.next ≤ id) h h2) ⟨g1.new (by repeat first | exact Kp.refl | assumption | with_reducible refine Kp.put ?_ (by omega) _ | with_reducible refine Kp.setN ?_ (by omega) _ | with_reducible refine Kp.keep ?_ _ | with_reducible refine Kp.setW ?_ (by rfl) _), (by repeat first | exact Kp.refl | assumption | with_reducible refine Kp.put ?_ (by omega) _ | with_reducible refine Kp.setN ?_ (by omega) _ | with_reducible refine Kp.keep ?_ _ | with_reducible refine Kp.setW ?_ (by rfl) _)⟩ ?_
  clear g1 k1'
  rintro h2 ⟨g2, k2⟩
  refine WW.loopE (fun (r : Nat × WS × List Lf × Bs) => [(0, some (.imm 1 (Ks.map encKs))), (1, some (.imm 1 (T.map encU))), (2, some (.int .i64 t)), (3, some (.imm 1 (Fs.map encJ))), (4, some (.int .i64 off)), (5, some (.imm 1 (by'.map encB))), (13, some (.ptr (n.a + 10) 0 0)), (15, some (.imm 1 (r.2.2.2.map encB))), (16, some (.imm 8 (r.2.2.1.map encL))), (17, some (.int .i64 r.1))])
    (fun r h' => FoeI r.1 r.2.1 r.2.2.1 ∧ WG true h' n r.2.1 ∧ Kp (fun id => h.next ≤ id) h h' ∧ r.1 ≤ Ks.length ∧ (t < r.1 → r.2.2.2.length = 760)) (fun r => Ks.length - r.1) (0, ws0 4 9, List.replicate 4 lf0, []) gSUB ⟨foe0, g2, k2, Nat.zero_le _, fun h => absurd h (Nat.not_lt_zero _)⟩ ?_
  clear g2 k2
  rintro ⟨i, s, want, snap⟩ h' ⟨I, g3, k3, i1, i2⟩
  dsimp only at I g3 k3 i1 i2 ⊢
  (refine go ?_)
  (refine WW.ifB rfl (fun hz6 => ?_) (fun hz6 => ?_))
  · have hi : i < Ks.length := by omega
    have hob := g3.w.w
    simp only [wRow] at hob
    have hKi := hKs Ks[i] (List.getElem_mem hi)
    (refine go ?_)
    refine WL.call rfl (by first | exact True.intro | exact rfl) gSL (boot_ae g3 I.st (by omega)) ?_
    refine WL.named (fun h2 => WG true h2 n s.bootS ∧ Kp (fun id => h.next ≤ id) h h2) ⟨g3.boot, k3.trans ((kp_ct (md := true) n _ _).mono fun id _ hi => hnm id hi)⟩ ?_
    clear g3 k3 hob
    rintro h4 ⟨g4, k4⟩
    have hob := g4.w.w
    simp only [wRow] at hob
    have hct4 := g4.w.ct
    have hbb := boot_ct I.fr
    rw [I.b] at hbb
    rw [hbb] at hct4
    (refine go ?_)
    refine WL.call rfl (by first | exact True.intro | exact rfl) gSL (count_Boots_ae (p := n.p) hct4) ?_
    dsimp only
    rw [show (i : Int) + 1 = ((i + 1 : Nat) : Int) from rfl]
    (refine go ?_)
    refine WL.call rfl (by first | exact True.intro | exact rfl) gSL (nonce_New_ae rfl ((i + 1 : Nat) : Int) (by omega)) ?_
    have hx4 := k4.next
    have hmk : ¬ n.nm true h4.next := fun hi => by have := (g4.us _ hi).1; omega
    refine WL.named (fun h3 => WG true h3 n s.bootS ∧ Kp (fun id => h.next ≤ id) h h3 ∧ BoxAt h3 h4.next (mkO ((i + 1 : Nat) : Int) 0)) ⟨g4.new (by repeat first | exact Kp.refl | assumption | with_reducible refine Kp.put ?_ (by omega) _ | with_reducible refine Kp.setN ?_ (by omega) _ | with_reducible refine Kp.keep ?_ _ | with_reducible refine Kp.setW ?_ (by rfl) _), (by repeat first | exact Kp.refl | assumption | with_reducible refine Kp.put ?_ (by omega) _ | with_reducible refine Kp.setN ?_ (by omega) _ | with_reducible refine Kp.keep ?_ _ | with_reducible refine Kp.setW ?_ (by rfl) _), ⟨put_used_nm, gH⟩⟩ ?_
    have hmx : h.next ≤ h4.next := hx4
    generalize h4.next = mk at *
    clear g4 k4 hob hct4 hx4
    rintro h5 ⟨g5, k5, b5⟩
    have hob := g5.w.w
    simp only [wRow] at hob
    (refine go ?_)
    refine WW.join (fun e2 h2 => h2 = h5 ∧ ∃ m, Rng64 m ∧ subE [(0, some (.imm 1 (Ks.map encKs))), (1, some (.imm 1 (T.map encU))), (2, some (.int .i64 t)), (3, some (.imm 1 (Fs.map encJ))), (4, some (.int .i64 off)), (5, some (.imm 1 (by'.map encB))), (13, some (.ptr (n.a + 10) 0 0)), (15, some (.imm 1 (snap.map encB))), (16, some (.imm 8 (want.map encL))), (17, some (.int .i64 i)), (18, some (.ptr mk 0 0)), (20, some (.int .i64 m))] e2) ?_ ?_
    · (refine WW.ifB rfl (fun hz7 => ?_) (fun hz7 => ?_))
      · have hf : i < Fs.length := by omega
        (refine go ?_)
        exact ⟨rfl, rfl, Fs[i], hFs.2 _ (List.getElem_mem hf), gSUB⟩
      · (refine go ?_)
        exact ⟨rfl, rfl, -1, by constructor <;> decide, gSUB⟩
    rintro e2 h5 ⟨rfl, m, hm, hs2⟩
    refine WW.cvt (Cvt.sub hs2) ?_
    clear hs2
    have hlen := someL_len 4 Ks[i] T
    have hok := someL_ok 4 (by decide) Ks[i] T
    have hw := someL_wf 4 (by decide) Ks[i] T hTw
    have hST := I.step (by omega) m hm hlen hw hok (keepF [((i : Int) % 2 == 0), ((i : Int) % 3 == 0), true])
    obtain ⟨S1, I2, S2, dk2, n2⟩ := hST
    have hown : ∀ id, n.own true id → ¬ id = mk := fun id hi e => hmk (e ▸ .inl (WN.own_all hi))
    (refine go ?_)
    refine WL.call rfl (by first | exact True.intro | exact rfl) gSL (power_Fuse_ae g5.w.sd.pw m) ?_
    refine WL.named (fun h4 => WG true h4 n (s.bootS.fused m) ∧ BoxAt h4 mk (mkO ((i + 1 : Nat) : Int) 0) ∧ Kp (fun id => h.next ≤ id) h h4) ⟨g5.step (g5.w.putPw _) (kp_pw n _), b5.kp (kp_pw n _) (fun hi => hown _ hi rfl), k5.trans ((kp_pw (md := true) n _).mono fun id _ hi => hnm id hi)⟩ ?_
    clear g5 b5 k5 hob
    rintro h6 ⟨g6, b6, k6⟩
    have hob := g6.w.w
    simp only [wRow] at hob
    have hct6 := g6.w.ct
    rw [fused_ct, hbb] at hct6
    have hv6 : (s.bootS.fused m).ct.value = s.ct.value := by rw [fused_ct, hbb]
    have hP := commit_Do_ac g6 S1 (by omega) b6 (by omega) (by omega) hmk (someL 4 Ks[i] T) (by rw [hlen]; exact I.n.symm) hw hok
    generalize ((s.bootS.fused m).doC true ((i + 1 : Nat) : Int) 0 (someL 4 Ks[i] T)).1 = ec at *
    generalize ((s.bootS.fused m).doC true ((i + 1 : Nat) : Int) 0 (someL 4 Ks[i] T)).2.2 = jc at *
    generalize ((s.bootS.fused m).doC true ((i + 1 : Nat) : Int) 0 (someL 4 Ks[i] T)).2.1 = s2 at *
    (refine go ?_)
    refine WL.call rfl (by first | exact True.intro | exact rfl) gSL (count_Value_ae (p := n.p) hct6) ?_
    (refine go ?_)
    refine WL.call rfl (by first | exact True.intro | exact rfl) gSL (law23_some_ae 4 (by omega) Ks[i] T hKi hT _) ?_
    refine WL.callA rfl (by first | exact True.intro | exact rfl) gSL (hP) ?_
    rintro _ h8 ⟨rfl, g8, b8, k8⟩
    have k9 : Kp (fun id => h.next ≤ id) h h8 := k6.trans (k8.mono fun id _ hh => hh.elim (hnm id) fun e => by omega)
    clear hP g6 b6 k6 b8 k8 hob hct6
    have hob := g8.w.w
    simp only [wRow] at hob
    have hct8 := g8.w.ct
    (refine go ?_)
    refine WL.call rfl (by first | exact True.intro | exact rfl) gSL (count_Value_ae (p := n.p) hct8) ?_
    (refine go ?_)
    refine WW.join (fun e2 h2 => h2 = h8 ∧ subE [(0, some (.imm 1 (Ks.map encKs))), (1, some (.imm 1 (T.map encU))), (2, some (.int .i64 t)), (3, some (.imm 1 (Fs.map encJ))), (4, some (.int .i64 off)), (5, some (.imm 1 (by'.map encB))), (13, some (.ptr (n.a + 10) 0 0)), (15, some (.imm 1 (snap.map encB))), (16, some (.imm 8 ((if s.ct.value < s2.ct.value then someL 4 Ks[i] T else want).map encL))), (17, some (.int .i64 i))] e2) ?_ ?_
    · (refine WW.ifB rfl (fun hz8 => ?_) (fun hz8 => ?_))
      · have hv : s.ct.value < s2.ct.value := by dsimp only at hz8; omega
        rw [if_pos hv]
        (refine go ?_)
        refine WL.call rfl (by first | exact True.intro | exact rfl) gSL (law23_some_ae 4 (by omega) Ks[i] T hKi hT _) ?_
        (refine go ?_)
        exact ⟨rfl, rfl, gSUB⟩
      · have hv : ¬ s.ct.value < s2.ct.value := by dsimp only at hz8; omega
        rw [if_neg hv]
        (refine go ?_)
        exact ⟨rfl, rfl, gSUB⟩
    rintro e3 h8 ⟨rfl, hs3⟩
    refine WW.cvt (Cvt.sub hs3) ?_
    clear hs3
    generalize (if s.ct.value < s2.ct.value then someL 4 Ks[i] T else want) = want2 at *
    (refine go ?_)
    refine WW.join (fun e2 h2 => h2 = h8 ∧ ∃ snap2 : Bs, (t < i + 1 → snap2.length = 760) ∧ subE [(0, some (.imm 1 (Ks.map encKs))), (1, some (.imm 1 (T.map encU))), (2, some (.int .i64 t)), (3, some (.imm 1 (Fs.map encJ))), (4, some (.int .i64 off)), (5, some (.imm 1 (by'.map encB))), (13, some (.ptr (n.a + 10) 0 0)), (15, some (.imm 1 (snap2.map encB))), (16, some (.imm 8 (want2.map encL))), (17, some (.int .i64 i))] e2) ?_ ?_
    · (refine WW.ifB rfl (fun hz9 => ?_) (fun hz9 => ?_))
      · (refine go ?_)
        refine WL.call rfl (by first | exact True.intro | exact rfl) gSL (snap_ae g8 S2.fit (by omega)) ?_
        (refine go ?_)
        exact ⟨rfl, rfl, s2.sd.snap, fun _ => by rw [snap_lenS S2.fit, n2]; rfl, gSUB⟩
      · (refine go ?_)
        exact ⟨rfl, rfl, snap, fun hh => i2 (by omega), gSUB⟩
    rintro e4 h8 ⟨rfl, snap2, hsn2, hs4⟩
    refine WW.cvt (Cvt.sub hs4) ?_
    clear hs4
    (refine go ?_)
    refine WL.callA rfl (by first | exact True.intro | exact rfl) gSL (crash_ac g8 S2.fit (by omega) dk2 [((i : Int) % 2 == 0), ((i : Int) % 3 == 0), true] (by simp)) ?_
    rintro _ h10 ⟨rfl, g10, k10⟩
    have k11 : Kp (fun id => h.next ≤ id) h h10 := k9.trans (k10.mono fun id _ hi => hnm id hi)
    clear g8 k9 k10 hob hct8
    (refine go ?_)
    exact ⟨(i + 1, _, want2, snap2), gSUB, ⟨I2, g10, k11, hi, hsn2⟩, by dsimp only; omega⟩
  · have hi : i = Ks.length := by omega
    subst hi
    have hsn := i2 htk
    clear i2
    obtain ⟨l1, l2⟩ := I.g.load I.st.fit I.fr.g I.n
    have hww := I.w
    (refine go ?_)
    refine WL.callA rfl (by first | exact True.intro | exact rfl) gSL (commit_Load_ac g3 I.st (by omega)) ?_
    rintro _ h6 ⟨rfl, g6, k6⟩
    rw [l1, l2]
    have k7 : Kp (fun id => h.next ≤ id) h h6 := k3.trans (k6.mono fun id _ hi => hnm id hi)
    obtain ⟨e1, e2, e3, e4, e5, e6⟩ := loadS_sd true s
    have S1 := I.st.load
    have hp := loadS_pre s I.st.fit
    have hgo := I.fr.g
    have hn4 := I.n
    have hg := I.g
    rw [← e3] at hgo
    clear g3 k3 k6 l1 l2 I
    generalize s.loadS true = s1 at *
    (refine go ?_)
    refine WL.call rfl (by first | exact True.intro | exact rfl) gSL (ref15_Same_ae want want (by omega) (by omega) _) ?_
    rw [decide_eq_true rfl]
    have hob := g6.w.w
    simp only [wRow] at hob
    have hbl : snap.length = s1.sd.lasts.length := by rw [hsn, S1.fit.sd.len, e2, hn4]; rfl
    (refine go ?_)
    refine WL.callA rfl (by first | exact True.intro | exact rfl) gSL (ssd_Back_ac g6 S1.fit hbl) ?_
    rintro _ h8 ⟨rfl, Bk, hBk, g8, k8⟩
    have k9 : Kp (fun id => h.next ≤ id) h h8 := k7.trans (k8.mono fun id _ hi => hnm id hi)
    have hx7 := k7.next
    have hnm2 : ∀ id, WN.own true { n with B := Bk } id → h.next ≤ id := fun id hi => by
      rcases hi with hi | hi | hi
      · exact hnm id (.inl hi)
      · rcases hi with hi | hi
        · exact hnm id (.inr (.inl (.inl hi)))
        · dsimp only at hi; omega
      · exact hnm id (.inr (.inr hi))
    have S2 := S1.back hbl
    clear g6 k7 k8 hob
    obtain ⟨n2, hn2⟩ : ∃ n2 : WN, n2 = { n with B := Bk } := ⟨_, rfl⟩
    have hna : n2.a = n.a := by rw [hn2]
    rw [← hn2] at g8 hnm2
    rw [← hna]
    clear hn2
    have hob := g8.w.w
    simp only [wRow] at hob
    have hll : (s1.back snap).sd.lasts.length = 760 := hsn
    (refine go ?_)
    refine WL.call rfl (by first | exact True.intro | exact rfl) gSL (ssd_Smash_ae g8.w.sd (by omega) (Nat.zero_le _) (fun o ho => by cases ho) off by' (by omega)) ?_
    refine WL.named (fun h6 => WG true h6 n2 ((s1.back snap).smash (off, by')) ∧ Kp (fun id => h.next ≤ id) h h6) ⟨g8.step (g8.w.putSd _ _) (kp_sd n2 _ _), k9.trans ((kp_sd (md := true) n2 _ _).mono fun id _ hi => hnm2 id hi)⟩ ?_
    clear g8 k9 hob
    rintro h9 ⟨g9, k9⟩
    have S3 : WSt true ((s1.back snap).smash (off, by')) _ := ⟨fit_smash S2.fit _, S2.cur, S2.seq, S2.dat, S2.ct⟩
    have hfin := hg.foe (s' := (s1.back snap).smash (off, by')) S3.fit (by omega) hgo hn4 e2 e4 e6 hp
    (refine go ?_)
    refine WL.callA rfl (by first | exact True.intro | exact rfl) gSL (commit_Load_ac g9 S3 (by omega)) ?_
    rintro _ h12 ⟨rfl, g12, k12⟩
    have k13 : Kp (fun id => h.next ≤ id) h h12 := k9.trans (k12.mono fun id _ hi => hnm2 id hi)
    have kk : Keeps h h12 := k13.keeps fun _ h => h
    have hx13 := k13.next
    clear g9 k9 k12 k13 g12
    rcases hfin with ⟨r1, r2⟩ | ⟨r1, r2⟩
    · rw [r1, r2]
      (refine go ?_)
      refine WL.call rfl (by first | exact True.intro | exact rfl) gSL (ref15_Same_ae want want (by omega) (by omega) _) ?_
      rw [decide_eq_true rfl]
      (refine go ?_)
      refine WL.call rfl (by first | exact True.intro | exact rfl) gSL (law23_known_ae _) ?_
      (refine go ?_)
      refine WW.ret (PureQ.finD ?_)
      exact fz_b rfl
    · rw [r1, r2]
      (refine go ?_)
      refine WL.call rfl (by first | exact True.intro | exact rfl) gSL (law23_known_ae _) ?_
      (refine go ?_)
      refine WW.ret (PureQ.finD ?_)
      exact fz_b rfl
theorem top_CommitFoe (c0 : List AV) (t0 : TypL [.sl [.sl [.i .i64]]] c0) (c1 : List AV) (t1 : TypL [.sl [.i .u64]] c1) (c2 : List AV) (t2 : TypL [.i .i64] c2) (c3 : List AV) (t3 : TypL [.sl [.i .i64]] c3) (c4 : List AV) (t4 : TypL [.i .i64] c4) (c5 : List AV) (t5 : TypL [.sl [.i .u8]] c5) :
    AE Tryz.prog 7 [c0.headD .nilp, c1.headD .nilp, c2.headD .nilp, c3.headD .nilp, c4.headD .nilp, c5.headD .nilp] noHeap (.bool true) noHeap := by
  obtain ⟨Ks, rfl, hKs⟩ := intsl_of t0
  obtain ⟨T, rfl, hT, hTw⟩ := u64s_of t1
  obtain ⟨tk, rfl, _⟩ := int_of t2
  obtain ⟨Fs, rfl, hFs⟩ := intsR_of t3
  obtain ⟨off, rfl, _⟩ := int_of t4
  obtain ⟨by', rfl⟩ := bytes_of t5
  exact law23_CommitFoe_ae Ks T tk Fs off by' hKs hT hTw hFs noHeap
end Go.Proofs.YtjehfcjfnmcjcaaGreat


