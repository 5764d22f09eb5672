/- What the statement's proof needs, part 6. -/
import Derived.Test.YtjehfcjfnmcjcaaGreatQCommitCrash5
set_option linter.all false
namespace Go.Proofs.YtjehfcjfnmcjcaaGreat
open Go Go.Abs

section
variable {md : Bool} {s : WS} {boot : Int} {j : Nat} {lv : List Lf}
theorem doC_1 (a1 : (s.pw.can && s.pw.spend.can) = false) : s.doC md boot j lv = (7, s.areaW md s.doA lv, j) := by
  rw [WS.doC]; dsimp only; rw [if_pos a1]
theorem doC_2 (a1 : (s.pw.can && s.pw.spend.can) = true) (a2 : (s.areaW md s.doA lv).pw.can = false) : s.doC md boot j lv = (7, (s.areaW md s.doA lv).barS, j) := by
  rw [WS.doC]; dsimp only; rw [if_neg (by rw [a1]; simp), if_pos a2]
theorem doC_3 (a1 : (s.pw.can && s.pw.spend.can) = true) (a2 : (s.areaW md s.doA lv).pw.can = true) (a3 : j = 100) : s.doC md boot j lv = (6, (s.areaW md s.doA lv).barS, j) := by
  rw [WS.doC]; dsimp only; rw [if_neg (by rw [a1]; simp), if_neg (by rw [a2]; simp), if_pos a3]
theorem doC_4 (a1 : (s.pw.can && s.pw.spend.can) = true) (a2 : (s.areaW md s.doA lv).pw.can = true) (a3 : j ≠ 100) : s.doC md boot j lv =
    (let s3 := (s.areaW md s.doA lv).barS.logW md boot j (s.doR md lv)
     if (s.areaW md s.doA lv).barS.pw.can = false then (7, s3, j + 1)
     else if s3.pw.can = false then (7, s3.barS, j + 1)
     else if s3.barS.pw.can = false then (7, s3.barS.bmpS, j + 1)
     else (0, s3.barS.bmpS, j + 1)) := by
  rw [WS.doC]; dsimp only; rw [if_neg (by rw [a1]; simp), if_neg (by rw [a2]; simp), if_neg a3]
end
theorem bar_ae {md : Bool} {h : AHeap} {n : WN} {s : WS} {k : Nat} (hg : WG md h n s) (hs : s.Fit k) (hk : k ≤ 9000) : AE Tryz.prog 62 [.ptr (n.a + 1) 0 0] h (.bool s.pw.can) (sdPut n.sdN s.pw.spend (s.sd.barrier s.pw.can) h) := by
  have hgg := isG_cases hs.g
  have hll : s.sd.lasts.length = (s.n * 160 + 120).toNat := by rw [hs.sd.len, sizeG_pos hs.g]
  have hfit : ∀ o ∈ s.sd.waits, 0 ≤ o.1 ∧ o.1 + o.2.length ≤ s.sd.lasts.length := fun o ho => by have := hs.sd.w o ho; rw [sizeG_pos hs.g] at this; omega
  exact ssd_Barrier_ae hg.w.sd hs.pw (by omega) (by omega) (Nat.le_trans hs.sd.kw (by omega)) (Nat.le_trans hs.sd.kt (by omega)) hfit
set_option maxHeartbeats 4000000 in
theorem commit_Do_ac {md : Bool} {h : AHeap} {n : WN} {s : WS} {k : Nat} (hg : WG md h n s) (hs : WSt md s k) (hk : k ≤ 8000) {mk : Nat} {boot : Int} {j : Nat} (hm : BoxAt h mk (mkO boot j)) (hb : 0 ≤ boot ∧ boot < 4294967296) (hj : j ≤ 100) (hne : ¬ n.nm md mk) (lv : List Lf) (hl : (lv.length : Int) = s.n) (hw : ∀ x ∈ lv, x.Wf) (hok : lvOk lv 0 = true) :
    AC Tryz.prog 17 [.ptr (n.a + 10) 0 0, .ptr mk 0 0, .imm 8 (lv.map encL)] h
      (fun r h' => r = .int .i64 (s.doC md boot j lv).1 ∧ WG md h' n (s.doC md boot j lv).2.1 ∧ BoxAt h' mk (mkO boot (s.doC md boot j lv).2.2) ∧ Kp (fun id => n.own md id ∨ id = mk) h h') := by
  refine AC.introW is_commit_Do (by simp) ?_
  unfold c_commit_Do
  have hob := hg.w.w
  simp only [wRow] at hob
  have hlt : ∀ id, n.nm md id → id < h.next := fun id hi => (hg.us id hi).1
  have hmk : mk < h.next := hm.u.1
  have hna : n.a + 11 ≤ h.next := hg.w.nx
  have hnB : n.B < h.next := hg.w.nB
  have hoB := hg.w.oB
  have hop := hg.w.op
  have hgg := isG_cases hs.fit.g
  obtain ⟨⟨cv1, cv2⟩, ⟨cb1, cb2⟩, ⟨ca1, ca2⟩⟩ := hs.ct
  have hown : ∀ id, n.own md id → ¬ id = mk := fun id hi e => hne (e ▸ .inl (WN.own_all hi))
  (refine go ?_)
  refine WL.call rfl (by first | exact True.intro | exact rfl) gSL (count_Value_ae (p := n.p) hg.w.ct) ?_
  (refine go ?_)
  have hmod : (s.ct.value + 1).tmod 2 = s.doA := Int.tmod_eq_emod_of_nonneg (by omega)
  have ha := doA_rng s
  rw [hmod, wrap_in (k := .i64) (n := s.doA) (by constructor <;> omega)]
  have f1 := hs.area (md := md) (lv := lv) s.doA ha hl
  refine WL.callA rfl (by first | exact True.intro | exact rfl) gSL (area_Write_ac hg hs.fit (by omega) s.doA ha lv hl hw hok) ?_
  rintro _ h2 ⟨rfl, g2, k2⟩
  have b2 := hm.kp k2 (fun hi => hown _ hi rfl)
  have k2' : Kp (fun id => n.own md id ∨ id = mk) h h2 := k2.mono fun _ _ hi => .inl hi
  have hx2 := k2.next
  clear k2 hob
  cases a1 : (s.pw.can && s.pw.spend.can) with
  | false =>
    rw [doC_1 a1]
    (refine go ?_)
    refine WW.ret ⟨.inl rfl, _, gRES, rfl, g2.new (by repeat first | exact Kp.refl | assumption | with_reducible refine Kp.put ?_ (by omega) _ | with_reducible refine Kp.setN ?_ (by omega) _ | with_reducible refine Kp.keep ?_ _ | with_reducible refine Kp.setW ?_ (by rfl) _), b2.kp (W := fun _ => False) (by repeat first | exact Kp.refl | assumption | with_reducible refine Kp.put ?_ (by omega) _ | with_reducible refine Kp.setN ?_ (by omega) _ | with_reducible refine Kp.keep ?_ _ | with_reducible refine Kp.setW ?_ (by rfl) _) (fun h => h), ?_⟩
    exact k2'.trans (((by repeat first | exact Kp.refl | assumption | with_reducible refine Kp.put ?_ (by omega) _ | with_reducible refine Kp.setN ?_ (by omega) _ | with_reducible refine Kp.keep ?_ _ | with_reducible refine Kp.setW ?_ (by rfl) _) : Kp (fun _ => False) h2 _).mono fun _ _ h => h.elim)
  | true =>
    simp only [if_true]
    rw [show (s.nodes md lv).getD 1 (0, 0) = (s.doR md lv).g from rfl]
    generalize htop : (s.doR md lv).g = top
    have hob := g2.w.w
    simp only [wRow] at hob
    (refine go ?_)
    refine WL.named (fun h3 => WG md h3 n (s.areaW md s.doA lv) ∧ BoxAt h3 mk (mkO boot j) ∧ Kp (fun id => n.own md id ∨ id = mk) h h3 ∧ BoxAt h3 h2.next (.mem 2 [encP top]) ∧ h2.next < h3.next) ⟨g2.new (by repeat first | exact Kp.refl | assumption | with_reducible refine Kp.put ?_ (by omega) _ | with_reducible refine Kp.setN ?_ (by omega) _ | with_reducible refine Kp.keep ?_ _ | with_reducible refine Kp.setW ?_ (by rfl) _), b2.kp (W := fun _ => False) (by repeat first | exact Kp.refl | assumption | with_reducible refine Kp.put ?_ (by omega) _ | with_reducible refine Kp.setN ?_ (by omega) _ | with_reducible refine Kp.keep ?_ _ | with_reducible refine Kp.setW ?_ (by rfl) _) (fun h => h), k2'.trans (((by repeat first | exact Kp.refl | assumption | with_reducible refine Kp.put ?_ (by omega) _ | with_reducible refine Kp.setN ?_ (by omega) _ | with_reducible refine Kp.keep ?_ _ | with_reducible refine Kp.setW ?_ (by rfl) _) : Kp (fun _ => False) h2 _).mono fun _ _ h => h.elim), ⟨put_used_nm (x := .tail 0 0), gH⟩, (put_used_nm (x := .tail 0 0)).1⟩ ?_
    generalize h2.next = tp at *
    clear g2 b2 k2' hob
    rintro h3 ⟨g3, b3, k3, t3, hx3⟩
    have hob := g3.w.w
    simp only [wRow] at hob
    refine WL.call rfl (by first | exact True.intro | exact rfl) gSL (bar_ae g3 f1.fit (by omega)) ?_
    have htp : ∀ id, n.own md id → ¬ id = tp := fun id hi e => by have := hlt id (.inl (WN.own_all hi)); omega
    refine WL.named (fun h4 => WG md h4 n (s.areaW md s.doA lv).barS ∧ BoxAt h4 mk (mkO boot j) ∧ Kp (fun id => n.own md id ∨ id = mk) h h4 ∧ BoxAt h4 tp (.mem 2 [encP top]) ∧ tp < h4.next) ⟨g3.step (g3.w.putSd _ _) (kp_sd n _ _), b3.kp (kp_sd n _ _) (fun hi => hown _ hi rfl), k3.trans ((kp_sd n _ _).mono fun _ _ hi => .inl hi), t3.kp (kp_sd n _ _) (fun hi => htp _ hi rfl), hx3⟩ ?_
    clear g3 b3 k3 t3 hx3 hob
    rintro h4 ⟨g4, b4, k4, t4, hx4⟩
    have hob := g4.w.w
    simp only [wRow] at hob
    cases a2 : (s.areaW md s.doA lv).pw.can with
    | false =>
      rw [doC_2 a1 a2]
      (refine go ?_)
      exact WW.ret ⟨.inl rfl, _, gRES, rfl, g4, b4, k4⟩
    | true =>
      have q4 := t4.g
      obtain ⟨nx, hnx⟩ : ∃ nx, h4.next = nx := ⟨_, rfl⟩
      obtain ⟨e1, e2, e3, e4⟩ := areaW_ks md s s.doA lv
      have eks : (s.areaW md s.doA lv).barS.ks = s.ks := e1
      have en : (s.areaW md s.doA lv).barS.n = s.n := e4
      have hna4 : n.a + 11 ≤ h4.next := g4.w.nx
      rw [en] at hob
      have hcr : ∀ h5 : AHeap, h5.get (n.a + 9) = h4.get (n.a + 9) → h5.get (n.a + 8) = h4.get (n.a + 8) → AE Tryz.prog 63 [.ptr (n.a + 9) 0 0] h5 (.int .u32 s.ks.cur) h5 := fun h5 x1 x2 => by
        have := keys_Current_ae (g4.w.ks.same x1 x2)
        rw [eks] at this
        exact this
      have hR : encRt (s.doR md lv) = [.int .u64 (s.ct.value + 1), .int .u32 s.ks.cur, .int .i64 s.n, .int .u64 top.1, .int .u64 top.2] := by rw [← htop]; rfl
      have hss := hs.fit.ss
      have wr : (s.doR md lv).Wf := by
        have ht := (buildF_tree md (lv.map leafB) s.S (by rw [List.length_map]; omega)).2
        have hbl := (buildF_len md (lv.map leafB) s.S).2
        rw [List.length_map] at hbl
        have hwt := ht.wfG (j := 1) (by omega) (by omega) (by rw [List.length_map]; omega)
        exact ⟨by show 0 ≤ s.ct.value + 1 ∧ s.ct.value + 1 < _; omega, hs.cur.2, hwt.1, hwt.2⟩
      (repeat first | refine WL.go ?_ | refine WW.seq ?_ | refine WW.reg ?_ | refine WL.nil ?_ | refine WW.skip ?_ | refine WW.block ?_ | refine WW.exit ?_ | refine WW.condT rfl ?_ | refine WW.condF rfl ?_ | refine WL.gox ?_ | refine thenN ?_ | refine blkN ?_)
      refine WW.dregA [13] [5, 14] [5] [4, 10, 11] [] gN (by decide +kernel) ?_
      (repeat first | refine DA.go ?_ | refine DA.goF ?_ | refine DA.new ?_ | refine DA.set ?_ | refine DA.endL ?_ | refine thenN ?_ | refine blkN ?_)
      refine DA.callP rfl (by first | exact True.intro | exact rfl) gSL rfl rfl rfl (fun h5 hs => hcr h5 (hs.2 _ (by omega)) (hs.2 _ (by omega))) ?_
      (repeat first | refine DA.go ?_ | refine DA.goF ?_ | refine DA.new ?_ | refine DA.set ?_ | refine DA.endL ?_ | refine thenN ?_ | refine blkN ?_)
      refine WW.named (fun h5 => WG md h5 n (s.areaW md s.doA lv).barS ∧ BoxAt h5 mk (mkO boot j) ∧ Kp (fun id => n.own md id ∨ id = mk) h h5 ∧ h5.get nx = some (.mem 5 [encRt (s.doR md lv)])) ⟨g4.new (by repeat first | exact Kp.refl | assumption | with_reducible refine Kp.put ?_ (by omega) _ | with_reducible refine Kp.setN ?_ (by omega) _ | with_reducible refine Kp.keep ?_ _ | with_reducible refine Kp.setW ?_ (by rfl) _), b4.kp (W := fun _ => False) (by repeat first | exact Kp.refl | assumption | with_reducible refine Kp.put ?_ (by omega) _ | with_reducible refine Kp.setN ?_ (by omega) _ | with_reducible refine Kp.keep ?_ _ | with_reducible refine Kp.setW ?_ (by rfl) _) (fun h => h), k4.trans (((by repeat first | exact Kp.refl | assumption | with_reducible refine Kp.put ?_ (by omega) _ | with_reducible refine Kp.setN ?_ (by omega) _ | with_reducible refine Kp.keep ?_ _ | with_reducible refine Kp.setW ?_ (by rfl) _) : Kp (fun _ => False) h4 _).mono fun _ _ h => h.elim), by rw [hR]; exact gH⟩ ?_
      clear g4 b4 k4 t4 q4 hob hcr
      rintro h5 ⟨g5, b5, k5, q5⟩
      (refine go ?_)
      have f2 := f1.bar
      by_cases a3 : j = 100
      · rw [doC_3 a1 a2 a3]
        subst a3
        refine WL.call rfl (by first | exact True.intro | exact rfl) gSL (log_Put_ex g5 f2.cur.2 b5 (s.doR md lv) wr hs.fit.g en.symm) ?_
        (refine go ?_)
        exact WW.ret ⟨.inl rfl, _, gRES, rfl, g5, b5, k5⟩
      rw [doC_4 a1 a2 a3]
      dsimp only
      refine WL.callA rfl (by first | exact True.intro | exact rfl) gSL (log_Put_ac g5 f2.fit (by omega) f2.cur.2 b5 hb (by omega) hne (s.doR md lv) wr hs.fit.g en.symm) ?_
      rintro _ h6 ⟨rfl, g6, b6, k6⟩
      have f3 := f2.log boot j (s.doR md lv)
      have k7 := k5.trans k6
      clear g5 b5 k5 k6 q5
      cases a4 : (s.areaW md s.doA lv).barS.pw.can with
      | false =>
        simp only [if_true]
        (refine go ?_)
        exact WW.ret ⟨.inl rfl, _, gRES, rfl, g6, b6, k7⟩
      | true =>
        simp only [if_true, Bool.true_eq_false, if_false]
        have f4 := f3.bar
        generalize (s.areaW md s.doA lv).barS.logW md boot j (s.doR md lv) = s3 at *
        have hob := g6.w.w
        simp only [wRow] at hob
        (refine go ?_)
        refine WL.call rfl (by first | exact True.intro | exact rfl) gSL (bar_ae g6 f3.fit (by omega)) ?_
        refine WL.named (fun h7 => WG md h7 n s3.barS ∧ BoxAt h7 mk (mkO boot (j + 1)) ∧ Kp (fun id => n.own md id ∨ id = mk) h h7) ⟨g6.step (g6.w.putSd _ _) (kp_sd n _ _), b6.kp (kp_sd n _ _) (fun hi => hown _ hi rfl), k7.trans ((kp_sd n _ _).mono fun _ _ hi => .inl hi)⟩ ?_
        clear g6 b6 k7 hob
        rintro h7 ⟨g7, b7, k7⟩
        have hob := g7.w.w
        simp only [wRow] at hob
        cases a5 : s3.pw.can with
        | false =>
          simp only [if_true]
          (refine go ?_)
          exact WW.ret ⟨.inl rfl, _, gRES, rfl, g7, b7, k7⟩
        | true =>
          simp only [Bool.true_eq_false, if_false]
          (refine go ?_)
          refine WL.call rfl (by first | exact True.intro | exact rfl) gSL (count_Bump_ae (p := n.p) g7.w.sd.pw g7.w.ct f4.fit.pw f4.ct (by omega)) ?_
          refine WL.named (fun h8 => WG md h8 n s3.barS.bmpS ∧ BoxAt h8 mk (mkO boot (j + 1)) ∧ Kp (fun id => n.own md id ∨ id = mk) h h8) ⟨g7.step (g7.w.putCt _ _) (kp_ct n _ _), b7.kp (kp_ct n _ _) (fun hi => hown _ hi rfl), k7.trans ((kp_ct n _ _).mono fun _ _ hi => .inl hi)⟩ ?_
          clear g7 b7 k7 hob
          rintro h8 ⟨g8, b8, k8⟩
          cases a6 : s3.barS.pw.can with
          | false =>
            simp only [if_true]
            (refine go ?_)
            exact WW.ret ⟨.inl rfl, _, gRES, rfl, g8, b8, k8⟩
          | true =>
            simp only [Bool.true_eq_false, if_false]
            (refine go ?_)
            exact WW.ret ⟨.inl rfl, _, gRES, rfl, g8, b8, k8⟩
set_option maxHeartbeats 1000000 in
theorem commit_Load_ac {md : Bool} {h : AHeap} {n : WN} {s : WS} {k : Nat} (hg : WG md h n s) (hs : WSt md s k) (hk : k ≤ 8000) :
    AC Tryz.prog 19 [.ptr (n.a + 10) 0 0] h
      (fun r h' => r = .tup [.imm 8 ((s.loadL md).map encL), .int .i64 (s.loadE md)] ∧ WG md h' n (s.loadS md) ∧ Kp (n.own md) h h') := by
  refine AC.introW is_commit_Load (by simp) ?_
  unfold c_commit_Load
  have hob := hg.w.w
  simp only [wRow] at hob
  have hna : n.a + 11 ≤ h.next := hg.w.nx
  have hnB : n.B < h.next := hg.w.nB
  have hoB := hg.w.oB
  have hgg := isG_cases hs.fit.g
  have hlt : ∀ id, n.nm md id → id < h.next := fun id hi => (hg.us id hi).1
  obtain ⟨⟨cv1, cv2⟩, ⟨cb1, cb2⟩, ⟨ca1, ca2⟩⟩ := hs.ct
  (refine go ?_)
  refine WL.call rfl (by first | exact True.intro | exact rfl) gSL (power_On_ae hg.w.sd.pw) ?_
  cases hgo : s.pw.gone with
  | true =>
    have h1 : s.loadE md = 7 := by rw [WS.loadE, hgo, if_pos rfl]
    have h2 : s.loadL md = [] := by rw [WS.loadL, hgo, if_pos rfl]
    have h3 : s.loadS md = s := by rw [WS.loadS, hgo, if_pos rfl]
    rw [h1, h2, h3]
    (refine go ?_)
    refine WW.cvt (Cvt.sub1 (s := 2) (v := .imm 8 []) rfl SubV.nil) ?_
    exact WW.ret ⟨.inl rfl, _, gRES, rfl, hg, Kp.refl⟩
  | false =>
    (refine go ?_)
    refine WL.call rfl (by first | exact True.intro | exact rfl) gSL (count_Value_ae (p := n.p) hg.w.ct) ?_
    (refine go ?_)
    (refine WW.ifB rfl (fun hz1 => ?_) (fun hz1 => ?_))
    · obtain ⟨h1, h2, h3⟩ := load_zero (md := md) hgo hz1
      rw [h1, h2, h3]
      obtain ⟨m, hm⟩ : ∃ m : Nat, s.n = m := ⟨s.n.toNat, by omega⟩
      have hmn : s.n.toNat = m := by omega
      rw [hm] at hob
      (refine go ?_)
      refine WW.cvt (Cvt.frzE (s := 2) (c' := (List.replicate s.n.toNat lf0).map encL) rfl gH (by rw [hmn, List.map_replicate, List.drop_zero, List.take_of_length_le (by simp)]; rfl)) ?_
      refine WW.ret ⟨.inl rfl, _, gRES, rfl, hg.new (by repeat first | exact Kp.refl | assumption | with_reducible refine Kp.put ?_ (by omega) _ | with_reducible refine Kp.setN ?_ (by omega) _ | with_reducible refine Kp.keep ?_ _ | with_reducible refine Kp.setW ?_ (by rfl) _), ?_⟩
      exact ((by repeat first | exact Kp.refl | assumption | with_reducible refine Kp.put ?_ (by omega) _ | with_reducible refine Kp.setN ?_ (by omega) _ | with_reducible refine Kp.keep ?_ _ | with_reducible refine Kp.setW ?_ (by rfl) _) : Kp (fun _ => False) h _).mono fun _ _ h => h.elim
    · have hvz : ¬ s.ct.value = 0 := hz1
      (refine go ?_)
      refine WL.call rfl (by first | exact True.intro | exact rfl) gSL (log_Get_ae hg.w hs.fit (by omega) hs.dat ca1 s.ct.value (by omega)) ?_
      have h1 : s.loadE md = if s.getE md s.ct.value ≠ 0 then s.getE md s.ct.value else s.readE md (s.ct.value % 2) (s.getT md s.ct.value).g := by rw [WS.loadE, hgo]; simp [hvz]
      have h2 : s.loadL md = if s.getE md s.ct.value ≠ 0 then [] else s.readL md (s.ct.value % 2) (s.getT md s.ct.value).g := by rw [WS.loadL, hgo]; simp [hvz]
      have h3 : s.loadS md = if s.getE md s.ct.value ≠ 0 then s else s.readS md (s.ct.value % 2) := by rw [WS.loadS, hgo]; simp [hvz]
      rw [h1, h2, h3]
      generalize s.getT md s.ct.value = R at *
      generalize s.getE md s.ct.value = G at *
      clear h1 h2 h3
      (refine go ?_)
      (refine WW.ifB rfl (fun hz2 => ?_) (fun hz2 => ?_))
      · rw [if_pos hz2, if_pos hz2, if_pos hz2]
        (refine go ?_)
        refine WW.cvt (Cvt.sub1 (s := 2) (v := .imm 8 []) rfl SubV.nil) ?_
        refine WW.ret ⟨.inl rfl, _, gRES, rfl, hg.new (by repeat first | exact Kp.refl | assumption | with_reducible refine Kp.put ?_ (by omega) _ | with_reducible refine Kp.setN ?_ (by omega) _ | with_reducible refine Kp.keep ?_ _ | with_reducible refine Kp.setW ?_ (by rfl) _), ?_⟩
        exact ((by repeat first | exact Kp.refl | assumption | with_reducible refine Kp.put ?_ (by omega) _ | with_reducible refine Kp.setN ?_ (by omega) _ | with_reducible refine Kp.keep ?_ _ | with_reducible refine Kp.setW ?_ (by rfl) _) : Kp (fun _ => False) h _).mono fun _ _ h => h.elim
      · have hG0 : ¬ G ≠ 0 := by simpa using hz2
        rw [if_neg hG0, if_neg hG0, if_neg hG0]
        refine WW.named (fun h3 => WG md h3 n s ∧ Kp (fun _ => False) h h3 ∧ h3.get h.next = some (.mem 5 [encRt R])) ⟨hg.new (by repeat first | exact Kp.refl | assumption | with_reducible refine Kp.put ?_ (by omega) _ | with_reducible refine Kp.setN ?_ (by omega) _ | with_reducible refine Kp.keep ?_ _ | with_reducible refine Kp.setW ?_ (by rfl) _), (by repeat first | exact Kp.refl | assumption | with_reducible refine Kp.put ?_ (by omega) _ | with_reducible refine Kp.setN ?_ (by omega) _ | with_reducible refine Kp.keep ?_ _ | with_reducible refine Kp.setW ?_ (by rfl) _), gH⟩ ?_
        rintro h3 ⟨g3, k3, q3⟩
        (refine go ?_)
        have hmod : s.ct.value.tmod 2 = s.ct.value % 2 := Int.tmod_eq_emod_of_nonneg (by omega)
        rw [hmod, wrap_in (k := .i64) (n := s.ct.value % 2) (by constructor <;> omega)]
        refine WL.callA rfl (by first | exact True.intro | exact rfl) gSL (area_Read_ac g3 hs.fit (by omega) (s.ct.value % 2) (by omega) R.g) ?_
        rintro _ h4 ⟨rfl, g4, k4⟩
        (refine go ?_)
        exact WW.ret ⟨.inl rfl, _, gRES, rfl, g4, (k3.mono fun _ _ h => h.elim).trans k4⟩
end Go.Proofs.YtjehfcjfnmcjcaaGreat


namespace Go.Proofs.YtjehfcjfnmcjcaaGreat
open Go Go.Abs

set_option maxHeartbeats 1000000 in
theorem law23_some_ae (n : Nat) (hn : n ≤ 1000) (K T : List Int) (hK : K.length ≤ maxLen) (hT : T.length ≤ maxLen) (h : AHeap) : AE Tryz.prog 18 [.int .i64 n, .imm 1 (K.map encJ), .imm 1 (T.map encU)] h (.imm 8 ((someL n K T).map encL)) h := by
  refine AE.pureW is_law23_some (by simp) ?_
  unfold c_law23_some
  (refine go ?_)
  rw [show List.replicate n [AV.int .i64 0, .bool false, .int .i64 0, .int .u32 0, .int .u32 0, .int .u64 0, .int .u64 0, .int .u64 0] = (partL n K T 0).map encL from partL_zero n K T]
  refine WW.loopE (fun (i : Nat) => [(0, some (.int .i64 n)), (1, some (.imm 1 (K.map encJ))), (2, some (.imm 1 (T.map encU))), (7, some (.ref h.next 0 n)), (8, some (.int .i64 i))])
    (fun i h' => h' = h.put h.next (.mem 8 ((partL n K T i).map encL)) ∧ i ≤ n) (fun i => n - i) 0 gSUB ⟨rfl, Nat.zero_le _⟩ ?_
  rintro i _ ⟨rfl, g2⟩
  have hpl := partL_len n K T i
  (refine go ?_)
  (refine WW.ifB rfl (fun hz1 => ?_) (fun hz1 => ?_))
  · have hi : i < n := by omega
    (refine go ?_)
    refine WW.thenI (fun e' F' => subE [(0, some (.int .i64 n)), (1, some (.imm 1 (K.map encJ))), (2, some (.imm 1 (T.map encU))), (7, some (.ref h.next 0 n)), (8, some (.int .i64 i)), (9, some (.int .i64 (pick K i))), (10, some (.int .u64 0))] e' ∧ F' = h.put h.next (.mem 8 ((partL n K T i).map encL))) ?_ ?_
    · (refine WW.ifB rfl (fun hz2 => ?_) (fun hz2 => ?_))
      · have hm : i % K.length < K.length := Nat.mod_lt _ (by omega)
        have hmod : ((i : Int) % (K.length : Int)) = ((i % K.length : Nat) : Int) := by simp
        (refine go ?_)
        rw [Int.natAbs_natCast]
        refine WL.go (hs := Stp.loadi rfl (map_at (List.getElem?_eq_getElem hm)) (by first | exact getC_at rfl rfl | exact getC_all rfl | exact getC_sub (Nat.le_of_ble_eq_true rfl) (by first | (simp only [putC, AV.cs, encP, encN, encI, encS, encA, List.take_succ_cons, List.take_zero, List.take_nil, List.drop_succ_cons, List.drop_zero, List.drop_nil, List.cons_append, List.nil_append, List.append_nil, List.length_cons, List.length_nil, Nat.zero_add, Nat.add_zero, Nat.reduceAdd]; exact rfl) | exact rfl) | exact getC_sub (by simp) (by first | (simp only [putC, AV.cs, encP, encN, encI, encS, encA, List.take_succ_cons, List.take_zero, List.take_nil, List.drop_succ_cons, List.drop_zero, List.drop_nil, List.cons_append, List.nil_append, List.append_nil, List.length_cons, List.length_nil, Nat.zero_add, Nat.add_zero, Nat.reduceAdd]; exact rfl) | exact rfl)) (by first | exact True.intro | exact rfl)) ?_
        rw [pick_at i hm]
        (refine go ?_)
        exact ⟨rfl, gSUB, rfl⟩
      · rw [pick_nil (by omega)]
        (refine go ?_)
        exact ⟨rfl, gSUB, rfl⟩
    rintro e7 _ ⟨hs7, rfl⟩
    refine WW.cvt (Cvt.sub hs7) ?_
    clear hs7
    (refine go ?_)
    refine WW.thenI (fun e' F' => subE [(0, some (.int .i64 n)), (1, some (.imm 1 (K.map encJ))), (2, some (.imm 1 (T.map encU))), (7, some (.ref h.next 0 n)), (8, some (.int .i64 i)), (9, some (.int .i64 (pick K i))), (10, some (.int .u64 (pick T i)))] e' ∧ F' = h.put h.next (.mem 8 ((partL n K T i).map encL))) ?_ ?_
    · (refine WW.ifB rfl (fun hz3 => ?_) (fun hz3 => ?_))
      · have hm : i % T.length < T.length := Nat.mod_lt _ (by omega)
        (refine go ?_)
        rw [Int.natAbs_natCast]
        refine WL.go (hs := Stp.loadi rfl (map_at (List.getElem?_eq_getElem hm)) (by first | exact getC_at rfl rfl | exact getC_all rfl | exact getC_sub (Nat.le_of_ble_eq_true rfl) (by first | (simp only [putC, AV.cs, encP, encN, encI, encS, encA, List.take_succ_cons, List.take_zero, List.take_nil, List.drop_succ_cons, List.drop_zero, List.drop_nil, List.cons_append, List.nil_append, List.append_nil, List.length_cons, List.length_nil, Nat.zero_add, Nat.add_zero, Nat.reduceAdd]; exact rfl) | exact rfl) | exact getC_sub (by simp) (by first | (simp only [putC, AV.cs, encP, encN, encI, encS, encA, List.take_succ_cons, List.take_zero, List.take_nil, List.drop_succ_cons, List.drop_zero, List.drop_nil, List.cons_append, List.nil_append, List.append_nil, List.length_cons, List.length_nil, Nat.zero_add, Nat.add_zero, Nat.reduceAdd]; exact rfl) | exact rfl)) (by first | exact True.intro | exact rfl)) ?_
        rw [pick_at i hm]
        (refine go ?_)
        exact ⟨rfl, gSUB, rfl⟩
      · rw [pick_nil (K := T) (by omega)]
        (refine go ?_)
        exact ⟨rfl, gSUB, rfl⟩
    rintro e7 _ ⟨hs7, rfl⟩
    refine WW.cvt (Cvt.sub hs7) ?_
    clear hs7
    obtain ⟨c, hc, hb⟩ := and3 (pick K i)
    (refine go ?_)
    rw [hb]
    have hfit : i < (partL n K T i).length := by omega
    have hd : ∀ x : Lf, List.drop 8 (encL x) = [] := fun _ => rfl
    have hc4 : c = 0 ∨ c = 1 ∨ c = 2 ∨ c = 3 := by omega
    rcases hc4 with rfl | rfl | rfl | rfl
    · (refine go ?_)
      refine ⟨i + 1, gSUB, ⟨?_, by omega⟩, by omega⟩
      rw [partL_next n K T i (by simp [someF, hb])]
    · (refine go ?_)
      refine ⟨i + 1, gSUB, ⟨?_, by omega⟩, by omega⟩
      rw [← partL_set, hd, Nat.zero_add, put_set, show encL (someF K T i) = [.int .i64 2, .bool true, .int .i64 i, .int .u32 0, .int .u32 0, .int .u64 0, .int .u64 0, .int .u64 0] by simp [someF, hb, encL]]
    · (refine go ?_)
      refine ⟨i + 1, gSUB, ⟨?_, by omega⟩, by omega⟩
      rw [← partL_set, hd, Nat.zero_add, put_set, show encL (someF K T i) = [.int .i64 1, .bool (bits .and .i64 (pick K i) 3 == 2), .int .i64 ((i : Int) + 16), .int .u32 1, .int .u32 i, .int .u64 (pick T i), .int .u64 (pick T i), .int .u64 i] by simp [someF, hb, encL]]
    · (refine go ?_)
      refine ⟨i + 1, gSUB, ⟨?_, by omega⟩, by omega⟩
      rw [← partL_set, hd, Nat.zero_add, put_set, show encL (someF K T i) = [.int .i64 1, .bool (bits .and .i64 (pick K i) 3 == 2), .int .i64 ((i : Int) + 16), .int .u32 1, .int .u32 i, .int .u64 (pick T i), .int .u64 (pick T i), .int .u64 i] by simp [someF, hb, encL]]
  · have hi : i = n := by omega
    subst hi
    (refine go ?_)
    refine WW.ret (PureQ.finD ?_)
    exact fz_ref gH (Nat.le_refl _) (by simp [hpl]) (by rw [partL_end]) flatC_L
theorem wst0 (md : Bool) {m : Nat} (hG : isG m = true) (seed : Int) : WSt md (ws0 m seed) 0 := by
  have h := lst0 md hG seed
  exact ⟨h.fit, h.cur, h.seq, h.dat, ⟨by simp [ws0], by simp [ws0], by simp [ws0]⟩⟩
theorem wf0 : ∀ x ∈ List.replicate 4 lf0, x.Wf := by intro x hx; obtain ⟨_, rfl⟩ := List.mem_replicate.1 hx; constructor <;> decide
set_option maxHeartbeats 1000000 in
theorem law23_known_ae (h : AHeap) : AE Tryz.prog 22 [] h (.bool true) h := by
  refine AE.pureW is_law23_known (by simp) ?_
  unfold c_law23_known
  (refine go ?_)
  refine WL.callA rfl (by first | exact True.intro | exact rfl) gSL (world_NewG_ac true 4 rfl 1 h) ?_
  rintro _ h1 ⟨n, rfl, g1, hn, k1⟩
  have hx1 := k1.next
  have hnm : ∀ id, n.own true id → h.next ≤ id := fun id hi => hn id (.inl (WN.own_all hi))
  (refine go ?_)
  refine WL.call rfl (by first | exact True.intro | exact rfl) gSL (nonce_New_ae rfl 0 (by decide)) ?_
  have hmk : ¬ n.nm true h1.next := fun hi => by have := (g1.us _ hi).1; omega
  refine WL.named (fun h2 => WG true h2 n (ws0 4 1) ∧ Kp (fun id => h.next ≤ id) h h2 ∧ BoxAt h2 h1.next (mkO 0 0)) ⟨g1.new (by repeat first | exact Kp.refl | assumption | with_reducible refine Kp.put ?_ (by omega) _ | with_reducible refine Kp.setN ?_ (by omega) _ | with_reducible refine Kp.keep ?_ _ | with_reducible refine Kp.setW ?_ (by rfl) _), (by repeat first | exact Kp.refl | assumption | with_reducible refine Kp.put ?_ (by omega) _ | with_reducible refine Kp.setN ?_ (by omega) _ | with_reducible refine Kp.keep ?_ _ | with_reducible refine Kp.setW ?_ (by rfl) _), ⟨put_used_nm, gH⟩⟩ ?_
  generalize h1.next = mk at *
  clear g1 k1
  rintro h2 ⟨g2, k2, b2⟩
  have hx2 := k2.next
  (refine go ?_)
  refine WL.cvt (Cvt.frzE (s := 20) (c' := (List.replicate 4 lf0).map encL) rfl gH rfl) ?_
  refine WL.named (fun h3 => WG true h3 n (ws0 4 1) ∧ Kp (fun id => h.next ≤ id) h h3 ∧ BoxAt h3 mk (mkO 0 0)) ⟨g2.new (by repeat first | exact Kp.refl | assumption | with_reducible refine Kp.put ?_ (by omega) _ | with_reducible refine Kp.setN ?_ (by omega) _ | with_reducible refine Kp.keep ?_ _ | with_reducible refine Kp.setW ?_ (by rfl) _), (by repeat first | exact Kp.refl | assumption | with_reducible refine Kp.put ?_ (by omega) _ | with_reducible refine Kp.setN ?_ (by omega) _ | with_reducible refine Kp.keep ?_ _ | with_reducible refine Kp.setW ?_ (by rfl) _), b2.kp (W := fun _ => False) (by repeat first | exact Kp.refl | assumption | with_reducible refine Kp.put ?_ (by omega) _ | with_reducible refine Kp.setN ?_ (by omega) _ | with_reducible refine Kp.keep ?_ _ | with_reducible refine Kp.setW ?_ (by rfl) _) (fun h => h)⟩ ?_
  clear g2 k2 b2 hx2
  rintro h3 ⟨g3, k3, b3⟩
  have S0 := wst0 true (m := 4) rfl 1
  have hf0 := free_ws0 4 1
  have hd := doC_e (md := true) (s := ws0 4 1) (boot := 0) (j := 0) (lv := List.replicate 4 lf0)
  rw [doE_free hf0, if_neg (by decide)] at hd
  have hgd := good_done (md := true) (lv := List.replicate 4 lf0) S0 (by omega) rfl wf0 (by decide) (show (0 : Int) = (ws0 4 1).ct.boots from rfl) (j := 0) (by omega) hd
  have hct := doC_ct (md := true) (s := ws0 4 1) (boot := 0) (j := 0) (lv := List.replicate 4 lf0)
  rw [if_pos hd] at hct
  have hS1 := doC_wst (md := true) (boot := 0) (j := 0) (lv := List.replicate 4 lf0) S0 rfl
  have hf1 := doC_free (md := true) (boot := 0) (j := 0) (lv := List.replicate 4 lf0) hf0
  have hst : ((ws0 4 1).doC true 0 0 (List.replicate 4 lf0)).2.1.pw.steps = 6 := by
    rw [doC_pw hd]; rfl
  have hP := commit_Do_ac g3 S0 (by omega) b3 (by decide) (by omega) hmk (List.replicate 4 lf0) rfl wf0 (by decide)
  rw [hd] at hP
  generalize ((ws0 4 1).doC true 0 0 (List.replicate 4 lf0)).2.2 = j1 at *
  obtain ⟨_, G⟩ := hgd
  have hv1 : (ws0 4 1).ct.value + 1 = ((ws0 4 1).doC true 0 0 (List.replicate 4 lf0)).2.1.ct.value := by rw [hct]; rfl
  rw [hv1] at G
  have hv : ((ws0 4 1).doC true 0 0 (List.replicate 4 lf0)).2.1.ct.value = 1 := by rw [hct]; rfl
  generalize ((ws0 4 1).doC true 0 0 (List.replicate 4 lf0)).2.1 = s1 at *
  refine WL.callA rfl (by first | exact True.intro | exact rfl) gSL (hP) ?_
  rintro _ h4 ⟨rfl, g4, b4, k4⟩
  have k5 : Kp (fun id => h.next ≤ id) h h4 := k3.trans (k4.mono fun id _ hh => hh.elim (hnm id) fun e => by omega)
  obtain ⟨l1, l2⟩ := G.load hS1.fit hf1.g
  clear hd hct S0 hf0 hP g3 k3 b3 k4 hv1 G
  (refine go ?_)
  refine WL.callA rfl (by first | exact True.intro | exact rfl) gSL (commit_Load_ac g4 hS1 (by omega)) ?_
  rintro _ h6 ⟨rfl, g6, k6⟩
  rw [l1, l2]
  have k7 : Kp (fun id => h.next ≤ id) h h6 := k5.trans (k6.mono fun id _ hi => hnm id hi)
  obtain ⟨e1, e2, e3, e4, e5, e6⟩ := loadS_sd true s1
  have hob := g6.w.w
  simp only [wRow] at hob
  have hct6 := g6.w.ct
  have hpw6 := g6.w.sd.pw
  rw [e4] at hct6
  rw [e3] at hpw6
  have kk : Keeps h h6 := k7.keeps fun _ h => h
  (refine go ?_)
  refine WL.call rfl (by first | exact True.intro | exact rfl) gSL (power_Steps_ae hpw6) ?_
  rw [hst]
  (refine go ?_)
  refine WL.call rfl (by first | exact True.intro | exact rfl) gSL (count_Value_ae (p := n.p) hct6) ?_
  rw [hv]
  (refine go ?_)
  refine WW.ret (PureQ.finD ?_)
  exact fz_b rfl
end Go.Proofs.YtjehfcjfnmcjcaaGreat


namespace Go.Proofs.YtjehfcjfnmcjcaaGreat
open Go Go.Abs

section
variable {md : Bool} {s : WS} {boot : Int} {j : Nat} {lv : List Lf}
theorem doC_j1 (hd : (s.doC md boot j lv).1 = 0) : (s.doC md boot j lv).2.2 = j + 1 := by
  revert hd
  exact doC_ind (P := fun d => d.1 = 0 → d.2.2 = j + 1) (fun _ h => by cases h) (fun _ _ h => by cases h) (fun _ _ _ h => by cases h) (fun _ _ _ _ _ => rfl) (fun _ _ _ _ _ _ => rfl) (fun _ _ _ _ _ _ _ => rfl) (fun _ _ _ _ _ _ _ => rfl)
end
/-- A world behind i commits of leaves. -/
structure EndI (lv : List Lf) (i : Nat) (s : WS) (j : Nat) : Prop where
  st : WSt true s (50 * i)
  fr : s.pw.Free
  n : s.n = 4
  jj : j = min i 100
  v : s.ct.value = ((min i 100 : Nat) : Int)
  b : s.ct.boots = 0
  g : 0 < i → ∃ top e v b tg, Good true s lv s.ct.value top e v b tg
theorem EndI.step {lv : List Lf} {i : Nat} {s : WS} {j : Nat} (h : EndI lv i s j) (hi : i < 120) (hl : lv.length = 4) (hw : ∀ x ∈ lv, x.Wf) (hok : lvOk lv 0 = true) :
    (s.doC true 0 j lv).1 = (if i < 100 then 0 else 6) ∧ EndI lv (i + 1) (s.doC true 0 j lv).2.1 (s.doC true 0 j lv).2.2 := by
  have hjj := h.jj
  have hln : (lv.length : Int) = s.n := by rw [hl, h.n]; rfl
  have he := doC_e (md := true) (s := s) (boot := 0) (j := j) (lv := lv)
  rw [doE_free h.fr] at he
  have hct := doC_ct (md := true) (s := s) (boot := 0) (j := j) (lv := lv)
  have hst := (doC_wst (md := true) (boot := 0) (j := j) h.st hln).mono (k' := 50 * (i + 1)) (by omega)
  have hfr := doC_free (md := true) (boot := 0) (j := j) (lv := lv) h.fr
  have hn := (doC_n (md := true) (s := s) (boot := 0) (j := j) (lv := lv)).1.trans h.n
  by_cases h100 : i < 100
  · rw [if_neg (by omega)] at he
    rw [he, if_pos rfl] at hct
    obtain ⟨_, G⟩ := good_done (md := true) h.st (by omega) hln hw hok h.b.symm (by omega) he
    have hv : (s.doC true 0 j lv).2.1.ct.value = s.ct.value + 1 := by rw [hct]; rfl
    have hhv := h.v
    refine ⟨by rw [if_pos h100, he], hst, hfr, hn, by rw [doC_j1 he]; omega, by rw [hv]; omega, by rw [hct]; exact h.b, fun _ => ?_⟩
    rw [hv]
    exact ⟨_, _, _, _, _, G⟩
  · have hj : j = 100 := by omega
    rw [if_pos hj] at he
    have hj2 := doC_j (md := true) (s := s) (boot := 0) (j := j) (lv := lv) (by omega)
    rw [he, if_neg (by decide)] at hct
    obtain ⟨top, e, v, b, tg, G⟩ := h.g (by omega)
    have G2 := G.undone (lw := lv) (boot := 0) (j := j) h.st hln (by rw [he]; decide)
    have hhv := h.v
    refine ⟨by rw [if_neg h100, he], hst, hfr, hn, by omega, by rw [hct]; omega, by rw [hct]; exact h.b, fun _ => ?_⟩
    rw [hct]
    exact ⟨_, _, _, _, _, G2⟩
end Go.Proofs.YtjehfcjfnmcjcaaGreat


namespace Go.Proofs.YtjehfcjfnmcjcaaGreat
open Go Go.Abs

theorem WSt.crash {md : Bool} {s : WS} {k : Nat} (h : WSt md s k) (K : Nat → Bool) : WSt md (s.crash K) k := by
  have hl := settle_len K s.sd.lasts.length s.sd.waits 0 s.sd.lasts (fun y hy => by have := h.fit.sd.w y hy; rw [h.fit.sd.len]; exact this) rfl
  obtain ⟨p1, p2, p3, p4⟩ := h.fit.pw
  refine ⟨⟨h.fit.g, ⟨fun hh => by simp [WS.crash] at hh, p2, p3, p4⟩, ⟨?_, fun y hy => by simp [WS.crash, SdS.settle] at hy, Nat.zero_le _, h.fit.sd.kt⟩, h.fit.ss, h.fit.ll⟩, h.cur, h.seq, h.dat, h.ct⟩
  show (settleF K 0 s.sd.waits s.sd.lasts).length = _
  rw [hl, h.fit.sd.len]; rfl
theorem doC_dk {md : Bool} {s : WS} {boot : Int} {j : Nat} {lv : List Lf} : (s.doC md boot j lv).2.1.dk = s.dk := by
  have e : (s.areaW md s.doA lv).dk = s.dk := by rw [WS.areaW]; split <;> rfl
  exact doC_ind (P := fun d => d.2.1.dk = s.dk) (fun _ => e) (fun _ _ => e) (fun _ _ _ => e) (fun _ _ _ _ => e) (fun _ _ _ _ _ => e) (fun _ _ _ _ _ _ => e) (fun _ _ _ _ _ _ => e)
theorem crash_ac {md : Bool} {h : AHeap} {n : WN} {s : WS} {k : Nat} (hg : WG md h n s) (hs : s.Fit k) (hk : k ≤ 9000) (hd : s.dk.waits = []) (keep : List Bool) (hkl : keep.length ≤ 9223372036854775807) :
    AC Tryz.prog 23 [.ptr (n.a + 10) 0 0, .imm 1 (keep.map encBo)] h (fun r h' => r = .tup [] ∧ WG md h' n (s.crash (keepF keep)) ∧ Kp (n.own md) h h') := by
  have hgg := isG_cases hs.g
  have hll : s.sd.lasts.length = (s.n * 160 + 120).toNat := by rw [hs.sd.len, sizeG_pos hs.g]
  have hfit : ∀ o ∈ s.sd.waits, 0 ≤ o.1 ∧ o.1 + o.2.length ≤ s.sd.lasts.length := fun o ho => by have := hs.sd.w o ho; rw [sizeG_pos hs.g] at this; omega
  refine (world_Crash_ac hg.w (by omega) (Nat.le_trans hs.sd.kw (by omega)) hfit (by rw [hd]; decide) (by rw [hd]; simp) keep hkl).mono ?_
  rintro _ h' ⟨rfl, w, kp⟩
  exact ⟨rfl, hg.step w kp, kp⟩
def WS.fused (s : WS) (m : Int) : WS := { s with pw := { s.pw with fuse := decide (0 ≤ m), left := m } }
theorem WSt.fused {md : Bool} {s : WS} {k : Nat} (h : WSt md s k) (m : Int) (hm : -9223372036854775808 ≤ m ∧ m ≤ 9223372036854775807) : WSt md (s.fused m) k := by
  obtain ⟨p1, p2, p3, p4⟩ := h.fit.pw
  exact ⟨⟨h.fit.g, ⟨fun hh => by simpa [WS.fused] using hh, hm, p3, p4⟩, h.fit.sd, h.fit.ss, h.fit.ll⟩, h.cur, h.seq, h.dat, h.ct⟩
set_option maxHeartbeats 4000000 in
theorem law23_CommitCrash_ae (md : Bool) (A B T : List Int) (m : Int) (keep : List Bool) (hA : A.length ≤ maxLen) (hB : B.length ≤ maxLen) (hT : T.length ≤ maxLen) (hTw : ∀ t ∈ T, Wf64 t) (h : AHeap) : AE Tryz.prog 5 [.bool md, .imm 1 (A.map encJ), .imm 1 (B.map encJ), .imm 1 (T.map encU), .int .i64 m, .imm 1 (keep.map encBo)] h (.bool true) h := by
  refine AE.pureW is_law23_CommitCrash (by simp) ?_
  unfold c_law23_CommitCrash
  (refine go ?_)
  (apply WL.orB; exact rfl; exact rfl; exact rfl; exact BP.of; intro hz1)
  · (repeat first | (apply GW.goS; exact Stp.auto) | apply GW.nil | exact rfl)
  (refine go ?_)
  (apply WL.orB; exact rfl; exact rfl; exact rfl; exact BP.of; intro hz2)
  · (repeat first | (apply GW.goS; exact Stp.auto) | apply GW.nil | exact rfl)
  (refine go ?_)
  (refine WW.ifB rfl (fun hz3 => ?_) (fun hz3 => ?_))
  · (refine go ?_)
    refine WW.ret (PureQ.finD ?_)
    exact fz_b rfl
  have hgd : 0 ≤ m ∧ m ≤ 8 ∧ keep.length ≤ 20 := by simp at hz3; omega
  clear hz3
  obtain ⟨hm1, hm2, hkl⟩ := hgd
  (refine go ?_)
  refine WL.callA rfl (by first | exact True.intro | exact rfl) gSL (world_NewG_ac md 4 rfl 9 h) ?_
  rintro _ h1 ⟨n, rfl, g1, hn, k1⟩
  have hx1 := k1.next
  have hnm : ∀ id, n.own md id → h.next ≤ id := fun id hi => hn id (.inl (WN.own_all hi))
  (refine go ?_)
  refine WL.call rfl (by first | exact True.intro | exact rfl) gSL (nonce_New_ae rfl 0 (by decide)) ?_
  have hmk : ¬ n.nm md h1.next := fun hi => by have := (g1.us _ hi).1; omega
  refine WL.named (fun h2 => WG md h2 n (ws0 4 9) ∧ Kp (fun id => h.next ≤ id) h h2 ∧ BoxAt h2 h1.next (mkO 0 0)) ⟨g1.new (by repeat first | exact Kp.refl | assumption | with_reducible refine Kp.put ?_ (by omega) _ | with_reducible refine Kp.setN ?_ (by omega) _ | with_reducible refine Kp.keep ?_ _ | with_reducible refine Kp.setW ?_ (by rfl) _), (by repeat first | exact Kp.refl | assumption | with_reducible refine Kp.put ?_ (by omega) _ | with_reducible refine Kp.setN ?_ (by omega) _ | with_reducible refine Kp.keep ?_ _ | with_reducible refine Kp.setW ?_ (by rfl) _), ⟨put_used_nm, gH⟩⟩ ?_
  generalize h1.next = mk at *
  clear g1 k1
  rintro h2 ⟨g2, k2, b2⟩
  have lA := someL_len 4 A T
  have oA := someL_ok 4 (by decide) A T
  have wA := someL_wf 4 (by decide) A T hTw
  have lB := someL_len 4 B T
  have oB := someL_ok 4 (by decide) B T
  have wB := someL_wf 4 (by decide) B T hTw
  have S0 := wst0 md (m := 4) rfl 9
  have hf0 := free_ws0 4 9
  have hd := doC_e (md := md) (s := ws0 4 9) (boot := 0) (j := 0) (lv := someL 4 A T)
  rw [doE_free hf0, if_neg (by decide)] at hd
  obtain ⟨_, G⟩ := good_done (md := md) (lv := someL 4 A T) S0 (by omega) (by rw [lA]; rfl) wA oA (show (0 : Int) = (ws0 4 9).ct.boots from rfl) (j := 0) (by omega) hd
  have hct := doC_ct (md := md) (s := ws0 4 9) (boot := 0) (j := 0) (lv := someL 4 A T)
  rw [if_pos hd] at hct
  have S1 := doC_wst (md := md) (boot := 0) (j := 0) (lv := someL 4 A T) S0 (by rw [lA]; rfl)
  have hf1 := doC_free (md := md) (boot := 0) (j := 0) (lv := someL 4 A T) hf0
  have hj1 := doC_j1 hd
  have hn1 := (doC_n (md := md) (s := ws0 4 9) (boot := 0) (j := 0) (lv := someL 4 A T)).1
  have hdk1 : ((ws0 4 9).doC md 0 0 (someL 4 A T)).2.1.dk.waits = [] := by rw [doC_dk]; rfl
  have hP := commit_Do_ac g2 S0 (by omega) b2 (by decide) (by omega) hmk (someL 4 A T) (by rw [lA]; rfl) wA oA
  rw [hd, hj1] at hP
  have hv1 : (ws0 4 9).ct.value + 1 = ((ws0 4 9).doC md 0 0 (someL 4 A T)).2.1.ct.value := by rw [hct]; rfl
  rw [hv1] at G
  have hct1 : ((ws0 4 9).doC md 0 0 (someL 4 A T)).2.1.ct = ⟨1, 0, 0⟩ := by rw [hct]; rfl
  replace hn1 : ((ws0 4 9).doC md 0 0 (someL 4 A T)).2.1.n = 4 := hn1
  clear hd hj1 hct hv1 S0 hf0
  generalize ((ws0 4 9).doC md 0 0 (someL 4 A T)).2.1 = s1 at *
  (refine go ?_)
  refine WL.call rfl (by first | exact True.intro | exact rfl) gSL (law23_some_ae 4 (by omega) A T hA hT _) ?_
  refine WL.callA rfl (by first | exact True.intro | exact rfl) gSL (hP) ?_
  rintro _ h4 ⟨rfl, g4, b4, k4⟩
  have k5 : Kp (fun id => h.next ≤ id) h h4 := k2.trans (k4.mono fun id _ hh => hh.elim (hnm id) fun e => by omega)
  clear hP g2 k2 b2 k4
  have hob := g4.w.w
  simp only [wRow] at hob
  (refine go ?_)
  refine WL.call rfl (by first | exact True.intro | exact rfl) gSL (power_Fuse_ae g4.w.sd.pw m) ?_
  have hown : ∀ id, n.own md id → ¬ id = mk := fun id hi e => hmk (e ▸ .inl (WN.own_all hi))
  refine WL.named (fun h6 => WG md h6 n (s1.fused m) ∧ BoxAt h6 mk (mkO 0 1) ∧ Kp (fun id => h.next ≤ id) h h6) ⟨g4.step (g4.w.putPw _) (kp_pw n _), b4.kp (kp_pw n _) (fun hi => hown _ hi rfl), k5.trans ((kp_pw (md := md) n _).mono fun id _ hi => hnm id hi)⟩ ?_
  clear g4 b4 k5 hob
  rintro h5 ⟨g5, b5, k5⟩
  have G1 : Good md (s1.fused m) (someL 4 A T) (s1.fused m).ct.value _ _ _ _ _ := G.to rfl rfl rfl G.op (Pre.refl _) G.kl G.kr
  have S2 := S1.fused m (by omega)
  have hpw : (s1.fused m).pw = ⟨false, true, m, s1.pw.steps⟩ := by
    show ({ s1.pw with fuse := decide (0 ≤ m), left := m } : PwS) = _
    rw [decide_eq_true hm1]
    have := hf1.g
    cases hq : s1.pw with
    | mk a b c d => rw [hq] at this; dsimp only at this ⊢; rw [this]
  have hd := doC_e (md := md) (s := s1.fused m) (boot := 0) (j := 1) (lv := someL 4 B T)
  rw [hpw, doE_fuse m _ hm1 1 (by decide)] at hd
  have hn2 : (s1.fused m).n = 4 := hn1
  have hct2 : (s1.fused m).ct = ⟨1, 0, 0⟩ := hct1
  have hP := commit_Do_ac g5 S2 (by omega) b5 (by decide) (by omega) hmk (someL 4 B T) (by rw [lB, hn2]; rfl) wB oB
  rw [hd] at hP
  have S3 := doC_wst (md := md) (boot := 0) (j := 1) (lv := someL 4 B T) S2 (by rw [lB, hn2]; rfl)
  have hct := doC_ct (md := md) (s := s1.fused m) (boot := 0) (j := 1) (lv := someL 4 B T)
  have hn3 := (doC_n (md := md) (s := s1.fused m) (boot := 0) (j := 1) (lv := someL 4 B T)).1.trans hn2
  have key : (((s1.fused m).doC md 0 1 (someL 4 B T)).2.1.crash (keepF keep)).loadE md = 0 ∧ (((s1.fused m).doC md 0 1 (someL 4 B T)).2.1.crash (keepF keep)).loadL md = (if 6 ≤ m then someL 4 B T else someL 4 A T) ∧ ((s1.fused m).doC md 0 1 (someL 4 B T)).2.1.ct.value = if 6 ≤ m then 2 else 1 := by
    by_cases h6 : 6 ≤ m
    · rw [if_pos h6] at hd
      obtain ⟨_, G2⟩ := good_done (md := md) (lv := someL 4 B T) S2 (by omega) (by rw [lB, hn2]; rfl) wB oB (show (0 : Int) = (s1.fused m).ct.boots by rw [hct2]) (j := 1) (by omega) hd
      rw [if_pos hd, hct2] at hct
      have hv : (s1.fused m).ct.value + 1 = ((s1.fused m).doC md 0 1 (someL 4 B T)).2.1.ct.value := by rw [hct, hct2]; rfl
      rw [hv] at G2
      have G3 := G2.settle S3.fit (keepF keep)
      obtain ⟨q1, q2⟩ := Good.load (s := ((s1.fused m).doC md 0 1 (someL 4 B T)).2.1.crash (keepF keep)) G3 (S3.crash (keepF keep)).fit rfl
      rw [if_pos h6, if_pos h6]
      exact ⟨q1, q2, by rw [hct]; rfl⟩
    · rw [if_neg h6] at hd
      have G2 := G1.undone (lw := someL 4 B T) (boot := 0) (j := 1) S2 (by rw [lB, hn2]; rfl) (by rw [hd]; decide)
      rw [hd, if_neg (by decide), hct2] at hct
      have hv : (s1.fused m).ct.value = ((s1.fused m).doC md 0 1 (someL 4 B T)).2.1.ct.value := by rw [hct, hct2]
      rw [hv] at G2
      have G3 := G2.settle S3.fit (keepF keep)
      obtain ⟨q1, q2⟩ := Good.load (s := ((s1.fused m).doC md 0 1 (someL 4 B T)).2.1.crash (keepF keep)) G3 (S3.crash (keepF keep)).fit rfl
      rw [if_neg h6, if_neg h6]
      exact ⟨q1, q2, by rw [hct]⟩
  have hdk3 : ((s1.fused m).doC md 0 1 (someL 4 B T)).2.1.dk.waits = [] := by rw [doC_dk]; exact hdk1
  clear hct hd G1 G hpw
  generalize ((s1.fused m).doC md 0 1 (someL 4 B T)).2.2 = j2 at *
  generalize ((s1.fused m).doC md 0 1 (someL 4 B T)).2.1 = s3 at *
  (refine go ?_)
  refine WL.call rfl (by first | exact True.intro | exact rfl) gSL (law23_some_ae 4 (by omega) B T hB hT _) ?_
  refine WL.callA rfl (by first | exact True.intro | exact rfl) gSL (hP) ?_
  rintro _ h6 ⟨rfl, g6, b6, k6⟩
  have k7 : Kp (fun id => h.next ≤ id) h h6 := k5.trans (k6.mono fun id _ hh => hh.elim (hnm id) fun e => by omega)
  clear hP g5 k5 b5 k6 b6
  have hx7 := k7.next
  (refine go ?_)
  refine WL.callA rfl (by first | exact True.intro | exact rfl) gSL (crash_ac g6 S3.fit (by omega) hdk3 keep (by omega)) ?_
  rintro _ h8 ⟨rfl, g8, k8⟩
  have k9 : Kp (fun id => h.next ≤ id) h h8 := k7.trans (k8.mono fun id _ hi => hnm id hi)
  have S4 := S3.crash (keepF keep)
  clear g6 k7 k8
  (refine go ?_)
  refine WL.callA rfl (by first | exact True.intro | exact rfl) gSL (commit_Load_ac g8 S4 (by omega)) ?_
  rintro _ h10 ⟨rfl, g10, k10⟩
  obtain ⟨q1, q2, q3⟩ := key
  rw [q1, q2]
  have k11 : Kp (fun id => h.next ≤ id) h h10 := k9.trans (k10.mono fun id _ hi => hnm id hi)
  obtain ⟨e1, e2, e3, e4, e5, e6⟩ := loadS_sd md (s3.crash (keepF keep))
  have hob := g10.w.w
  simp only [wRow] at hob
  have hct6 := g10.w.ct
  rw [e4] at hct6
  have hct7 : h10.get (n.a + 7) = some (CtS.obj n.p s3.ct) := hct6
  have kk : Keeps h h10 := k11.keeps fun _ h => h
  clear g8 k9 k10 q1 q2 g10 hct6 k11 S4 S3 e1 e2 e3 e4 e5 e6
  (refine go ?_)
  refine WL.call rfl (by first | exact True.intro | exact rfl) gSL (law23_some_ae 4 (by omega) A T hA hT _) ?_
  (refine go ?_)
  by_cases h6 : 6 ≤ m
  · rw [if_pos h6] at q3
    rw [if_pos h6, if_pos h6]
    (refine WW.ifB rfl (fun hz4 => ?_) (fun hz4 => ?_))
    rotate_left
    · exfalso; omega
    (refine go ?_)
    refine WL.call rfl (by first | exact True.intro | exact rfl) gSL (law23_some_ae 4 (by omega) B T hB hT _) ?_
    (refine go ?_)
    rw [decide_eq_true (show m ≥ 6 by omega)]
    (refine go ?_)
    refine WL.call rfl (by first | exact True.intro | exact rfl) gSL (ref15_Same_ae (someL 4 B T) (someL 4 B T) (by omega) (by omega) _) ?_
    rw [decide_eq_true rfl]
    (refine go ?_)
    refine WL.call rfl (by first | exact True.intro | exact rfl) gSL (count_Value_ae (p := n.p) hct7) ?_
    rw [q3]
    (refine go ?_)
    rw [show ((2 : Int) == 1 + m / 6) = true by rw [beq_iff_eq]; omega]
    refine WL.call rfl (by first | exact True.intro | exact rfl) gSL (law23_known_ae _) ?_
    (refine go ?_)
    refine WW.ret (PureQ.finD ?_)
    exact fz_b rfl
  · rw [if_neg h6] at q3
    rw [if_neg h6, if_neg h6]
    (refine WW.ifB rfl (fun hz4 => ?_) (fun hz4 => ?_))
    · exfalso; omega
    (refine go ?_)
    rw [decide_eq_false (show ¬ m ≥ 6 by omega)]
    (refine go ?_)
    refine WL.call rfl (by first | exact True.intro | exact rfl) gSL (ref15_Same_ae (someL 4 A T) (someL 4 A T) (by omega) (by omega) _) ?_
    rw [decide_eq_true rfl]
    (refine go ?_)
    refine WL.call rfl (by first | exact True.intro | exact rfl) gSL (count_Value_ae (p := n.p) hct7) ?_
    rw [q3]
    (refine go ?_)
    rw [show ((1 : Int) == 1 + m / 6) = true by rw [beq_iff_eq]; omega]
    refine WL.call rfl (by first | exact True.intro | exact rfl) gSL (law23_known_ae _) ?_
    (refine go ?_)
    refine WW.ret (PureQ.finD ?_)
    exact fz_b rfl
theorem top_CommitCrash (c0 : List AV) (t0 : TypL [.b] c0) (c1 : List AV) (t1 : TypL [.sl [.i .i64]] c1) (c2 : List AV) (t2 : TypL [.sl [.i .i64]] c2) (c3 : List AV) (t3 : TypL [.sl [.i .u64]] c3) (c4 : List AV) (t4 : TypL [.i .i64] c4) (c5 : List AV) (t5 : TypL [.sl [.b]] c5) :
    AE Tryz.prog 5 [c0.headD .nilp, c1.headD .nilp, c2.headD .nilp, c3.headD .nilp, c4.headD .nilp, c5.headD .nilp] noHeap (.bool true) noHeap := by
  obtain ⟨md, rfl⟩ := bool_of20 t0
  obtain ⟨A, rfl, hA⟩ := ints_of t1
  obtain ⟨B, rfl, hB⟩ := ints_of t2
  obtain ⟨T, rfl, hT, hTw⟩ := u64s_of t3
  obtain ⟨m, rfl, _⟩ := int_of t4
  obtain ⟨keep, rfl⟩ := bools_of t5
  exact law23_CommitCrash_ae md A B T m keep hA hB hT hTw noHeap
end Go.Proofs.YtjehfcjfnmcjcaaGreat


