/- What the statement's proof needs, part 5. -/
import Derived.Test.YtjehfcjfnmcjcaaQAreaTwo4
set_option linter.all false
namespace Go.Proofs.Ytjehfcjfnmcjcaa
open Go Go.Abs

/-- No fuse, power on. -/
structure PwS.Free (w : PwS) : Prop where
  g : w.gone = false
  f : w.fuse = false
theorem PwS.Free.can {w : PwS} (h : w.Free) : w.can = true := by simp [PwS.can, h.g, h.f]
theorem PwS.Free.spend {w : PwS} (h : w.Free) : w.spend.Free := by
  have h1 := h.g
  have h2 := h.f
  refine ⟨?_, ?_⟩ <;> simp [PwS.spend, h1, h2]
theorem PwS.Ok.mono {w : PwS} {k k' : Nat} (h : w.Ok k) (hk : k ≤ k') : w.Ok k' := ⟨h.l0, h.l1, h.s0, by have := h.s1; omega⟩
theorem SdS.Ok.mono {x : SdS} {n k k' : Nat} (h : x.Ok n k) (hk : k ≤ k') : x.Ok n k' := ⟨h.len, h.w, Nat.le_trans h.kw hk, Nat.le_trans h.kt hk⟩
theorem WS.Fit.mono {s : WS} {k k' : Nat} (h : s.Fit k) (hk : k ≤ k') : s.Fit k' := ⟨h.g, h.pw.mono hk, h.sd.mono hk, Nat.le_trans h.ss hk, Nat.le_trans h.ll hk⟩
theorem fit_ws0 {n : Nat} (hg : isG n = true) (seed : Int) : (ws0 n seed).Fit 0 := by
  refine ⟨hg, ⟨fun h => by simp [ws0] at h, by simp [ws0], by simp [ws0], by simp [ws0]⟩, ⟨?_, by simp [ws0, sd0], by simp [ws0, sd0], by simp [ws0, sd0]⟩, by simp [ws0], by simp [ws0]⟩
  rw [show (ws0 n seed).n = n from rfl, sizeG_pos hg]
  simp only [ws0, sd0, List.length_replicate]; omega
theorem free_ws0 (n : Nat) (seed : Int) : (ws0 n seed).pw.Free := ⟨rfl, rfl⟩
theorem areaW_pw {md : Bool} {s : WS} (a : Int) (lv : List Lf) (hf : s.pw.Free) : (s.areaW md a lv).pw = s.pw.spend.spend := by rw [WS.areaW, hf.can]; rfl
theorem areaW_free {md : Bool} {s : WS} (a : Int) (lv : List Lf) (hf : s.pw.Free) : (s.areaW md a lv).pw.Free := by rw [areaW_pw a lv hf]; exact hf.spend.spend
theorem fit_areaW {md : Bool} {s : WS} {k : Nat} (hs : s.Fit k) (hf : s.pw.Free) (a : Int) (ha : 0 ≤ a ∧ a < 2) (lv : List Lf) (hl : (lv.length : Int) = s.n) : (s.areaW md a lv).Fit (k + 40) := by
  have hg := isG_cases hs.g
  have ha' : a = 0 ∨ a = 1 := by omega
  have hbl := (buildF_len md (lv.map leafB) s.S).2
  rw [List.length_map] at hbl
  have hss := hs.ss
  have hll := hs.ll
  have hlb := lvB_len lv
  have hnb := nodesB_len (s.nodes md lv)
  rw [nodes_len] at hnb
  have e : s.areaW md a lv = { s.areaW1 md a lv with pw := s.pw.spend.spend, sd := (s.areaW1 md a lv).sd.write (ndAt s.n a 0, nodesB (s.nodes md lv)) s.pw.spend.can } := by rw [WS.areaW, hf.can]; rfl
  rw [e]
  refine ⟨hs.g, (hs.pw.spend.spend).mono (by omega), ?_, by show (buildF md (lv.map leafB) s.S).2.length ≤ _; omega, by show s.L.length ≤ _; omega⟩
  have o1 : 0 ≤ lfAt s.n a 0 ∧ lfAt s.n a 0 + ((lvB lv).length : Nat) ≤ (((sizeG s.n).toNat : Nat) : Int) := by
    rw [sizeG_pos hs.g]; unfold lfAt; rcases ha' with rfl | rfl <;> omega
  have o2 : 0 ≤ ndAt s.n a 0 ∧ ndAt s.n a 0 + ((nodesB (s.nodes md lv)).length : Nat) ≤ (((sizeG s.n).toNat : Nat) : Int) := by
    rw [sizeG_pos hs.g]; unfold ndAt; rcases ha' with rfl | rfl <;> omega
  exact ((hs.sd.write (o := (lfAt s.n a 0, lvB lv)) o1 s.pw.can).write (o := (ndAt s.n a 0, nodesB (s.nodes md lv))) o2 s.pw.spend.can).mono (by omega)
theorem fit_readS {md : Bool} {s : WS} {k : Nat} (hs : s.Fit k) (a : Int) : (s.readS md a).Fit (k + 40) := by
  have hg := isG_cases hs.g
  have hbl := (buildF_len md (s.rows a s.n.toNat) s.S).2
  rw [rows_len] at hbl
  have hss := hs.ss
  rw [WS.readS]
  split
  · exact hs.mono (by omega)
  · exact ⟨hs.g, hs.pw.mono (by omega), hs.sd.mono (by omega), by show (buildF md (s.rows a s.n.toNat) s.S).2.length ≤ _; omega, Nat.le_trans hs.ll (by omega)⟩
theorem readS_sd (md : Bool) (s : WS) (a : Int) : (s.readS md a).sd = s.sd ∧ (s.readS md a).n = s.n ∧ (s.readS md a).pw = s.pw := by rw [WS.readS]; split <;> exact ⟨rfl, rfl, rfl⟩
theorem readS_pre (md : Bool) {s : WS} (a : Int) (h1 : 1 ≤ s.n.toNat) : Pre s.S (s.readS md a).S := by
  rw [WS.readS]; split
  · exact Pre.refl _
  · exact (buildF_tree md (s.rows a s.n.toNat) s.S (by rwa [rows_len])).1
theorem row_congr {s s' : WS} (h1 : s'.sd = s.sd) (h2 : s'.n = s.n) (a : Int) (i : Nat) : s'.row a i = s.row a i := by rw [WS.row_sub, WS.row_sub, h1, h2]
theorem nd_congr {s s' : WS} (h1 : s'.sd = s.sd) (h2 : s'.n = s.n) (a : Int) (i : Nat) : s'.ndF a i = s.ndF a i := by rw [WS.nd_sub, WS.nd_sub, h1, h2]

def WS.smash (s : WS) (o : Wr) : WS := { s with sd := s.sd.smash o }
theorem settle_all : ∀ (l : List Wr) (i : Nat) (b : Bs), settleF (fun _ => true) i l b = l.foldl layO b
  | [], _, _ => rfl
  | x :: r, i, b => by rw [settleF, if_pos rfl, settle_all r]; rfl
theorem smash_snap {x : SdS} {o : Wr} (h : inB x.lasts.length o.1 o.2.length = true) : (x.smash o).snap = layO x.snap o := by
  rw [SdS.smash, if_pos h]
  simp [SdS.snap, SdS.settle, settle_all]
theorem fit_smash {s : WS} {k : Nat} (hs : s.Fit k) (o : Wr) : (s.smash o).Fit k := by
  refine ⟨hs.g, hs.pw, ?_, hs.ss, hs.ll⟩
  show (s.sd.smash o).Ok _ _
  rw [SdS.smash]
  split
  · rename_i hin
    have hl := settle_len (fun _ => true) s.sd.lasts.length s.sd.waits 0 s.sd.lasts (fun y hy => by have := hs.sd.w y hy; rw [hs.sd.len]; exact this) rfl
    refine ⟨?_, fun y hy => by simp [SdS.settle] at hy, Nat.zero_le _, hs.sd.kt⟩
    show (layO (settleF (fun _ => true) 0 s.sd.waits s.sd.lasts) o).length = _
    rw [layO_len _ _ (by rw [hl]; simp [inB] at hin; omega), hl, hs.sd.len]; rfl
  · exact hs.sd

theorem someL_len (n : Nat) (K T : List Int) : (someL n K T).length = n := by simp [someL]
theorem lvOk_of {l : List Lf} : ∀ j, (∀ i (hi : i < l.length), leafIs l[i] ((j + i : Nat) : Int) = true) → lvOk l j = true := by
  induction l with
  | nil => intro j _; rfl
  | cons x r ih =>
    intro j h
    rw [lvOk, Bool.and_eq_true]
    refine ⟨by have := h 0 (by simp); simpa using this, ih (j + 1) fun i hi => ?_⟩
    have := h (i + 1) (by simpa using hi)
    rw [show j + 1 + i = j + (i + 1) by omega]
    simpa using this
theorem someF_is (K T : List Int) (i : Nat) (hi : i < 16) : leafIs (someF K T i) i = true := by
  have h0 : ¬ ((i : Int) < 0 ∨ 16 ≤ (i : Int)) := by omega
  rw [leafIs, if_neg h0, someF]
  split
  · have : lbaOk (i : Int) = true := by simp [lbaOk]; omega
    simp [this, lf0]
  · split
    · have : lbaOk ((i + 16 : Nat) : Int) = true := by simp only [lbaOk, Bool.and_eq_true, decide_eq_true_eq]; omega
      simp only [this]
      simp
    · simp [lf0]
theorem someL_ok (n : Nat) (hn : n ≤ 16) (K T : List Int) : lvOk (someL n K T) 0 = true :=
  lvOk_of 0 fun i hi => by
    rw [someL_len] at hi
    simp only [someL, List.getElem_map, List.getElem_range, Nat.zero_add]
    exact someF_is K T i (by omega)
theorem someL_wf (n : Nat) (hn : n ≤ 16) (K T : List Int) (hT : ∀ t ∈ T, Wf64 t) : ∀ x ∈ someL n K T, x.Wf := by
  intro x hx
  obtain ⟨i, hi, rfl⟩ := List.mem_map.1 hx
  have hi' := List.mem_range.1 hi
  have ht : Wf64 (pick T i) := pick_mem (P := Wf64) ⟨by decide, by decide⟩ hT i
  obtain ⟨t1, t2⟩ := ht
  unfold someF
  split
  · constructor <;> dsimp only <;> omega
  · split
    · constructor <;> dsimp only <;> omega
    · constructor <;> decide
theorem int_ofJ {cells : List AV} (h : TypL [.i .i64] cells) : ∃ k : Int, cells = encJ k := by
  obtain ⟨n, rfl, _⟩ := int_of h; exact ⟨n, rfl⟩
theorem ints_of {cells : List AV} (h : TypL [.sl [.i .i64]] cells) : ∃ b : List Int, cells = [.imm 1 (b.map encJ)] ∧ b.length ≤ maxLen := by
  obtain ⟨v, vs, rfl, h1, h2⟩ := h.cons_inv
  obtain rfl := h2.nil_inv
  obtain ⟨c, rfl, hl, hc⟩ := h1.sl_inv
  obtain ⟨l, rfl⟩ := map_of (f := encJ) (fun cells => int_ofJ) hc
  exact ⟨l, rfl, by simpa using hl⟩
theorem map_ofP {f : Int → List AV} {Q : Int → Prop} {R : List AV → Prop} (h1 : ∀ c, R c → ∃ x, c = f x ∧ Q x) : ∀ {c : List (List AV)}, (∀ x ∈ c, R x) → ∃ l : List Int, c = l.map f ∧ ∀ x ∈ l, Q x
  | [], _ => ⟨[], rfl, by simp⟩
  | x :: r, h => by
    obtain ⟨y, rfl, hy⟩ := h1 x (h x (by simp))
    obtain ⟨l, rfl, hl⟩ := map_ofP h1 (c := r) fun z hz => h z (by simp [hz])
    exact ⟨y :: l, rfl, fun z hz => by rcases List.mem_cons.1 hz with rfl | hz; exact hy; exact hl z hz⟩
theorem u64s_of {cells : List AV} (h : TypL [.sl [.i .u64]] cells) : ∃ b : List Int, cells = [.imm 1 (b.map encU)] ∧ b.length ≤ maxLen ∧ ∀ t ∈ b, Wf64 t := by
  obtain ⟨v, vs, rfl, h1, h2⟩ := h.cons_inv
  obtain rfl := h2.nil_inv
  obtain ⟨c, rfl, hl, hc⟩ := h1.sl_inv
  obtain ⟨l, rfl, hq⟩ := map_ofP (f := encU) (Q := Wf64) (R := TypL [.i .u64]) (fun _ h => by obtain ⟨n, rfl, hw⟩ := int_of h; exact ⟨n, rfl, wf64 hw⟩) hc
  exact ⟨l, rfl, by simpa using hl, hq⟩
/-- Leaves, written: all that the area's next calls need. -/
structure Laid (md : Bool) (s : WS) (a : Int) (lv : List Lf) (top : Pr) : Prop where
  f : s.pw.Free
  l : (lv.length : Int) = s.n
  w : ∀ x ∈ lv, x.Wf
  ok : lvOk lv 0 = true
  r : ∀ i (hi : i < lv.length), s.row a i = leafB lv[i]
  t : ∃ N, Tree md s.S (lv.map leafB) N ∧ nd N 1 = top ∧ ∀ j, 1 ≤ j → j < 2 * lv.length → s.ndF a j = nd N j
theorem laid_areaW {md : Bool} {s : WS} {k : Nat} (hs : s.Fit k) (hk : k ≤ 9000) (hf : s.pw.Free) (a : Int) (ha : 0 ≤ a ∧ a < 2) (lv : List Lf) (hl : (lv.length : Int) = s.n) (hw : ∀ x ∈ lv, x.Wf) (hok : lvOk lv 0 = true) : Laid md (s.areaW md a lv) a lv ((s.nodes md lv).getD 1 (0, 0)) := by
  have hg := isG_cases hs.g
  refine ⟨areaW_free a lv hf, by rw [areaW_n]; exact hl, hw, hok, fun i hi => areaW_row hs hf.can hf.spend.can ha hl i hi, s.nodes md lv, ?_, rfl, fun j h1 h2 => areaW_nd hs hf.can hf.spend.can ha hl hk j h1 h2⟩
  rw [areaW_S]
  exact (buildF_tree md (lv.map leafB) s.S (by rw [List.length_map]; omega)).2
theorem Laid.same {md : Bool} {s s' : WS} {a : Int} {lv : List Lf} {top : Pr} (h : Laid md s a lv top) (h1 : s'.sd = s.sd) (h2 : s'.n = s.n) (h3 : s'.pw = s.pw) (h4 : Pre s.S s'.S) : Laid md s' a lv top := by
  obtain ⟨f, l, w, ok, r, N, t1, t2, t3⟩ := h
  exact ⟨h3 ▸ f, h2 ▸ l, w, ok, fun i hi => (row_congr h1 h2 a i).trans (r i hi), N, t1.pre h4, t2, fun j j1 j2 => (nd_congr h1 h2 a j).trans (t3 j j1 j2)⟩
theorem Laid.topOf {md : Bool} {s : WS} {a : Int} {lv : List Lf} {top : Pr} (h : Laid md s a lv top) : TopOf md s.S lv top := by
  obtain ⟨N, t1, t2, _⟩ := h.t
  exact ⟨N, t1, t2⟩
theorem Laid.read {md : Bool} {s : WS} {k : Nat} {a : Int} {lv : List Lf} {top : Pr} (h : Laid md s a lv top) (hs : s.Fit k) : s.readE md a top = 0 ∧ s.readL md a top = lv ∧ Laid md (s.readS md a) a lv top := by
  obtain ⟨h1, h2⟩ := read_well hs h.f.g h.l h.w h.ok h.r h.topOf
  obtain ⟨q1, q2, q3⟩ := readS_sd md s a
  have hg := isG_cases hs.g
  exact ⟨h1, h2, h.same q1 q2 q3 (readS_pre md a (by omega))⟩
theorem Laid.one {md : Bool} {s : WS} {k : Nat} {a : Int} {lv : List Lf} {top : Pr} (h : Laid md s a lv top) (hs : s.Fit k) (i : Nat) (hi : i < lv.length) : s.oneE md a i top = 0 ∧ s.oneL md a i top = lv[i] ∧ s.oneS md a i = s := by
  obtain ⟨N, t1, t2, t3⟩ := h.t
  exact one_well hs h.f.g h.l h.w h.ok t1 t2 t3 i hi (h.r i hi)
theorem Laid.other {md : Bool} {s : WS} {k : Nat} {a b : Int} {lv lw : List Lf} {top : Pr} (h : Laid md s b lw top) (hs : s.Fit k) (ha : 0 ≤ a ∧ a < 2) (hb : 0 ≤ b ∧ b < 2) (hne : b ≠ a) (hl : (lv.length : Int) = s.n) : TopOf md (s.areaW md a lv).S lw top ∧ (∀ i (hi : i < lw.length), (s.areaW md a lv).row b i = leafB lw[i]) := by
  have hg := isG_cases hs.g
  have hll := h.l
  refine ⟨h.topOf.pre (by rw [areaW_S]; exact (buildF_tree md (lv.map leafB) s.S (by rw [List.length_map]; omega)).1), fun i hi => ?_⟩
  rw [areaW_row2 hs h.f.can h.f.spend.can ha hl b hb hne i (by omega)]
  exact h.r i hi
/-- A block of cells that stays. -/
structure BoxAt (h : AHeap) (id : Nat) (x : AObj) : Prop where
  u : h.used id
  g : h.get id = some x
theorem BoxAt.kp {W : Nat → Prop} {h h' : AHeap} {id : Nat} {x : AObj} (hb : BoxAt h id x) (hk : Kp W h h') (hw : ¬ W id) : BoxAt h' id x := ⟨hk.us id hb.u, (hk.get id hb.u hw).trans hb.g⟩
theorem turned_row {s : WS} {k : Nat} (hs : s.Fit k) (h4 : s.n = 4) : (s.smash (130, [9])).row 0 0 ≠ leafB lf0 := by
  have hsl := snap_lenS hs
  have hl : s.sd.lasts.length = (s.n * 160 + 120).toNat := by rw [hs.sd.len, sizeG_pos hs.g]
  have hin : inB s.sd.lasts.length (130 : Int) ([9] : Bs).length = true := by rw [hl, h4]; decide
  intro e
  have h2 : ((s.smash (130, [9])).row 0 0)[2]? = some 9 := by
    rw [WS.row_sub]
    show (sub (s.sd.smash (130, [9])).snap (lfAt s.n 0 0).toNat 32)[2]? = some 9
    rw [smash_snap hin, h4, show (lfAt 4 0 0).toNat = 128 from rfl, sub, List.getElem?_take, if_pos (by decide), List.getElem?_drop, layO_get (by rw [hsl, h4]; decide)]
    rfl
  rw [e] at h2
  revert h2
  decide +kernel
set_option maxHeartbeats 1000000 in
theorem law21_known_ae (h : AHeap) : AE Try.prog 49 [] h (.bool true) h := by
  refine AE.pureW is_law21_known (by simp) ?_
  unfold c_law21_known
  (refine go ?_)
  refine WL.callA rfl (by first | exact True.intro | exact rfl) gSL (world_NewG_ac true 4 rfl 1 h) ?_
  rintro _ h1 ⟨n, rfl, g1, hn, k1⟩
  have hx1 := k1.next
  (refine go ?_)
  refine WL.cvt (Cvt.frzE (s := 17) (c' := (List.replicate 4 lf0).map encL) rfl gH rfl) ?_
  refine WL.named (fun h2 => WG true h2 n (ws0 4 1) ∧ Kp (fun id => h.next ≤ id) h h2) ⟨g1.new (by repeat first | exact Kp.refl | assumption | with_reducible refine Kp.put ?_ (by omega) _ | with_reducible refine Kp.setN ?_ (by omega) _ | with_reducible refine Kp.keep ?_ _ | with_reducible refine Kp.setW ?_ (by rfl) _), (by repeat first | exact Kp.refl | assumption | with_reducible refine Kp.put ?_ (by omega) _ | with_reducible refine Kp.setN ?_ (by omega) _ | with_reducible refine Kp.keep ?_ _ | with_reducible refine Kp.setW ?_ (by rfl) _)⟩ ?_
  clear g1 k1 hx1
  rintro h2 ⟨g2, k2⟩
  have hnm : ∀ id, n.own true id → h.next ≤ id := fun id hi => hn id (.inl (WN.own_all hi))
  have hf0 := free_ws0 4 1
  have hF0 := fit_ws0 (n := 4) rfl 1
  have hw0 : ∀ x ∈ List.replicate 4 lf0, x.Wf := by intro x hx; obtain ⟨_, rfl⟩ := List.mem_replicate.1 hx; constructor <;> decide
  have hL1 := laid_areaW (md := true) hF0 (by omega) hf0 0 (by decide) (List.replicate 4 lf0) rfl hw0 (by decide)
  have hF1 := fit_areaW (md := true) hF0 hf0 0 (by decide) (List.replicate 4 lf0) rfl
  refine WL.callA rfl (by first | exact True.intro | exact rfl) gSL (area_Write_ac g2 hF0 (by omega) 0 (by decide) (List.replicate 4 lf0) rfl hw0 (by decide)) ?_
  rintro _ h3 ⟨rfl, g3, k3⟩
  rw [hf0.can, hf0.spend.can]
  simp only [Bool.and_self, if_true]
  generalize (ws0 4 1).areaW true 0 (List.replicate 4 lf0) = s1 at *
  generalize ((ws0 4 1).nodes true (List.replicate 4 lf0)).getD 1 (0, 0) = top at *
  have k4 : Kp (fun id => h.next ≤ id) h h3 := k2.trans (k3.mono fun id _ hi => hnm id hi)
  have hx3 := k4.next
  clear k2 k3 g2
  (refine go ?_)
  refine WL.named (fun h4 => WG true h4 n s1 ∧ Kp (fun id => h.next ≤ id) h h4 ∧ BoxAt h4 h3.next (.mem 2 [encP top])) ⟨g3.new (by repeat first | exact Kp.refl | assumption | with_reducible refine Kp.put ?_ (by omega) _ | with_reducible refine Kp.setN ?_ (by omega) _ | with_reducible refine Kp.keep ?_ _ | with_reducible refine Kp.setW ?_ (by rfl) _), (by repeat first | exact Kp.refl | assumption | with_reducible refine Kp.put ?_ (by omega) _ | with_reducible refine Kp.setN ?_ (by omega) _ | with_reducible refine Kp.keep ?_ _ | with_reducible refine Kp.setW ?_ (by rfl) _), put_used_nm (x := .mem 2 [[.int .u64 0, .int .u64 0]]), gH⟩ ?_
  have hlt : ∀ id, n.nm true id → id < h3.next := fun id hi => (g3.us id hi).1
  generalize h3.next = tp at *
  clear g3 k4
  rintro h4 ⟨g4, k4, bt⟩
  have gt := bt.g
  obtain ⟨r1, r2, hL2⟩ := hL1.read hF1
  have hF2 := fit_readS (md := true) hF1 0
  have hn1 : s1.n = 4 := hL1.l.symm
  refine WL.callA rfl (by first | exact True.intro | exact rfl) gSL (area_Read_ac g4 hF1 (by omega) 0 (by decide) top) ?_
  rintro _ h5 ⟨rfl, g5, k5⟩
  rw [r1, r2]
  have hown : ∀ id, n.own true id → id ≠ tp := fun id hi e => by have := hlt id (.inl (WN.own_all hi)); omega
  have bt5 := bt.kp k5 (fun hi => hown _ hi rfl)
  have k6 : Kp (fun id => h.next ≤ id) h h5 := k4.trans (k5.mono fun id _ hi => hnm id hi)
  have hob := g5.w.w
  simp only [wRow] at hob
  have hn2 : (s1.readS true 0).n = 4 := (readS_sd true s1 0).2.1.trans hn1
  generalize s1.readS true 0 = s2 at *
  have hll : s2.sd.lasts.length = (s2.n * 160 + 120).toNat := by rw [hF2.sd.len, sizeG_pos hF2.g]
  have hfit : ∀ o ∈ s2.sd.waits, 0 ≤ o.1 ∧ o.1 + o.2.length ≤ s2.sd.lasts.length := fun o ho => by have := hF2.sd.w o ho; rw [sizeG_pos hF2.g] at this; omega
  (refine go ?_)
  refine WL.call rfl (by first | exact True.intro | exact rfl) gSL (ssd_Smash_ae g5.w.sd (by omega) (Nat.le_trans hF2.sd.kw (by omega)) hfit 130 [9] (by decide)) ?_
  refine WL.named (fun h6 => WG true h6 n (s2.smash (130, [9])) ∧ Kp (fun id => h.next ≤ id) h h6 ∧ BoxAt h6 tp (.mem 2 [encP top])) ⟨g5.step (g5.w.putSd _ _) (kp_sd n _ _), k6.trans ((kp_sd n _ _).mono fun id _ hi => hnm id hi), bt5.kp (kp_sd n _ _) (fun hi => hown _ hi rfl)⟩ ?_
  clear g5 k6 bt5 k5 hob
  rintro h6 ⟨g6, k6, bt6⟩
  have gt6 := bt6.g
  (refine go ?_)
  refine WL.callA rfl (by first | exact True.intro | exact rfl) gSL (area_Read_ac g6 (fit_smash hF2 _) (by omega) 0 (by decide) top) ?_
  rintro _ h7 ⟨rfl, g7, k7⟩
  have hR : (s2.smash (130, [9])).readE true 0 top = 3 := by
    rcases read_foe (s := s2.smash (130, [9])) (fit_smash hF2 _) (by omega) (hL2.l) hw0 (by decide) hL2.f.g hL2.topOf with ⟨e0, e1⟩ | ⟨e0, _⟩
    · exfalso
      refine turned_row hF2 hn2 ?_
      have e2 := e1
      rw [WS.readL, if_pos e0] at e2
      rw [WS.readE, show (s2.smash (130, [9])).pw.gone = false from hL2.f.g, if_neg (by simp)] at e0
      split at e0
      · rename_i hh
        have hA := hh.2
        rw [WS.allG, List.all_eq_true] at hA
        have hm : (s2.smash (130, [9])).n.toNat = 4 := by show s2.n.toNat = 4; omega
        rw [hm] at hA e2
        have h0 := hA 0 (by decide)
        have h1 : (s2.smash (130, [9])).leaf 0 0 = lf0 := by
          have := congrArg (fun l => l[0]?) e2
          simpa [WS.leaves] using this
        rw [leafG, Bool.and_eq_true] at h0
        have h2 := eq_of_beq h0.2
        rw [← h2]
        exact congrArg leafB h1
      · cases e0
    · exact e0
  rw [hR]
  have k8 : Keeps h h7 := (k6.trans (k7.mono fun id _ hi => hnm id hi)).keeps fun _ h => h
  (refine go ?_)
  refine WW.ret (PureQ.finD ?_)
  exact fz_b rfl
end Go.Proofs.Ytjehfcjfnmcjcaa


namespace Go.Proofs.Ytjehfcjfnmcjcaa
open Go Go.Abs

theorem slots_of {lg : Int} (h1 : ¬ lg < 2) (h2 : ¬ lg > 4) : ∃ m : Nat, shA .shl .i64 1 (IntKind.u64.wrap lg) = some (.int .i64 m) ∧ isG m = true ∧ m ≤ 16 ∧ 4 ≤ m := by
  have : lg = 2 ∨ lg = 3 ∨ lg = 4 := by omega
  rcases this with rfl | rfl | rfl
  · exact ⟨4, rfl, rfl, by decide, by decide⟩
  · exact ⟨8, rfl, rfl, by decide, by decide⟩
  · exact ⟨16, rfl, rfl, by decide, by decide⟩
set_option maxHeartbeats 4000000 in
theorem law21_AreaTwo_ae (lg : Int) (A B T : List Int) (hA : A.length ≤ maxLen) (hB : B.length ≤ maxLen) (hT : T.length ≤ maxLen) (hTw : ∀ t ∈ T, Wf64 t) (h : AHeap) : AE Try.prog 7 [.int .i64 lg, .imm 1 (A.map encJ), .imm 1 (B.map encJ), .imm 1 (T.map encU)] h (.bool true) h := by
  refine AE.pureW is_law21_AreaTwo (by simp) ?_
  unfold c_law21_AreaTwo
  (refine go ?_)
  (apply WL.orB; exact rfl; exact rfl; exact rfl; exact BP.of; intro hz1)
  · (repeat first | (apply GW.goS; exact Stp.auto) | apply GW.nil | exact rfl)
  (refine go ?_)
  (refine WW.ifB rfl (fun hz2 => ?_) (fun hz2 => ?_))
  · (refine go ?_)
    refine WW.ret (PureQ.finD ?_)
    exact fz_b rfl
  obtain ⟨m, hsh, hG, hm1, hm2⟩ := slots_of (lg := lg) (by simp at hz2; omega) (by simp at hz2; omega)
  (repeat first | refine WW.seq ?_ | refine WW.reg ?_ | refine WL.nil ?_ | refine WW.skip ?_ | refine WW.block ?_ | refine thenN ?_ | refine blkN ?_); iterate 2 (refine WL.go ?_)
  refine WL.go (hs := Stp.sh rfl rfl hsh (by first | exact True.intro | exact rfl)) ?_
  (refine go ?_)
  refine WL.callA rfl (by first | exact True.intro | exact rfl) gSL (world_NewG_ac true m hG 7 h) ?_
  rintro _ h1 ⟨n, rfl, g1, hn, k1⟩
  have hx1 := k1.next
  have hnm : ∀ id, n.own true id → h.next ≤ id := fun id hi => hn id (.inl (WN.own_all hi))
  have hf0 := free_ws0 m 7
  have hF0 := fit_ws0 hG 7
  have lA := someL_len m A T
  have lB := someL_len m B T
  have oA := someL_ok m hm1 A T
  have oB := someL_ok m hm1 B T
  have wA := someL_wf m hm1 A T hTw
  have wB := someL_wf m hm1 B T hTw
  have hn0 : (ws0 m 7).n = m := rfl
  (refine go ?_)
  refine WL.call rfl (by first | exact True.intro | exact rfl) gSL (law21_some_ae m (by omega) A T hA hT _) ?_
  have hL1 := laid_areaW (md := true) hF0 (by omega) hf0 0 (by decide) (someL m A T) (by rw [lA]; rfl) wA oA
  have hF1 := fit_areaW (md := true) hF0 hf0 0 (by decide) (someL m A T) (by rw [lA]; rfl)
  refine WL.callA rfl (by first | exact True.intro | exact rfl) gSL (area_Write_ac g1 hF0 (by omega) 0 (by decide) (someL m A T) (by rw [lA]; rfl) wA oA) ?_
  rintro _ h2 ⟨rfl, g2, k2⟩
  rw [hf0.can, hf0.spend.can]
  simp only [Bool.and_self, if_true]
  have hn1 : ((ws0 m 7).areaW true 0 (someL m A T)).n = m := areaW_n _ _ _ _
  generalize (ws0 m 7).areaW true 0 (someL m A T) = s1 at *
  generalize ((ws0 m 7).nodes true (someL m A T)).getD 1 (0, 0) = ta at *
  have k3 : Kp (fun id => h.next ≤ id) h h2 := k1.trans (k2.mono fun id _ hi => hnm id hi)
  have hx3 := k3.next
  clear k1 k2 g1
  (refine go ?_)
  refine WL.named (fun h4 => WG true h4 n s1 ∧ Kp (fun id => h.next ≤ id) h h4 ∧ BoxAt h4 h2.next (.mem 2 [encP ta])) ⟨g2.new (by repeat first | exact Kp.refl | assumption | with_reducible refine Kp.put ?_ (by omega) _ | with_reducible refine Kp.setN ?_ (by omega) _ | with_reducible refine Kp.keep ?_ _ | with_reducible refine Kp.setW ?_ (by rfl) _), (by repeat first | exact Kp.refl | assumption | with_reducible refine Kp.put ?_ (by omega) _ | with_reducible refine Kp.setN ?_ (by omega) _ | with_reducible refine Kp.keep ?_ _ | with_reducible refine Kp.setW ?_ (by rfl) _), put_used_nm (x := .mem 2 [[.int .u64 0, .int .u64 0]]), gH⟩ ?_
  have hxa : ∀ id, n.own true id → id ≠ h2.next := fun id hi e => by have := (g2.us id (.inl (WN.own_all hi))).1; omega
  generalize h2.next = pa at *
  clear g2 k3
  rintro h4 ⟨g4, k4, b4⟩
  (refine go ?_)
  refine WL.call rfl (by first | exact True.intro | exact rfl) gSL (law21_some_ae m (by omega) B T hB hT _) ?_
  have hO := hL1.other (lv := someL m B T) hF1 (a := 1) (by decide) (by decide) (by decide) (by rw [lB, hn1])
  have hL2 := laid_areaW (md := true) hF1 (by omega) hL1.f 1 (by decide) (someL m B T) (by rw [lB, hn1]) wB oB
  have hF2 := fit_areaW (md := true) hF1 hL1.f 1 (by decide) (someL m B T) (by rw [lB, hn1])
  refine WL.callA rfl (by first | exact True.intro | exact rfl) gSL (area_Write_ac g4 hF1 (by omega) 1 (by decide) (someL m B T) (by rw [lB, hn1]) wB oB) ?_
  rintro _ h5 ⟨rfl, g5, k5⟩
  rw [hL1.f.can, hL1.f.spend.can]
  simp only [Bool.and_self, if_true]
  have hn2 : (s1.areaW true 1 (someL m B T)).n = m := (areaW_n _ _ _ _).trans hn1
  generalize s1.areaW true 1 (someL m B T) = s2 at *
  generalize (s1.nodes true (someL m B T)).getD 1 (0, 0) = tb at *
  have b5 := b4.kp k5 (fun hi => hxa _ hi rfl)
  have k6 : Kp (fun id => h.next ≤ id) h h5 := k4.trans (k5.mono fun id _ hi => hnm id hi)
  have hx6 := k6.next
  clear k4 k5 g4 b4
  (refine go ?_)
  refine WL.named (fun h4 => WG true h4 n s2 ∧ Kp (fun id => h.next ≤ id) h h4 ∧ BoxAt h4 pa (.mem 2 [encP ta]) ∧ BoxAt h4 h5.next (.mem 2 [encP tb])) ⟨g5.new (by repeat first | exact Kp.refl | assumption | with_reducible refine Kp.put ?_ (by omega) _ | with_reducible refine Kp.setN ?_ (by omega) _ | with_reducible refine Kp.keep ?_ _ | with_reducible refine Kp.setW ?_ (by rfl) _), (by repeat first | exact Kp.refl | assumption | with_reducible refine Kp.put ?_ (by omega) _ | with_reducible refine Kp.setN ?_ (by omega) _ | with_reducible refine Kp.keep ?_ _ | with_reducible refine Kp.setW ?_ (by rfl) _), b5.kp (W := fun _ => False) (by repeat first | exact Kp.refl | assumption | with_reducible refine Kp.put ?_ (by omega) _ | with_reducible refine Kp.setN ?_ (by omega) _ | with_reducible refine Kp.keep ?_ _ | with_reducible refine Kp.setW ?_ (by rfl) _) (fun h => h), put_used_nm (x := .mem 2 [[.int .u64 0, .int .u64 0]]), gH⟩ ?_
  have hxb : ∀ id, n.own true id → id ≠ h5.next := fun id hi e => by have := (g5.us id (.inl (WN.own_all hi))).1; omega
  generalize h5.next = pb at *
  clear g5 k6 b5
  rintro h7 ⟨g7, k7, b7, c7⟩
  have q1 := b7.g
  have hL1' : s2.readE true 0 ta = 0 ∧ s2.readL true 0 ta = someL m A T := read_well hF2 hL2.f.g (by rw [lA, hn2]) wA oA hO.2 hO.1
  have hF3 := fit_readS (md := true) hF2 0
  (refine go ?_)
  refine WL.callA rfl (by first | exact True.intro | exact rfl) gSL (area_Read_ac g7 hF2 (by omega) 0 (by decide) ta) ?_
  rintro _ h8 ⟨rfl, g8, k8⟩
  rw [hL1'.1, hL1'.2]
  obtain ⟨p1, p2, p3⟩ := readS_sd true s2 0
  have hL3 := hL2.same p1 p2 p3 (readS_pre true 0 (by omega))
  have c8 := c7.kp k8 (fun hi => hxb _ hi rfl)
  have k9 : Kp (fun id => h.next ≤ id) h h8 := k7.trans (k8.mono fun id _ hi => hnm id hi)
  generalize s2.readS true 0 = s3 at *
  clear g7 k7 b7 c7 k8 q1
  have q1 := c8.g
  (refine go ?_)
  obtain ⟨r1, r2, _⟩ := hL3.read hF3
  refine WL.callA rfl (by first | exact True.intro | exact rfl) gSL (area_Read_ac g8 hF3 (by omega) 1 (by decide) tb) ?_
  rintro _ h10 ⟨rfl, g10, k10⟩
  rw [r1, r2]
  have kk : Keeps h h10 := (k9.trans (k10.mono fun id _ hi => hnm id hi)).keeps fun _ h => h
  (refine go ?_)
  refine WL.call rfl (by first | exact True.intro | exact rfl) gSL (law21_some_ae m (by omega) A T hA hT _) ?_
  (refine go ?_)
  refine WL.call rfl (by first | exact True.intro | exact rfl) gSL (ref15_Same_ae (someL m A T) (someL m A T) (by omega) (by omega) _) ?_
  rw [decide_eq_true rfl]
  (refine go ?_)
  refine WL.call rfl (by first | exact True.intro | exact rfl) gSL (law21_some_ae m (by omega) B T hB hT _) ?_
  (refine go ?_)
  refine WL.call rfl (by first | exact True.intro | exact rfl) gSL (ref15_Same_ae (someL m B T) (someL m B T) (by omega) (by omega) _) ?_
  rw [decide_eq_true rfl]
  (refine go ?_)
  refine WL.call rfl (by first | exact True.intro | exact rfl) gSL (law21_known_ae _) ?_
  (refine go ?_)
  refine WW.ret (PureQ.finD ?_)
  exact fz_b rfl
theorem top_AreaTwo (c0 : List AV) (t0 : TypL [.i .i64] c0) (c1 : List AV) (t1 : TypL [.sl [.i .i64]] c1) (c2 : List AV) (t2 : TypL [.sl [.i .i64]] c2) (c3 : List AV) (t3 : TypL [.sl [.i .u64]] c3) :
    AE Try.prog 7 [c0.headD .nilp, c1.headD .nilp, c2.headD .nilp, c3.headD .nilp] noHeap (.bool true) noHeap := by
  obtain ⟨lg, rfl, _⟩ := int_of t0
  obtain ⟨A, rfl, hA⟩ := ints_of t1
  obtain ⟨B, rfl, hB⟩ := ints_of t2
  obtain ⟨T, rfl, hT, hTw⟩ := u64s_of t3
  exact law21_AreaTwo_ae lg A B T hA hB hT hTw noHeap
end Go.Proofs.Ytjehfcjfnmcjcaa


