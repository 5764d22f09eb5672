/- PathChecks. -/
import Derived.Test.YtlddahcgaonlhaaGA
set_option linter.all false
namespace Go.Proofs.Ytlddahcgaonlhaa
open Go Go.Abs

/-- What each operation of PathChecks answers (none: a lock). -/
def tabC (md : Bool) (slots i : Int) (b : Bs) (q : List Pr) (top : Pr) (v : Bool) : List (Option (Nat × AV)) :=
  [some (21, .bool md), none, some (23, .int .i64 slots), some (24, .int .i64 i), some (25, .imm 1 (b.map encB)), some (26, .imm 2 (q.map encP)), some (27, .agg (encP top)), some (28, .bool v),
   some (29, .bool md), none, some (31, .int .i64 slots), some (32, .int .i64 i), some (33, .imm 1 (b.map encB)), some (34, .imm 2 (q.map encP)), some (35, .agg (encP top)), some (36, .bool v),
   some (37, .bool true), some (38, .bool true), some (39, .bool true), some (40, .bool true), some (12, .bool true)]
def envC (md : Bool) (slots i : Int) (b : Bs) (q : List Pr) (x : Nat) : Env := [(0, some (.bool md)), (1, some (.int .i64 slots)), (2, some (.int .i64 i)), (3, some (.imm 1 (b.map encB))), (4, some (.imm 2 (q.map encP))), (11, some (.ptr x 0 0))]
structure PCI (md : Bool) (slots i : Int) (b : Bs) (q : List Pr) (top : Pr) (v : Bool) (hb : AHeap) (x : Nat) (D : Nat → Bool) (e : Env) (h : AHeap) (a0 a1 b0 b1 : Nat) : Prop where
  tab : TI (tabC md slots i b q top v) (envC md slots i b q x) D e
  k : Keeps hb h
  A : D 1 = true → D 7 = false → ∃ l s, lk 22 e = some (.ptr l 0 0) ∧ GRng md h l s [] a0 a1 ∧ hb.next ≤ a0 ∧ a0 ≤ s ∧ s < a1 ∧ a1 ≤ h.next
  B : D 9 = true → D 15 = false → ∃ l o t1 t2, lk 30 e = some (.ptr l 0 0) ∧ RRng md h l o t1 t2 [] b0 b1 ∧ hb.next ≤ b0 ∧ b0 ≤ o ∧ o < b1 ∧ b0 ≤ t2 ∧ t2 < b1 ∧ b1 ≤ h.next
  dis : D 1 = true → D 7 = false → D 9 = true → D 15 = false → a1 ≤ b0 ∨ b1 ≤ a0
def PCX (md : Bool) (slots i : Int) (b : Bs) (q : List Pr) (top : Pr) (v : Bool) (hb : AHeap) (x : Nat) (D : Nat → Bool) (e : Env) (h : AHeap) : Prop := ∃ a0 a1 b0 b1, PCI md slots i b q top v hb x D e h a0 a1 b0 b1
section
variable {md : Bool} {slots i : Int} {b : Bs} {q : List Pr} {top : Pr} {v : Bool} {hb : AHeap} {x : Nat} {D : Nat → Bool} {e : Env} {h : AHeap}
/-- An operation that leaves the heap. -/
theorem PCX.pure (hx : PCX md slots i b q top v hb x D e h) {j d : Nat} {r : Option AV} (hj : j ≠ 1 ∧ j ≠ 7 ∧ j ≠ 9 ∧ j ≠ 15) (hd : d ≠ 22 ∧ d ≠ 30)
    (hc : ((envC md slots i b q x).all (fun x => x.1 != d) && (List.range (tabC md slots i b q top v).length).all fun k => k == j || (((tabC md slots i b q top v).getD k none).map (·.1)) != some d) = true)
    (hr : ∀ s w, (tabC md slots i b q top v)[j]? = some (some (s, w)) → s = d ∧ r = some w) : PCX md slots i b q top v hb x (fun k => if k = j then true else D k) (putR (some d) r e) h := by
  obtain ⟨a0, a1, b0, b1, ht, hk, hA, hB, hD⟩ := hx
  obtain ⟨j1, j7, j9, j15⟩ := hj
  refine ⟨a0, a1, b0, b1, ht.step hc hr, hk, ?_, ?_, ?_⟩
  · rw [if_neg (Ne.symm j1), if_neg (Ne.symm j7), lk_put_ne (Ne.symm hd.1)]; exact hA
  · rw [if_neg (Ne.symm j9), if_neg (Ne.symm j15), lk_put_ne (Ne.symm hd.2)]; exact hB
  · rw [if_neg (Ne.symm j1), if_neg (Ne.symm j7), if_neg (Ne.symm j9), if_neg (Ne.symm j15)]; exact hD
theorem PCX.base (hx : PCX md slots i b q top v hb x D e h) : subE (envC md slots i b q x) e := by
  obtain ⟨a0, a1, b0, b1, hi⟩ := hx; exact hi.tab.base
theorem PCX.done (hx : PCX md slots i b q top v hb x D e h) : ∀ j s w, (tabC md slots i b q top v)[j]? = some (some (s, w)) → D j = true → lk s e = some w := by
  obtain ⟨a0, a1, b0, b1, hi⟩ := hx; exact hi.tab.done
theorem PCX.of1 (hx : PCX md slots i b q top v hb x D e h) {r : AV} {h2 : AHeap} (hn : NewG md h r h2) : PCX md slots i b q top v hb x (fun k => if k = 1 then true else D k) (putR (some 22) (some r) e) h2 := by
  obtain ⟨a0, a1, b0, b1, ht, hk, hA, hB, hD⟩ := hx
  obtain ⟨l, s, rfl, g1, g2, g3, g4, _, g5, g6, g7⟩ := hn
  have hkn := hk.1
  refine ⟨h.next, h2.next, b0, b1, ht.step rfl (fun s w hw => by cases hw), g4 hb hk, fun _ _ => ⟨l, s, lk_putR_same, g5, hkn, g2, g7, Nat.le_refl _⟩, fun d9 d15 => ?_, fun _ _ d9 d15 => ?_⟩
  · obtain ⟨l', o, t1, t2, c1, c2, c3, c4, c5, c6, c7, c8⟩ := hB d9 d15
    exact ⟨l', o, t1, t2, by rw [lk_put_ne (by omega)]; exact c1, c2.mv (fun id x y => g6 id (by omega)) g3, c3, c4, c5, c6, c7, by omega⟩
  · obtain ⟨l', o, t1, t2, c1, c2, c3, c4, c5, c6, c7, c8⟩ := hB d9 d15
    exact .inr c8
theorem PCX.of9 (hx : PCX md slots i b q top v hb x D e h) {r : AV} {h2 : AHeap} (hn : NewR md h r h2) : PCX md slots i b q top v hb x (fun k => if k = 9 then true else D k) (putR (some 30) (some r) e) h2 := by
  obtain ⟨a0, a1, b0, b1, ht, hk, hA, hB, hD⟩ := hx
  obtain ⟨l, o, t1, t2, rfl, g1, g2, g2', g3, g4, _, _, g5, g6, g7, g8⟩ := hn
  have hkn := hk.1
  refine ⟨a0, a1, h.next, h2.next, ht.step rfl (fun s w hw => by cases hw), g4 hb hk, fun d1 d7 => ?_, fun _ _ => ⟨l, o, t1, t2, lk_putR_same, g5, hkn, g2, g7, g2', g8, Nat.le_refl _⟩, fun d1 d7 _ _ => ?_⟩
  · obtain ⟨l', s, c1, c2, c3, c4, c5, c6⟩ := hA d1 d7
    exact ⟨l', s, by rw [lk_put_ne (by omega)]; exact c1, c2.mv (fun id x y => g6 id (by omega)) g3, c3, c4, c5, by omega⟩
  · obtain ⟨l', s, c1, c2, c3, c4, c5, c6⟩ := hA d1 d7
    exact .inl c6
theorem PCX.of7 (hx : PCX md slots i b q top v hb x D e h) (d1 : D 1 = true) (d7 : D 7 = false) {l : Nat} (hl : lk 22 e = some (.ptr l 0 0)) : ∃ s, GAt md h l s [] ∧ ∀ S', PCX md slots i b q top v hb x (fun k => if k = 7 then true else D k) (putR (some 28) (some (.bool v)) e) (h.set s (gO md S')) := by
  obtain ⟨a0, a1, b0, b1, ht, hk, hA, hB, hD⟩ := hx
  obtain ⟨l', s, c1, c2, c3, c4, c5, c6⟩ := hA d1 d7
  rw [hl] at c1; cases c1
  refine ⟨s, c2.at, fun S' => ⟨a0, a1, b0, b1, ht.step rfl (fun s w hw => by cases hw; exact ⟨rfl, rfl⟩), hk.set (by omega) _, fun _ d => (by cases d), fun d9 d15 => ?_, fun _ d => (by cases d)⟩⟩
  obtain ⟨l', o, t1, t2, c1, c2, x3, x4, x5, x6, x7, x8⟩ := hB d9 d15
  have hd := hD d1 d7 d9 d15
  exact ⟨l', o, t1, t2, by rw [lk_put_ne (by omega)]; exact c1, c2.mv (fun id x y => get_set_neE (by omega) rfl) (Nat.le_refl _), x3, x4, x5, x6, x7, x8⟩
theorem PCX.of15 (hx : PCX md slots i b q top v hb x D e h) (d9 : D 9 = true) (d15 : D 15 = false) {l : Nat} (hl : lk 30 e = some (.ptr l 0 0)) : ∃ o t1 t2, RAt md h l o t1 t2 [] ∧ ∀ S', PCX md slots i b q top v hb x (fun k => if k = 15 then true else D k) (putR (some 36) (some (.bool v)) e) ((h.set t2 (rT md S')).set o (rM md t1 t2 S')) := by
  obtain ⟨a0, a1, b0, b1, ht, hk, hA, hB, hD⟩ := hx
  obtain ⟨l', o, t1, t2, c1, c2, x3, x4, x5, x6, x7, x8⟩ := hB d9 d15
  rw [hl] at c1; cases c1
  refine ⟨o, t1, t2, c2.at, fun S' => ⟨a0, a1, b0, b1, ht.step rfl (fun s w hw => by cases hw; exact ⟨rfl, rfl⟩), (hk.set (by omega) _).set (by omega) _, fun d1 d7 => ?_, fun _ d => (by cases d), fun _ _ _ d => (by cases d)⟩⟩
  obtain ⟨l', s, c1, c2, c3, c4, c5, c6⟩ := hA d1 d7
  have hd := hD d1 d7 d9 d15
  exact ⟨l', s, by rw [lk_put_ne (by omega)]; exact c1, c2.mv (fun id x y => get_set_neE (by omega) (get_set_neE (by omega) rfl)) (Nat.le_refl _), c3, c4, c5, c6⟩
theorem PCX.has22 (hx : PCX md slots i b q top v hb x D e h) (d1 : D 1 = true) (d7 : D 7 = false) : ∃ l, lk 22 e = some (.ptr l 0 0) := by
  obtain ⟨a0, a1, b0, b1, ht, hk, hA, hB, hD⟩ := hx
  obtain ⟨l', s, c1, _⟩ := hA d1 d7; exact ⟨_, c1⟩
theorem PCX.has30 (hx : PCX md slots i b q top v hb x D e h) (d1 : D 9 = true) (d7 : D 15 = false) : ∃ l, lk 30 e = some (.ptr l 0 0) := by
  obtain ⟨a0, a1, b0, b1, ht, hk, hA, hB, hD⟩ := hx
  obtain ⟨l', o, t1, t2, c1, _⟩ := hB d1 d7; exact ⟨_, c1⟩
theorem PCX.keeps (hx : PCX md slots i b q top v hb x D e h) : Keeps hb h := by
  obtain ⟨a0, a1, b0, b1, hi⟩ := hx; exact hi.k
end
set_option maxHeartbeats 2000000 in
theorem law19_PathChecks_ae (md : Bool) (slots i : Int) (b : Bs) (q : List Pr) (top : Pr) (h : AHeap) : AE Try.prog 14 [.bool md, .int .i64 slots, .int .i64 i, .imm 1 (b.map encB), .imm 2 (q.map encP), .agg (encP top)] h (.bool true) h := by
  refine AE.pureW is_law19_PathChecks (by simp) ?_
  unfold c_law19_PathChecks
  (refine go ?_)
  (apply WL.orB; exact rfl; exact rfl; exact rfl; exact BP.of; intro hz1)
  · (repeat first | (apply GW.goS; exact Stp.auto) | apply GW.nil | exact rfl)
  (refine go ?_)
  (refine WW.ifB rfl (fun hz2 => ?_) (fun hz2 => ?_))
  · (refine go ?_)
    refine WW.ret (PureQ.finD ?_)
    exact fz_b rfl
  have hh : b.length ≤ 100 ∧ q.length ≤ 20 := by simp at hz2; omega
  obtain ⟨hb, hq⟩ := hh
  obtain ⟨v, hv⟩ : ∃ v, ckB md slots i b q top = v := ⟨_, rfl⟩
  (repeat first | refine WL.go ?_ | refine WW.seq ?_ | refine WW.reg ?_ | refine WL.nil ?_ | refine WW.skip ?_ | refine WW.block ?_ | refine WW.exit ?_ | refine WW.condT rfl ?_ | refine WW.condF rfl ?_ | refine WL.gox ?_ | refine thenN ?_ | refine blkN ?_)
  refine WW.named (fun hX => hX.get h.next = some (.mem 2 [encP top]) ∧ hX.used h.next ∧ Keeps h hX ∧ ∀ id, h.used id → hX.used id) ⟨gH, put_used_nm (x := .mem 2 [encP top]), (by repeat first | with_reducible exact Keeps.refl _ | with_reducible refine Keeps.put ?_ (by omega) _ | with_reducible refine Keeps.set ?_ (by omega) _ | assumption), fun id hu => put_used hu⟩ ?_
  rintro hX ⟨x1, x2, x3, x4⟩
  refine WW.dregI (PCX md slots i b q top v hX h.next) (by decide +kernel) ⟨0, 0, 0, 0, TI.start (by repeat first | exact subE.nil _ | (apply subE.cons; focus (first | exact rfl | (simp [lk_cons]; done) | (simp [lk_cons]; omega)))), Keeps.refl _, nofun, nofun, nofun⟩ ?_ ?_
  · intro D e1 h1 j hj hDj hpre hcl hwu hx
    have hbase := hx.base
    have hdone := hx.done
    have htop : h1.get h.next = some (.mem 2 [encP top]) := (hx.keeps.2 _ x2).trans x1
    have b0 := hbase 0 _ rfl
    have b1 := hbase 1 _ rfl
    have b2 := hbase 2 _ rfl
    have b3 := hbase 3 _ rfl
    have b4 := hbase 4 _ rfl
    have b11 := hbase 11 _ rfl
    have pure : ∀ {d : Nat} {ii : Ins} {g : Option (Nat × Bool)} {w : AV}, Stp ⟨some d, ii, g⟩ e1 h1 ((d, some w) :: e1) h1 → (j ≠ 1 ∧ j ≠ 7 ∧ j ≠ 9 ∧ j ≠ 15) → (d ≠ 22 ∧ d ≠ 30) →
        ((envC md slots i b q h.next).all (fun x => x.1 != d) && (List.range (tabC md slots i b q top v).length).all fun k => k == j || (((tabC md slots i b q top v).getD k none).map (·.1)) != some d) = true →
        (∀ s w', (tabC md slots i b q top v)[j]? = some (some (s, w')) → s = d ∧ some w = some w') →
        FXR Try.prog 41 ⟨some d, ii, g⟩ e1 h1 (fun r h2 => (∀ id, h1.used id → h2.used id) → PCX md slots i b q top v hX h.next (fun k => if k = j then true else D k) (putR (some d) r e1) h2) :=
      fun hs c1 c2 c3 c4 => FXR.stp hs fun r hr _ => by
        simp only [putR, List.cons.injEq, Prod.mk.injEq, true_and, and_true] at hr
        subst hr
        exact hx.pure c1 c2 c3 c4
    have hj' : j = 0 ∨ j = 1 ∨ j = 2 ∨ j = 3 ∨ j = 4 ∨ j = 5 ∨ j = 6 ∨ j = 7 ∨ j = 8 ∨ j = 9 ∨ j = 10 ∨ j = 11 ∨ j = 12 ∨ j = 13 ∨ j = 14 ∨ j = 15 ∨ j = 16 ∨ j = 17 ∨ j = 18 ∨ j = 19 ∨ j = 20 := by
      have hj2 : j < 21 := hj
      omega
    rcases hj' with rfl | rfl | rfl | rfl | rfl | rfl | rfl | rfl | rfl | rfl | rfl | rfl | rfl | rfl | rfl | rfl | rfl | rfl | rfl | rfl | rfl
    · exact pure (Stp.mov b0 (by first | exact True.intro | exact rfl)) ⟨by decide, by decide, by decide, by decide⟩ ⟨by decide, by decide⟩ rfl (fun _ _ h => by cases h; exact ⟨rfl, rfl⟩)
    · refine FXR.call (us := [.bool md]) (by show evL e1 [.t 21] = _; simp only [evL, ofL, ev, hdone 0 21 _ rfl (hpre 0 (by decide))]) (by first | exact True.intro | exact rfl) (by repeat first | exact SubL.nil | refine SubL.cons (SubV.refl _) ?_ | refine SubL.cons SubV.app ?_ | refine SubL.cons SubV.nil ?_) (law19_of_ac md h1) fun r h2 hn _ => hx.of1 hn
    · exact pure (Stp.mov b1 (by first | exact True.intro | exact rfl)) ⟨by decide, by decide, by decide, by decide⟩ ⟨by decide, by decide⟩ rfl (fun _ _ h => by cases h; exact ⟨rfl, rfl⟩)
    · exact pure (Stp.mov b2 (by first | exact True.intro | exact rfl)) ⟨by decide, by decide, by decide, by decide⟩ ⟨by decide, by decide⟩ rfl (fun _ _ h => by cases h; exact ⟨rfl, rfl⟩)
    · exact pure (Stp.mov b3 (by first | exact True.intro | exact rfl)) ⟨by decide, by decide, by decide, by decide⟩ ⟨by decide, by decide⟩ rfl (fun _ _ h => by cases h; exact ⟨rfl, rfl⟩)
    · exact pure (Stp.mov b4 (by first | exact True.intro | exact rfl)) ⟨by decide, by decide, by decide, by decide⟩ ⟨by decide, by decide⟩ rfl (fun _ _ h => by cases h; exact ⟨rfl, rfl⟩)
    · exact pure (Stp.load1 b11 htop (getC_all rfl) (by first | exact True.intro | exact rfl)) ⟨by decide, by decide, by decide, by decide⟩ ⟨by decide, by decide⟩ rfl (fun _ _ h => by cases h; exact ⟨rfl, rfl⟩)
    · obtain ⟨l, hl⟩ := hx.has22 (hpre 1 (by decide)) hDj
      obtain ⟨s, g1, g2⟩ := hx.of7 (hpre 1 (by decide)) hDj hl
      obtain ⟨S', hac⟩ := path_Check_any g1 slots i b (by omega) q (by omega) top
      rw [hv] at hac
      refine FXR.call (us := [.ptr l 0 0, .int .i64 slots, .int .i64 i, .imm 1 (b.map encB), .imm 2 (q.map encP), .agg (encP top)]) (by show evL e1 [.t 22, .t 23, .t 24, .t 25, .t 26, .t 27] = _; simp only [evL, ofL, ev, hl, hdone 2 23 _ rfl (hpre 2 (by decide)), hdone 3 24 _ rfl (hpre 3 (by decide)), hdone 4 25 _ rfl (hpre 4 (by decide)), hdone 5 26 _ rfl (hpre 5 (by decide)), hdone 6 27 _ rfl (hpre 6 (by decide))]) (by first | exact True.intro | exact rfl) (by repeat first | exact SubL.nil | refine SubL.cons (SubV.refl _) ?_ | refine SubL.cons SubV.app ?_ | refine SubL.cons SubV.nil ?_) hac fun r h2 hn _ => ?_
      obtain ⟨rfl, rfl⟩ := hn
      exact g2 S'
    · exact pure (Stp.mov b0 (by first | exact True.intro | exact rfl)) ⟨by decide, by decide, by decide, by decide⟩ ⟨by decide, by decide⟩ rfl (fun _ _ h => by cases h; exact ⟨rfl, rfl⟩)
    · refine FXR.call (us := [.bool md]) (by show evL e1 [.t 29] = _; simp only [evL, ofL, ev, hdone 8 29 _ rfl (hpre 8 (by decide))]) (by first | exact True.intro | exact rfl) (by repeat first | exact SubL.nil | refine SubL.cons (SubV.refl _) ?_ | refine SubL.cons SubV.app ?_ | refine SubL.cons SubV.nil ?_) (ref8_NewG_ac md h1) fun r h2 hn _ => hx.of9 hn
    · exact pure (Stp.mov b1 (by first | exact True.intro | exact rfl)) ⟨by decide, by decide, by decide, by decide⟩ ⟨by decide, by decide⟩ rfl (fun _ _ h => by cases h; exact ⟨rfl, rfl⟩)
    · exact pure (Stp.mov b2 (by first | exact True.intro | exact rfl)) ⟨by decide, by decide, by decide, by decide⟩ ⟨by decide, by decide⟩ rfl (fun _ _ h => by cases h; exact ⟨rfl, rfl⟩)
    · exact pure (Stp.mov b3 (by first | exact True.intro | exact rfl)) ⟨by decide, by decide, by decide, by decide⟩ ⟨by decide, by decide⟩ rfl (fun _ _ h => by cases h; exact ⟨rfl, rfl⟩)
    · exact pure (Stp.mov b4 (by first | exact True.intro | exact rfl)) ⟨by decide, by decide, by decide, by decide⟩ ⟨by decide, by decide⟩ rfl (fun _ _ h => by cases h; exact ⟨rfl, rfl⟩)
    · exact pure (Stp.load1 b11 htop (getC_all rfl) (by first | exact True.intro | exact rfl)) ⟨by decide, by decide, by decide, by decide⟩ ⟨by decide, by decide⟩ rfl (fun _ _ h => by cases h; exact ⟨rfl, rfl⟩)
    · obtain ⟨l, hl⟩ := hx.has30 (hpre 9 (by decide)) hDj
      obtain ⟨o, t1, t2, g1, g2⟩ := hx.of15 (hpre 9 (by decide)) hDj hl
      obtain ⟨S', hac⟩ := ref19_Check_any g1 slots i b (by omega) q (by omega) top
      rw [hv] at hac
      refine FXR.call (us := [.ptr l 0 0, .int .i64 slots, .int .i64 i, .imm 1 (b.map encB), .imm 2 (q.map encP), .agg (encP top)]) (by show evL e1 [.t 30, .t 31, .t 32, .t 33, .t 34, .t 35] = _; simp only [evL, ofL, ev, hl, hdone 10 31 _ rfl (hpre 10 (by decide)), hdone 11 32 _ rfl (hpre 11 (by decide)), hdone 12 33 _ rfl (hpre 12 (by decide)), hdone 13 34 _ rfl (hpre 13 (by decide)), hdone 14 35 _ rfl (hpre 14 (by decide))]) (by first | exact True.intro | exact rfl) (by repeat first | exact SubL.nil | refine SubL.cons (SubV.refl _) ?_ | refine SubL.cons SubV.app ?_ | refine SubL.cons SubV.nil ?_) hac fun r h2 hn _ => ?_
      obtain ⟨rfl, rfl⟩ := hn
      exact g2 S'
    · exact pure (Stp.eqvT (hdone 7 28 _ rfl (hpre 7 (by decide))) (hdone 15 36 _ rfl (hpre 15 (by decide))) (show eqA .b (.bool v) (.bool v) = some true by simp [eqA]) (by first | exact True.intro | exact rfl)) ⟨by decide, by decide, by decide, by decide⟩ ⟨by decide, by decide⟩ rfl (fun _ _ h => by cases h; exact ⟨rfl, rfl⟩)
    · exact pure (Stp.mov (hdone 16 37 _ rfl (hpre 16 (by decide))) (by first | exact True.intro | exact rfl)) ⟨by decide, by decide, by decide, by decide⟩ ⟨by decide, by decide⟩ rfl (fun _ _ h => by cases h; exact ⟨rfl, rfl⟩)
    · refine FXR.call (us := []) rfl (hdone 17 38 _ rfl (hpre 17 (by decide))) (by repeat first | exact SubL.nil | refine SubL.cons (SubV.refl _) ?_ | refine SubL.cons SubV.app ?_ | refine SubL.cons SubV.nil ?_) (law19_known_ae h1) fun r h2 hn _ => ?_
      obtain ⟨rfl, rfl⟩ := hn
      exact hx.pure ⟨by decide, by decide, by decide, by decide⟩ ⟨by decide, by decide⟩ rfl (fun _ _ h => by cases h; exact ⟨rfl, rfl⟩)
    · exact pure (Stp.pickT (hdone 17 38 _ rfl (hpre 17 (by decide))) (hdone 18 39 _ rfl (hpre 18 (by decide))) (by first | exact True.intro | exact rfl)) ⟨by decide, by decide, by decide, by decide⟩ ⟨by decide, by decide⟩ rfl (fun _ _ h => by cases h; exact ⟨rfl, rfl⟩)
    · exact pure (Stp.mov (hdone 19 40 _ rfl (hpre 19 (by decide))) (by first | exact True.intro | exact rfl)) ⟨by decide, by decide, by decide, by decide⟩ ⟨by decide, by decide⟩ rfl (fun _ _ h => by cases h; exact ⟨rfl, rfl⟩)
  · intro D e1 h1 hall hx
    refine WW.cvt (Cvt.sub (e' := [(12, some (.bool true))]) (subE.cons (hx.done 20 12 _ rfl (hall 20 (by decide))) (subE.nil _))) ?_
    have : Keeps h h1 := ⟨Nat.le_trans x3.1 hx.keeps.1, fun id hu => (hx.keeps.2 id (x4 id hu)).trans (x3.2 id hu)⟩
    (refine go ?_)
    refine WW.ret (PureQ.finD ?_)
    exact fz_b rfl
theorem top_PathChecks (c0 : List AV) (t0 : TypL [.b] c0) (c1 : List AV) (t1 : TypL [.i .i64] c1) (c2 : List AV) (t2 : TypL [.i .i64] c2) (c3 : List AV) (t3 : TypL [.sl [.i .u8]] c3) (c4 : List AV) (t4 : TypL [.sl [.i .u64, .i .u64]] c4) (c5 : List AV) (t5 : TypL [.i .u64, .i .u64] c5) :
    AE Try.prog 14 [c0.headD .nilp, c1.headD .nilp, c2.headD .nilp, c3.headD .nilp, c4.headD .nilp, .agg c5] noHeap (.bool true) noHeap := by
  obtain ⟨v, rfl⟩ := bool_of8 t0
  obtain ⟨n, rfl, _⟩ := int_of t1
  obtain ⟨i, rfl, _⟩ := int_of t2
  obtain ⟨b, rfl⟩ := bytes_of t3
  obtain ⟨q, rfl, _⟩ := pairs_of t4
  obtain ⟨top, rfl⟩ := pair_of t5
  exact law19_PathChecks_ae v n i b q top noHeap
end Go.Proofs.Ytlddahcgaonlhaa
