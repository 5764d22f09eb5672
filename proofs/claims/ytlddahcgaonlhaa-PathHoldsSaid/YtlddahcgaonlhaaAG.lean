/- The abstract layer, part 37: regions whose order is drawn, by what holds whatever is done already. -/
import Derived.Test.YtlddahcgaonlhaaAD
set_option linter.all false
namespace Go.Abs
open Go

section
variable {P : Program} {N : Nat} {e : Env} {h : AHeap} {l : List CI} {es : List (List Nat)}

/-- An operation, by what holds behind it. -/
def FXR (P : Program) (N : Nat) (c : CI) (e : Env) (h : AHeap) (R : Option AV → AHeap → Prop) : Prop :=
  ∀ (ops : Array Oper) (i : Nat) (o : Oper), ops[i]? = some o → compI P N ops o = c → ∀ (m : Inj) (w : World) (a : Act) (K : Act → World → Prop) (Q : Exit → Act → World → Prop),
    HR m h w → ER N m h w e a → (∀ m' w' a' r h', R r h' → HR m' h' w' → ER N m' h' w' (putR c.d r e) a' → Step m h w m' h' w' → K a' w') → wpOp P ops Q i K a w
theorem FXR.of {c : CI} {r : Option AV} {h' : AHeap} {R : Option AV → AHeap → Prop} (hx : FX P N c e h r h') (hR : R r h') : FXR P N c e h R :=
  fun ops i o ho hc m w a K Q hr he hk => hx ops i o ho hc e (fun _ _ => rfl) m w a K Q hr he fun m' w' a' h1 h2 h3 => hk m' w' a' r h' hR h1 h2 h3
theorem FXR.call {d : Option Nat} {f : Nat} {xs : List Opd} {g : Option (Nat × Bool)} {us vs : List AV} {R' : AV → AHeap → Prop} {R : Option AV → AHeap → Prop} (hv : evL e xs = some us) (hg : met e g) (hs : SubL us vs) (hac : AC P f vs h R') (hR : ∀ r h', R' r h' → R (some r) h') : FXR P N ⟨d, .call f xs, g⟩ e h R := by
  intro ops i o ho hc m w a K Q hr he hk
  rcases compI_ok hc with ⟨hb1, hb2⟩ | ⟨hd, hdst, hcomp, hgd⟩
  · simp at hb1
  · obtain ⟨w1, w2⟩ := wanted_of he hgd
    have hw : Region.wanted o (yielded ops a.tmps) = true := by
      cases g with
      | none => exact w1 rfl
      | some sb =>
        obtain ⟨s, b⟩ := sb
        rw [w2 s b b rfl hg]; simp
    simp only [wpOp, ho]
    rw [if_pos hw]
    left
    have hco := hcomp rfl
    obtain ⟨c, hop, hcal, hfn, hxs⟩ := compile_call hco
    obtain ⟨hl1, hl2⟩ := he.evalL hxs hv
    have hrun : (execOp a.eval o).run P w = .ok (.enter f (c.args.map a.eval)) w := by
      simp [execOp, hop, resolve, hcal, Act.eval, Deferred.ofValue, invoke, run_callFunc hfn]
    refine call_wp hrun hr (by simpa using hl1) (fun j v hj => by
      have := hl2 j v hj
      simpa [Array.getD_eq_getD_getElem?, List.getD_eq_getElem?_getD] using this) (hac.sub hs) fun v w' m' r1 h1 g1 g2 g3 g4 => ?_
    refine hk m' w' _ (some r1) h1 (hR r1 h1 g4) g1 ?_ g3
    have hd' : d = o.dst := hd
    show ER N m' h1 w' (putR d (some r1) e) _
    rw [hd']
    exact (he.step g3).putR hdst g2
/-- What holds behind each set of operations that may be done. -/
theorem AW.dregI {Q : Exit → Env → AHeap → Prop} (hm : P.follows .mixedOrders = true) (Inv : (Nat → Bool) → Env → AHeap → Prop) (hlen : es.length = l.length) (hback : ∀ j, j < l.length → ∀ k ∈ es.getD j [], k < j) (h0 : Inv (fun _ => false) e h)
    (hstep : ∀ (D : Nat → Bool) (e1 : Env) (h1 : AHeap) (i : Nat), i < l.length → D i = false → (∀ k ∈ es.getD i [], D k = true) → (∀ j, D j = true → ∀ k ∈ es.getD j [], D k = true) → (∀ id x, h1.get id = some x → h1.used id) → Inv D e1 h1 →
      FXR P N (l.getD i default) e1 h1 (fun r h2 => (∀ id, h1.used id → h2.used id) → Inv (fun j => if j = i then true else D j) (putR (l.getD i default).d r e1) h2))
    (hfin : ∀ D e1 h1, (∀ j, j < l.length → D j = true) → Inv D e1 h1 → Q .normal e1 h1) : AW P N (.dreg l es) Q e h := by
  intro code hcode m w a hr he
  cases code <;> simp only [compC] at hcode <;> try (cases hcode; done)
  · rename_i id ops dr
    split at hcode
    · rename_i hdr
      subst hdr
      injection hcode with hl hes
      refine wp_region_any hm ?_
      have hn : ops.size = l.length := by rw [← hl]; simp [compR]
      have hes' : ∀ j (hj : j < ops.size), es.getD j [] = ((ops[j]).after.toList.filter (Region.binds .any)).map (·.on) := fun j hj => by
        rw [← hes]; simp [edgesR, List.getD_eq_getElem?_getD, hj]
      have hci : ∀ j (hj : j < ops.size), compI P N ops (ops[j]) = l.getD j default := fun j hj => by
        rw [← hl]; simp [compR, List.getD_eq_getElem?_getD, hj]
      suffices H : ∀ (fuel : Nat) (listed : Array Bool) (U : List Nat) (m1 : Inj) (e1 : Env) (h1 : AHeap) (w1 : World) (a1 : Act), listed.size = l.length → U.length ≤ fuel → U.Nodup → (∀ j, j < l.length → (listed.getD j false = false ↔ j ∈ U)) →
          (∀ j, listed.getD j false = true → ∀ k ∈ es.getD j [], listed.getD k false = true) →
          HR m1 h1 w1 → ER N m1 h1 w1 e1 a1 → Step m h w m1 h1 w1 → Inv (fun j => listed.getD j false) e1 h1 → wpAny P .any ops (PA N Q m h w) fuel listed a1 w1 by
        have st := step_drew (m := m) (h := h) (w := w)
        refine H ops.size (Array.replicate ops.size false) (List.range l.length) m e h { w with drawn := w.drawn + 1 } a (by simp [hn]) (by simp [hn]) List.nodup_range (fun j hj => by simp [List.getD, hn, hj]) (fun j hj => ?_) hr.drew (he.step st) st ?_
        · rw [rep_false] at hj; cases hj
        · have : (fun j => (Array.replicate ops.size false).getD j false) = fun _ => false := funext fun j => rep_false _ _
          rw [this]; exact h0
      intro fuel
      have fin : ∀ (listed : Array Bool) (m1 : Inj) (e1 : Env) (h1 : AHeap) (w1 : World) (a1 : Act), listed.size = l.length → Region.ready .any ops listed = [] →
          HR m1 h1 w1 → ER N m1 h1 w1 e1 a1 → Step m h w m1 h1 w1 → Inv (fun j => listed.getD j false) e1 h1 → PA N Q m h w .normal a1 w1 := fun listed m1 e1 h1 w1 a1 hsz hrd g1 g2 g3 g4 => by
        have hall : ∀ j, j < l.length → listed.getD j false = true := fun j => by
          induction j using Nat.strongRecOn with
          | ind j ih =>
            intro hj
            cases hx : listed.getD j false
            · have : j ∈ Region.ready .any ops listed := mem_ready.2 ⟨by simpa [Array.getD_eq_getD_getElem?, hsz, hj] using hx, ops[j]'(by omega), by simp [hn, hj], fun ed hed hb => ?_⟩
              · rw [hrd] at this; cases this
              · have hk : ed.on ∈ es.getD j [] := by
                  rw [hes' j (by omega)]
                  exact List.mem_map.2 ⟨ed, List.mem_filter.2 ⟨by simpa using hed, hb⟩, rfl⟩
                have := hback j hj _ hk
                exact ih _ this (by omega)
            · rfl
        exact ⟨m1, e1, h1, g1, g2, g3, hfin _ _ _ hall g4⟩
      induction fuel with
      | zero =>
        intro listed U m1 e1 h1 w1 a1 hsz hU hnd hmem hcl g1 g2 g3 g4
        have hU0 : U = [] := List.length_eq_zero_iff.1 (by omega)
        subst hU0
        have hrd : Region.ready .any ops listed = [] := List.eq_nil_iff_forall_not_mem.2 fun j hj => by
          obtain ⟨x0, o, x1, _⟩ := mem_ready.1 hj
          have hj' : j < l.length := by rw [← hn]; exact (Array.getElem?_eq_some_iff.1 x1).1
          have := (hmem j hj').1 (by simpa [Array.getD_eq_getD_getElem?, hsz, hj'] using x0)
          cases this
        exact ⟨hrd, fin listed m1 e1 h1 w1 a1 hsz hrd g1 g2 g3 g4⟩
      | succ fuel ih =>
        intro listed U m1 e1 h1 w1 a1 hsz hU hnd hmem hcl g1 g2 g3 g4
        refine ⟨fun hrd => fin listed m1 e1 h1 w1 a1 hsz hrd g1 g2 g3 g4, fun i hi => ?_⟩
        obtain ⟨x0, o, x1, x2⟩ := mem_ready.1 hi
        have hi' : i < l.length := by rw [← hn]; exact (Array.getElem?_eq_some_iff.1 x1).1
        have hio : i < ops.size := by omega
        have ho : ops[i] = o := (Array.getElem?_eq_some_iff.1 x1).2
        have hDi : listed.getD i false = false := by simpa [Array.getD_eq_getD_getElem?, hsz, hi'] using x0
        have hpre : ∀ k ∈ es.getD i [], listed.getD k false = true := fun k hk => by
          rw [hes' i hio, ho] at hk
          obtain ⟨ed, hed, rfl⟩ := List.mem_map.1 hk
          obtain ⟨he1, he2⟩ := List.mem_filter.1 hed
          exact x2 ed (by simpa using he1) he2
        have hnew : ∀ k, (listed.setIfInBounds i true).getD k false = if k = i then true else listed.getD k false := fun k => by
          by_cases hk : k = i
          · subst hk
            simp [Array.getD_eq_getD_getElem?, hsz, hi']
          · rw [if_neg hk]; exact getD_set_ne false (Ne.symm hk)
        have hDn : (fun k => (listed.setIfInBounds i true).getD k false) = fun k => if k = i then true else listed.getD k false := funext hnew
        refine hstep _ e1 h1 i hi' hDi hpre hcl g1.live g4 ops i o x1 (by rw [← ho, hci i hio]) m1 w1 a1 _ _ g1 g2 fun m2 w2 a2 r h2 hR r1 r2 r3 => ?_
        refine ih (listed.setIfInBounds i true) (U.erase i) m2 _ h2 w2 a2 (by simp [hsz]) ?_ (hnd.erase i) (fun j hj => ?_) (fun j hj => ?_) r1 r2 (g3.trans r3) ?_
        · rw [List.length_erase_of_mem ((hmem i hi').1 hDi)]; omega
        · rw [hnew, hnd.mem_erase_iff]
          by_cases hji : j = i
          · simp [hji]
          · simp [hji, ← hmem j hj]
        · intro k hk
          rw [hnew] at hj ⊢
          by_cases hki : k = i
          · simp [hki]
          · rw [if_neg hki]
            by_cases hji : j = i
            · subst hji; exact hpre k hk
            · rw [if_neg hji] at hj; exact hcl j hj k hk
        · rw [hDn]; exact hR r3.used
    · cases hcode
  · split at hcode <;> cases hcode
  · split at hcode <;> cases hcode
theorem WW.dregI {Q : Exit → Env → AHeap → Prop} [MO P] (Inv : (Nat → Bool) → Env → AHeap → Prop) (hc : (es.length == l.length && (List.range l.length).all fun j => (es.getD j []).all (fun k => decide (k < j))) = true) (h0 : Inv (fun _ => false) e h)
    (hstep : ∀ (D : Nat → Bool) (e1 : Env) (h1 : AHeap) (i : Nat), i < l.length → D i = false → (∀ k ∈ es.getD i [], D k = true) → (∀ j, D j = true → ∀ k ∈ es.getD j [], D k = true) → (∀ id x, h1.get id = some x → h1.used id) → Inv D e1 h1 →
      FXR P N (l.getD i default) e1 h1 (fun r h2 => (∀ id, h1.used id → h2.used id) → Inv (fun j => if j = i then true else D j) (putR (l.getD i default).d r e1) h2))
    (hfin : ∀ D e1 h1, (∀ j, j < l.length → D j = true) → Inv D e1 h1 → Q .normal e1 h1) : WW P N (.dreg l es) Q e h := by
  simp only [Bool.and_eq_true, beq_iff_eq, List.all_eq_true, List.mem_range, decide_eq_true_eq] at hc
  exact ⟨AW.dregI MO.mo Inv hc.1 hc.2 h0 hstep hfin⟩
theorem FXR.stp {c : CI} {e' : Env} {h' : AHeap} {R : Option AV → AHeap → Prop} (hs : Stp c e h e' h') (hR : ∀ r, e' = putR c.d r e → R r h') : FXR P N c e h R := by
  obtain ⟨r, he, hx, _⟩ := FX.of_stp (P := P) (N := N) hs
  exact FXR.of hx (hR r he)
theorem AC.spareC {f : Nat} {vs : List AV} {R : AV → AHeap → Prop} (hac : AC P f vs h R) : AC P f vs h (fun r' h' => ∃ h1, R r' h1 ∧ h' = (h1.put h1.next (.tail 0 0)).set h1.next none) := fun m w cargs hr hl hv =>
  (hac m w cargs hr hl hv).mono fun ex w' ⟨v, m', r', h', e1, g1, g2, g3, hR⟩ => by
    have f1 := next_fresh g1
    have s1 := step_putv g1 f1
    have q1 := g1.putv f1
    have s2 := step_del (m := upd m' h'.next none) (h := h'.put h'.next (.tail 0 0)) (w := w') h'.next
    exact ⟨v, _, _, _, e1, q1.del _, (g2.step s1).step s2, (g3.trans s1).trans s2, _, hR, rfl⟩
/-- A name that is taken, and at which nothing stands. -/
theorem AE.spareC {f nx : Nat} {vs : List AV} {h1 : AHeap} {r : AV} (hac : AE P f vs h r h1) (hn : h1.next = nx) : AC P f vs h (fun r' h' => r' = r ∧ h' = (h1.put nx (.tail 0 0)).set nx none) := fun m w cargs hr hl hv =>
  (hac m w cargs hr hl hv).mono fun ex w' ⟨v, m', r', h', e1, g1, g2, g3, hR, hH⟩ => by
    subst hR hH hn
    have f1 := next_fresh g1
    have s1 := step_putv g1 f1
    have q1 := g1.putv f1
    have s2 := step_del (m := upd m' h'.next none) (h := h'.put h'.next (.tail 0 0)) (w := w') h'.next
    exact ⟨v, _, _, _, e1, q1.del _, (g2.step s1).step s2, (g3.trans s1).trans s2, rfl, rfl⟩
end
end Go.Abs
