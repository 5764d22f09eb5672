/- The abstract layer: ranges over functions: the statement, and what stands behind it. -/
import Derived.Test.YtlddahcgaonlhaaAE
set_option linter.all false
namespace Go.Abs
open Go

def mk (r : Nat) : Deferred := { target := .collected r, args := #[] }
/-- How code ends behind a range over a function: a mark among the deferred calls. -/
def PMd (N : Nat) (Q : Exit → Env → AHeap → Prop) (did r : Nat) (m : Inj) (h : AHeap) (w : World) : Exit → Go.Act → World → Prop :=
  fun ex a' w' => ∃ (m' : Inj) (e' : Env) (h' : AHeap), HR m' h' w' ∧ ER N m' h' w' e' { a' with defers := [] } ∧ a'.defers = [mk r] ∧ Step m h w m' h' w' ∧ h'.get did = some (.dfr r (some [])) ∧ Q ex e' h'
/-- How code ends in which a range over a function stood: the block of deferred calls is new. -/
def PMk (N : Nat) (Q : Nat → Exit → Env → AHeap → Prop) (m : Inj) (h : AHeap) (w : World) : Exit → Go.Act → World → Prop :=
  fun ex a' w' => ∃ (r did : Nat), ¬ h.used did ∧ PMd N (Q did) did r m h w ex a' w'
/-- Code in which such a range stands. -/
def AMk (P : Program) (N : Nat) (c : CC) (Q : Nat → Exit → Env → AHeap → Prop) (e : Env) (h : AHeap) : Prop :=
  ∀ code, compC P N code = c → ∀ m w a, HR m h w → ER N m h w e a → code.wp P (PMk N Q m h w) a w
/-- Code behind it. -/
def AMM (P : Program) (N : Nat) (c : CC) (Q : Exit → Env → AHeap → Prop) (did r : Nat) (e : Env) (h : AHeap) : Prop :=
  ∀ code, compC P N code = c → ∀ m w a, HR m h w → ER N m h w e { a with defers := [] } → a.defers = [mk r] → code.wp P (PMd N Q did r m h w) a w
section
variable {P : Program} {N : Nat} {e : Env} {h : AHeap} {m : Inj} {w : World} {Q : Nat → Exit → Env → AHeap → Prop} {K : Exit → Env → AHeap → Prop}
theorem PMd.from {m₁ : Inj} {h₁ : AHeap} {w₁ : World} {did r : Nat} (s : Step m h w m₁ h₁ w₁) {ex : Exit} {a : Go.Act} {w' : World} (hp : PMd N K did r m₁ h₁ w₁ ex a w') : PMd N K did r m h w ex a w' := by
  obtain ⟨m', e', h', h1, h2, h3, h4, h5, h6⟩ := hp
  exact ⟨m', e', h', h1, h2, h3, s.trans h4, h5, h6⟩
theorem AMk.seq1 {x y : CC} (hw : WW P N x (fun ex e h => ex = .normal ∧ AMk P N y Q e h) e h) : AMk P N (.seq x y) Q e h := by
  intro code hc m w a hr he
  cases code <;> simp only [compC] at hc <;> try (cases hc; done)
  · split at hc <;> cases hc
  · rename_i cx cy
    cases hc
    refine wp_seq (wp_mono (hw.out cx rfl m w a hr he) fun ex a' w' hp => ?_)
    obtain ⟨m', e', h', h1, h2, h3, rfl, h4⟩ := hp
    refine wp_mono (h4 cy rfl m' w' a' h1 h2) fun _ _ _ hp => ?_
    obtain ⟨r, did, hu, hp⟩ := hp
    exact ⟨r, did, fun hh => hu (h3.used did hh), hp.from h3⟩
  · split at hc <;> cases hc
  · split at hc <;> cases hc
theorem AMk.seq2 {x y : CC} (hw : AMk P N x (fun did ex e h1 => ex = .normal ∧ ∀ r, h1.get did = some (.dfr r (some [])) → AMM P N y (Q did) did r e h1) e h) : AMk P N (.seq x y) Q e h := by
  intro code hc m w a hr he
  cases code <;> simp only [compC] at hc <;> try (cases hc; done)
  · split at hc <;> cases hc
  · rename_i cx cy
    cases hc
    refine wp_seq (wp_mono (hw cx rfl m w a hr he) fun ex a' w' hp => ?_)
    obtain ⟨r, did, hu, m', e', h', h1, h2, h3, h4, h5, rfl, h6⟩ := hp
    exact wp_mono (h6 r h5 cy rfl m' w' a' h1 h2 h3) fun _ _ _ hp => ⟨r, did, hu, hp.from h4⟩
  · split at hc <;> cases hc
  · split at hc <;> cases hc
theorem AMk.block {id : Nat} {x : CC} (hw : AMk P N x (fun did ex e h => ex = .normal ∧ Q did .normal e h) e h) : AMk P N (.block id x) Q e h := by
  intro code hc m w a hr he
  cases code <;> simp only [compC] at hc <;> try (cases hc; done)
  · split at hc <;> cases hc
  · split at hc <;> cases hc
  · cases hc
    refine wp_block (wp_mono (hw _ rfl m w a hr he) fun ex a' w' hp => ?_)
    obtain ⟨r, did, hu, m', e', h', h1, h2, h3, h4, h5, rfl, h6⟩ := hp
    exact ⟨r, did, hu, m', e', h', h1, h2, h3, h4, h5, h6⟩
  · split at hc <;> cases hc
theorem AMM.seq {x y : CC} {did r : Nat} (hw : AMM P N x (fun ex e h => ex = .normal ∧ (h.get did = some (.dfr r (some [])) → AMM P N y K did r e h)) did r e h) : AMM P N (.seq x y) K did r e h := by
  intro code hc m w a hr he hd
  cases code <;> simp only [compC] at hc <;> try (cases hc; done)
  · split at hc <;> cases hc
  · rename_i cx cy
    cases hc
    refine wp_seq (wp_mono (hw cx rfl m w a hr he hd) fun ex a' w' hp => ?_)
    obtain ⟨m', e', h', h1, h2, h3, h4, h5, rfl, h6⟩ := hp
    exact wp_mono (h6 h5 cy rfl m' w' a' h1 h2 h3) fun _ _ _ hp => hp.from h4
  · split at hc <;> cases hc
  · split at hc <;> cases hc
theorem AMM.ret {did r : Nat} (hg : h.get did = some (.dfr r (some []))) (hq : K .ret e h) : AMM P N .ret K did r e h := by
  intro code hc m w a hr he hd
  cases code <;> simp only [compC] at hc <;> try (cases hc; done)
  · split at hc <;> cases hc
  · split at hc <;> cases hc
  · split at hc <;> cases hc
  · exact wp_ret ⟨m, e, h, hr, he, hd, Step.refl _ _ _, hg, hq⟩
/-- Operations do not look at the deferred calls. -/
theorem wpOps_dfr {ops : Array Oper} {K : Exit → Go.Act → World → Prop} (hl : ¬ LetsOut K) (ds : List Deferred) : ∀ (idx : List Nat) (a : Go.Act) (w : World), wpOps P ops K idx a w →
    wpOps P ops (fun ex a' w' => ∃ a0, a' = { a0 with defers := a0.defers ++ ds } ∧ K ex a0 w') idx { a with defers := a.defers ++ ds } w
  | [], a, w, hw => ⟨a, rfl, hw⟩
  | i :: idx, a, w, hw => by
    have ih := wpOps_dfr (ops := ops) (K := K) hl ds idx
    have ihp : ∀ (a : Go.Act) (d : Option Tmp) (v : Value) (w : World), wpOps P ops K idx (a.put d v) w → wpOps P ops (fun ex a' w' => ∃ a0, a' = { a0 with defers := a0.defers ++ ds } ∧ K ex a0 w') idx (({ a with defers := a.defers ++ ds } : Go.Act).put d v) w := fun a d v w hx => by
      have := ih _ _ hx
      cases d <;> exact this
    have hev : ({ a with defers := a.defers ++ ds } : Go.Act).eval = a.eval := funext fun x => by cases x <;> rfl
    simp only [wpOps] at hw ⊢
    cases ho : ops[i]? with
    | none => simp only [ho] at hw; exact ih _ _ hw
    | some o =>
      simp only [ho] at hw ⊢
      by_cases hwant : Region.wanted o (yielded ops a.tmps) = true
      · rw [if_pos hwant] at hw ⊢
        rcases hw with hw | ⟨_, hx⟩
        · left
          unfold Oper.wp at hw ⊢
          rw [hev]
          generalize (execOp a.eval o).run P w = r at hw ⊢
          cases r with
          | ok nx w' =>
            cases nx <;> simp only [Oper.upon] at hw ⊢ <;> first
              | exact ihp _ _ _ _ hw
              | exact ihp { a with defers := _ :: a.defers } _ _ _ hw
              | exact Calls.mono hw fun ex w'' he => by
                  cases ex with
                  | returned v => exact ihp _ _ _ _ he
                  | panicked ch => exact ⟨a, rfl, he⟩
                  | outgrown => exact absurd he hl
              | exact Rows.mono hw fun _ _ he => ihp _ _ _ _ he
              | exact hw
          | halt x w' => cases x <;> simp only [Oper.upon] at hw ⊢ <;> first | exact ⟨a, rfl, hw⟩ | exact hw
        · exact absurd hx hl
      · rw [if_neg hwant] at hw ⊢
        exact ihp _ _ _ _ hw
theorem AMM.reg {l : List CI} {did r : Nat} (hw : WL P N l (fun ex e h' => ex = .normal ∧ (h'.get did = some (.dfr r (some [])) ∧ K .normal e h')) e h) : AMM P N (.reg l) K did r e h := by
  intro code hc m w a hr he hd
  cases code <;> simp only [compC] at hc <;> try (cases hc; done)
  · rename_i id ops dr
    split at hc
    · cases hc
    · rename_i hdr
      injection hc with hc
      have hd' : dr = false := by simpa using hdr
      subst hd'
      have hx := wpOps_dfr noOut [mk r] _ _ _ (hw.out ops (List.range ops.size) (fun i hi => by simpa using hi) (compR_range.trans hc) m w { a with defers := [] } hr he)
      have ha : ({ ({ a with defers := [] } : Go.Act) with defers := ({ a with defers := [] } : Go.Act).defers ++ [mk r] } : Go.Act) = a := by
        cases a; simp only at hd; subst hd; rfl
      rw [ha] at hx
      refine wp_region (wpOps_mono (fun ex a1 w1 hp => ?_) _ _ _ hx)
      obtain ⟨a0, rfl, m1, e1, h1, hr1, he1, st1, rfl, hg1, hq⟩ := hp
      refine ⟨m1, e1, h1, hr1, ⟨he1.size, rfl, he1.val⟩, ?_, st1, hg1, hq⟩
      show a0.defers ++ [mk r] = [mk r]
      rw [he1.defers]; rfl
  · split at hc <;> cases hc
  · split at hc <;> cases hc
/-- The statement. -/
theorem AMk.rangeF {f p : Nat} {g : Opd} {us ts : List AV} {cA cB : CC} {es : List (Nat × AV)} (hg : ev e g = some (.func (.func f) us ts)) (hbd : bodied P f = true) (hes : ∀ s v, (s, v) ∈ es → lk s e = some v)
    (hac : ∀ (l r : Nat) (fn : FuncId) (asg bdy : Code), compC P N asg = cA → compC P N bdy = cB → AC P f (us ++ [.func (.yield l) [] []] ++ ts) ((h.put h.next (.dfr r (some []))).put (h.next + 1) (.loop l .ready N es fn #[p] asg bdy r))
      (fun _ h' => h'.get h.next = some (.dfr r (some [])) ∧ h'.get (h.next + 1) = some (.loop l .ready N es fn #[p] asg bdy r) ∧ Q h.next .normal e (h'.set (h.next + 1) none))) : AMk P N (.rangeF g [p] cA cB) Q e h := by
  intro code hc m w a hr he
  cases code <;> simp only [compC] at hc <;> try (cases hc; done)
  · split at hc <;> cases hc
  · split at hc <;> cases hc
  · rename_i gq ps asg bdy
    split at hc
    · rename_i g' hgq
      injection hc with e1 e2 e3 e4
      subst e1 e3 e4
      have hps : ps = #[p] := by rw [← Array.toArray_toList (xs := ps), e2]
      subst hps
      refine (wpIn_wide (n := 0)).1 (wpIn_rangeFunc fun fn _ => ?_)
      have hfv := he.eval hgq hg
      have hf1 := next_fresh hr
      have hr1 : HR (upd m h.next (some (w.heap.size, 0))) (h.put h.next (.dfr w.heap.size (some []))) (w.alloc (.deferred (some []))) := hr.put hf1 ⟨by simp [upd], World.alloc_heap_new _ _⟩
      have st1 := step_put hr hf1 (.dfr w.heap.size (some [])) (.deferred (some [])) 0
      have hn1 : (h.put h.next (.dfr w.heap.size (some []))).next = h.next + 1 := next_put _ _
      have hf2 : ¬ (h.put h.next (.dfr w.heap.size (some []))).used (h.next + 1) := fun hu => by have := hu.1; omega
      have hsz1 : (w.alloc (.deferred (some []))).heap.size = w.heap.size + 1 := World.size_alloc ..
      have st2 := step_put hr1 hf2 (.loop (w.heap.size + 1) .ready N es fn #[p] asg bdy w.heap.size) (.loop ⟨.ready, none, fn, a.tmps, #[p], asg, bdy, w.heap.size⟩) 0
      have hr2 := hr1.put (t := 0) (x := .loop (w.heap.size + 1) .ready N es fn #[p] asg bdy w.heap.size) (o := .loop ⟨.ready, none, fn, a.tmps, #[p], asg, bdy, w.heap.size⟩) hf2
        ⟨by simp [upd], a.tmps, by rw [← hsz1]; exact World.alloc_heap_new _ _, he.size, fun s v hs => (he.val s v (hes s v hs)).step (st1.trans st2)⟩
      have he2 := he.step (st1.trans st2)
      generalize hcx : a.eval gq = cx at hfv
      cases hfv with
      | func _ _ _ cs ds q1 q2 q3 q4 =>
        have hfv2 : VR _ _ _ (.func (.func f) us ts) (.func (.func f) cs ds) := (VR.func (.func f) us ts cs ds q1 q2 q3 q4).step (st1.trans st2)
        obtain ⟨W, hW⟩ : ∃ W, (w.alloc (.deferred (some []))).alloc (.loop ⟨.ready, none, fn, a.tmps, #[p], asg, bdy, w.heap.size⟩) = W := ⟨_, rfl⟩
        obtain ⟨d, hd1, hd2⟩ : ∃ d : Deferred, (resolve a.eval (rangeCall gq (w.heap.size + 1)) 0).run P W = .ok d W ∧ (invoke d.target d.args).run P W = .ok (.enter f (cs ++ #[.func (.yield (w.heap.size + 1)) #[] #[]] ++ ds)) W := by
          have hce : a.eval (.const (.func (.yield (w.heap.size + 1)) #[] #[])) = .func (.yield (w.heap.size + 1)) #[] #[] := rfl
          refine ⟨{ target := .fn (.func f) ds, args := cs ++ #[.func (.yield (w.heap.size + 1)) #[] #[]] }, ?_, ?_⟩
          · simp [resolve, rangeCall, hcx, hce, Deferred.ofValue]
          · simp [invoke, run_callFunc hbd]
        refine ⟨w.heap.size + 1, [mk w.heap.size], W, d, W, f, cs ++ #[.func (.yield (w.heap.size + 1)) #[] #[]] ++ ds, W, ?_, hd1, fun _ _ => trivial, hd2, fun hh => by simp [Fence.wide] at hh, ?_⟩
        · rw [← hW]; exact run_enterLoop_outer fn a.tmps #[p] asg bdy
        · refine callsIn_wide.2 ?_
          subst hW
          refine (hac (w.heap.size + 1) w.heap.size fn asg bdy rfl rfl _ _ _ hr2 (by simp [q1, q2]; omega) (fun j v hj => ?_)).mono fun ex w3 hx => ?_
          · have q3' := fun i v hi => (q3 i v hi).step (st1.trans st2)
            have q4' := fun i v hi => (q4 i v hi).step (st1.trans st2)
            rw [List.append_assoc] at hj
            simp only [Array.getD_eq_getD_getElem?]
            by_cases j1 : j < us.length
            · rw [List.getElem?_append_left j1] at hj
              have := q3' j v hj
              rw [Array.append_assoc, Array.getElem?_append_left (by omega)]
              simpa [Array.getD_eq_getD_getElem?] using this
            · rw [List.getElem?_append_right (by omega)] at hj
              rw [Array.append_assoc, Array.getElem?_append_right (by omega), ← q1]
              by_cases j2 : j - us.length < 1
              · rw [List.getElem?_append_left (by simpa using j2)] at hj
                have h0 : j - us.length = 0 := by omega
                rw [h0] at hj ⊢
                cases hj
                rw [Array.getElem?_append_left (by simp)]
                exact .func _ [] [] #[] #[] rfl rfl (by simp) (by simp)
              · rw [List.getElem?_append_right (by simp; omega)] at hj
                have := q4' _ v hj
                rw [Array.getElem?_append_right (by simp; omega)]
                simpa [Array.getD_eq_getD_getElem?] using this
          · obtain ⟨v, m3, r3, h3, rfl, hr3, _, st3, hg3, hl3, hq3⟩ := hx
            obtain ⟨T3, hT3, _, _, hr4, st4⟩ := loop_turn hr3 hl3 .exhausted
            have hr5 := hr4.del (h.next + 1)
            have st5 : Step _ _ _ _ _ _ := step_del (m := m3) (h := h3.set (h.next + 1) (some (.loop (w.heap.size + 1) .exhausted N es fn #[p] asg bdy w.heap.size))) (w := w3.putObj (w.heap.size + 1) (.loop ⟨.exhausted, none, fn, T3, #[p], asg, bdy, w.heap.size⟩)) (h.next + 1)
            refine ⟨none, _, run_endLoop hT3 (by simp), ?_⟩
            rw [set_set] at hr5 st5
            have stA := (((st1.trans st2).trans st3).trans st4).trans st5
            refine ⟨w.heap.size, h.next, fun hu => absurd hu.1 (Nat.lt_irrefl _), m3, e, _, hr5, ?_, ?_, stA, ?_, hq3⟩
            · have := he.step stA
              exact ⟨this.size, rfl, this.val⟩
            · show [mk w.heap.size] ++ a.defers = _
              rw [he.defers]; rfl
            · rw [get_set, if_neg (by omega)]; exact hg3
    · cases hc

theorem dfr_turn {did r : Nat} {o : Option (List Deferred)} (hr : HR m h w) (hg : h.get did = some (.dfr r o)) (o' : Option (List Deferred)) :
    w.heap[r]? = some (.deferred o) ∧ HR m (h.set did (some (.dfr r o'))) (w.putObj r (.deferred o')) ∧ Step m h w m (h.set did (some (.dfr r o'))) (w.putObj r (.deferred o')) := by
  obtain ⟨q1, q2⟩ := hr.obj _ _ hg
  have hlt : r < w.heap.size := (Array.getElem?_eq_some_iff.1 q2).1
  have wu : WUpd w (w.putObj r (.deferred o')) r := ⟨rfl, rfl, rfl, World.putObj_size, fun k hk => World.putObj_heap_other hk, fun cc T' fz hc => by rw [q2] at hc; cases hc⟩
  have hcm : Compat (.dfr r o) (.dfr r o') := rfl
  exact ⟨q2, hr.set hg q1 hcm wu ⟨q1, World.putObj_heap_same hlt⟩, step_set hr hg q1 hcm wu⟩
/-- A contract out of a walk over a body in which a range over a function stands. -/
theorem AC.introM {f : Nat} {cc : CC} {rcs : List RC} {vs : List AV} {R : AV → AHeap → Prop} (hfn : FnIs P f N cc rcs) (hn : vs.length ≤ N)
    (hw : AMk P N cc (fun did ex e h1 => ¬ h.used did → (ex = .ret ∨ ex = .normal) ∧ ∃ rs, resA (h1.set did none).get e rcs = some rs ∧ R (fin rs) (h1.set did none)) (argE 0 vs) h) : AC P f vs h R := by
  obtain ⟨fn, code, h1, h2, h3, h4, h5⟩ := hfn
  intro m w cargs hr hl hv
  refine (callsIn_wide (n := 0)).1 (callsIn_of_wp_marks h1 h2 trivial ((wpIn_wide (n := 0)).2 (wp_mono (hw code h4 m w _ hr ⟨by simp [h3, ← hl]; omega, rfl, fun i v hi => ?_⟩) fun ex a' w' hp => ?_)))
  · rw [lk_argE] at hi
    simp at hi
    have hlt : i < cargs.size := by rw [← hl]; exact (List.getElem?_eq_some_iff.1 hi).1
    have := hv i v hi
    simpa [Array.getD_eq_getD_getElem?, Array.getElem?_append_left hlt] using this
  · obtain ⟨r, did, hu, m', e', h', g1, g2, g3, g4, g5, hq⟩ := hp
    obtain ⟨hex, rs, hrs, hR⟩ := hq hu
    obtain ⟨hdf, hr2, st2⟩ := dfr_turn g1 g5 none
    have hr3 := hr2.del did
    have st3 : Step _ _ _ _ _ _ := step_del (m := m') (h := h'.set did (some (.dfr r none))) (w := w'.putObj r (.deferred none)) did
    rw [set_set] at hr3 st3
    have stA := st2.trans st3
    have he3 := g2.step stA
    obtain ⟨v, hrun, hvr⟩ := results_ok hr3 he3 h5 hrs
    have key : LeavesInM Fence.wide 0 P fn a'.tmps (fun ex w' => ∃ v m' r h', ex = .returned v ∧ HR m' h' w' ∧ VR m' h' w' r v ∧ Step m h w m' h' w' ∧ R r h') a'.defers .returning w' := by
      rw [g3]
      refine ⟨by simp, .inl ⟨r, _, rfl, run_takeDeferred hdf, ?_⟩⟩
      exact ⟨v, hrun, v, m', fin rs, _, rfl, hr3, hvr, g4.trans stA, hR⟩
    rcases hex with rfl | rfl
    · exact key
    · exact key
/-- The same of a function that leaves the heap as it was. -/
theorem AE.pureM {f : Nat} {cc : CC} {rcs : List RC} {vs : List AV} {r : AV} (hfn : FnIs P f N cc rcs) (hn : vs.length ≤ N)
    (hw : AMk P N cc (fun did ex e h1 => ¬ h.used did → PureQ h rcs r ex e (h1.set did none)) (argE 0 vs) h) : AE P f vs h r h := by
  have hac : AC P f vs h (fun r1 h1 => Keeps h h1 ∧ Fz h h1 r1 r) := by
    refine AC.introM hfn hn fun code hc m w a hr he => wp_mono (hw code hc m w a hr he) fun ex a' w' hp => ?_
    obtain ⟨r0, did, hu, m', e', h', g1, g2, g3, g4, g5, hq⟩ := hp
    refine ⟨r0, did, hu, m', e', h', g1, g2, g3, g4, g5, fun hu => ⟨(hq hu).ex, ?_⟩⟩
    obtain ⟨_, hk, rs, hrs, hfz⟩ := hq hu
    exact ⟨rs, hrs, hk, hfz⟩
  intro m w cargs hr hl hv
  refine (hac m w cargs hr hl hv).mono fun ex w' ⟨v, m', r1, h1, e1, g1, g2, g3, hk, hz⟩ => ?_
  have hs : ∀ id x, h.get id = some x → h1.get id = some x := fun id x hg => (hk.2 id (hr.live id x hg)).trans hg
  exact ⟨v, m', r, h, e1, back_hr hr g1 hs, hz.vr g1 hs hr.live g2, back_step g3 hr hs, rfl, rfl⟩
/-- x[l:q:q] of a row that is never written. -/
theorem XOK.slc3I {sz : Nat} {x mx y z : Opd} {k k2 k' : IntKind} {c : List (List AV)} {l q : Nat} {a0 b0 d0 : Int} (hx : ev e x = some (.imm sz c)) (hl : ev e z = some (.int k a0)) (hh : ev e y = some (.int k2 b0)) (hm : ev e mx = some (.int k' d0)) (ha : a0 = l) (hb : b0 = q) (hd : d0 = q) (hlq : l < q) (hq : q ≤ c.length) : XOK P N (.slc3 sz x (some z) (some y) mx) e h (some (.imm sz ((c.take q).drop l))) .none := by
  subst ha hb hd
  intro o hc e2 hs m w act hr he
  obtain ⟨t, xo, lo', hi', mo, el, i, hop, hu1, hi, h1, h2, h3, h4, rfl⟩ := cx_slc3 hc
  cases lo' with
  | none => exact h3.elim
  | some lo =>
    cases hi' with
    | none => exact h4.elim
    | some ho =>
      have hx2 := (ev_congr fun s h => hs s (by simp [xslots, h])).trans hx
      have hl2 := (ev_congr fun s h => hs s (by simp [xslots, bslots, h])).trans hl
      have hh2 := (ev_congr fun s h => hs s (by simp [xslots, bslots, h])).trans hh
      have hm2 := (ev_congr fun s h => hs s (by simp [xslots, h])).trans hm
      have hv := he.eval h1 hx2
      have b0 := vr_int (he.eval h3 hl2)
      have b1 := vr_int (he.eval h4 hh2)
      have b2 := vr_int (he.eval h2 hm2)
      generalize hcx : act.eval xo = cx at hv
      cases hv with
      | imm0 => simp at hq; omega
      | imm1 => simp at hq; omega
      | imm _ _ b o' cap F hic hlen hsc hrr hcap =>
        have hbd : (Instr.sliceBounds true c.length cap (some (.int k (l : Int))) (some (.int k2 (q : Int))) (some (.int k' (q : Int)))).run P w = .ok (l, q, q) w := by
          have q1 : q ≤ cap := by omega
          have q2 : l ≤ q := by omega
          simp [Instr.sliceBounds, Instr.sliceBound, asIntOf, q1, q2]
        have hrun : (Instr.sliceAt t (.slice (some ⟨b, o', none⟩) c.length cap) (some (.int k (l : Int))) (some (.int k2 (q : Int))) (some (.int k' (q : Int)))).run P w = .ok (.slice (some ⟨b, o' + l * i.size, none⟩) (q - l) (q - l)) w := by
          have q3 : q ≠ l := by omega
          simp [Instr.sliceAt, run_underlying hu1, Instr.slice, hbd, run_sizeOf' hi, q3, Addr.add_lit]
        refine OpOK.pure hr (cv := .slice (some ⟨b, o' + l * i.size, none⟩) (q - l) (q - l)) ?_ (sub_row hic hlen hsc hrr (by omega) hq _ (Nat.le_refl _))
        simp only [execOp, hop, hcx, b0, b1, b2, Option.map_some, Sem.run_bind, hrun, Result.andThen_ok, Sem.run_pure]
theorem FX.slc3I {d : Option Nat} {g : Option (Nat × Bool)} {sz : Nat} {x mx y z : Opd} {k k2 k' : IntKind} {c : List (List AV)} {l q : Nat} {a0 b0 d0 : Int} (hx : ev e x = some (.imm sz c)) (hl : ev e z = some (.int k a0)) (hh : ev e y = some (.int k2 b0)) (hm : ev e mx = some (.int k' d0)) (ha : a0 = l) (hb : b0 = q) (hd : d0 = q) (hlq : l < q) (hq : q ≤ c.length) (hg : met e g) :
    FX P N ⟨d, .raw (.slc3 sz x (some z) (some y) mx), g⟩ e h (some (.imm sz ((c.take q).drop l))) h := FX.raw (XOK.slc3I hx hl hh hm ha hb hd hlq hq) hg
end
end Go.Abs
