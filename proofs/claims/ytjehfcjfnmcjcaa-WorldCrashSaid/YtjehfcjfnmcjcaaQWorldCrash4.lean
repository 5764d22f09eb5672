/- What the statement's proof needs, part 4. -/
import Derived.Test.YtjehfcjfnmcjcaaQWorldCrash3
set_option linter.all false
namespace Go.Abs
open Go

def FW : Option Nat → Fence
  | none => Fence.wide
  | some l => Fence.wide.inRound l
theorem FW.fn {ro : Option Nat} {f : FuncId} : (FW ro).fn f := by cases ro <;> trivial
theorem FW.depth {ro : Option Nat} {p : Prop} : (FW ro).depth.isSome = true → p := by cases ro <;> simp [FW, Fence.wide, Fence.inRound]
section
variable {P : Program} {N : Nat} {e : Env} {h : AHeap} {m : Inj} {w : World}
theorem calls_in {ro : Option Nat} {n : Nat} {f : FuncId} {args : Array Value} {R : Ending → World → Prop} (hc : Calls P f args w R) : CallsIn (FW ro) n P f args w R := by
  cases ro with
  | none => exact callsIn_wide.2 hc
  | some l => exact CallsIn.inRound l (callsIn_wide.2 hc)
theorem rows_in {ro : Option Nat} {n : Nat} {row : String} {args : Array Value} {R : Value → World → Prop} (hc : Rows P row args w R) : RowsIn (FW ro) n P row args w R := by
  intro c cs _
  obtain ⟨v, w', r, s⟩ := hc c cs
  refine ⟨v, w', r, ?_⟩
  cases ro with
  | none => exact stepsIn_wide.2 s
  | some l => exact stepsIn_wide.2 s
theorem compI_nodefer {ops : Array Oper} {o : Oper} {c : CI} (hc : compI P N ops o = c) (hb : c.i ≠ .bad) : ∀ d, o.op ≠ .defer d := by
  intro d hd
  apply hb
  have hr : rawI P N o = .bad := by
    unfold rawI
    have h1 : compileOp P N o = none := by simp [compileOp, hd]
    have h2 : compileX P N o = none := by simp [compileX, hd]
    simp [h1, h2]
  subst hc
  unfold compI
  split
  · split
    · simp [hr]
    · split
      · split
        · simp [hr]
        · rfl
      · rfl
  · rfl
/-- What a list of operations does, it does in a round, too. -/
theorem wpOps_in {ro : Option Nat} {n : Nat} {ops : Array Oper} {Q Q' : Exit → Go.Act → World → Prop} (hq : ∀ ex a w, Q ex a w → Q' ex a w) (hl : ¬ LetsOut Q) : ∀ (idx : List Nat), (∀ i ∈ idx, ∀ o, ops[i]? = some o → ∀ d, o.op ≠ .defer d) →
    ∀ (a : Go.Act) (w : World), wpOps P ops Q idx a w → wpOpsIn (FW ro) n P ops Q' idx a w
  | [], _, a, w, hw => hq _ _ _ hw
  | i :: idx, hd, a, w, hw => by
    have ih := wpOps_in (ro := ro) (n := n) hq hl idx fun j hj => hd j (by simp [hj])
    simp only [wpOps] at hw
    simp only [wpOpsIn]
    cases ho : ops[i]? with
    | none => simp only [ho] at hw; exact ih _ _ hw
    | some o =>
      simp only [ho] at hw ⊢
      by_cases hwant : Region.wanted o (yielded ops a.tmps) = true
      · rw [if_pos hwant] at hw ⊢
        rcases hw with hw | ⟨_, hx⟩
        · refine ⟨fun _ _ => FW.fn, ?_⟩
          rw [Oper.semAt_eq _ _ _ (hd i (by simp) o ho)]
          unfold Oper.wp at hw
          generalize (execOp a.eval o).run P w = r at hw ⊢
          cases r with
          | ok nx w' =>
            cases nx <;> simp only [Oper.upon, Oper.uponIn] at hw ⊢ <;> first
              | exact ih _ _ hw
              | exact ⟨FW.depth, calls_in (Calls.mono hw fun ex w'' he => by
                  cases ex with
                  | returned v => exact ih _ _ he
                  | panicked ch => exact hq _ _ _ he
                  | outgrown => exact absurd he hl)⟩
              | exact ⟨FW.depth, rows_in (Rows.mono hw fun _ _ he => ih _ _ he)⟩
          | halt x w' => cases x <;> simp only [Oper.upon, Oper.uponIn] at hw ⊢ <;> exact hq _ _ _ hw
        · exact absurd hx hl
      · rw [if_neg hwant] at hw ⊢
        exact ⟨fun _ _ => FW.fn, ih _ _ hw⟩

theorem loop_turn {id l N0 d : Nat} {st : LoopState} {es : List (Nat × AV)} {fn : FuncId} {ps : Array Tmp} {asg bdy : Code} (hr : HR m h w) (hg : h.get id = some (.loop l st N0 es fn ps asg bdy d)) (st' : LoopState) :
    ∃ T : Array Value, w.heap[l]? = some (.loop ⟨st, none, fn, T, ps, asg, bdy, d⟩) ∧ T.size = N0 ∧ (∀ (s : Nat) (v : AV), (s, v) ∈ es → VR m h w v (T.getD s undef)) ∧
      HR m (h.set id (some (.loop l st' N0 es fn ps asg bdy d))) (w.putObj l (.loop ⟨st', none, fn, T, ps, asg, bdy, d⟩)) ∧ Step m h w m (h.set id (some (.loop l st' N0 es fn ps asg bdy d))) (w.putObj l (.loop ⟨st', none, fn, T, ps, asg, bdy, d⟩)) := by
  obtain ⟨q1, T, q2, q3, q4⟩ := hr.obj _ _ hg
  have hlt : l < w.heap.size := (Array.getElem?_eq_some_iff.1 q2).1
  have wu : WUpd w (w.putObj l (.loop ⟨st', none, fn, T, ps, asg, bdy, d⟩)) l := ⟨rfl, rfl, rfl, World.putObj_size, fun k hk => World.putObj_heap_other hk, fun cc T' fz hc => by rw [q2] at hc; cases hc⟩
  have hcm : Compat (.loop l st N0 es fn ps asg bdy d) (.loop l st' N0 es fn ps asg bdy d) := ⟨rfl, rfl, rfl, rfl, rfl, rfl, rfl, rfl⟩
  have stp := step_set hr hg q1 hcm wu
  exact ⟨T, q2, q3, q4, hr.set hg q1 hcm wu ⟨q1, T, World.putObj_heap_same hlt, q3, fun s v hi => (q4 s v hi).step stp⟩, stp⟩

/-- Code in a round of record l. -/
def RW (P : Program) (l N : Nat) (c : CC) (Q : Exit → Env → AHeap → Prop) (e : Env) (h : AHeap) : Prop :=
  ∀ code, compC P N code = c → ∀ (n : Nat) (m : Inj) (w : World) (a : Go.Act), HR m h w → ER N m h w e a → code.wpIn (FW (some l)) n P (PA N Q m h w) a w
def Ins.isBad : Ins → Bool
  | .bad => true
  | _ => false
theorem noOut {K : Env → AHeap → Prop} : ¬ LetsOut (PA N (fun ex e h => ex = .normal ∧ K e h) m h w) := by
  rintro ⟨a, w0, m', e', h', _, _, _, hq, _⟩
  cases hq
theorem nodefers {ops : Array Oper} {l : List CI} (hl : compR P N ops = l) (hb : l.all (fun c => !c.i.isBad) = true) : ∀ i ∈ List.range ops.size, ∀ o, ops[i]? = some o → ∀ d, o.op ≠ .defer d := by
  intro i _ o ho
  refine compI_nodefer (P := P) (N := N) (ops := ops) rfl fun hbad => ?_
  have hm : compI P N ops o ∈ l := by
    rw [← hl, compR]
    refine List.mem_map.2 ⟨o, ?_, rfl⟩
    exact Array.mem_toList_iff.2 (Array.mem_of_getElem? ho)
  have := List.all_eq_true.1 hb _ hm
  rw [hbad] at this
  cases this
theorem compR_range {ops : Array Oper} : (List.range ops.size).map (fun i => compI P N ops (ops.getD i default)) = compR P N ops := by
  simp only [compR]
  apply List.ext_getElem
  · simp
  · intro i h1 h2
    simp at h1 h2
    simp [h1]
theorem RW.reg {lr : Nat} {l : List CI} {K : Env → AHeap → Prop} (hb : l.all (fun c => !c.i.isBad) = true) (hw : WL P N l (fun ex e h => ex = .normal ∧ K e h) e h) : RW P lr N (.reg l) (fun ex e h => ex = .normal ∧ K e h) e h := by
  intro code hc n m w a hr he
  cases code <;> simp only [compC] at hc <;> try (cases hc; done)
  · rename_i id ops d
    split at hc
    · cases hc
    · rename_i hd
      injection hc with hc
      have hd' : d = false := by simpa using hd
      subst hd'
      exact wpIn_region (wpOps_in (fun _ _ _ h => h) noOut _ (nodefers hc hb) a w (hw.out ops (List.range ops.size) (fun i hi => by simpa using hi) (compR_range.trans hc) m w a hr he))
  · split at hc <;> cases hc
  · split at hc <;> cases hc
theorem RW.seq {lr : Nat} {x y : CC} {Q : Exit → Env → AHeap → Prop} (hw : RW P lr N x (fun ex e h => ex = .normal ∧ RW P lr N y Q e h) e h) : RW P lr N (.seq x y) Q e h := by
  intro code hc n m w a hr he
  cases code <;> simp only [compC] at hc <;> try (cases hc; done)
  · split at hc <;> cases hc
  · rename_i cx cy
    cases hc
    refine wpIn_seq (wpIn_mono (hw cx rfl n m w a hr he) fun ex a' w' hp => ?_)
    obtain ⟨m', e', h', h1, h2, h3, rfl, h4⟩ := hp
    exact wpIn_mono (h4 cy rfl n m' w' a' h1 h2) fun _ _ _ hp => PA.from h3 hp
  · split at hc <;> cases hc
  · split at hc <;> cases hc
theorem RW.block {lr id : Nat} {x : CC} {Q : Exit → Env → AHeap → Prop} (hw : RW P lr N x (fun ex e h => ex = .normal ∧ Q .normal e h) e h) : RW P lr N (.block id x) Q e h := by
  intro code hc n m w a hr he
  cases code <;> simp only [compC] at hc <;> try (cases hc; done)
  · split at hc <;> cases hc
  · split at hc <;> cases hc
  · cases hc
    refine wpIn_block (wpIn_mono (hw _ rfl n m w a hr he) fun ex a' w' hp => ?_)
    obtain ⟨m', e', h', h1, h2, h3, rfl, h4⟩ := hp
    exact ⟨m', e', h', h1, h2, h3, h4⟩
  · split at hc <;> cases hc
end
end Go.Abs


namespace Go.Abs
open Go

def mk (r : Nat) : Deferred := { target := .collected r, args := #[] }
/-- How code ends behind a range over a function: a mark among the deferred calls. -/
def PMd (N : Nat) (Q : Exit → Env → AHeap → Prop) (did r : Nat) (m : Inj) (h : AHeap) (w : World) : Exit → Go.Act → World → Prop :=
  fun ex a' w' => ∃ (m' : Inj) (e' : Env) (h' : AHeap), HR m' h' w' ∧ ER N m' h' w' e' { a' with defers := [] } ∧ a'.defers = [mk r] ∧ Step m h w m' h' w' ∧ h'.get did = some (.dfr r (some [])) ∧ Q ex e' h'
/-- How code ends in which a range over a function stood: the block of deferred calls is new. -/
def PMk (N : Nat) (Q : Nat → Exit → Env → AHeap → Prop) (m : Inj) (h : AHeap) (w : World) : Exit → Go.Act → World → Prop :=
  fun ex a' w' => ∃ (r did : Nat), ¬ h.used did ∧ PMd N (Q did) did r m h w ex a' w'
/-- Code in which such a range stands. -/
def AMk (P : Program) (N : Nat) (c : CC) (Q : Nat → Exit → Env → AHeap → Prop) (e : Env) (h : AHeap) : Prop :=
  ∀ code, compC P N code = c → ∀ m w a, HR m h w → ER N m h w e a → code.wp P (PMk N Q m h w) a w
/-- Code behind it. -/
def AMM (P : Program) (N : Nat) (c : CC) (Q : Exit → Env → AHeap → Prop) (did r : Nat) (e : Env) (h : AHeap) : Prop :=
  ∀ code, compC P N code = c → ∀ m w a, HR m h w → ER N m h w e { a with defers := [] } → a.defers = [mk r] → code.wp P (PMd N Q did r m h w) a w
section
variable {P : Program} {N : Nat} {e : Env} {h : AHeap} {m : Inj} {w : World} {Q : Nat → Exit → Env → AHeap → Prop} {K : Exit → Env → AHeap → Prop}
theorem PMd.from {m₁ : Inj} {h₁ : AHeap} {w₁ : World} {did r : Nat} (s : Step m h w m₁ h₁ w₁) {ex : Exit} {a : Go.Act} {w' : World} (hp : PMd N K did r m₁ h₁ w₁ ex a w') : PMd N K did r m h w ex a w' := by
  obtain ⟨m', e', h', h1, h2, h3, h4, h5, h6⟩ := hp
  exact ⟨m', e', h', h1, h2, h3, s.trans h4, h5, h6⟩
theorem AMk.block {id : Nat} {x : CC} (hw : AMk P N x (fun did ex e h => ex = .normal ∧ Q did .normal e h) e h) : AMk P N (.block id x) Q e h := by
  intro code hc m w a hr he
  cases code <;> simp only [compC] at hc <;> try (cases hc; done)
  · split at hc <;> cases hc
  · split at hc <;> cases hc
  · cases hc
    refine wp_block (wp_mono (hw _ rfl m w a hr he) fun ex a' w' hp => ?_)
    obtain ⟨r, did, hu, m', e', h', h1, h2, h3, h4, h5, rfl, h6⟩ := hp
    exact ⟨r, did, hu, m', e', h', h1, h2, h3, h4, h5, h6⟩
  · split at hc <;> cases hc
theorem AMM.seq {x y : CC} {did r : Nat} (hw : AMM P N x (fun ex e h => ex = .normal ∧ (h.get did = some (.dfr r (some [])) → AMM P N y K did r e h)) did r e h) : AMM P N (.seq x y) K did r e h := by
  intro code hc m w a hr he hd
  cases code <;> simp only [compC] at hc <;> try (cases hc; done)
  · split at hc <;> cases hc
  · rename_i cx cy
    cases hc
    refine wp_seq (wp_mono (hw cx rfl m w a hr he hd) fun ex a' w' hp => ?_)
    obtain ⟨m', e', h', h1, h2, h3, h4, h5, rfl, h6⟩ := hp
    exact wp_mono (h6 h5 cy rfl m' w' a' h1 h2 h3) fun _ _ _ hp => hp.from h4
  · split at hc <;> cases hc
  · split at hc <;> cases hc
theorem AMM.ret {did r : Nat} (hg : h.get did = some (.dfr r (some []))) (hq : K .ret e h) : AMM P N .ret K did r e h := by
  intro code hc m w a hr he hd
  cases code <;> simp only [compC] at hc <;> try (cases hc; done)
  · split at hc <;> cases hc
  · split at hc <;> cases hc
  · split at hc <;> cases hc
  · exact wp_ret ⟨m, e, h, hr, he, hd, Step.refl _ _ _, hg, hq⟩
/-- Operations do not look at the deferred calls. -/
theorem wpOps_dfr {ops : Array Oper} {K : Exit → Go.Act → World → Prop} (hl : ¬ LetsOut K) (ds : List Deferred) : ∀ (idx : List Nat) (a : Go.Act) (w : World), wpOps P ops K idx a w →
    wpOps P ops (fun ex a' w' => ∃ a0, a' = { a0 with defers := a0.defers ++ ds } ∧ K ex a0 w') idx { a with defers := a.defers ++ ds } w
  | [], a, w, hw => ⟨a, rfl, hw⟩
  | i :: idx, a, w, hw => by
    have ih := wpOps_dfr (ops := ops) (K := K) hl ds idx
    have ihp : ∀ (a : Go.Act) (d : Option Tmp) (v : Value) (w : World), wpOps P ops K idx (a.put d v) w → wpOps P ops (fun ex a' w' => ∃ a0, a' = { a0 with defers := a0.defers ++ ds } ∧ K ex a0 w') idx (({ a with defers := a.defers ++ ds } : Go.Act).put d v) w := fun a d v w hx => by
      have := ih _ _ hx
      cases d <;> exact this
    have hev : ({ a with defers := a.defers ++ ds } : Go.Act).eval = a.eval := funext fun x => by cases x <;> rfl
    simp only [wpOps] at hw ⊢
    cases ho : ops[i]? with
    | none => simp only [ho] at hw; exact ih _ _ hw
    | some o =>
      simp only [ho] at hw ⊢
      by_cases hwant : Region.wanted o (yielded ops a.tmps) = true
      · rw [if_pos hwant] at hw ⊢
        rcases hw with hw | ⟨_, hx⟩
        · left
          unfold Oper.wp at hw ⊢
          rw [hev]
          generalize (execOp a.eval o).run P w = r at hw ⊢
          cases r with
          | ok nx w' =>
            cases nx <;> simp only [Oper.upon] at hw ⊢ <;> first
              | exact ihp _ _ _ _ hw
              | exact ihp { a with defers := _ :: a.defers } _ _ _ hw
              | exact Calls.mono hw fun ex w'' he => by
                  cases ex with
                  | returned v => exact ihp _ _ _ _ he
                  | panicked ch => exact ⟨a, rfl, he⟩
                  | outgrown => exact absurd he hl
              | exact Rows.mono hw fun _ _ he => ihp _ _ _ _ he
              | exact hw
          | halt x w' => cases x <;> simp only [Oper.upon] at hw ⊢ <;> first | exact ⟨a, rfl, hw⟩ | exact hw
        · exact absurd hx hl
      · rw [if_neg hwant] at hw ⊢
        exact ihp _ _ _ _ hw
theorem AMM.reg {l : List CI} {did r : Nat} (hw : WL P N l (fun ex e h' => ex = .normal ∧ (h'.get did = some (.dfr r (some [])) ∧ K .normal e h')) e h) : AMM P N (.reg l) K did r e h := by
  intro code hc m w a hr he hd
  cases code <;> simp only [compC] at hc <;> try (cases hc; done)
  · rename_i id ops dr
    split at hc
    · cases hc
    · rename_i hdr
      injection hc with hc
      have hd' : dr = false := by simpa using hdr
      subst hd'
      have hx := wpOps_dfr noOut [mk r] _ _ _ (hw.out ops (List.range ops.size) (fun i hi => by simpa using hi) (compR_range.trans hc) m w { a with defers := [] } hr he)
      have ha : ({ ({ a with defers := [] } : Go.Act) with defers := ({ a with defers := [] } : Go.Act).defers ++ [mk r] } : Go.Act) = a := by
        cases a; simp only at hd; subst hd; rfl
      rw [ha] at hx
      refine wp_region (wpOps_mono (fun ex a1 w1 hp => ?_) _ _ _ hx)
      obtain ⟨a0, rfl, m1, e1, h1, hr1, he1, st1, rfl, hg1, hq⟩ := hp
      refine ⟨m1, e1, h1, hr1, ⟨he1.size, rfl, he1.val⟩, ?_, st1, hg1, hq⟩
      show a0.defers ++ [mk r] = [mk r]
      rw [he1.defers]; rfl
  · split at hc <;> cases hc
  · split at hc <;> cases hc
/-- The statement. -/
theorem AMk.rangeF {f p : Nat} {g : Opd} {us ts : List AV} {cA cB : CC} {es : List (Nat × AV)} (hg : ev e g = some (.func (.func f) us ts)) (hbd : bodied P f = true) (hes : ∀ s v, (s, v) ∈ es → lk s e = some v)
    (hac : ∀ (l r : Nat) (fn : FuncId) (asg bdy : Code), compC P N asg = cA → compC P N bdy = cB → AC P f (us ++ [.func (.yield l) [] []] ++ ts) ((h.put h.next (.dfr r (some []))).put (h.next + 1) (.loop l .ready N es fn #[p] asg bdy r))
      (fun _ h' => h'.get h.next = some (.dfr r (some [])) ∧ h'.get (h.next + 1) = some (.loop l .ready N es fn #[p] asg bdy r) ∧ Q h.next .normal e (h'.set (h.next + 1) none))) : AMk P N (.rangeF g [p] cA cB) Q e h := by
  intro code hc m w a hr he
  cases code <;> simp only [compC] at hc <;> try (cases hc; done)
  · split at hc <;> cases hc
  · split at hc <;> cases hc
  · rename_i gq ps asg bdy
    split at hc
    · rename_i g' hgq
      injection hc with e1 e2 e3 e4
      subst e1 e3 e4
      have hps : ps = #[p] := by rw [← Array.toArray_toList (xs := ps), e2]
      subst hps
      refine (wpIn_wide (n := 0)).1 (wpIn_rangeFunc fun fn _ => ?_)
      have hfv := he.eval hgq hg
      have hf1 := next_fresh hr
      have hr1 : HR (upd m h.next (some (w.heap.size, 0))) (h.put h.next (.dfr w.heap.size (some []))) (w.alloc (.deferred (some []))) := hr.put hf1 ⟨by simp [upd], World.alloc_heap_new _ _⟩
      have st1 := step_put hr hf1 (.dfr w.heap.size (some [])) (.deferred (some [])) 0
      have hn1 : (h.put h.next (.dfr w.heap.size (some []))).next = h.next + 1 := next_put _ _
      have hf2 : ¬ (h.put h.next (.dfr w.heap.size (some []))).used (h.next + 1) := fun hu => by have := hu.1; omega
      have hsz1 : (w.alloc (.deferred (some []))).heap.size = w.heap.size + 1 := World.size_alloc ..
      have st2 := step_put hr1 hf2 (.loop (w.heap.size + 1) .ready N es fn #[p] asg bdy w.heap.size) (.loop ⟨.ready, none, fn, a.tmps, #[p], asg, bdy, w.heap.size⟩) 0
      have hr2 := hr1.put (t := 0) (x := .loop (w.heap.size + 1) .ready N es fn #[p] asg bdy w.heap.size) (o := .loop ⟨.ready, none, fn, a.tmps, #[p], asg, bdy, w.heap.size⟩) hf2
        ⟨by simp [upd], a.tmps, by rw [← hsz1]; exact World.alloc_heap_new _ _, he.size, fun s v hs => (he.val s v (hes s v hs)).step (st1.trans st2)⟩
      have he2 := he.step (st1.trans st2)
      generalize hcx : a.eval gq = cx at hfv
      cases hfv with
      | func _ _ _ cs ds q1 q2 q3 q4 =>
        have hfv2 : VR _ _ _ (.func (.func f) us ts) (.func (.func f) cs ds) := (VR.func (.func f) us ts cs ds q1 q2 q3 q4).step (st1.trans st2)
        obtain ⟨W, hW⟩ : ∃ W, (w.alloc (.deferred (some []))).alloc (.loop ⟨.ready, none, fn, a.tmps, #[p], asg, bdy, w.heap.size⟩) = W := ⟨_, rfl⟩
        obtain ⟨d, hd1, hd2⟩ : ∃ d : Deferred, (resolve a.eval (rangeCall gq (w.heap.size + 1)) 0).run P W = .ok d W ∧ (invoke d.target d.args).run P W = .ok (.enter f (cs ++ #[.func (.yield (w.heap.size + 1)) #[] #[]] ++ ds)) W := by
          have hce : a.eval (.const (.func (.yield (w.heap.size + 1)) #[] #[])) = .func (.yield (w.heap.size + 1)) #[] #[] := rfl
          refine ⟨{ target := .fn (.func f) ds, args := cs ++ #[.func (.yield (w.heap.size + 1)) #[] #[]] }, ?_, ?_⟩
          · simp [resolve, rangeCall, hcx, hce, Deferred.ofValue]
          · simp [invoke, run_callFunc hbd]
        refine ⟨w.heap.size + 1, [mk w.heap.size], W, d, W, f, cs ++ #[.func (.yield (w.heap.size + 1)) #[] #[]] ++ ds, W, ?_, hd1, fun _ _ => trivial, hd2, fun hh => by simp [Fence.wide] at hh, ?_⟩
        · rw [← hW]; exact run_enterLoop_outer fn a.tmps #[p] asg bdy
        · refine callsIn_wide.2 ?_
          subst hW
          refine (hac (w.heap.size + 1) w.heap.size fn asg bdy rfl rfl _ _ _ hr2 (by simp [q1, q2]; omega) (fun j v hj => ?_)).mono fun ex w3 hx => ?_
          · have q3' := fun i v hi => (q3 i v hi).step (st1.trans st2)
            have q4' := fun i v hi => (q4 i v hi).step (st1.trans st2)
            rw [List.append_assoc] at hj
            simp only [Array.getD_eq_getD_getElem?]
            by_cases j1 : j < us.length
            · rw [List.getElem?_append_left j1] at hj
              have := q3' j v hj
              rw [Array.append_assoc, Array.getElem?_append_left (by omega)]
              simpa [Array.getD_eq_getD_getElem?] using this
            · rw [List.getElem?_append_right (by omega)] at hj
              rw [Array.append_assoc, Array.getElem?_append_right (by omega), ← q1]
              by_cases j2 : j - us.length < 1
              · rw [List.getElem?_append_left (by simpa using j2)] at hj
                have h0 : j - us.length = 0 := by omega
                rw [h0] at hj ⊢
                cases hj
                rw [Array.getElem?_append_left (by simp)]
                exact .func _ [] [] #[] #[] rfl rfl (by simp) (by simp)
              · rw [List.getElem?_append_right (by simp; omega)] at hj
                have := q4' _ v hj
                rw [Array.getElem?_append_right (by simp; omega)]
                simpa [Array.getD_eq_getD_getElem?] using this
          · obtain ⟨v, m3, r3, h3, rfl, hr3, _, st3, hg3, hl3, hq3⟩ := hx
            obtain ⟨T3, hT3, _, _, hr4, st4⟩ := loop_turn hr3 hl3 .exhausted
            have hr5 := hr4.del (h.next + 1)
            have st5 : Step _ _ _ _ _ _ := step_del (m := m3) (h := h3.set (h.next + 1) (some (.loop (w.heap.size + 1) .exhausted N es fn #[p] asg bdy w.heap.size))) (w := w3.putObj (w.heap.size + 1) (.loop ⟨.exhausted, none, fn, T3, #[p], asg, bdy, w.heap.size⟩)) (h.next + 1)
            refine ⟨none, _, run_endLoop hT3 (by simp), ?_⟩
            rw [set_set] at hr5 st5
            have stA := (((st1.trans st2).trans st3).trans st4).trans st5
            refine ⟨w.heap.size, h.next, fun hu => absurd hu.1 (Nat.lt_irrefl _), m3, e, _, hr5, ?_, ?_, stA, ?_, hq3⟩
            · have := he.step stA
              exact ⟨this.size, rfl, this.val⟩
            · show [mk w.heap.size] ++ a.defers = _
              rw [he.defers]; rfl
            · rw [get_set, if_neg (by omega)]; exact hg3
    · cases hc

end
end Go.Abs


namespace Go.Proofs.Ytjehfcjfnmcjcaa
open Go Go.Abs

theorem AC.used {P : Program} {f : Nat} {vs : List AV} {h : AHeap} {R : AV → AHeap → Prop} (hac : AC P f vs h R) : AC P f vs h (fun r h' => R r h' ∧ (∀ id, h.used id → h'.used id) ∧ ∀ id x, h'.get id = some x → h'.used id) := fun m w cargs hr hl hv =>
  (hac m w cargs hr hl hv).mono fun ex w' ⟨v, m', r, h', e1, g1, g2, g3, hR⟩ => ⟨v, m', r, h', e1, g1, g2, g3, hR, g3.used, g1.live⟩
theorem AMk.named {P : Program} {N : Nat} {c : CC} {Q : Nat → Exit → Env → AHeap → Prop} {e : Env} {h : AHeap} (F : AHeap → Prop) (hf : F h) (k : ∀ h5, F h5 → AMk P N c Q e h5) : AMk P N c Q e h := k h hf
end Go.Proofs.Ytjehfcjfnmcjcaa


namespace Go.Proofs.Ytjehfcjfnmcjcaa
open Go Go.Abs

/-- A real lock's cells. -/
def reC : List AV := [.func (.func 104) [] [], .func (.func 105) [] [], .func (.func 106) [] [], .func (.func 16) [.nilp] [], .func (.func 19) [.nilp] []]
theorem lock_Real_ae {h : AHeap} {nx : Nat} (hn : h.next = nx) : AE Try.prog 66 [] h (.ptr nx 0 0) (h.put nx (.mem 5 [reC])) := by
  subst hn
  refine AC.introW is_lock_Real (by simp) ?_
  unfold c_lock_Real
  (refine go ?_)
  exact WW.ret ⟨.inl rfl, _, gRES, rfl, rfl⟩
end Go.Proofs.Ytjehfcjfnmcjcaa


namespace Go.Proofs.Ytjehfcjfnmcjcaa
open Go Go.Abs

/-- All that is there: slots, power, the devices, the counters, the keys, what the lock sealed and summed. -/
structure WS where
  n : Int
  pw : PwS
  sd : SdS
  dk : DkS
  ct : CtS
  ks : KsS
  L : List Iss
  S : List Bs
/-- The names of a world's objects: power, the lock's four, from a on the rest. -/
structure WN where
  p : Nat
  l : Nat
  o : Nat
  t : Nat
  q : Nat
  a : Nat
def wRow (n : WN) (k : Int) : List AV := [.int .i64 k, .ptr n.p 0 0, .ptr (n.a + 1) 0 0, .ptr (n.a + 4) 0 0, .ptr (n.a + 7) 0 0, .ptr (n.a + 9) 0 0, .ptr n.l 0 0]
/-- Either lock, by what it sealed and summed. -/
structure LkAt (md : Bool) (h : AHeap) (l o t q : Nat) (L : List Iss) (S : List Bs) : Prop where
  id : md = true → IdAt h l o t q 0 L S
  re : md = false → h.get l = some (.mem 5 [reC])
structure WAt (md : Bool) (h : AHeap) (n : WN) (s : WS) : Prop where
  sd : SdAt h ⟨n.p, n.a + 1, n.a, n.a + 2, n.a + 3⟩ s.pw s.sd
  dk : DkAt h ⟨n.p, n.a + 4, n.a + 5, n.a + 6⟩ s.pw s.dk
  ct : h.get (n.a + 7) = some (s.ct.obj n.p)
  ks : KsAt h n.p (n.a + 9) (n.a + 8) s.ks
  w : h.get (n.a + 10) = some (.mem 7 [wRow n s.n])
  lk : LkAt md h n.l n.o n.t n.q s.L s.S
  op : n.p < n.a
  ol : n.l < n.a
  oo : md = true → n.o < n.a ∧ n.t < n.a ∧ n.q < n.a
  nx : n.a + 11 ≤ h.next
def ws0 (k : Nat) (seed : Int) : WS := ⟨k, ⟨false, false, 0, 0⟩, sd0 (k * 160 + 120), dk0, ⟨0, 0, 0⟩, ⟨seed, [1]⟩, [], []⟩
theorem SdAt.same {h h' : AHeap} {n : SdN} {w : PwS} {x : SdS} (hd : SdAt h n w x) (h1 : h'.get n.p = h.get n.p) (h2 : h'.get n.s = h.get n.s) (h3 : h'.get n.B = h.get n.B) (h4 : h'.get n.w = h.get n.w) (h5 : h'.get n.t = h.get n.t) : SdAt h' n w x :=
  ⟨h1.trans hd.pw, h2.trans hd.ob, h3.trans hd.bl, h4.trans hd.wt, h5.trans hd.tr, hd.ne⟩
theorem DkAt.same {h h' : AHeap} {n : DkN} {w : PwS} {x : DkS} (hd : DkAt h n w x) (h1 : h'.get n.p = h.get n.p) (h2 : h'.get n.d = h.get n.d) (h4 : h'.get n.w = h.get n.w) (h5 : h'.get n.t = h.get n.t) : DkAt h' n w x :=
  ⟨h1.trans hd.pw, h2.trans hd.ob, h4.trans hd.wt, h5.trans hd.tr, hd.ne, hd.ll⟩
theorem KsAt.same {h h' : AHeap} {p k te : Nat} {s : KsS} (hd : KsAt h p k te s) (h2 : h'.get k = h.get k) (h3 : h'.get te = h.get te) : KsAt h' p k te s :=
  ⟨h2.trans hd.ob, h3.trans hd.tl, hd.ne, hd.sm⟩
theorem LkAt.same {md : Bool} {h h' : AHeap} {l o t q : Nat} {L : List Iss} {S : List Bs} (hd : LkAt md h l o t q L S) (h1 : h'.get l = h.get l) (h2 : md = true → h'.get o = h.get o ∧ h'.get t = h.get t ∧ h'.get q = h.get q) : LkAt md h' l o t q L S := by
  refine ⟨fun e => ?_, fun e => h1.trans (hd.re e)⟩
  obtain ⟨g1, g2, g3⟩ := h2 e
  obtain ⟨q0, q1, q2, q3⟩ := hd.id e
  exact ⟨h1.trans q0, ⟨g1.trans q1, g2.trans q2, g3.trans q3⟩⟩
theorem sdNew_ex {h : AHeap} {p nx k : Nat} {w : PwS} (hn : h.next = nx) (hp : p < nx) (hw : h.get p = some (.mem 4 [w.row])) : ∃ h1, sdNew p nx k h = h1 ∧ SdAt h1 ⟨p, nx + 1, nx, nx + 2, nx + 3⟩ w (sd0 k) ∧ h1.next = nx + 4 ∧ (∀ id, id < nx → h1.get id = h.get id) ∧ (∀ h0 : AHeap, Keeps h0 h → Keeps h0 h1) := by
  subst hn
  refine ⟨_, rfl, ?_, ?_, fun id hi => ?_, fun h0 k0 => ?_⟩
  · unfold sdNew
    exact sdAt_of gH gH gH gH gH (by omega)
  · unfold sdNew; show AHeap.next _ = h.next + 1 + 1 + 1 + 1; exact gN
  · unfold sdNew; exact gE
  · have := k0.1
    unfold sdNew; exact gK
theorem dkNew_ex {h : AHeap} {p nx : Nat} {w : PwS} (hn : h.next = nx) (hp : p < nx) (hw : h.get p = some (.mem 4 [w.row])) : ∃ h1, dkNew p nx h = h1 ∧ DkAt h1 ⟨p, nx, nx + 1, nx + 2⟩ w dk0 ∧ h1.next = nx + 3 ∧ (∀ id, id < nx → h1.get id = h.get id) ∧ (∀ h0 : AHeap, Keeps h0 h → Keeps h0 h1) := by
  subst hn
  refine ⟨_, rfl, ?_, ?_, fun id hi => ?_, fun h0 k0 => ?_⟩
  · unfold dkNew
    exact dkAt_of gH gH gH gH (by omega) (by simp [dk0])
  · unfold dkNew; show AHeap.next _ = h.next + 1 + 1 + 1; exact gN
  · unfold dkNew; exact gE
  · have := k0.1
    unfold dkNew; exact gK
set_option maxHeartbeats 2000000 in
theorem world_New_ac (md : Bool) (k : Nat) (hk : isG k = true) (seed : Int) (h : AHeap) : AC Try.prog 21 [.int .i64 k, .int .u64 seed, .bool md] h
    (fun r h' => ∃ n : WN, r = .tup [.ptr (n.a + 10) 0 0, .int .i64 0] ∧ WAt md h' n (ws0 k seed) ∧ h.next ≤ n.p ∧ h.next ≤ n.l ∧ (md = true → h.next ≤ n.o ∧ h.next ≤ n.t ∧ h.next ≤ n.q) ∧ h.next ≤ h'.next ∧ ∀ h0 : AHeap, Keeps h0 h → Keeps h0 h') := by
  refine AC.introW is_world_New (by simp) ?_
  unfold c_world_New
  (refine go ?_)
  refine WL.call rfl (by first | exact True.intro | exact rfl) gSL (geom_Is_ae k _) ?_
  rw [hk]
  (refine go ?_)
  refine WL.call rfl (by first | exact True.intro | exact rfl) gSL (power_New_ae rfl) ?_
  (refine go ?_)
  refine WL.call rfl (by first | exact True.intro | exact rfl) gSL (lock_Real_ae (nx := h.next + 1 + 1) gN) ?_
  refine WL.go ?_
  refine WL.nil ?_
  refine thenN ?_
  have hkk := isG_cases hk
  have hsz : sizeG (k : Int) = ((k * 160 + 120 : Nat) : Int) := by rw [sizeG, if_pos hk]; omega
  rw [put_set]
  refine WW.seqM (fun e7 h7 => ∃ l o t q a, subE [(1, some (.int .u64 seed)), (8, some (.ptr (h.next + 1) 0 0)), (9, some (.ptr h.next 0 0)), (10, some (.ptr l 0 0))] e7 ∧
    h7.get h.next = some (.mem 4 [(⟨false, false, 0, 0⟩ : PwS).row]) ∧ h7.get (h.next + 1) = some (.mem 1 [[.int .i64 k]]) ∧ LkAt md h7 l o t q [] [] ∧ h7.next = a ∧ h.next + 2 ≤ l ∧ l < a ∧ (md = true → h.next + 2 ≤ o ∧ o < a ∧ h.next + 2 ≤ t ∧ t < a ∧ h.next + 2 ≤ q ∧ q < a) ∧ ∀ h0 : AHeap, Keeps h0 h → Keeps h0 h7) ?_ ?_
  · cases md with
    | false =>
      (refine go ?_)
      refine ⟨rfl, h.next + 1 + 1, 0, 0, 0, h.next + 1 + 1 + 1, gSUB, gH, gH, ⟨nofun, fun _ => gH⟩, gN, by omega, by omega, nofun, fun h0 k0 => ?_⟩
      have := k0.1
      exact gK
    | true =>
      (refine go ?_)
      refine WL.call rfl (by first | exact True.intro | exact rfl) gSL (lock_Ideal_ae (nx := h.next + 1 + 1 + 1) gN) ?_
      obtain ⟨h2, e2, o2, n2, m2, k2⟩ := newL_ex (h := ((h.put h.next (.mem 4 [(⟨false, false, 0, 0⟩ : PwS).row])).put (h.next + 1) (.mem 1 [[.int .i64 k]])).put (h.next + 1 + 1) (.mem 5 [reC])) (nx := h.next + 1 + 1 + 1) gN
      rw [e2]
      clear e2
      have hx0 : Keeps h (((h.put h.next (.mem 4 [(⟨false, false, 0, 0⟩ : PwS).row])).put (h.next + 1) (.mem 1 [[.int .i64 k]])).put (h.next + 1 + 1) (.mem 5 [reC])) := gK
      (refine go ?_)
      refine ⟨rfl, _, _, _, _, _, gSUB, (m2 _ (by omega)).trans gH, (m2 _ (by omega)).trans gH, ⟨fun _ => o2, nofun⟩, n2, by omega, by omega, fun _ => ⟨by omega, by omega, by omega, by omega, by omega, by omega⟩, fun h0 k0 => k2 h0 ?_⟩
      have := k0.1
      exact gK
  · rintro e7 h7 ⟨l, o, t, q, a, hs7, hp0, hg0, hlk, hn7, l1, l2, hid, hK⟩
    refine WW.cvt (Cvt.sub hs7) ?_
    have hKh := (hK h (Keeps.refl _)).1
    (repeat first | refine WL.go ?_ | refine WW.seq ?_ | refine WW.reg ?_ | refine WL.nil ?_ | refine WW.skip ?_ | refine WW.block ?_ | refine WW.exit ?_ | refine WW.condT rfl ?_ | refine WW.condF rfl ?_ | refine WL.gox ?_ | refine thenN ?_ | refine blkN ?_)
    refine WW.dregX [5, 7, 9, 12, 15] [0] [] gN (by decide +kernel) ?_
    (refine go ?_)
    refine DW.callS rfl (by first | exact True.intro | exact rfl) gSL rfl (geom_Size_ae k _) ?_
    rw [hsz]
    (refine go ?_)
    refine DW.callSW rfl (by first | exact True.intro | exact rfl) gSL rfl rfl (fun hp => by unfold sdNew; exact PhiW.put (by omega) (PhiW.put (by omega) (PhiW.put (by omega) (PhiW.put (by omega) hp)))) (ssd_New_ae (nx := a) hn7 (by omega) (k * 160 + 120) (by omega)) ?_
    obtain ⟨h1, e1, d1, n1, m1, k1⟩ := sdNew_ex (k := k * 160 + 120) (nx := a) hn7 (by omega) hp0
    rw [e1]
    clear e1
    have hp1 := (m1 h.next (by omega)).trans hp0
    (refine go ?_)
    refine DW.callSW rfl (by first | exact True.intro | exact rfl) gSL rfl rfl (fun hp => by unfold dkNew; exact PhiW.put (by omega) (PhiW.put (by omega) (PhiW.put (by omega) hp))) (disk_New_ae (nx := a + 4) n1 (by omega)) ?_
    obtain ⟨h2, e2, d2, n2, m2, k2⟩ := dkNew_ex n1 (by omega) hp1
    rw [e2]
    clear e2
    (refine go ?_)
    refine DW.callSW rfl (by first | exact True.intro | exact rfl) gSL rfl rfl (fun hp => by repeat first | exact hp | refine PhiW.put (by omega) ?_ | refine PhiW.setN (by omega) ?_ | refine PhiW.setW (by simp; done) ?_) (count_New_ae (nx := a + 4 + 3) gN (p := h.next)) ?_
    (refine go ?_)
    refine DW.callSW rfl (by first | exact True.intro | exact rfl) gSL rfl rfl (fun hp => by repeat first | exact hp | refine PhiW.put (by omega) ?_ | refine PhiW.setN (by omega) ?_ | refine PhiW.setW (by simp; done) ?_) (keys_New_ae (nx := a + 4 + 3 + 1) gN seed) ?_
    (refine go ?_)
    refine WW.named (fun hF => (∀ id, id < a + 7 → hF.get id = h2.get id) ∧ hF.get (a + 7) = some (CtS.obj h.next ⟨0, 0, 0⟩) ∧ hF.get (a + 8) = some (.tail 0 1) ∧ hF.get (a + 9) = some ((⟨seed, [1]⟩ : KsS).obj h.next (a + 8)) ∧ hF.get (a + 10) = some (.mem 7 [[.int .i64 k, .ptr h.next 0 0, .ptr (a + 1) 0 0, .ptr (a + 4) 0 0, .ptr (a + 7) 0 0, .ptr (a + 9) 0 0, .ptr l 0 0]]) ∧ hF.next = a + 11 ∧ ∀ h0 : AHeap, Keeps h0 h → Keeps h0 hF)
      ⟨fun id hi => gE, gH, gH, gH, gH, ?_, fun h0 k0 => ?_⟩ ?_
    · show AHeap.next _ = a + 4 + 3 + 1 + 1 + 1 + 1
      exact gN
    · have k3 := k2 h0 (k1 h0 (hK h0 k0))
      have k4 := (hK h0 k0).1
      exact gK
    rintro hF ⟨f1, f2, f3, f4, f5, f6, f7⟩
    have f8 : ∀ id, id < a + 4 → hF.get id = h1.get id := fun id hi => (f1 id (by omega)).trans (m2 id hi)
    have f9 : ∀ id, id < a → hF.get id = h7.get id := fun id hi => (f8 id (by omega)).trans (m1 id hi)
    refine WW.ret ⟨.inl rfl, _, gRES, ⟨h.next, l, o, t, q, a⟩, rfl, ⟨d1.same (f8 _ ?_) (f8 _ ?_) (f8 _ ?_) (f8 _ ?_) (f8 _ ?_), d2.same (f1 _ ?_) (f1 _ ?_) (f1 _ ?_) (f1 _ ?_), f2, ⟨f4, f3, by simp [ws0], by simp [ws0]⟩, f5, hlk.same (f9 _ l2) fun e => ⟨f9 _ (hid e).2.1, f9 _ (hid e).2.2.2.1, f9 _ (hid e).2.2.2.2.2⟩, ?_, l2, fun e => ⟨(hid e).2.1, (hid e).2.2.2.1, (hid e).2.2.2.2.2⟩, ?_⟩, Nat.le_refl _, ?_, fun e => ⟨?_, ?_, ?_⟩, ?_, f7⟩
    all_goals (first | omega | (dsimp only; omega) | (have := hid e; omega) | (have := hid e; dsimp only; omega))
end Go.Proofs.Ytjehfcjfnmcjcaa


namespace Go.Proofs.Ytjehfcjfnmcjcaa
open Go Go.Abs

theorem world_New_no (md : Bool) (k : Int) (hk : isG k = false) (seed : Int) (h : AHeap) : AE Try.prog 21 [.int .i64 k, .int .u64 seed, .bool md] h (.tup [.nilp, .int .i64 1]) h := by
  refine AE.pureW is_world_New (by simp) ?_
  unfold c_world_New
  (refine go ?_)
  refine WL.call rfl (by first | exact True.intro | exact rfl) gSL (geom_Is_ae k _) ?_
  rw [hk]
  (refine go ?_)
  refine WW.ret (PureQ.finD ?_)
  exact .clo _ (.tup _ fun v hv => by
    simp only [List.mem_cons, List.not_mem_nil, or_false] at hv
    rcases hv with rfl | rfl
    · exact .nilp
    · exact .int _ _)
def WS.key (s : WS) : Pr := if s.ks.cur ∈ s.ks.epochs then ofK s.ks.seed s.ks.cur else (0, 0)
set_option maxHeartbeats 1000000 in
theorem law20_known_ae (h : AHeap) : AE Try.prog 23 [] h (.bool true) h := by
  refine AE.pureW is_law20_known (by simp) ?_
  unfold c_law20_known
  (refine go ?_)
  refine WL.callA rfl (by first | exact True.intro | exact rfl) gSL (world_New_ac true 4 rfl 1 h) ?_
  rintro _ h1 ⟨n, rfl, hw, np, nl, no, nn, kk⟩
  replace kk := kk h (Keeps.refl _)
  (refine go ?_)
  refine WL.call rfl (by first | exact True.intro | exact rfl) gSL (world_New_no true 5 rfl 1 _) ?_
  have hob := hw.w
  simp only [wRow] at hob
  (refine go ?_)
  refine WL.call rfl (by first | exact True.intro | exact rfl) gSL (ssd_Size_ae hw.sd.ob) ?_
  rw [show (ws0 4 1).sd.lasts.length = 760 from (List.length_replicate : (List.replicate (4 * 160 + 120) (0 : UInt8)).length = 4 * 160 + 120)]
  (refine go ?_)
  refine WW.ret (PureQ.finD ?_)
  exact fz_b rfl
theorem bool_of20 {c : List AV} (t : TypL [.b] c) : ∃ v : Bool, c = [.bool v] := by
  obtain ⟨v, vs, rfl, h1, h2⟩ := t.cons_inv
  obtain rfl := h2.nil_inv
  obtain ⟨x, rfl⟩ := h1.bool_inv
  exact ⟨x, rfl⟩
end Go.Proofs.Ytjehfcjfnmcjcaa


namespace Go.Proofs.Ytjehfcjfnmcjcaa
open Go Go.Abs

abbrev WN.sdN (n : WN) : SdN := ⟨n.p, n.a + 1, n.a, n.a + 2, n.a + 3⟩
abbrev WN.dkN (n : WN) : DkN := ⟨n.p, n.a + 4, n.a + 5, n.a + 6⟩
theorem WAt.nep {md : Bool} {h : AHeap} {n : WN} {s : WS} (hw : WAt md h n s) : n.l ≠ n.p ∧ (md = true → n.o ≠ n.p ∧ n.t ≠ n.p ∧ n.q ≠ n.p) := by
  have key : ∀ {i j : Nat} {y z : AObj}, h.get i = some y → h.get j = some z → y ≠ z → i ≠ j := fun hi hj hne e => by
    subst e; rw [hi] at hj; exact hne (Option.some.inj hj)
  have hp := hw.sd.pw
  refine ⟨?_, fun e => ?_⟩
  · cases md with
    | true => exact key (hw.lk.id rfl).cells hp (by simp)
    | false => exact key (hw.lk.re rfl) hp (by simp)
  · obtain ⟨q0, q1, q2, q3⟩ := hw.lk.id e
    exact ⟨key q1 hp (by simp), key q2 hp (by simp), key q3 hp (by simp)⟩
/-- Names of a world that no device turns. -/
def WN.still (md : Bool) (n : WN) (id : Nat) : Prop := id = n.a + 10 ∨ id = n.l ∨ (md = true ∧ (id = n.o ∨ id = n.t ∨ id = n.q))
theorem WAt.re {md : Bool} {h h' : AHeap} {n : WN} {s s' : WS} (hw : WAt md h n s) (hn : s'.n = s.n) (hL : s'.L = s.L) (hS : s'.S = s.S) (hx : h.next ≤ h'.next) (sd : SdAt h' n.sdN s'.pw s'.sd) (dk : DkAt h' n.dkN s'.pw s'.dk) (ct : h'.get (n.a + 7) = some (s'.ct.obj n.p)) (ks : KsAt h' n.p (n.a + 9) (n.a + 8) s'.ks) (fr : ∀ id, n.still md id → h'.get id = h.get id) : WAt md h' n s' := by
  refine ⟨sd, dk, ct, ks, (fr _ (.inl rfl)).trans (by rw [hn]; exact hw.w), ?_, hw.op, hw.ol, hw.oo, Nat.le_trans hw.nx hx⟩
  rw [hL, hS]
  exact hw.lk.same (fr _ (.inr (.inl rfl))) fun e => ⟨fr _ (.inr (.inr ⟨e, .inl rfl⟩)), fr _ (.inr (.inr ⟨e, .inr (.inl rfl)⟩)), fr _ (.inr (.inr ⟨e, .inr (.inr rfl)⟩))⟩
theorem WAt.still {md : Bool} {h : AHeap} {n : WN} {s : WS} (hw : WAt md h n s) {id : Nat} (hi : n.still md id) : id ≠ n.p ∧ (id < n.a ∨ id = n.a + 10) := by
  have hp := hw.nep
  have h1 := hw.op
  have h2 := hw.ol
  rcases hi with rfl | rfl | ⟨e, rfl | rfl | rfl⟩
  · omega
  · omega
  · have := hw.oo e; have := hp.2 e; omega
  · have := hw.oo e; have := hp.2 e; omega
  · have := hw.oo e; have := hp.2 e; omega
theorem WAt.sdNe {md : Bool} {h : AHeap} {n : WN} {s : WS} (hw : WAt md h n s) : SdNe h n.sdN := by
  have h1 := hw.op
  have h2 := hw.nx
  constructor <;> dsimp only <;> omega
theorem WAt.putSd {md : Bool} {h : AHeap} {n : WN} {s : WS} (hw : WAt md h n s) (w' : PwS) (x' : SdS) : WAt md (sdPut n.sdN w' x' h) n { s with pw := w', sd := x' } := by
  have h1 := hw.op
  have hd := hw.dk
  have hp := SdAt.put hw.sdNe w' x'
  have g : ∀ id, id ≠ n.p → (id < n.a ∨ n.a + 4 ≤ id) → (sdPut n.sdN w' x' h).get id = h.get id := fun id e1 e2 => get_sdPut (by dsimp only; omega) (by dsimp only; omega) (by dsimp only; omega) (by dsimp only; omega) (by dsimp only; omega)
  refine hw.re rfl rfl rfl (Nat.le_refl _) hp ⟨hp.pw, (g _ (by dsimp only; omega) (by dsimp only; omega)).trans hd.ob, (g _ (by dsimp only; omega) (by dsimp only; omega)).trans hd.wt, (g _ (by dsimp only; omega) (by dsimp only; omega)).trans hd.tr, hd.ne, hd.ll⟩ ((g _ (by omega) (by omega)).trans hw.ct) (hw.ks.same (g _ (by omega) (by omega)) (g _ (by omega) (by omega))) fun id hi => ?_
  have := hw.still hi
  exact g id this.1 (by omega)
/-- Power alone. -/
theorem WAt.putPw {md : Bool} {h : AHeap} {n : WN} {s : WS} (hw : WAt md h n s) (w' : PwS) : WAt md (h.set n.p (some (.mem 4 [w'.row]))) n { s with pw := w' } := by
  have h1 := hw.op
  have hd := hw.dk
  have hs := hw.sd
  have g : ∀ id, id ≠ n.p → (h.set n.p (some (.mem 4 [w'.row]))).get id = h.get id := fun id e1 => get_set_neE e1 rfl
  refine hw.re rfl rfl rfl (Nat.le_refl _) ⟨get_set_same, (g _ (by dsimp only; omega)).trans hs.ob, (g _ (by dsimp only; omega)).trans hs.bl, (g _ (by dsimp only; omega)).trans hs.wt, (g _ (by dsimp only; omega)).trans hs.tr, hs.ne⟩ ⟨get_set_same, (g _ (by dsimp only; omega)).trans hd.ob, (g _ (by dsimp only; omega)).trans hd.wt, (g _ (by dsimp only; omega)).trans hd.tr, hd.ne, hd.ll⟩ ((g _ (by omega)).trans hw.ct) (hw.ks.same (g _ (by omega)) (g _ (by omega))) fun id hi => ?_
  exact g id (hw.still hi).1
end Go.Proofs.Ytjehfcjfnmcjcaa


namespace Go.Proofs.Ytjehfcjfnmcjcaa
open Go Go.Abs

def crashF (K : Nat → Bool) : Nat → List Wr → List Bs → List Bs
  | _, [], b => b
  | i, o :: r, b => crashF K (i + 1) r (if K i then b.set o.1.toNat o.2 else b)
def DkS.crash (x : DkS) (K : Nat → Bool) : DkS := { x with lasts := crashF K 0 x.waits x.lasts, waits := [], gen := x.gen + 1 }
theorem crash_len (K : Nat → Bool) : ∀ (l : List Wr) (i : Nat) (b : List Bs), (crashF K i l b).length = b.length
  | [], _, _ => rfl
  | o :: r, i, b => by
    rw [crashF, crash_len K r]
    split <;> simp
set_option maxHeartbeats 1000000 in
theorem disk_Crash_ae {h : AHeap} {n : DkN} {w : PwS} {x : DkS} (hd : DkAt h n w x) (h1 : x.waits.length ≤ 1000000) (hw : ∀ o ∈ x.waits, 0 ≤ o.1 ∧ o.1 < 32) (keep : List Bool) (hkl : keep.length ≤ 9223372036854775807) :
    AE Try.prog 81 [.ptr n.d 0 0, .imm 1 (keep.map encBo)] h (.tup []) (dkPut n w (x.crash (keepF keep)) h) := by
  refine AE.wfU fun hwu => ?_
  have hns := hd.nes fun id y hy => (hwu id y hy).1
  obtain ⟨a1, a2, a4, a5, b1, b3, b4, b6, b7, bx⟩ := id hns
  have hd' := hd
  obtain ⟨q1, q2, q4, q5, q6, q7⟩ := hd
  have hm : (x.lasts.map encBl).length = 32 := by simpa using q7
  obtain ⟨r33, r34, r35⟩ := row_get hm (.ptr n.p 0 0) (.app n.w x.gen 2 (x.waits.map encO)) (.app n.t 0 2 (x.trace.map encO)) (.bool x.refuses)
  refine AE.effW is_disk_Disk_Crash (by simp) (ext_dk hd' _ _) ?_
  unfold c_disk_Disk_Crash
  (refine go ?_)
  refine WL.go (hs := Stp.load1 rfl q2 (getC_len r33) (by first | exact True.intro | exact rfl)) ?_
  (refine go ?_)
  refine WW.loopE (fun (s : Nat × List Bs) => [(0, some (.ptr n.d 0 0)), (1, some (.imm 1 (keep.map encBo))), (11, some (.app n.w x.gen 2 (x.waits.map encO))), (12, some (.int .i64 x.waits.length)), (13, some (.int .i64 s.1))])
    (fun s h' => h'.get n.d = some (.mem 36 [dkRow n.p n.w n.t { x with lasts := s.2 }]) ∧ KeepsB [n.d] h h' ∧ s.2.length = 32 ∧ s.1 ≤ x.waits.length ∧ crashF (keepF keep) s.1 (x.waits.drop s.1) s.2 = crashF (keepF keep) 0 x.waits x.lasts)
    (fun s => x.waits.length - s.1) (0, x.lasts) gSUB ⟨q2, KeepsB.refl, q7, Nat.zero_le _, rfl⟩ ?_
  rintro ⟨i, b⟩ h' ⟨g1, g2, g3, g4, g5⟩
  dsimp only at g1 g2 g3 g4 g5 ⊢
  have gn := g2.1
  obtain ⟨nx, hnx⟩ : ∃ nx, h'.next = nx := ⟨_, rfl⟩
  (refine go ?_)
  (refine WW.ifB rfl (fun hz1 => ?_) (fun hz1 => ?_))
  · have hi : i < x.waits.length := by omega
    have hwi := hw x.waits[i] (List.getElem_mem hi)
    (repeat first | refine WW.seq ?_ | refine WW.reg ?_ | refine WL.nil ?_ | refine WW.skip ?_ | refine WW.block ?_ | refine thenN ?_ | refine blkN ?_); iterate 6 (refine WL.go ?_)
    (repeat first | refine WW.seq ?_ | refine WW.reg ?_ | refine WL.nil ?_ | refine WW.skip ?_ | refine WW.block ?_ | refine thenN ?_ | refine blkN ?_); iterate 5 (refine WL.go ?_)
    have hstep : ∀ b2, b2 = (if keepF keep i then b.set x.waits[i].1.toNat x.waits[i].2 else b) → crashF (keepF keep) (i + 1) (x.waits.drop (i + 1)) b2 = crashF (keepF keep) 0 x.waits x.lasts := fun b2 h2 => by
      rw [← g5, List.drop_eq_getElem_cons hi, crashF, h2]
    (refine WL.spB rfl (fun hz2 => ?_) (fun hz2 => ?_))
    · have hik : i < keep.length := by omega
      have hKi : keepF keep i = keep[i] := by simp [keepF, List.getD_eq_getElem?_getD, List.getElem?_eq_getElem hik]
      (repeat first | refine WW.seq ?_ | refine WW.reg ?_ | refine WL.nil ?_ | refine WW.skip ?_ | refine WW.block ?_ | refine thenN ?_ | refine blkN ?_); iterate 5 (refine WL.go ?_)
      cases hk : keep[i] with
      | true =>
        rw [hk] at hKi
        (repeat first | refine WW.seq ?_ | refine WW.reg ?_ | refine WL.nil ?_ | refine WW.skip ?_ | refine WW.block ?_ | refine thenN ?_ | refine blkN ?_)
        refine WW.condT rfl ?_
        (repeat first | refine WW.seq ?_ | refine WW.reg ?_ | refine WL.nil ?_ | refine WW.skip ?_ | refine WW.block ?_ | refine thenN ?_ | refine blkN ?_)
        refine WW.dregX [8] [] [n.d] gN (by decide +kernel) ?_
        iterate 8 (refine DW.go ?_)
        have hmb : (b.map encBl).length = 32 := by simpa using g3
        refine DW.goW (hs := Stp.store1N (cs := .ptr n.p 0 0 :: ((b.map encBl).set x.waits[i].1.toNat (.imm 1 (x.waits[i].2.map encB)) ++ [.app n.w x.gen 2 (x.waits.map encO), .app n.t 0 2 (x.trace.map encO), .bool x.refuses])) rfl rfl gH rfl (by simp [dkRow, g3]; omega) rfl (by rw [show 0 + 1 + x.waits[i].1.toNat * 1 = 1 + x.waits[i].1.toNat by omega]; exact row_setB hmb _ _ _ (by omega)) (by first | exact True.intro | exact rfl)) ?_ (fun hp => PhiW.setW (by simp) hp)
        refine DW.endL ?_
        (refine go ?_)
        refine ⟨(i + 1, b.set x.waits[i].1.toNat x.waits[i].2), gSUB, ⟨?_, gKB, by dsimp only; rw [List.length_set, g3], by dsimp only; omega, hstep _ (by rw [hKi]; rfl)⟩, by dsimp only; omega⟩
        have ho : dkRow n.p n.w n.t { x with lasts := b.set x.waits[i].1.toNat x.waits[i].2 } = .ptr n.p 0 0 :: ((b.map encBl).set x.waits[i].1.toNat (.imm 1 (x.waits[i].2.map encB)) ++ [.app n.w x.gen 2 (x.waits.map encO), .app n.t 0 2 (x.trace.map encO), .bool x.refuses]) := by
          simp only [dkRow, List.map_set]; rfl
        dsimp only
        rw [ho]; exact gH
      | false =>
        rw [hk] at hKi
        (repeat first | refine WW.seq ?_ | refine WW.reg ?_ | refine WL.nil ?_ | refine WW.skip ?_ | refine WW.block ?_ | refine thenN ?_ | refine blkN ?_)
        refine WW.condF rfl ?_
        (refine go ?_)
        refine ⟨(i + 1, b), gSUB, ⟨gH, gKB, g3, by dsimp only; omega, hstep _ (by rw [hKi]; rfl)⟩, by dsimp only; omega⟩
    · have hKi : keepF keep i = false := by simp [keepF, List.getD_eq_getElem?_getD, List.getElem?_eq_none (show keep.length ≤ i by omega)]
      (refine go ?_)
      refine ⟨(i + 1, b), gSUB, ⟨gH, gKB, g3, by dsimp only; omega, hstep _ (by rw [hKi]; rfl)⟩, by dsimp only; omega⟩
  · have hi : i = x.waits.length := by omega
    subst hi
    simp only [List.drop_length, crashF] at g5
    refine WW.exit ?_
    (repeat first | refine WW.seq ?_ | refine WW.reg ?_ | refine WL.nil ?_ | refine WW.skip ?_ | refine WW.block ?_ | refine thenN ?_ | refine blkN ?_); iterate 3 (refine WL.go ?_)
    have hmb : (b.map encBl).length = 32 := by simpa using g3
    refine WL.go (hs := Stp.store1N (cs := .ptr n.p 0 0 :: (b.map encBl ++ [.nils, .app n.t 0 2 (x.trace.map encO), .bool x.refuses])) rfl rfl gH rfl (by simp [dkRow, g3]) rfl (row_set hmb _ _ _ _ _).1 (by first | exact True.intro | exact rfl)) ?_
    have p1 := (g2.2 n.p (hwu _ _ q1) (by simpa using b1)).trans q1
    have p4 := (g2.2 n.w (hwu _ _ q4) (by simpa using Ne.symm b6)).trans q4
    have p5 := (g2.2 n.t (hwu _ _ q5) (by simpa using Ne.symm b7)).trans q5
    have gk : KeepsB [n.p, n.d, n.w, n.t] h h' := ⟨g2.1, fun id hu hn => g2.2 id hu (by simp at hn ⊢; exact hn.2.1)⟩
    refine WL.cvt (Cvt.anewM 2 (id := n.d) (i := 0) (j := 33) (t := n.w) (g := x.gen) (n := x.waits.length) gH gH rfl (row_get hmb _ _ _ _).1) ?_
    have hset : (AV.ptr n.p 0 0 :: (b.map encBl ++ [.nils, .app n.t 0 2 (x.trace.map encO), .bool x.refuses])).set 33 (.app n.w (x.gen + 1) 2 []) = .ptr n.p 0 0 :: (b.map encBl ++ [.app n.w (x.gen + 1) 2 [], .app n.t 0 2 (x.trace.map encO), .bool x.refuses]) := by
      rw [← putC_eq (by simp [g3]), (row_set hmb _ _ _ _ _).1]
    simp only [hset]
    (refine go ?_)
    subst g5
    refine EffQ.fin (.inr rfl) ?_ gRES ?_
    · refine keeps_dk gKB ⟨gH, ?_, gH, gH, bx, g3⟩
      have ho : dkRow n.p n.w n.t (x.crash (keepF keep)) = .ptr n.p 0 0 :: ((crashF (keepF keep) 0 x.waits x.lasts).map encBl ++ [.app n.w (x.gen + 1) 2 [], .app n.t 0 2 (x.trace.map encO), .bool x.refuses]) := rfl
      rw [ho]; exact gH
    · exact fz_unit
theorem WAt.dkNe {md : Bool} {h : AHeap} {n : WN} {s : WS} (hw : WAt md h n s) : DkNe h n.dkN := by
  have h1 := hw.op
  have h2 := hw.nx
  constructor <;> dsimp only <;> omega
theorem WAt.putDk {md : Bool} {h : AHeap} {n : WN} {s : WS} (hw : WAt md h n s) (w' : PwS) (x' : DkS) (hl : x'.lasts.length = 32) : WAt md (dkPut n.dkN w' x' h) n { s with pw := w', dk := x' } := by
  have h1 := hw.op
  have hs := hw.sd
  have hp := DkAt.put hw.dkNe w' hl
  have g : ∀ id, id ≠ n.p → (id < n.a + 4 ∨ n.a + 7 ≤ id) → (dkPut n.dkN w' x' h).get id = h.get id := fun id e1 e2 => get_dkPut (by dsimp only; omega) (by dsimp only; omega) (by dsimp only; omega) (by dsimp only; omega)
  refine hw.re rfl rfl rfl (Nat.le_refl _) ⟨hp.pw, (g _ (by dsimp only; omega) (by dsimp only; omega)).trans hs.ob, (g _ (by dsimp only; omega) (by dsimp only; omega)).trans hs.bl, (g _ (by dsimp only; omega) (by dsimp only; omega)).trans hs.wt, (g _ (by dsimp only; omega) (by dsimp only; omega)).trans hs.tr, hs.ne⟩ hp ((g _ (by omega) (by omega)).trans hw.ct) (hw.ks.same (g _ (by omega) (by omega)) (g _ (by omega) (by omega))) fun id hi => ?_
  have := hw.still hi
  exact g id this.1 (by omega)
end Go.Proofs.Ytjehfcjfnmcjcaa


namespace Go.Proofs.Ytjehfcjfnmcjcaa
open Go Go.Abs

/-- All that was used is used and stands as it stood, but for W. -/
structure Kp (W : Nat → Prop) (h h1 : AHeap) : Prop where
  next : h.next ≤ h1.next
  us : ∀ id, h.used id → h1.used id
  get : ∀ id, h.used id → ¬ W id → h1.get id = h.get id
section
variable {W : Nat → Prop} {h h1 h2 : AHeap}
theorem Kp.refl : Kp W h h := ⟨Nat.le_refl _, fun _ h => h, fun _ _ _ => rfl⟩
theorem Kp.put (hk : Kp W h h1) {nm : Nat} (hn : h.next ≤ nm) (x : AObj) : Kp W h (h1.put nm x) :=
  ⟨next_le_put hk.next, fun id hu => put_used (hk.us id hu), fun id hu hw => by
    rw [get_put, if_neg (by have := hu.1; omega)]
    exact hk.get id hu hw⟩
theorem Kp.setN (hk : Kp W h h1) {nm : Nat} (hn : h.next ≤ nm) (x : Option AObj) : Kp W h (h1.set nm x) :=
  ⟨hk.next, hk.us, fun id hu hw => by
    rw [get_set, if_neg (by have := hu.1; omega)]
    exact hk.get id hu hw⟩
theorem Kp.setW (hk : Kp W h h1) {nm : Nat} (hn : W nm) (x : Option AObj) : Kp W h (h1.set nm x) :=
  ⟨hk.next, hk.us, fun id hu hw => by
    rw [get_set, if_neg (fun e => hw (by rw [e]; exact hn))]
    exact hk.get id hu hw⟩
theorem Kp.keep (hk : Kp W h h1) (k : Nat) : Kp W h (h1.keep k) := ⟨Nat.le_trans hk.next (Nat.le_add_right _ _), fun id hu => used_keep (hk.us id hu), hk.get⟩
theorem Kp.trans (hk : Kp W h h1) (hk2 : Kp W h1 h2) : Kp W h h2 := ⟨Nat.le_trans hk.next hk2.next, fun id hu => hk2.us id (hk.us id hu), fun id hu hw => (hk2.get id (hk.us id hu) hw).trans (hk.get id hu hw)⟩
theorem Kp.mono {V : Nat → Prop} (hk : Kp W h h1) (hv : ∀ id, h.used id → W id → V id) : Kp V h h1 := ⟨hk.next, hk.us, fun id hu hw => hk.get id hu fun e => hw (hv id hu e)⟩
theorem Kp.keeps (hk : Kp W h h1) (hv : ∀ id, W id → h.next ≤ id) : Keeps h h1 := ⟨hk.next, fun id hu => hk.get id hu fun e => by have := hv id e; have := hu.1; omega⟩
end
/-- The names that a world's calls write. -/
def WN.own (md : Bool) (n : WN) (id : Nat) : Prop := id = n.p ∨ (n.a ≤ id ∧ id < n.a + 10) ∨ (md = true ∧ (id = n.o ∨ id = n.t ∨ id = n.q))
/-- All names of a world. -/
def WN.all (md : Bool) (n : WN) (id : Nat) : Prop := id = n.p ∨ id = n.l ∨ (n.a ≤ id ∧ id < n.a + 11) ∨ (md = true ∧ (id = n.o ∨ id = n.t ∨ id = n.q))
theorem WN.own_all {md : Bool} {n : WN} {id : Nat} (h : n.own md id) : n.all md id := by
  rcases h with h | h | h
  · exact .inl h
  · exact .inr (.inr (.inl (by omega)))
  · exact .inr (.inr (.inr h))
theorem WAt.used {md : Bool} {h : AHeap} {n : WN} {s : WS} (hw : WAt md h n s) (hu : ∀ id x, h.get id = some x → h.used id) : ∀ id, n.all md id → h.used id := fun id hi => by
  have hs := hw.sd
  have hd := hw.dk
  have hk := hw.ks
  rcases hi with rfl | rfl | hi | ⟨hm, rfl | rfl | rfl⟩
  · exact hu _ _ hs.pw
  · cases md with
    | true => exact hu _ _ (hw.lk.id rfl).cells
    | false => exact hu _ _ (hw.lk.re rfl)
  · have : id = n.a ∨ id = n.a + 1 ∨ id = n.a + 2 ∨ id = n.a + 3 ∨ id = n.a + 4 ∨ id = n.a + 5 ∨ id = n.a + 6 ∨ id = n.a + 7 ∨ id = n.a + 8 ∨ id = n.a + 9 ∨ id = n.a + 10 := by omega
    rcases this with rfl | rfl | rfl | rfl | rfl | rfl | rfl | rfl | rfl | rfl | rfl
    · exact hu _ _ hs.bl
    · exact hu _ _ hs.ob
    · exact hu _ _ hs.wt
    · exact hu _ _ hs.tr
    · exact hu _ _ hd.ob
    · exact hu _ _ hd.wt
    · exact hu _ _ hd.tr
    · exact hu _ _ hw.ct
    · exact hu _ _ hk.tl
    · exact hu _ _ hk.ob
    · exact hu _ _ hw.w
  all_goals
    obtain ⟨q0, q1, q2, q3⟩ := hw.lk.id hm
    first | exact hu _ _ q1 | exact hu _ _ q2 | exact hu _ _ q3
theorem WAt.kp {W : Nat → Prop} {md : Bool} {h h' : AHeap} {n : WN} {s : WS} (hw : WAt md h n s) (hu : ∀ id, n.all md id → h.used id) (hk : Kp W h h') (hd : ∀ id, n.all md id → ¬ W id) : WAt md h' n s := by
  have g : ∀ id, n.all md id → h'.get id = h.get id := fun id hi => hk.get id (hu id hi) (hd id hi)
  have ga : ∀ i, i < 11 → h'.get (n.a + i) = h.get (n.a + i) := fun i hi => g _ (.inr (.inr (.inl (by omega))))
  have g0 := g n.p (.inl rfl)
  refine ⟨hw.sd.same g0 (ga 1 (by omega)) (ga 0 (by omega)) (ga 2 (by omega)) (ga 3 (by omega)), hw.dk.same g0 (ga 4 (by omega)) (ga 5 (by omega)) (ga 6 (by omega)), (ga 7 (by omega)).trans hw.ct, hw.ks.same (ga 9 (by omega)) (ga 8 (by omega)), (ga 10 (by omega)).trans hw.w, hw.lk.same (g _ (.inr (.inl rfl))) fun e => ⟨g _ (.inr (.inr (.inr ⟨e, .inl rfl⟩))), g _ (.inr (.inr (.inr ⟨e, .inr (.inl rfl)⟩))), g _ (.inr (.inr (.inr ⟨e, .inr (.inr rfl)⟩)))⟩, hw.op, hw.ol, hw.oo, Nat.le_trans hw.nx hk.next⟩
/-- New objects alone. -/
theorem WAt.new {md : Bool} {h h' : AHeap} {n : WN} {s : WS} (hw : WAt md h n s) (hu : ∀ id, n.all md id → h.used id) (hk : Kp (fun _ => False) h h') : WAt md h' n s := hw.kp hu hk fun _ _ h => h
theorem kp_sd {md : Bool} {h : AHeap} (n : WN) (w : PwS) (x : SdS) : Kp (n.own md) h (sdPut n.sdN w x h) := by
  unfold sdPut
  refine Kp.setW (Kp.setW (Kp.setW (Kp.setW (Kp.setW Kp.refl (.inl rfl) _) (.inr (.inl ?_)) _) (.inr (.inl ?_)) _) (.inr (.inl ?_)) _) (.inr (.inl ?_)) _ <;> dsimp only <;> omega
theorem kp_dk {md : Bool} {h : AHeap} (n : WN) (w : PwS) (x : DkS) : Kp (n.own md) h (dkPut n.dkN w x h) := by
  unfold dkPut
  refine Kp.setW (Kp.setW (Kp.setW (Kp.setW Kp.refl (.inl rfl) _) (.inr (.inl ?_)) _) (.inr (.inl ?_)) _) (.inr (.inl ?_)) _ <;> dsimp only <;> omega
theorem kp_pw {md : Bool} {h : AHeap} (n : WN) (w : PwS) : Kp (n.own md) h (h.set n.p (some (.mem 4 [w.row]))) := Kp.setW Kp.refl (.inl rfl) _
/-- A crash: what waits is kept by a list; the power is back. -/
def WS.crash (s : WS) (K : Nat → Bool) : WS := { s with pw := { s.pw with gone := false, fuse := false }, sd := s.sd.settle K, dk := s.dk.crash K }
theorem world_Crash_ac {md : Bool} {h : AHeap} {n : WN} {s : WS} (hw : WAt md h n s) (hl : s.sd.lasts.length ≤ 1000000) (h1 : s.sd.waits.length ≤ 1000000) (h2 : ∀ o ∈ s.sd.waits, 0 ≤ o.1 ∧ o.1 + o.2.length ≤ s.sd.lasts.length) (h3 : s.dk.waits.length ≤ 1000000) (h4 : ∀ o ∈ s.dk.waits, 0 ≤ o.1 ∧ o.1 < 32) (keep : List Bool) (hkl : keep.length ≤ 9223372036854775807) :
    AC Try.prog 38 [.ptr (n.a + 10) 0 0, .imm 1 (keep.map encBo)] h (fun r h' => r = .tup [] ∧ WAt md h' n (s.crash (keepF keep)) ∧ Kp (n.own md) h h') := by
  refine AC.introW is_world_World_Crash (by simp) ?_
  unfold c_world_World_Crash
  have hob := hw.w
  simp only [wRow] at hob
  (refine go ?_)
  refine WL.call rfl (by first | exact True.intro | exact rfl) gSL (ssd_Crash_ae hw.sd hl h1 h2 keep hkl) ?_
  have w1 := hw.putSd s.pw (s.sd.settle (keepF keep))
  have k1 := kp_sd (md := md) (h := h) n s.pw (s.sd.settle (keepF keep))
  refine WL.named (fun h5 => WAt md h5 n _ ∧ Kp (n.own md) h h5) ⟨w1, k1⟩ ?_
  clear w1 k1
  rintro h5 ⟨w1, k1⟩
  have hob1 := w1.w
  simp only [wRow] at hob1
  (refine go ?_)
  refine WL.call rfl (by first | exact True.intro | exact rfl) gSL (disk_Crash_ae w1.dk h3 h4 keep hkl) ?_
  have w2 := w1.putDk s.pw (s.dk.crash (keepF keep)) ((crash_len _ _ _ _).trans w1.dk.ll)
  have k2 := k1.trans (kp_dk (md := md) (h := h5) n s.pw (s.dk.crash (keepF keep)))
  refine WL.named (fun h6 => WAt md h6 n _ ∧ Kp (n.own md) h h6) ⟨w2, k2⟩ ?_
  clear w2 k2
  rintro h6 ⟨w2, k2⟩
  have hob2 := w2.w
  simp only [wRow] at hob2
  (refine go ?_)
  refine WL.call rfl (by first | exact True.intro | exact rfl) gSL (power_Back_ae w2.sd.pw) ?_
  (refine go ?_)
  exact ⟨.inr rfl, _, gRES, rfl, w2.putPw _, k2.trans (kp_pw n _)⟩
end Go.Proofs.Ytjehfcjfnmcjcaa


namespace Go.Proofs.Ytjehfcjfnmcjcaa
open Go Go.Abs

def blk3 (b : UInt8) : Bs := (List.replicate 32 0).set 3 b
theorem blk3_enc (b : UInt8) : List.take 32 (List.drop 0 ((List.replicate 32 [AV.int .u8 0]).set (0 + 3) [.int .u8 b.toNat])) = (blk3 b).map encB := by
  rw [List.drop_zero, List.take_of_length_le (by simp), blk3, List.map_set, List.map_replicate]; rfl
def zeros (n : Nat) : Bs := List.replicate n 0
/-- What is read behind the crash. -/
theorem wc_sd (a : Bs) (h1 : 1 ≤ a.length ∧ a.length ≤ 50) (K : Nat → Bool) : (settleF K 0 [(5, a)] (sd0 760).lasts).length = 760 ∧ ((settleF K 0 [(5, a)] (sd0 760).lasts).drop 5).take a.length = if K 0 then a else zeros a.length := by
  have hl : ((sd0 760).lasts).length = 760 := List.length_replicate
  refine ⟨settle_len K 760 _ 0 _ (fun o ho => ?_) hl, ?_⟩
  · have ho : o = (5, a) := by simpa using ho
    subst ho
    show (0 : Int) ≤ 5 ∧ (5 : Int) + a.length ≤ _
    omega
  · simp only [settleF]
    split
    · have e5 : ((5 : Int).toNat) = 5 := rfl
      simp only [layO, hl, e5]
      rw [Nat.min_eq_left (by omega), List.take_of_length_le (Nat.le_refl _), List.append_assoc, List.drop_append, List.length_take, hl, List.drop_of_length_le (by rw [List.length_take, hl]; decide), List.nil_append, show 5 - min 5 760 = 0 from rfl, List.drop_zero, List.take_left' rfl]
    · show List.take a.length (List.drop 5 (List.replicate 760 0)) = _
      rw [List.drop_replicate, List.take_replicate, zeros, Nat.min_eq_left (by omega)]
theorem wc_dk (b : Bs) (K : Nat → Bool) : (crashF K 0 [(7, b)] dk0.lasts).getD 7 [] = if K 0 then b else zeros 32 := by
  simp only [crashF]
  split
  · rfl
  · rfl
set_option maxHeartbeats 4000000 in
theorem law20_WorldCrash_ae (a : Bs) (b : UInt8) (keep : List Bool) (fuse : Int) (h : AHeap) : AE Try.prog 5 [.imm 1 (a.map encB), .int .u8 b.toNat, .imm 1 (keep.map encBo), .int .i64 fuse] h (.bool true) h := by
  refine AE.pureW is_law20_WorldCrash (by simp) ?_
  unfold c_law20_WorldCrash
  (refine go ?_)
  (apply WL.orB; exact rfl; exact rfl; exact rfl; exact BP.of; intro hz1)
  · (repeat first | (apply GW.goS; exact Stp.auto) | apply GW.nil | exact rfl)
  (refine go ?_)
  (apply WL.orB; exact rfl; exact rfl; exact rfl; exact BP.of; intro hz2)
  · (repeat first | (apply GW.goS; exact Stp.auto) | apply GW.nil | exact rfl)
  (refine go ?_)
  (apply WL.orB; exact rfl; exact rfl; exact rfl; exact BP.of; intro hz3)
  · (repeat first | (apply GW.goS; exact Stp.auto) | apply GW.nil | exact rfl)
  (refine go ?_)
  (apply WL.orB; exact rfl; exact rfl; exact rfl; exact BP.of; intro hz4)
  · (repeat first | (apply GW.goS; exact Stp.auto) | apply GW.nil | exact rfl)
  (refine go ?_)
  (refine WW.ifB rfl (fun hz5 => ?_) (fun hz5 => ?_))
  · (refine go ?_)
    refine WW.ret (PureQ.finD ?_)
    exact fz_b rfl
  have hc : 1 ≤ a.length ∧ a.length ≤ 50 ∧ keep.length ≤ 20 ∧ 2 ≤ fuse ∧ fuse ≤ 9 := by simp at hz5; omega
  (refine go ?_)
  refine WL.callA rfl (by first | exact True.intro | exact rfl) gSL (AC.used (world_New_ac true 4 rfl 1 h)) ?_
  rintro _ h1 ⟨⟨n, rfl, hw, np, nl, no, nn, kk⟩, hus, hlv⟩
  replace kk := kk h (Keeps.refl _)
  have hall : ∀ id, n.all true id → h.next ≤ id := fun id hi => by
    have h1 := hw.op
    rcases hi with rfl | rfl | hi | ⟨e, rfl | rfl | rfl⟩
    · exact np
    · exact nl
    · omega
    · exact (no rfl).1
    · exact (no rfl).2.1
    · exact (no rfl).2.2
  have k1 : Kp (fun id => h.next ≤ id) h h1 := ⟨nn, hus, fun id hu _ => kk.2 id hu⟩
  have u1 := hw.used hlv
  clear kk no
  obtain ⟨nx1, hx1⟩ : ∃ nx, h1.next = nx := ⟨_, rfl⟩
  have hnx := hw.nx
  have hop := hw.op
  have hol := hw.ol
  (refine go ?_)
  refine WL.cvt (Cvt.frz (s := 11) rfl gH) ?_
  rw [blk3_enc]
  have k2 : Kp (fun _ => False) h1 (((h1.put nx1 (AObj.mem 1 (List.replicate 32 [AV.int IntKind.u8 0]))).set nx1 (some (AObj.mem 1 ((List.replicate 32 [AV.int IntKind.u8 0]).set (0 + 3) [AV.int IntKind.u8 b.toNat])))).set nx1 none) := ((Kp.refl.put (by omega) _).setN (by omega) _).setN (by omega) _
  have hl760 : (ws0 4 1).sd.lasts.length = 760 := (List.length_replicate : (List.replicate (4 * 160 + 120) (0 : UInt8)).length = 4 * 160 + 120)
  have hin5 : inB 760 5 a.length = true := by simp [inB]; omega
  refine WL.named (fun h2 => WAt true h2 n (ws0 4 1) ∧ Kp (fun id => h.next ≤ id) h h2 ∧ Kp (fun _ => False) h1 h2) ⟨hw.new u1 k2, k1.trans (k2.mono fun _ _ h => h.elim), k2⟩ ?_
  clear k2
  rintro h2 ⟨hw2, k2, k12⟩
  have hob := hw2.w
  simp only [wRow] at hob
  (repeat first | refine WW.seq ?_ | refine WW.reg ?_ | refine WL.nil ?_ | refine WW.skip ?_ | refine WW.block ?_ | refine thenN ?_ | refine blkN ?_); iterate 1 (refine WL.go ?_)
  (repeat first | refine WW.seq ?_ | refine WW.reg ?_ | refine WL.nil ?_ | refine WW.skip ?_ | refine WW.block ?_ | refine thenN ?_ | refine blkN ?_); iterate 1 (refine WL.go ?_)
  refine WL.call rfl (by first | exact True.intro | exact rfl) gSL (ssd_Write_ae hw2.sd (k := 0) ⟨nofun, by simp [ws0], by simp [ws0], by simp [ws0]⟩ (by omega) (by rw [hl760]; omega) (Nat.zero_le _) (Nat.zero_le _) 5 a (by omega)) ?_
  rw [hl760, hin5]
  refine WL.named (fun h3 => WAt true h3 n { ws0 4 1 with pw := ⟨false, false, 0, 1⟩, sd := ⟨(sd0 760).lasts, [(5, a)], [(5, a)], 0⟩ } ∧ Kp (fun id => h.next ≤ id) h h3) ⟨hw2.putSd _ _, k2.trans ((kp_sd n _ _).mono fun id _ hi => hall id (WN.own_all hi))⟩ ?_
  clear hob
  rintro h3 ⟨hw3, k3⟩
  have hob := hw3.w
  simp only [wRow] at hob
  (refine go ?_)
  refine WL.call rfl (by first | exact True.intro | exact rfl) gSL (disk_Write_ae hw3.dk (k := 1) ⟨nofun, by simp, by simp, by simp⟩ (by omega) (Nat.zero_le _) (Nat.zero_le _) 7 (blk3 b) (by simp [blk3])) ?_
  have hmay : dk0.may 7 (blk3 b) = true := by simp [DkS.may, blk3, dk0]
  simp only [ws0, hmay]
  refine WL.named (fun h4 => WAt true h4 n { ws0 4 1 with pw := ⟨false, false, 0, 2⟩, sd := ⟨(sd0 760).lasts, [(5, a)], [(5, a)], 0⟩, dk := ⟨dk0.lasts, [(7, blk3 b)], [(7, blk3 b)], false, 0⟩ } ∧ Kp (fun id => h.next ≤ id) h h4) ⟨hw3.putDk _ _ hw3.dk.ll, k3.trans ((kp_dk n _ _).mono fun id _ hi => hall id (WN.own_all hi))⟩ ?_
  clear hob
  rintro h4 ⟨hw4, k4⟩
  have hob := hw4.w
  simp only [wRow] at hob
  (refine go ?_)
  refine WL.call rfl (by first | exact True.intro | exact rfl) gSL (power_Fuse_ae hw4.sd.pw fuse) ?_
  refine WL.named (fun h5 => WAt true h5 n { ws0 4 1 with pw := ⟨false, true, fuse, 2⟩, sd := ⟨(sd0 760).lasts, [(5, a)], [(5, a)], 0⟩, dk := ⟨dk0.lasts, [(7, blk3 b)], [(7, blk3 b)], false, 0⟩ } ∧ Kp (fun id => h.next ≤ id) h h5) ⟨?_, k4.trans ((kp_pw (md := true) n _).mono fun id _ hi => hall id (WN.own_all hi))⟩ ?_
  · have := hw4.putPw ⟨false, decide (0 ≤ fuse), fuse, 2⟩
    rw [decide_eq_true (by omega)] at this ⊢
    exact this
  clear hob
  rintro h5 ⟨hw5, k5⟩
  clear hw hw2 hw3 hw4 k1 k2 k12 k3 k4
  refine WL.nil ?_
  refine thenN ?_
  refine WW.seqM (fun e' h' => ∃ p : PwS, subE [(0, some (.imm 1 (a.map encB))), (2, some (.imm 1 (keep.map encBo))), (9, some (.ptr (n.a + 10) 0 0)), (11, some (.imm 1 ((blk3 b).map encB)))] e' ∧ WAt true h' n { ws0 4 1 with pw := p, sd := ⟨(sd0 760).lasts, [(5, a)], [(5, a)], 0⟩, dk := ⟨dk0.lasts, [(7, blk3 b)], [(7, blk3 b)], false, 0⟩ } ∧ Kp (fun id => h.next ≤ id) h h') ?_ ?_
  · (repeat first | refine WW.seq ?_ | refine WW.reg ?_ | refine WL.nil ?_ | refine WW.skip ?_ | refine WW.block ?_ | refine thenN ?_ | refine blkN ?_)
    refine WW.loopE (fun (_ : PwS) => [(0, some (.imm 1 (a.map encB))), (2, some (.imm 1 (keep.map encBo))), (9, some (.ptr (n.a + 10) 0 0)), (11, some (.imm 1 ((blk3 b).map encB)))])
      (fun p h' => WAt true h' n { ws0 4 1 with pw := p, sd := ⟨(sd0 760).lasts, [(5, a)], [(5, a)], 0⟩, dk := ⟨dk0.lasts, [(7, blk3 b)], [(7, blk3 b)], false, 0⟩ } ∧ Kp (fun id => h.next ≤ id) h h' ∧ p.Ok 20)
      (fun p => if p.gone then 0 else 21 - p.steps.toNat) ⟨false, true, fuse, 2⟩ gSUB ⟨hw5, k5, fun _ => by show 0 ≤ fuse; omega, ⟨by show _ ≤ fuse; omega, by show fuse ≤ _; omega⟩, by show (0 : Int) ≤ 2; omega, by show (2 : Int) ≤ _; omega⟩ ?_
    clear hw5 k5
    rintro p h6 ⟨hw6, k6, pok⟩
    have hob := hw6.w
    simp only [wRow] at hob
    (refine go ?_)
    refine WL.call rfl (by first | exact True.intro | exact rfl) gSL (power_On_ae hw6.sd.pw) ?_
    cases hg : p.gone with
    | true =>
      (refine go ?_)
      refine And.intro (a := _ = Exit.normal) rfl ⟨p, gSUB, hw6, k6⟩
    | false =>
      (refine go ?_)
      refine WL.call rfl (by first | exact True.intro | exact rfl) gSL (power_Steps_ae hw6.sd.pw) ?_
      (refine go ?_)
      (refine WW.ifB rfl (fun hz6 => ?_) (fun hz6 => ?_))
      · replace hz6 : p.steps < 20 := hz6
        (refine go ?_)
        refine WL.call rfl (by first | exact True.intro | exact rfl) gSL (power_Spend_ae (k := 19) hw6.sd.pw ⟨pok.l0, pok.l1, pok.s0, by show p.steps ≤ _; omega⟩ (by omega)) ?_
        (refine go ?_)
        refine ⟨p.spend, gSUB, ⟨hw6.putPw _, k6.trans ((kp_pw (md := true) n _).mono fun id _ hi => hall id (WN.own_all hi)), PwS.Ok.spend (k := 19) ⟨pok.l0, pok.l1, pok.s0, by show p.steps ≤ _; omega⟩⟩, ?_⟩
        have h0 := pok.s0
        unfold PwS.spend
        simp only [hg, Bool.false_eq_true, if_false]
        split
        · simp only [if_true]; omega
        · simp only [hg, Bool.false_eq_true, if_false]; omega
      · (refine go ?_)
        refine And.intro (a := _ = Exit.normal) rfl ⟨p, gSUB, hw6, k6⟩
  · rintro e7 h7 ⟨p, hs7, hw7, k7⟩
    refine WW.cvt (Cvt.sub hs7) ?_
    (refine go ?_)
    refine WL.callA rfl (by first | exact True.intro | exact rfl) gSL (world_Crash_ac hw7 (by show (List.replicate 760 _).length ≤ _; rw [List.length_replicate]; omega) (by show 1 ≤ _; omega) (fun o ho => ?_) (by show 1 ≤ _; omega) (fun o ho => ?_) keep (by omega)) ?_
    · have ho : o = (5, a) := by simpa using ho
      subst ho
      show (0 : Int) ≤ 5 ∧ (5 : Int) + a.length ≤ ((List.replicate 760 (0 : UInt8)).length : Nat)
      rw [List.length_replicate]; omega
    · have ho : o = (7, blk3 b) := by simpa using ho
      subst ho
      show (0 : Int) ≤ 7 ∧ (7 : Int) < 32
      omega
    rintro _ h8 ⟨rfl, hw8, k8⟩
    have kk8 : Keeps h h8 := (k7.trans (k8.mono fun id _ hi => hall id (WN.own_all hi))).keeps fun _ h => h
    have hob := hw8.w
    simp only [wRow] at hob
    (refine go ?_)
    obtain ⟨f1, f2⟩ := wc_sd a ⟨hc.1, hc.2.1⟩ (keepF keep)
    have f3 := wc_dk (blk3 b) (keepF keep)
    have hcr : (WS.crash { ws0 4 1 with pw := p, sd := ⟨(sd0 760).lasts, [(5, a)], [(5, a)], 0⟩, dk := ⟨dk0.lasts, [(7, blk3 b)], [(7, blk3 b)], false, 0⟩ } (keepF keep)) = { ws0 4 1 with pw := { p with gone := false, fuse := false }, sd := ⟨settleF (keepF keep) 0 [(5, a)] (sd0 760).lasts, [], [(5, a)], 1⟩, dk := ⟨crashF (keepF keep) 0 [(7, blk3 b)] dk0.lasts, [], [(7, blk3 b)], false, 1⟩ } := rfl
    rw [hcr] at hw8
    generalize settleF (keepF keep) 0 [(5, a)] (sd0 760).lasts = X at *
    have hdl : ∀ y ∈ crashF (keepF keep) 0 [(7, blk3 b)] dk0.lasts, y.length ≤ 1000000 := by
      intro y hy
      simp only [crashF] at hy
      split at hy
      · have := List.mem_or_eq_of_mem_set hy
        rcases this with h5 | rfl
        · have : y = zeros 32 := List.eq_of_mem_replicate (n := 32) h5
          subst this; simp [zeros]
        · simp [blk3]
      · have : y = zeros 32 := List.eq_of_mem_replicate (n := 32) hy
        subst this; simp [zeros]
    generalize crashF (keepF keep) 0 [(7, blk3 b)] dk0.lasts = Y at *
    clear hcr
    refine WL.call rfl (by first | exact True.intro | exact rfl) gSL (ssd_Read_ae hw8.sd (by show X.length ≤ _; omega) (fun e => by have e : X = [] := e; rw [e] at f1; exact absurd f1 (by decide)) (by show 0 ≤ _; omega) (fun o ho => absurd ho (by show ¬ o ∈ ([] : List Wr); simp)) 5 a.length (by omega)) ?_
    simp only [f1, hin5, Bool.not_false, Bool.and_self, if_true]
    rw [show (SdS.snap ⟨X, [], [(5, a)], 1⟩) = X from rfl, show (5 : Int).toNat = 5 from rfl, show ((a.length : Int)).toNat = a.length from rfl, f2]
    (refine go ?_)
    refine WL.call rfl (by first | exact True.intro | exact rfl) gSL (disk_Read_ae hw8.dk (by show 0 ≤ _; omega) hdl (fun o ho => absurd ho (by show ¬ o ∈ ([] : List Wr); simp)) 7) ?_
    rw [show (decide ((0 : Int) ≤ 7) && decide ((7 : Int) < 32)) = true from rfl]
    simp only [Bool.not_false, Bool.and_self, if_true]
    rw [show (DkS.block ⟨Y, [], [(7, blk3 b)], false, 1⟩ 7) = Y.getD 7 [] from rfl, f3]
    (refine go ?_)
    (refine WL.spB rfl (fun hz7 => ?_) (fun hz7 => ?_))
    · have hk0 : 0 < keep.length := by omega
      have hKi : keepF keep 0 = keep[0] := by simp [keepF, List.getD_eq_getElem?_getD, List.getElem?_eq_getElem hk0]
      (refine go ?_)
      cases hk : keep[0] with
      | true =>
        have hK : keepF keep 0 = true := hKi.trans hk
        rw [hK]
        simp only [if_true, Bool.false_eq_true, if_false]
        (refine go ?_)
        refine WW.dregX [] [] [] gN (by decide +kernel) ?_
        iterate 2 (refine DW.go ?_)
        refine DW.fxR (FX.mkslI (n := a.length) rfl rfl rfl rfl (by omega) (by first | exact True.intro | exact rfl)) rfl rfl ?_
        refine DW.fxR (FX.mkslI (n := 32) rfl rfl rfl rfl (by omega) (by first | exact True.intro | exact rfl)) rfl rfl ?_
        rw [show List.replicate a.length [AV.int .u8 0] = (zeros a.length).map encB by rw [zeros, List.map_replicate]; rfl, show List.replicate 32 [AV.int .u8 0] = (zeros 32).map encB from rfl]
        (refine go ?_)
        rw [beq_self_eq_true]
        (refine go ?_)
        rw [beq_self_eq_true]
        (refine go ?_)
        refine WL.call rfl (by first | exact True.intro | exact rfl) gSL (power_On_ae hw8.sd.pw) ?_
        (refine go ?_)
        refine WL.call rfl (by first | exact True.intro | exact rfl) gSL (law20_known_ae _) ?_
        (refine go ?_)
        refine WW.ret (PureQ.finD ?_)
        exact fz_b rfl
      | false =>
        have hK : keepF keep 0 = false := hKi.trans hk
        rw [hK]
        simp only [if_true, Bool.false_eq_true, if_false]
        (refine go ?_)
        refine WW.dregX [] [] [] gN (by decide +kernel) ?_
        iterate 2 (refine DW.go ?_)
        refine DW.fxR (FX.mkslI (n := a.length) rfl rfl rfl rfl (by omega) (by first | exact True.intro | exact rfl)) rfl rfl ?_
        refine DW.fxR (FX.mkslI (n := 32) rfl rfl rfl rfl (by omega) (by first | exact True.intro | exact rfl)) rfl rfl ?_
        rw [show List.replicate a.length [AV.int .u8 0] = (zeros a.length).map encB by rw [zeros, List.map_replicate]; rfl, show List.replicate 32 [AV.int .u8 0] = (zeros 32).map encB from rfl]
        (refine go ?_)
        rw [beq_self_eq_true]
        (refine go ?_)
        rw [beq_self_eq_true]
        (refine go ?_)
        refine WL.call rfl (by first | exact True.intro | exact rfl) gSL (power_On_ae hw8.sd.pw) ?_
        (refine go ?_)
        refine WL.call rfl (by first | exact True.intro | exact rfl) gSL (law20_known_ae _) ?_
        (refine go ?_)
        refine WW.ret (PureQ.finD ?_)
        exact fz_b rfl
    · have hK : keepF keep 0 = false := by simp [keepF, List.getD_eq_getElem?_getD, List.getElem?_eq_none (show keep.length ≤ 0 by omega)]
      rw [hK]
      simp only [if_true, Bool.false_eq_true, if_false]
      (refine go ?_)
      refine WW.dregX [] [] [] gN (by decide +kernel) ?_
      iterate 2 (refine DW.go ?_)
      refine DW.fxR (FX.mkslI (n := a.length) rfl rfl rfl rfl (by omega) (by first | exact True.intro | exact rfl)) rfl rfl ?_
      refine DW.fxR (FX.mkslI (n := 32) rfl rfl rfl rfl (by omega) (by first | exact True.intro | exact rfl)) rfl rfl ?_
      rw [show List.replicate a.length [AV.int .u8 0] = (zeros a.length).map encB by rw [zeros, List.map_replicate]; rfl, show List.replicate 32 [AV.int .u8 0] = (zeros 32).map encB from rfl]
      (refine go ?_)
      rw [beq_self_eq_true]
      (refine go ?_)
      rw [beq_self_eq_true]
      (refine go ?_)
      refine WL.call rfl (by first | exact True.intro | exact rfl) gSL (power_On_ae hw8.sd.pw) ?_
      (refine go ?_)
      refine WL.call rfl (by first | exact True.intro | exact rfl) gSL (law20_known_ae _) ?_
      (refine go ?_)
      refine WW.ret (PureQ.finD ?_)
      exact fz_b rfl
theorem bools_of {cells : List AV} (h : TypL [.sl [.b]] cells) : ∃ b : List Bool, cells = [.imm 1 (b.map encBo)] := by
  obtain ⟨v, vs, rfl, h1, h2⟩ := h.cons_inv
  obtain rfl := h2.nil_inv
  obtain ⟨c, rfl, hl, hc⟩ := h1.sl_inv
  obtain ⟨l, rfl⟩ := map_of (f := encBo) (fun cells => bool_of20) hc
  exact ⟨l, rfl⟩
theorem top_WorldCrash (c0 : List AV) (t0 : TypL [.sl [.i .u8]] c0) (c1 : List AV) (t1 : TypL [.i .u8] c1) (c2 : List AV) (t2 : TypL [.sl [.b]] c2) (c3 : List AV) (t3 : TypL [.i .i64] c3) :
    AE Try.prog 5 [c0.headD .nilp, c1.headD .nilp, c2.headD .nilp, c3.headD .nilp] noHeap (.bool true) noHeap := by
  obtain ⟨a, rfl⟩ := bytes_of t0
  obtain ⟨b, rfl⟩ := byte_of t1
  obtain ⟨keep, rfl⟩ := bools_of t2
  obtain ⟨fuse, rfl, _⟩ := int_of t3
  exact law20_WorldCrash_ae a b keep fuse noHeap
end Go.Proofs.Ytjehfcjfnmcjcaa


