/- What the statement's proof needs, part 4. -/
import Derived.Test.YtafkhpjnihnfpaaGreatQAuditOwn3
set_option linter.all false
namespace Go.Abs
open Go

def FW : Option Nat → Fence
  | none => Fence.wide
  | some l => Fence.wide.inRound l
theorem FW.fn {ro : Option Nat} {f : FuncId} : (FW ro).fn f := by cases ro <;> trivial
theorem FW.depth {ro : Option Nat} {p : Prop} : (FW ro).depth.isSome = true → p := by cases ro <;> simp [FW, Fence.wide, Fence.inRound]
section
variable {P : Program} {N : Nat} {e : Env} {h : AHeap} {m : Inj} {w : World}
theorem calls_in {ro : Option Nat} {n : Nat} {f : FuncId} {args : Array Value} {R : Ending → World → Prop} (hc : Calls P f args w R) : CallsIn (FW ro) n P f args w R := by
  cases ro with
  | none => exact callsIn_wide.2 hc
  | some l => exact CallsIn.inRound l (callsIn_wide.2 hc)
theorem rows_in {ro : Option Nat} {n : Nat} {row : String} {args : Array Value} {R : Value → World → Prop} (hc : Rows P row args w R) : RowsIn (FW ro) n P row args w R := by
  intro c cs _
  obtain ⟨v, w', r, s⟩ := hc c cs
  refine ⟨v, w', r, ?_⟩
  cases ro with
  | none => exact stepsIn_wide.2 s
  | some l => exact stepsIn_wide.2 s
theorem compI_nodefer {ops : Array Oper} {o : Oper} {c : CI} (hc : compI P N ops o = c) (hb : c.i ≠ .bad) : ∀ d, o.op ≠ .defer d := by
  intro d hd
  apply hb
  have hr : rawI P N o = .bad := by
    unfold rawI
    have h1 : compileOp P N o = none := by simp [compileOp, hd]
    have h2 : compileX P N o = none := by simp [compileX, hd]
    simp [h1, h2]
  subst hc
  unfold compI
  split
  · split
    · simp [hr]
    · split
      · split
        · simp [hr]
        · rfl
      · rfl
  · rfl
/-- What a list of operations does, it does in a round, too. -/
theorem wpOps_in {ro : Option Nat} {n : Nat} {ops : Array Oper} {Q Q' : Exit → Go.Act → World → Prop} (hq : ∀ ex a w, Q ex a w → Q' ex a w) (hl : ¬ LetsOut Q) : ∀ (idx : List Nat), (∀ i ∈ idx, ∀ o, ops[i]? = some o → ∀ d, o.op ≠ .defer d) →
    ∀ (a : Go.Act) (w : World), wpOps P ops Q idx a w → wpOpsIn (FW ro) n P ops Q' idx a w
  | [], _, a, w, hw => hq _ _ _ hw
  | i :: idx, hd, a, w, hw => by
    have ih := wpOps_in (ro := ro) (n := n) hq hl idx fun j hj => hd j (by simp [hj])
    simp only [wpOps] at hw
    simp only [wpOpsIn]
    cases ho : ops[i]? with
    | none => simp only [ho] at hw; exact ih _ _ hw
    | some o =>
      simp only [ho] at hw ⊢
      by_cases hwant : Region.wanted o (yielded ops a.tmps) = true
      · rw [if_pos hwant] at hw ⊢
        rcases hw with hw | ⟨_, hx⟩
        · refine ⟨fun _ _ => FW.fn, ?_⟩
          rw [Oper.semAt_eq _ _ _ (hd i (by simp) o ho)]
          unfold Oper.wp at hw
          generalize (execOp a.eval o).run P w = r at hw ⊢
          cases r with
          | ok nx w' =>
            cases nx <;> simp only [Oper.upon, Oper.uponIn] at hw ⊢ <;> first
              | exact ih _ _ hw
              | exact ⟨FW.depth, calls_in (Calls.mono hw fun ex w'' he => by
                  cases ex with
                  | returned v => exact ih _ _ he
                  | panicked ch => exact hq _ _ _ he
                  | outgrown => exact absurd he hl)⟩
              | exact ⟨FW.depth, rows_in (Rows.mono hw fun _ _ he => ih _ _ he)⟩
          | halt x w' => cases x <;> simp only [Oper.upon, Oper.uponIn] at hw ⊢ <;> exact hq _ _ _ hw
        · exact absurd hx hl
      · rw [if_neg hwant] at hw ⊢
        exact ⟨fun _ _ => FW.fn, ih _ _ hw⟩

theorem loop_turn {id l N0 d : Nat} {st : LoopState} {es : List (Nat × AV)} {fn : FuncId} {ps : Array Tmp} {asg bdy : Code} (hr : HR m h w) (hg : h.get id = some (.loop l st N0 es fn ps asg bdy d)) (st' : LoopState) :
    ∃ T : Array Value, w.heap[l]? = some (.loop ⟨st, none, fn, T, ps, asg, bdy, d⟩) ∧ T.size = N0 ∧ (∀ (s : Nat) (v : AV), (s, v) ∈ es → VR m h w v (T.getD s undef)) ∧
      HR m (h.set id (some (.loop l st' N0 es fn ps asg bdy d))) (w.putObj l (.loop ⟨st', none, fn, T, ps, asg, bdy, d⟩)) ∧ Step m h w m (h.set id (some (.loop l st' N0 es fn ps asg bdy d))) (w.putObj l (.loop ⟨st', none, fn, T, ps, asg, bdy, d⟩)) := by
  obtain ⟨q1, T, q2, q3, q4⟩ := hr.obj _ _ hg
  have hlt : l < w.heap.size := (Array.getElem?_eq_some_iff.1 q2).1
  have wu : WUpd w (w.putObj l (.loop ⟨st', none, fn, T, ps, asg, bdy, d⟩)) l := ⟨rfl, rfl, rfl, World.putObj_size, fun k hk => World.putObj_heap_other hk, fun cc T' fz hc => by rw [q2] at hc; cases hc⟩
  have hcm : Compat (.loop l st N0 es fn ps asg bdy d) (.loop l st' N0 es fn ps asg bdy d) := ⟨rfl, rfl, rfl, rfl, rfl, rfl, rfl, rfl⟩
  have stp := step_set hr hg q1 hcm wu
  exact ⟨T, q2, q3, q4, hr.set hg q1 hcm wu ⟨q1, T, World.putObj_heap_same hlt, q3, fun s v hi => (q4 s v hi).step stp⟩, stp⟩

/-- Code in a round of record l. -/
def RW (P : Program) (l N : Nat) (c : CC) (Q : Exit → Env → AHeap → Prop) (e : Env) (h : AHeap) : Prop :=
  ∀ code, compC P N code = c → ∀ (n : Nat) (m : Inj) (w : World) (a : Go.Act), HR m h w → ER N m h w e a → code.wpIn (FW (some l)) n P (PA N Q m h w) a w
def Ins.isBad : Ins → Bool
  | .bad => true
  | _ => false
theorem noOut {K : Env → AHeap → Prop} : ¬ LetsOut (PA N (fun ex e h => ex = .normal ∧ K e h) m h w) := by
  rintro ⟨a, w0, m', e', h', _, _, _, hq, _⟩
  cases hq
theorem nodefers {ops : Array Oper} {l : List CI} (hl : compR P N ops = l) (hb : l.all (fun c => !c.i.isBad) = true) : ∀ i ∈ List.range ops.size, ∀ o, ops[i]? = some o → ∀ d, o.op ≠ .defer d := by
  intro i _ o ho
  refine compI_nodefer (P := P) (N := N) (ops := ops) rfl fun hbad => ?_
  have hm : compI P N ops o ∈ l := by
    rw [← hl, compR]
    refine List.mem_map.2 ⟨o, ?_, rfl⟩
    exact Array.mem_toList_iff.2 (Array.mem_of_getElem? ho)
  have := List.all_eq_true.1 hb _ hm
  rw [hbad] at this
  cases this
theorem compR_range {ops : Array Oper} : (List.range ops.size).map (fun i => compI P N ops (ops.getD i default)) = compR P N ops := by
  simp only [compR]
  apply List.ext_getElem
  · simp
  · intro i h1 h2
    simp at h1 h2
    simp [h1]
theorem RW.reg {lr : Nat} {l : List CI} {K : Env → AHeap → Prop} (hb : l.all (fun c => !c.i.isBad) = true) (hw : WL P N l (fun ex e h => ex = .normal ∧ K e h) e h) : RW P lr N (.reg l) (fun ex e h => ex = .normal ∧ K e h) e h := by
  intro code hc n m w a hr he
  cases code <;> simp only [compC] at hc <;> try (cases hc; done)
  · rename_i id ops d
    split at hc
    · cases hc
    · rename_i hd
      injection hc with hc
      have hd' : d = false := by simpa using hd
      subst hd'
      exact wpIn_region (wpOps_in (fun _ _ _ h => h) noOut _ (nodefers hc hb) a w (hw.out ops (List.range ops.size) (fun i hi => by simpa using hi) (compR_range.trans hc) m w a hr he))
  · split at hc <;> cases hc
  · split at hc <;> cases hc
theorem RW.seq {lr : Nat} {x y : CC} {Q : Exit → Env → AHeap → Prop} (hw : RW P lr N x (fun ex e h => ex = .normal ∧ RW P lr N y Q e h) e h) : RW P lr N (.seq x y) Q e h := by
  intro code hc n m w a hr he
  cases code <;> simp only [compC] at hc <;> try (cases hc; done)
  · split at hc <;> cases hc
  · rename_i cx cy
    cases hc
    refine wpIn_seq (wpIn_mono (hw cx rfl n m w a hr he) fun ex a' w' hp => ?_)
    obtain ⟨m', e', h', h1, h2, h3, rfl, h4⟩ := hp
    exact wpIn_mono (h4 cy rfl n m' w' a' h1 h2) fun _ _ _ hp => PA.from h3 hp
  · split at hc <;> cases hc
  · split at hc <;> cases hc
theorem RW.block {lr id : Nat} {x : CC} {Q : Exit → Env → AHeap → Prop} (hw : RW P lr N x (fun ex e h => ex = .normal ∧ Q .normal e h) e h) : RW P lr N (.block id x) Q e h := by
  intro code hc n m w a hr he
  cases code <;> simp only [compC] at hc <;> try (cases hc; done)
  · split at hc <;> cases hc
  · split at hc <;> cases hc
  · cases hc
    refine wpIn_block (wpIn_mono (hw _ rfl n m w a hr he) fun ex a' w' hp => ?_)
    obtain ⟨m', e', h', h1, h2, h3, rfl, h4⟩ := hp
    exact ⟨m', e', h', h1, h2, h3, h4⟩
  · split at hc <;> cases hc
end
end Go.Abs


namespace Go.Abs
open Go

def mk (r : Nat) : Deferred := { target := .collected r, args := #[] }
/-- How code ends behind a range over a function: a mark among the deferred calls. -/
def PMd (N : Nat) (Q : Exit → Env → AHeap → Prop) (did r : Nat) (m : Inj) (h : AHeap) (w : World) : Exit → Go.Act → World → Prop :=
  fun ex a' w' => ∃ (m' : Inj) (e' : Env) (h' : AHeap), HR m' h' w' ∧ ER N m' h' w' e' { a' with defers := [] } ∧ a'.defers = [mk r] ∧ Step m h w m' h' w' ∧ h'.get did = some (.dfr r (some [])) ∧ Q ex e' h'
/-- How code ends in which a range over a function stood: the block of deferred calls is new. -/
def PMk (N : Nat) (Q : Nat → Exit → Env → AHeap → Prop) (m : Inj) (h : AHeap) (w : World) : Exit → Go.Act → World → Prop :=
  fun ex a' w' => ∃ (r did : Nat), ¬ h.used did ∧ PMd N (Q did) did r m h w ex a' w'
/-- Code in which such a range stands. -/
def AMk (P : Program) (N : Nat) (c : CC) (Q : Nat → Exit → Env → AHeap → Prop) (e : Env) (h : AHeap) : Prop :=
  ∀ code, compC P N code = c → ∀ m w a, HR m h w → ER N m h w e a → code.wp P (PMk N Q m h w) a w
/-- Code behind it. -/
def AMM (P : Program) (N : Nat) (c : CC) (Q : Exit → Env → AHeap → Prop) (did r : Nat) (e : Env) (h : AHeap) : Prop :=
  ∀ code, compC P N code = c → ∀ m w a, HR m h w → ER N m h w e { a with defers := [] } → a.defers = [mk r] → code.wp P (PMd N Q did r m h w) a w
section
variable {P : Program} {N : Nat} {e : Env} {h : AHeap} {m : Inj} {w : World} {Q : Nat → Exit → Env → AHeap → Prop} {K : Exit → Env → AHeap → Prop}
theorem PMd.from {m₁ : Inj} {h₁ : AHeap} {w₁ : World} {did r : Nat} (s : Step m h w m₁ h₁ w₁) {ex : Exit} {a : Go.Act} {w' : World} (hp : PMd N K did r m₁ h₁ w₁ ex a w') : PMd N K did r m h w ex a w' := by
  obtain ⟨m', e', h', h1, h2, h3, h4, h5, h6⟩ := hp
  exact ⟨m', e', h', h1, h2, h3, s.trans h4, h5, h6⟩
theorem AMk.block {id : Nat} {x : CC} (hw : AMk P N x (fun did ex e h => ex = .normal ∧ Q did .normal e h) e h) : AMk P N (.block id x) Q e h := by
  intro code hc m w a hr he
  cases code <;> simp only [compC] at hc <;> try (cases hc; done)
  · split at hc <;> cases hc
  · split at hc <;> cases hc
  · cases hc
    refine wp_block (wp_mono (hw _ rfl m w a hr he) fun ex a' w' hp => ?_)
    obtain ⟨r, did, hu, m', e', h', h1, h2, h3, h4, h5, rfl, h6⟩ := hp
    exact ⟨r, did, hu, m', e', h', h1, h2, h3, h4, h5, h6⟩
  · split at hc <;> cases hc
theorem AMM.seq {x y : CC} {did r : Nat} (hw : AMM P N x (fun ex e h => ex = .normal ∧ (h.get did = some (.dfr r (some [])) → AMM P N y K did r e h)) did r e h) : AMM P N (.seq x y) K did r e h := by
  intro code hc m w a hr he hd
  cases code <;> simp only [compC] at hc <;> try (cases hc; done)
  · split at hc <;> cases hc
  · rename_i cx cy
    cases hc
    refine wp_seq (wp_mono (hw cx rfl m w a hr he hd) fun ex a' w' hp => ?_)
    obtain ⟨m', e', h', h1, h2, h3, h4, h5, rfl, h6⟩ := hp
    exact wp_mono (h6 h5 cy rfl m' w' a' h1 h2 h3) fun _ _ _ hp => hp.from h4
  · split at hc <;> cases hc
  · split at hc <;> cases hc
theorem AMM.ret {did r : Nat} (hg : h.get did = some (.dfr r (some []))) (hq : K .ret e h) : AMM P N .ret K did r e h := by
  intro code hc m w a hr he hd
  cases code <;> simp only [compC] at hc <;> try (cases hc; done)
  · split at hc <;> cases hc
  · split at hc <;> cases hc
  · split at hc <;> cases hc
  · exact wp_ret ⟨m, e, h, hr, he, hd, Step.refl _ _ _, hg, hq⟩
/-- Operations do not look at the deferred calls. -/
theorem wpOps_dfr {ops : Array Oper} {K : Exit → Go.Act → World → Prop} (hl : ¬ LetsOut K) (ds : List Deferred) : ∀ (idx : List Nat) (a : Go.Act) (w : World), wpOps P ops K idx a w →
    wpOps P ops (fun ex a' w' => ∃ a0, a' = { a0 with defers := a0.defers ++ ds } ∧ K ex a0 w') idx { a with defers := a.defers ++ ds } w
  | [], a, w, hw => ⟨a, rfl, hw⟩
  | i :: idx, a, w, hw => by
    have ih := wpOps_dfr (ops := ops) (K := K) hl ds idx
    have ihp : ∀ (a : Go.Act) (d : Option Tmp) (v : Value) (w : World), wpOps P ops K idx (a.put d v) w → wpOps P ops (fun ex a' w' => ∃ a0, a' = { a0 with defers := a0.defers ++ ds } ∧ K ex a0 w') idx (({ a with defers := a.defers ++ ds } : Go.Act).put d v) w := fun a d v w hx => by
      have := ih _ _ hx
      cases d <;> exact this
    have hev : ({ a with defers := a.defers ++ ds } : Go.Act).eval = a.eval := funext fun x => by cases x <;> rfl
    simp only [wpOps] at hw ⊢
    cases ho : ops[i]? with
    | none => simp only [ho] at hw; exact ih _ _ hw
    | some o =>
      simp only [ho] at hw ⊢
      by_cases hwant : Region.wanted o (yielded ops a.tmps) = true
      · rw [if_pos hwant] at hw ⊢
        rcases hw with hw | ⟨_, hx⟩
        · left
          unfold Oper.wp at hw ⊢
          rw [hev]
          generalize (execOp a.eval o).run P w = r at hw ⊢
          cases r with
          | ok nx w' =>
            cases nx <;> simp only [Oper.upon] at hw ⊢ <;> first
              | exact ihp _ _ _ _ hw
              | exact ihp { a with defers := _ :: a.defers } _ _ _ hw
              | exact Calls.mono hw fun ex w'' he => by
                  cases ex with
                  | returned v => exact ihp _ _ _ _ he
                  | panicked ch => exact ⟨a, rfl, he⟩
                  | outgrown => exact absurd he hl
              | exact Rows.mono hw fun _ _ he => ihp _ _ _ _ he
              | exact hw
          | halt x w' => cases x <;> simp only [Oper.upon] at hw ⊢ <;> first | exact ⟨a, rfl, hw⟩ | exact hw
        · exact absurd hx hl
      · rw [if_neg hwant] at hw ⊢
        exact ihp _ _ _ _ hw
theorem AMM.reg {l : List CI} {did r : Nat} (hw : WL P N l (fun ex e h' => ex = .normal ∧ (h'.get did = some (.dfr r (some [])) ∧ K .normal e h')) e h) : AMM P N (.reg l) K did r e h := by
  intro code hc m w a hr he hd
  cases code <;> simp only [compC] at hc <;> try (cases hc; done)
  · rename_i id ops dr
    split at hc
    · cases hc
    · rename_i hdr
      injection hc with hc
      have hd' : dr = false := by simpa using hdr
      subst hd'
      have hx := wpOps_dfr noOut [mk r] _ _ _ (hw.out ops (List.range ops.size) (fun i hi => by simpa using hi) (compR_range.trans hc) m w { a with defers := [] } hr he)
      have ha : ({ ({ a with defers := [] } : Go.Act) with defers := ({ a with defers := [] } : Go.Act).defers ++ [mk r] } : Go.Act) = a := by
        cases a; simp only at hd; subst hd; rfl
      rw [ha] at hx
      refine wp_region (wpOps_mono (fun ex a1 w1 hp => ?_) _ _ _ hx)
      obtain ⟨a0, rfl, m1, e1, h1, hr1, he1, st1, rfl, hg1, hq⟩ := hp
      refine ⟨m1, e1, h1, hr1, ⟨he1.size, rfl, he1.val⟩, ?_, st1, hg1, hq⟩
      show a0.defers ++ [mk r] = [mk r]
      rw [he1.defers]; rfl
  · split at hc <;> cases hc
  · split at hc <;> cases hc
/-- The statement. -/
theorem AMk.rangeF {f p : Nat} {g : Opd} {us ts : List AV} {cA cB : CC} {es : List (Nat × AV)} (hg : ev e g = some (.func (.func f) us ts)) (hbd : bodied P f = true) (hes : ∀ s v, (s, v) ∈ es → lk s e = some v)
    (hac : ∀ (l r : Nat) (fn : FuncId) (asg bdy : Code), compC P N asg = cA → compC P N bdy = cB → AC P f (us ++ [.func (.yield l) [] []] ++ ts) ((h.put h.next (.dfr r (some []))).put (h.next + 1) (.loop l .ready N es fn #[p] asg bdy r))
      (fun _ h' => h'.get h.next = some (.dfr r (some [])) ∧ h'.get (h.next + 1) = some (.loop l .ready N es fn #[p] asg bdy r) ∧ Q h.next .normal e (h'.set (h.next + 1) none))) : AMk P N (.rangeF g [p] cA cB) Q e h := by
  intro code hc m w a hr he
  cases code <;> simp only [compC] at hc <;> try (cases hc; done)
  · split at hc <;> cases hc
  · split at hc <;> cases hc
  · rename_i gq ps asg bdy
    split at hc
    · rename_i g' hgq
      injection hc with e1 e2 e3 e4
      subst e1 e3 e4
      have hps : ps = #[p] := by rw [← Array.toArray_toList (xs := ps), e2]
      subst hps
      refine (wpIn_wide (n := 0)).1 (wpIn_rangeFunc fun fn _ => ?_)
      have hfv := he.eval hgq hg
      have hf1 := next_fresh hr
      have hr1 : HR (upd m h.next (some (w.heap.size, 0))) (h.put h.next (.dfr w.heap.size (some []))) (w.alloc (.deferred (some []))) := hr.put hf1 ⟨by simp [upd], World.alloc_heap_new _ _⟩
      have st1 := step_put hr hf1 (.dfr w.heap.size (some [])) (.deferred (some [])) 0
      have hn1 : (h.put h.next (.dfr w.heap.size (some []))).next = h.next + 1 := next_put _ _
      have hf2 : ¬ (h.put h.next (.dfr w.heap.size (some []))).used (h.next + 1) := fun hu => by have := hu.1; omega
      have hsz1 : (w.alloc (.deferred (some []))).heap.size = w.heap.size + 1 := World.size_alloc ..
      have st2 := step_put hr1 hf2 (.loop (w.heap.size + 1) .ready N es fn #[p] asg bdy w.heap.size) (.loop ⟨.ready, none, fn, a.tmps, #[p], asg, bdy, w.heap.size⟩) 0
      have hr2 := hr1.put (t := 0) (x := .loop (w.heap.size + 1) .ready N es fn #[p] asg bdy w.heap.size) (o := .loop ⟨.ready, none, fn, a.tmps, #[p], asg, bdy, w.heap.size⟩) hf2
        ⟨by simp [upd], a.tmps, by rw [← hsz1]; exact World.alloc_heap_new _ _, he.size, fun s v hs => (he.val s v (hes s v hs)).step (st1.trans st2)⟩
      have he2 := he.step (st1.trans st2)
      generalize hcx : a.eval gq = cx at hfv
      cases hfv with
      | func _ _ _ cs ds q1 q2 q3 q4 =>
        have hfv2 : VR _ _ _ (.func (.func f) us ts) (.func (.func f) cs ds) := (VR.func (.func f) us ts cs ds q1 q2 q3 q4).step (st1.trans st2)
        obtain ⟨W, hW⟩ : ∃ W, (w.alloc (.deferred (some []))).alloc (.loop ⟨.ready, none, fn, a.tmps, #[p], asg, bdy, w.heap.size⟩) = W := ⟨_, rfl⟩
        obtain ⟨d, hd1, hd2⟩ : ∃ d : Deferred, (resolve a.eval (rangeCall gq (w.heap.size + 1)) 0).run P W = .ok d W ∧ (invoke d.target d.args).run P W = .ok (.enter f (cs ++ #[.func (.yield (w.heap.size + 1)) #[] #[]] ++ ds)) W := by
          have hce : a.eval (.const (.func (.yield (w.heap.size + 1)) #[] #[])) = .func (.yield (w.heap.size + 1)) #[] #[] := rfl
          refine ⟨{ target := .fn (.func f) ds, args := cs ++ #[.func (.yield (w.heap.size + 1)) #[] #[]] }, ?_, ?_⟩
          · simp [resolve, rangeCall, hcx, hce, Deferred.ofValue]
          · simp [invoke, run_callFunc hbd]
        refine ⟨w.heap.size + 1, [mk w.heap.size], W, d, W, f, cs ++ #[.func (.yield (w.heap.size + 1)) #[] #[]] ++ ds, W, ?_, hd1, fun _ _ => trivial, hd2, fun hh => by simp [Fence.wide] at hh, ?_⟩
        · rw [← hW]; exact run_enterLoop_outer fn a.tmps #[p] asg bdy
        · refine callsIn_wide.2 ?_
          subst hW
          refine (hac (w.heap.size + 1) w.heap.size fn asg bdy rfl rfl _ _ _ hr2 (by simp [q1, q2]; omega) (fun j v hj => ?_)).mono fun ex w3 hx => ?_
          · have q3' := fun i v hi => (q3 i v hi).step (st1.trans st2)
            have q4' := fun i v hi => (q4 i v hi).step (st1.trans st2)
            rw [List.append_assoc] at hj
            simp only [Array.getD_eq_getD_getElem?]
            by_cases j1 : j < us.length
            · rw [List.getElem?_append_left j1] at hj
              have := q3' j v hj
              rw [Array.append_assoc, Array.getElem?_append_left (by omega)]
              simpa [Array.getD_eq_getD_getElem?] using this
            · rw [List.getElem?_append_right (by omega)] at hj
              rw [Array.append_assoc, Array.getElem?_append_right (by omega), ← q1]
              by_cases j2 : j - us.length < 1
              · rw [List.getElem?_append_left (by simpa using j2)] at hj
                have h0 : j - us.length = 0 := by omega
                rw [h0] at hj ⊢
                cases hj
                rw [Array.getElem?_append_left (by simp)]
                exact .func _ [] [] #[] #[] rfl rfl (by simp) (by simp)
              · rw [List.getElem?_append_right (by simp; omega)] at hj
                have := q4' _ v hj
                rw [Array.getElem?_append_right (by simp; omega)]
                simpa [Array.getD_eq_getD_getElem?] using this
          · obtain ⟨v, m3, r3, h3, rfl, hr3, _, st3, hg3, hl3, hq3⟩ := hx
            obtain ⟨T3, hT3, _, _, hr4, st4⟩ := loop_turn hr3 hl3 .exhausted
            have hr5 := hr4.del (h.next + 1)
            have st5 : Step _ _ _ _ _ _ := step_del (m := m3) (h := h3.set (h.next + 1) (some (.loop (w.heap.size + 1) .exhausted N es fn #[p] asg bdy w.heap.size))) (w := w3.putObj (w.heap.size + 1) (.loop ⟨.exhausted, none, fn, T3, #[p], asg, bdy, w.heap.size⟩)) (h.next + 1)
            refine ⟨none, _, run_endLoop hT3 (by simp), ?_⟩
            rw [set_set] at hr5 st5
            have stA := (((st1.trans st2).trans st3).trans st4).trans st5
            refine ⟨w.heap.size, h.next, fun hu => absurd hu.1 (Nat.lt_irrefl _), m3, e, _, hr5, ?_, ?_, stA, ?_, hq3⟩
            · have := he.step stA
              exact ⟨this.size, rfl, this.val⟩
            · show [mk w.heap.size] ++ a.defers = _
              rw [he.defers]; rfl
            · rw [get_set, if_neg (by omega)]; exact hg3
    · cases hc

end
end Go.Abs


namespace Go.Proofs.YtafkhpjnihnfpaaGreat
open Go Go.Abs

attribute [local irreducible] stepF pairF
theorem AC.used {P : Program} {f : Nat} {vs : List AV} {h : AHeap} {R : AV → AHeap → Prop} (hac : AC P f vs h R) : AC P f vs h (fun r h' => R r h' ∧ (∀ id, h.used id → h'.used id) ∧ ∀ id x, h'.get id = some x → h'.used id) := fun m w cargs hr hl hv =>
  (hac m w cargs hr hl hv).mono fun ex w' ⟨v, m', r, h', e1, g1, g2, g3, hR⟩ => ⟨v, m', r, h', e1, g1, g2, g3, hR, g3.used, g1.live⟩
theorem AMk.named {P : Program} {N : Nat} {c : CC} {Q : Nat → Exit → Env → AHeap → Prop} {e : Env} {h : AHeap} (F : AHeap → Prop) (hf : F h) (k : ∀ h5, F h5 → AMk P N c Q e h5) : AMk P N c Q e h := k h hf
end Go.Proofs.YtafkhpjnihnfpaaGreat


namespace Go.Abs
open Go

section
variable {P : Program} {N : Nat} {e : Env} {h : AHeap} {l : List CI} {es : List (List Nat)}

/-- An operation, by what holds behind it. -/
def FXR (P : Program) (N : Nat) (c : CI) (e : Env) (h : AHeap) (R : Option AV → AHeap → Prop) : Prop :=
  ∀ (ops : Array Oper) (i : Nat) (o : Oper), ops[i]? = some o → compI P N ops o = c → ∀ (m : Inj) (w : World) (a : Act) (K : Act → World → Prop) (Q : Exit → Act → World → Prop),
    HR m h w → ER N m h w e a → (∀ m' w' a' r h', R r h' → HR m' h' w' → ER N m' h' w' (putR c.d r e) a' → Step m h w m' h' w' → K a' w') → wpOp P ops Q i K a w
theorem FXR.of {c : CI} {r : Option AV} {h' : AHeap} {R : Option AV → AHeap → Prop} (hx : FX P N c e h r h') (hR : R r h') : FXR P N c e h R :=
  fun ops i o ho hc m w a K Q hr he hk => hx ops i o ho hc e (fun _ _ => rfl) m w a K Q hr he fun m' w' a' h1 h2 h3 => hk m' w' a' r h' hR h1 h2 h3
theorem FXR.call {d : Option Nat} {f : Nat} {xs : List Opd} {g : Option (Nat × Bool)} {us vs : List AV} {R' : AV → AHeap → Prop} {R : Option AV → AHeap → Prop} (hv : evL e xs = some us) (hg : met e g) (hs : SubL us vs) (hac : AC P f vs h R') (hR : ∀ r h', R' r h' → R (some r) h') : FXR P N ⟨d, .call f xs, g⟩ e h R := by
  intro ops i o ho hc m w a K Q hr he hk
  rcases compI_ok hc with ⟨hb1, hb2⟩ | ⟨hd, hdst, hcomp, hgd⟩
  · simp at hb1
  · obtain ⟨w1, w2⟩ := wanted_of he hgd
    have hw : Region.wanted o (yielded ops a.tmps) = true := by
      cases g with
      | none => exact w1 rfl
      | some sb =>
        obtain ⟨s, b⟩ := sb
        rw [w2 s b b rfl hg]; simp
    simp only [wpOp, ho]
    rw [if_pos hw]
    left
    have hco := hcomp rfl
    obtain ⟨c, hop, hcal, hfn, hxs⟩ := compile_call hco
    obtain ⟨hl1, hl2⟩ := he.evalL hxs hv
    have hrun : (execOp a.eval o).run P w = .ok (.enter f (c.args.map a.eval)) w := by
      simp [execOp, hop, resolve, hcal, Act.eval, Deferred.ofValue, invoke, run_callFunc hfn]
    refine call_wp hrun hr (by simpa using hl1) (fun j v hj => by
      have := hl2 j v hj
      simpa [Array.getD_eq_getD_getElem?, List.getD_eq_getElem?_getD] using this) (hac.sub hs) fun v w' m' r1 h1 g1 g2 g3 g4 => ?_
    refine hk m' w' _ (some r1) h1 (hR r1 h1 g4) g1 ?_ g3
    have hd' : d = o.dst := hd
    show ER N m' h1 w' (putR d (some r1) e) _
    rw [hd']
    exact (he.step g3).putR hdst g2
/-- What holds behind each set of operations that may be done. -/
theorem AW.dregI {Q : Exit → Env → AHeap → Prop} (hm : P.follows .mixedOrders = true) (Inv : (Nat → Bool) → Env → AHeap → Prop) (hlen : es.length = l.length) (hback : ∀ j, j < l.length → ∀ k ∈ es.getD j [], k < j) (h0 : Inv (fun _ => false) e h)
    (hstep : ∀ (D : Nat → Bool) (e1 : Env) (h1 : AHeap) (i : Nat), i < l.length → D i = false → (∀ k ∈ es.getD i [], D k = true) → (∀ j, D j = true → ∀ k ∈ es.getD j [], D k = true) → (∀ id x, h1.get id = some x → h1.used id) → Inv D e1 h1 →
      FXR P N (l.getD i default) e1 h1 (fun r h2 => (∀ id, h1.used id → h2.used id) → Inv (fun j => if j = i then true else D j) (putR (l.getD i default).d r e1) h2))
    (hfin : ∀ D e1 h1, (∀ j, j < l.length → D j = true) → Inv D e1 h1 → Q .normal e1 h1) : AW P N (.dreg l es) Q e h := by
  intro code hcode m w a hr he
  cases code <;> simp only [compC] at hcode <;> try (cases hcode; done)
  · rename_i id ops dr
    split at hcode
    · rename_i hdr
      subst hdr
      injection hcode with hl hes
      refine wp_region_any hm ?_
      have hn : ops.size = l.length := by rw [← hl]; simp [compR]
      have hes' : ∀ j (hj : j < ops.size), es.getD j [] = ((ops[j]).after.toList.filter (Region.binds .any)).map (·.on) := fun j hj => by
        rw [← hes]; simp [edgesR, List.getD_eq_getElem?_getD, hj]
      have hci : ∀ j (hj : j < ops.size), compI P N ops (ops[j]) = l.getD j default := fun j hj => by
        rw [← hl]; simp [compR, List.getD_eq_getElem?_getD, hj]
      suffices H : ∀ (fuel : Nat) (listed : Array Bool) (U : List Nat) (m1 : Inj) (e1 : Env) (h1 : AHeap) (w1 : World) (a1 : Act), listed.size = l.length → U.length ≤ fuel → U.Nodup → (∀ j, j < l.length → (listed.getD j false = false ↔ j ∈ U)) →
          (∀ j, listed.getD j false = true → ∀ k ∈ es.getD j [], listed.getD k false = true) →
          HR m1 h1 w1 → ER N m1 h1 w1 e1 a1 → Step m h w m1 h1 w1 → Inv (fun j => listed.getD j false) e1 h1 → wpAny P .any ops (PA N Q m h w) fuel listed a1 w1 by
        have st := step_drew (m := m) (h := h) (w := w)
        refine H ops.size (Array.replicate ops.size false) (List.range l.length) m e h { w with drawn := w.drawn + 1 } a (by simp [hn]) (by simp [hn]) List.nodup_range (fun j hj => by simp [List.getD, hn, hj]) (fun j hj => ?_) hr.drew (he.step st) st ?_
        · rw [rep_false] at hj; cases hj
        · have : (fun j => (Array.replicate ops.size false).getD j false) = fun _ => false := funext fun j => rep_false _ _
          rw [this]; exact h0
      intro fuel
      have fin : ∀ (listed : Array Bool) (m1 : Inj) (e1 : Env) (h1 : AHeap) (w1 : World) (a1 : Act), listed.size = l.length → Region.ready .any ops listed = [] →
          HR m1 h1 w1 → ER N m1 h1 w1 e1 a1 → Step m h w m1 h1 w1 → Inv (fun j => listed.getD j false) e1 h1 → PA N Q m h w .normal a1 w1 := fun listed m1 e1 h1 w1 a1 hsz hrd g1 g2 g3 g4 => by
        have hall : ∀ j, j < l.length → listed.getD j false = true := fun j => by
          induction j using Nat.strongRecOn with
          | ind j ih =>
            intro hj
            cases hx : listed.getD j false
            · have : j ∈ Region.ready .any ops listed := mem_ready.2 ⟨by simpa [Array.getD_eq_getD_getElem?, hsz, hj] using hx, ops[j]'(by omega), by simp [hn, hj], fun ed hed hb => ?_⟩
              · rw [hrd] at this; cases this
              · have hk : ed.on ∈ es.getD j [] := by
                  rw [hes' j (by omega)]
                  exact List.mem_map.2 ⟨ed, List.mem_filter.2 ⟨by simpa using hed, hb⟩, rfl⟩
                have := hback j hj _ hk
                exact ih _ this (by omega)
            · rfl
        exact ⟨m1, e1, h1, g1, g2, g3, hfin _ _ _ hall g4⟩
      induction fuel with
      | zero =>
        intro listed U m1 e1 h1 w1 a1 hsz hU hnd hmem hcl g1 g2 g3 g4
        have hU0 : U = [] := List.length_eq_zero_iff.1 (by omega)
        subst hU0
        have hrd : Region.ready .any ops listed = [] := List.eq_nil_iff_forall_not_mem.2 fun j hj => by
          obtain ⟨x0, o, x1, _⟩ := mem_ready.1 hj
          have hj' : j < l.length := by rw [← hn]; exact (Array.getElem?_eq_some_iff.1 x1).1
          have := (hmem j hj').1 (by simpa [Array.getD_eq_getD_getElem?, hsz, hj'] using x0)
          cases this
        exact ⟨hrd, fin listed m1 e1 h1 w1 a1 hsz hrd g1 g2 g3 g4⟩
      | succ fuel ih =>
        intro listed U m1 e1 h1 w1 a1 hsz hU hnd hmem hcl g1 g2 g3 g4
        refine ⟨fun hrd => fin listed m1 e1 h1 w1 a1 hsz hrd g1 g2 g3 g4, fun i hi => ?_⟩
        obtain ⟨x0, o, x1, x2⟩ := mem_ready.1 hi
        have hi' : i < l.length := by rw [← hn]; exact (Array.getElem?_eq_some_iff.1 x1).1
        have hio : i < ops.size := by omega
        have ho : ops[i] = o := (Array.getElem?_eq_some_iff.1 x1).2
        have hDi : listed.getD i false = false := by simpa [Array.getD_eq_getD_getElem?, hsz, hi'] using x0
        have hpre : ∀ k ∈ es.getD i [], listed.getD k false = true := fun k hk => by
          rw [hes' i hio, ho] at hk
          obtain ⟨ed, hed, rfl⟩ := List.mem_map.1 hk
          obtain ⟨he1, he2⟩ := List.mem_filter.1 hed
          exact x2 ed (by simpa using he1) he2
        have hnew : ∀ k, (listed.setIfInBounds i true).getD k false = if k = i then true else listed.getD k false := fun k => by
          by_cases hk : k = i
          · subst hk
            simp [Array.getD_eq_getD_getElem?, hsz, hi']
          · rw [if_neg hk]; exact getD_set_ne false (Ne.symm hk)
        have hDn : (fun k => (listed.setIfInBounds i true).getD k false) = fun k => if k = i then true else listed.getD k false := funext hnew
        refine hstep _ e1 h1 i hi' hDi hpre hcl g1.live g4 ops i o x1 (by rw [← ho, hci i hio]) m1 w1 a1 _ _ g1 g2 fun m2 w2 a2 r h2 hR r1 r2 r3 => ?_
        refine ih (listed.setIfInBounds i true) (U.erase i) m2 _ h2 w2 a2 (by simp [hsz]) ?_ (hnd.erase i) (fun j hj => ?_) (fun j hj => ?_) r1 r2 (g3.trans r3) ?_
        · rw [List.length_erase_of_mem ((hmem i hi').1 hDi)]; omega
        · rw [hnew, hnd.mem_erase_iff]
          by_cases hji : j = i
          · simp [hji]
          · simp [hji, ← hmem j hj]
        · intro k hk
          rw [hnew] at hj ⊢
          by_cases hki : k = i
          · simp [hki]
          · rw [if_neg hki]
            by_cases hji : j = i
            · subst hji; exact hpre k hk
            · rw [if_neg hji] at hj; exact hcl j hj k hk
        · rw [hDn]; exact hR r3.used
    · cases hcode
  · split at hcode <;> cases hcode
  · split at hcode <;> cases hcode
theorem WW.dregI {Q : Exit → Env → AHeap → Prop} [MO P] (Inv : (Nat → Bool) → Env → AHeap → Prop) (hc : (es.length == l.length && (List.range l.length).all fun j => (es.getD j []).all (fun k => decide (k < j))) = true) (h0 : Inv (fun _ => false) e h)
    (hstep : ∀ (D : Nat → Bool) (e1 : Env) (h1 : AHeap) (i : Nat), i < l.length → D i = false → (∀ k ∈ es.getD i [], D k = true) → (∀ j, D j = true → ∀ k ∈ es.getD j [], D k = true) → (∀ id x, h1.get id = some x → h1.used id) → Inv D e1 h1 →
      FXR P N (l.getD i default) e1 h1 (fun r h2 => (∀ id, h1.used id → h2.used id) → Inv (fun j => if j = i then true else D j) (putR (l.getD i default).d r e1) h2))
    (hfin : ∀ D e1 h1, (∀ j, j < l.length → D j = true) → Inv D e1 h1 → Q .normal e1 h1) : WW P N (.dreg l es) Q e h := by
  simp only [Bool.and_eq_true, beq_iff_eq, List.all_eq_true, List.mem_range, decide_eq_true_eq] at hc
  exact ⟨AW.dregI MO.mo Inv hc.1 hc.2 h0 hstep hfin⟩
theorem FXR.stp {c : CI} {e' : Env} {h' : AHeap} {R : Option AV → AHeap → Prop} (hs : Stp c e h e' h') (hR : ∀ r, e' = putR c.d r e → R r h') : FXR P N c e h R := by
  obtain ⟨r, he, hx, _⟩ := FX.of_stp (P := P) (N := N) hs
  exact FXR.of hx (hR r he)
theorem AC.spareC {f : Nat} {vs : List AV} {R : AV → AHeap → Prop} (hac : AC P f vs h R) : AC P f vs h (fun r' h' => ∃ h1, R r' h1 ∧ h' = (h1.put h1.next (.tail 0 0)).set h1.next none) := fun m w cargs hr hl hv =>
  (hac m w cargs hr hl hv).mono fun ex w' ⟨v, m', r', h', e1, g1, g2, g3, hR⟩ => by
    have f1 := next_fresh g1
    have s1 := step_putv g1 f1
    have q1 := g1.putv f1
    have s2 := step_del (m := upd m' h'.next none) (h := h'.put h'.next (.tail 0 0)) (w := w') h'.next
    exact ⟨v, _, _, _, e1, q1.del _, (g2.step s1).step s2, (g3.trans s1).trans s2, _, hR, rfl⟩
/-- A name that is taken, and at which nothing stands. -/
theorem AE.spareC {f nx : Nat} {vs : List AV} {h1 : AHeap} {r : AV} (hac : AE P f vs h r h1) (hn : h1.next = nx) : AC P f vs h (fun r' h' => r' = r ∧ h' = (h1.put nx (.tail 0 0)).set nx none) := fun m w cargs hr hl hv =>
  (hac m w cargs hr hl hv).mono fun ex w' ⟨v, m', r', h', e1, g1, g2, g3, hR, hH⟩ => by
    subst hR hH hn
    have f1 := next_fresh g1
    have s1 := step_putv g1 f1
    have q1 := g1.putv f1
    have s2 := step_del (m := upd m' h'.next none) (h := h'.put h'.next (.tail 0 0)) (w := w') h'.next
    exact ⟨v, _, _, _, e1, q1.del _, (g2.step s1).step s2, (g3.trans s1).trans s2, rfl, rfl⟩
end
end Go.Abs


namespace Go.Proofs.YtafkhpjnihnfpaaGreat
open Go Go.Abs

/-- A write of a device. -/
abbrev Wr := Int × Bs
abbrev encO (x : Wr) : List AV := [.int .i64 x.1, .imm 1 (x.2.map encB)]
/-- Power: is it gone? has it a fuse, of how many steps? how many there were. -/
structure PwS where
  gone : Bool
  fuse : Bool
  left : Int
  steps : Int
def PwS.row (p : PwS) : List AV := [.bool p.gone, .bool p.fuse, .int .i64 p.left, .int .i64 p.steps]
def PwS.can (p : PwS) : Bool := !p.gone && !(p.fuse && p.left == 0)
def PwS.spend (p : PwS) : PwS := if p.gone then p else if p.fuse && p.left == 0 then { p with gone := true } else { p with left := if p.fuse then p.left - 1 else p.left, steps := p.steps + 1 }
/-- What may be: k steps at most. -/
structure PwS.Ok (p : PwS) (k : Nat) : Prop where
  l0 : p.fuse = true → 0 ≤ p.left
  l1 : -9223372036854775808 ≤ p.left ∧ p.left ≤ 9223372036854775807
  s0 : 0 ≤ p.steps
  s1 : p.steps ≤ k
theorem PwS.Ok.spend {p : PwS} {k : Nat} (h : p.Ok k) : p.spend.Ok (k + 1) := by
  obtain ⟨h1, h2, h3, h4⟩ := h
  unfold PwS.spend
  split
  · exact ⟨h1, h2, h3, by omega⟩
  · split
    · exact ⟨h1, h2, h3, by show p.steps ≤ _; omega⟩
    · rename_i hf
      refine ⟨fun e => ?_, ?_, by show 0 ≤ p.steps + 1; omega, by show p.steps + 1 ≤ _; omega⟩
      · have e' : p.fuse = true := e
        have := h1 e'
        simp only [e', Bool.true_and, beq_iff_eq] at hf
        show 0 ≤ (if p.fuse then p.left - 1 else p.left)
        rw [if_pos e']; omega
      · show -9223372036854775808 ≤ (if p.fuse then p.left - 1 else p.left) ∧ (if p.fuse then p.left - 1 else p.left) ≤ 9223372036854775807
        by_cases e : p.fuse = true
        · have := h1 e; rw [if_pos e]; omega
        · rw [if_neg e]; omega
/-- A device nobody trusts: what lasts, what waits, all that was done. -/
structure SdS where
  lasts : Bs
  waits : List Wr
  trace : List Wr
  gen : Nat
/-- Bytes laid over others. -/
def layO (b : Bs) (x : Wr) : Bs := b.take x.1.toNat ++ x.2.take (min x.2.length (b.length - x.1.toNat)) ++ b.drop (x.1.toNat + min x.2.length (b.length - x.1.toNat))
theorem layO_len (b : Bs) (x : Wr) (h : x.1.toNat ≤ b.length) : (layO b x).length = b.length := by
  simp only [layO, List.length_append, List.length_take, List.length_drop]; omega
def SdS.snap (s : SdS) : Bs := s.waits.foldl layO s.lasts
/-- Is it within? -/
def inB (n : Nat) (off k : Int) : Bool := decide (0 ≤ off) && decide (0 ≤ k) && decide (off ≤ n) && decide (k ≤ n - off)
structure SdS.Ok (s : SdS) (n k : Nat) : Prop where
  len : s.lasts.length = n
  w : ∀ x ∈ s.waits, 0 ≤ x.1 ∧ x.1 + x.2.length ≤ n
  kw : s.waits.length ≤ k
  kt : s.trace.length ≤ k
/-- The slow disk. -/
structure DkS where
  lasts : List Bs
  waits : List Wr
  trace : List Wr
  refuses : Bool
  gen : Nat
structure CtS where
  value : Int
  boots : Int
  at' : Int
def CtS.row (c : CtS) : List AV := [.int .u64 c.value, .int .u64 c.boots, .int .u64 c.at']
structure KsS where
  seed : Int
  epochs : List Int
def encE (e : Int) : List AV := [.int .u32 e]
end Go.Proofs.YtafkhpjnihnfpaaGreat


set_option maxRecDepth 100000
namespace Go.Proofs.YtafkhpjnihnfpaaGreat
open Go Go.Abs

def c_power_New : CC := .seq (.reg [⟨some 0, .mov (.c .nilp), none⟩]) (.seq (.reg [⟨some 1, .build [.bool false, .bool false, .int .i64 0, .int .i64 0] [], none⟩, ⟨some 2, .box 4 (.t 1), none⟩, ⟨some 0, .mov (.t 2), none⟩]) .ret)
theorem is_power_New : FnIs Tryz.prog 40 3 c_power_New [.t 0] := ⟨Tryz.f40, _, Tryz.func40, rfl, rfl, by kernel_rfl, by kernel_rfl⟩

def c_power_Power_Spend : CC := .seq (.reg [⟨some 2, .mov (.c (.bool false)), none⟩]) (.seq (.seq (.reg [⟨some 3, .mov (.t 0), none⟩, ⟨some 4, .call 48 [.t 3], none⟩, ⟨some 5, .not (.t 4), none⟩]) (.cond (.t 5) (.seq (.reg [⟨some 2, .mov (.c (.bool false)), none⟩]) .ret) .skip)) (.seq (.seq (.reg [⟨some 6, .mov (.t 0), none⟩, ⟨some 7, .nilck (.t 6), none⟩, ⟨some 8, .faddr 1 (.t 7), none⟩, ⟨some 9, .load 1 false (.t 8), none⟩, ⟨some 10, .mov (.t 9), none⟩, ⟨some 11, .mov (.t 0), some (10, true)⟩, ⟨some 12, .nilck (.t 11), some (10, true)⟩, ⟨some 13, .faddr 2 (.t 12), some (10, true)⟩, ⟨some 14, .load 1 false (.t 13), some (10, true)⟩, ⟨some 15, .bin .eql (.t 14) (.c (.int .i64 0)), some (10, true)⟩, ⟨some 16, .pick (.t 10) (.t 15) (.c (.bool false)), none⟩]) (.cond (.t 16) (.seq (.reg [⟨some 17, .mov (.t 0), none⟩, ⟨some 18, .nilck (.t 17), none⟩, ⟨some 19, .faddr 0 (.t 18), none⟩, ⟨none, .store 1 (.t 19) (.c (.bool true)), none⟩]) (.seq (.reg [⟨some 2, .mov (.c (.bool false)), none⟩]) .ret)) .skip)) (.seq (.seq (.reg [⟨some 20, .mov (.t 0), none⟩, ⟨some 21, .nilck (.t 20), none⟩, ⟨some 22, .faddr 1 (.t 21), none⟩, ⟨some 23, .load 1 false (.t 22), none⟩]) (.cond (.t 23) (.reg [⟨some 24, .mov (.t 0), none⟩, ⟨some 25, .nilck (.t 24), none⟩, ⟨some 26, .faddr 2 (.t 25), none⟩, ⟨some 27, .load 1 false (.t 26), none⟩, ⟨some 28, .bin .sub (.t 27) (.c (.int .i64 1)), none⟩, ⟨some 29, .nilck (.t 24), none⟩, ⟨some 30, .faddr 2 (.t 29), none⟩, ⟨none, .store 1 (.t 30) (.t 28), none⟩]) .skip)) (.seq (.reg [⟨some 31, .mov (.t 0), none⟩, ⟨some 32, .nilck (.t 31), none⟩, ⟨some 33, .faddr 3 (.t 32), none⟩, ⟨some 34, .load 1 false (.t 33), none⟩, ⟨some 35, .bin .add (.t 34) (.c (.int .i64 1)), none⟩, ⟨some 36, .nilck (.t 31), none⟩, ⟨some 37, .faddr 3 (.t 36), none⟩, ⟨none, .store 1 (.t 37) (.t 35), none⟩]) (.seq (.reg [⟨some 2, .mov (.c (.bool true)), none⟩]) .ret)))))
theorem is_power_Power_Spend : FnIs Tryz.prog 77 38 c_power_Power_Spend [.t 2] := ⟨Tryz.f77, _, Tryz.func77, rfl, rfl, by kernel_rfl, by kernel_rfl⟩

def c_power_Power_On : CC := .seq (.reg [⟨some 2, .mov (.c (.bool false)), none⟩]) (.seq (.reg [⟨some 3, .mov (.t 0), none⟩, ⟨some 4, .eqv .p true (.t 3) (.c .nilp), none⟩, ⟨some 5, .mov (.t 4), none⟩, ⟨some 6, .mov (.t 0), some (5, true)⟩, ⟨some 7, .nilck (.t 6), some (5, true)⟩, ⟨some 8, .faddr 0 (.t 7), some (5, true)⟩, ⟨some 9, .load 1 false (.t 8), some (5, true)⟩, ⟨some 10, .not (.t 9), some (5, true)⟩, ⟨some 11, .pick (.t 5) (.t 10) (.c (.bool false)), none⟩, ⟨some 2, .mov (.t 11), none⟩]) .ret)
theorem is_power_Power_On : FnIs Tryz.prog 48 12 c_power_Power_On [.t 2] := ⟨Tryz.f48, _, Tryz.func48, rfl, rfl, by kernel_rfl, by kernel_rfl⟩

def c_ssd_New : CC := .seq (.reg [⟨some 4, .mov (.c .nilp), none⟩]) (.seq (.seq (.reg [⟨some 5, .mov (.t 0), none⟩, ⟨some 6, .bin .lss (.t 5) (.c (.int .i64 0)), none⟩, ⟨some 7, .mov (.t 6), none⟩, ⟨some 8, .mov (.t 0), some (7, false)⟩, ⟨some 9, .bin .gtr (.t 8) (.c (.int .i64 65536)), some (7, false)⟩, ⟨some 10, .pick (.t 7) (.c (.bool true)) (.t 9), none⟩]) (.cond (.t 10) (.seq (.reg [⟨some 4, .mov (.c .nilp), none⟩]) .ret) .skip)) (.seq (.reg [⟨some 11, .mov (.t 1), none⟩, ⟨some 12, .mov (.t 0), none⟩, ⟨some 13, .mksl 1 [.int .u8 0] 1 (.t 12) (.t 12), none⟩, ⟨some 14, .build [.nilp, .nils, .nils, .nils] [(0, 1, .t 11), (1, 1, .t 13)], none⟩, ⟨some 15, .box 4 (.t 14), none⟩, ⟨some 4, .mov (.t 15), none⟩]) .ret))
theorem is_ssd_New : FnIs Tryz.prog 43 16 c_ssd_New [.t 4] := ⟨Tryz.f43, _, Tryz.func43, rfl, rfl, by kernel_rfl, by kernel_rfl⟩

def c_ssd_SSD_Size : CC := .seq (.reg [⟨some 2, .mov (.c (.int .i64 0)), none⟩]) (.seq (.seq (.reg [⟨some 3, .mov (.t 0), none⟩, ⟨some 4, .eqv .p false (.t 3) (.c .nilp), none⟩]) (.cond (.t 4) (.seq (.reg [⟨some 2, .mov (.c (.int .i64 0)), none⟩]) .ret) .skip)) (.seq (.reg [⟨some 5, .mov (.t 0), none⟩, ⟨some 6, .nilck (.t 5), none⟩, ⟨some 7, .faddr 1 (.t 6), none⟩, ⟨some 8, .load 1 false (.t 7), none⟩, ⟨some 9, .len (.t 8), none⟩, ⟨some 2, .mov (.t 9), none⟩]) .ret))
theorem is_ssd_SSD_Size : FnIs Tryz.prog 95 10 c_ssd_SSD_Size [.t 2] := ⟨Tryz.f95, _, Tryz.func95, rfl, rfl, by kernel_rfl, by kernel_rfl⟩

def c_ssd_SSD_is : CC := .seq (.reg [⟨some 6, .mov (.c (.bool false)), none⟩]) (.seq (.reg [⟨some 7, .mov (.t 0), none⟩, ⟨some 8, .eqv .p true (.t 7) (.c .nilp), none⟩, ⟨some 9, .mov (.t 8), none⟩, ⟨some 10, .mov (.t 1), some (9, true)⟩, ⟨some 11, .bin .geq (.t 10) (.c (.int .i64 0)), some (9, true)⟩, ⟨some 12, .pick (.t 9) (.t 11) (.c (.bool false)), none⟩, ⟨some 13, .mov (.t 12), none⟩, ⟨some 14, .mov (.t 2), some (13, true)⟩, ⟨some 15, .bin .geq (.t 14) (.c (.int .i64 0)), some (13, true)⟩, ⟨some 16, .pick (.t 13) (.t 15) (.c (.bool false)), none⟩, ⟨some 17, .mov (.t 16), none⟩, ⟨some 18, .mov (.t 1), some (17, true)⟩, ⟨some 19, .mov (.t 0), some (17, true)⟩, ⟨some 20, .call 95 [.t 19], some (17, true)⟩, ⟨some 21, .bin .leq (.t 18) (.t 20), some (17, true)⟩, ⟨some 22, .pick (.t 17) (.t 21) (.c (.bool false)), none⟩, ⟨some 23, .mov (.t 22), none⟩, ⟨some 24, .mov (.t 2), some (23, true)⟩, ⟨some 25, .mov (.t 0), some (23, true)⟩, ⟨some 26, .call 95 [.t 25], some (23, true)⟩, ⟨some 27, .mov (.t 1), some (23, true)⟩, ⟨some 28, .bin .sub (.t 26) (.t 27), some (23, true)⟩, ⟨some 29, .bin .leq (.t 24) (.t 28), some (23, true)⟩, ⟨some 30, .pick (.t 23) (.t 29) (.c (.bool false)), none⟩, ⟨some 6, .mov (.t 30), none⟩]) .ret)
theorem is_ssd_SSD_is : FnIs Tryz.prog 59 31 c_ssd_SSD_is [.t 6] := ⟨Tryz.f59, _, Tryz.func59, rfl, rfl, by kernel_rfl, by kernel_rfl⟩

def c_ssd_copied : CC := .seq (.reg [⟨some 1, .box 2 (.t 0), none⟩, ⟨some 2, .alloc [.int .i64 0, .nils], none⟩]) (.seq (.dreg [⟨some 3, .faddr 0 (.t 1), none⟩, ⟨some 4, .load 1 false (.t 3), none⟩, ⟨some 5, .faddr 1 (.t 1), none⟩, ⟨some 6, .load 1 false (.t 5), none⟩, ⟨some 7, .call 33 [.t 6], none⟩, ⟨some 8, .build [.int .i64 0, .nils] [(0, 1, .t 4), (1, 1, .t 7)], none⟩, ⟨none, .store 2 (.t 2) (.t 8), none⟩] [[], [0], [], [2], [3], [1, 4], [5, 4, 0, 1, 2, 3, 4, 5]]) .ret)
theorem is_ssd_copied : FnIs Tryz.prog 187 9 c_ssd_copied [.cell 2 2 true] := ⟨Tryz.f187, _, Tryz.func187, rfl, rfl, by kernel_rfl, by kernel_rfl⟩

def c_ssd_SSD_Write : CC := .seq (.reg [⟨some 6, .mov (.c (.bool false)), none⟩]) (.seq (.seq (.reg [⟨some 8, .mov (.t 0), none⟩, ⟨some 9, .mov (.t 1), none⟩, ⟨some 10, .mov (.t 2), none⟩, ⟨some 11, .len (.t 10), none⟩, ⟨some 12, .call 59 [.t 8, .t 9, .t 11], none⟩, ⟨some 13, .not (.t 12), none⟩, ⟨some 14, .mov (.t 13), none⟩, ⟨some 15, .mov (.t 0), some (14, false)⟩, ⟨some 16, .nilck (.t 15), some (14, false)⟩, ⟨some 17, .faddr 0 (.t 16), some (14, false)⟩, ⟨some 18, .load 1 false (.t 17), some (14, false)⟩, ⟨some 19, .call 77 [.t 18], some (14, false)⟩, ⟨some 20, .not (.t 19), some (14, false)⟩, ⟨some 21, .pick (.t 14) (.c (.bool true)) (.t 20), none⟩]) (.cond (.t 21) (.seq (.reg [⟨some 6, .mov (.c (.bool false)), none⟩]) .ret) .skip)) (.seq (.reg [⟨some 22, .mov (.t 1), none⟩, ⟨some 23, .mov (.t 2), none⟩, ⟨some 24, .build [.int .i64 0, .nils] [(0, 1, .t 22), (1, 1, .t 23)], none⟩, ⟨some 7, .alloc [.int .i64 0, .nils], none⟩, ⟨none, .store 2 (.t 7) (.t 24), none⟩]) (.seq (.dreg [⟨some 25, .mov (.t 0), none⟩, ⟨some 26, .mov (.t 0), none⟩, ⟨some 27, .nilck (.t 26), none⟩, ⟨some 28, .faddr 2 (.t 27), none⟩, ⟨some 29, .load 1 false (.t 28), none⟩, ⟨some 30, .load 2 true (.t 7), none⟩, ⟨some 31, .call 187 [.t 30], none⟩, ⟨some 32, .bsl 2 [.t 31], none⟩, ⟨some 33, .app 2 32 (.t 29) (.t 32), none⟩, ⟨some 34, .nilck (.t 25), none⟩, ⟨some 35, .faddr 2 (.t 34), none⟩, ⟨none, .store 1 (.t 35) (.t 33), none⟩] [[], [], [1], [2], [3], [], [5], [6], [4, 7, 6], [0, 0, 1, 2, 3, 4, 5, 6, 7, 8], [9, 0, 1, 2, 3, 4, 5, 6, 7, 8], [10, 8, 8, 0, 1, 2, 3, 4, 5, 6, 7, 8]]) (.seq (.dreg [⟨some 36, .mov (.t 0), none⟩, ⟨some 37, .mov (.t 0), none⟩, ⟨some 38, .nilck (.t 37), none⟩, ⟨some 39, .faddr 3 (.t 38), none⟩, ⟨some 40, .load 1 false (.t 39), none⟩, ⟨some 41, .load 2 true (.t 7), none⟩, ⟨some 42, .call 187 [.t 41], none⟩, ⟨some 43, .bsl 2 [.t 42], none⟩, ⟨some 44, .app 2 32 (.t 40) (.t 43), none⟩, ⟨some 45, .nilck (.t 36), none⟩, ⟨some 46, .faddr 3 (.t 45), none⟩, ⟨none, .store 1 (.t 46) (.t 44), none⟩] [[], [], [1], [2], [3], [], [5], [6], [4, 7, 6], [0, 0, 1, 2, 3, 4, 5, 6, 7, 8], [9, 0, 1, 2, 3, 4, 5, 6, 7, 8], [10, 8, 8, 0, 1, 2, 3, 4, 5, 6, 7, 8]]) (.seq (.reg [⟨some 6, .mov (.c (.bool true)), none⟩]) .ret)))))
theorem is_ssd_SSD_Write : FnIs Tryz.prog 173 47 c_ssd_SSD_Write [.t 6] := ⟨Tryz.f173, _, Tryz.func173, rfl, rfl, by kernel_rfl, by kernel_rfl⟩

def c_disk_New : CC := .seq (.reg [⟨some 2, .mov (.c .nilp), none⟩]) (.seq (.reg [⟨some 5, .mov (.t 0), none⟩, ⟨some 6, .build [.nilp, .nils, .nils, .nils, .nils, .nils, .nils, .nils, .nils, .nils, .nils, .nils, .nils, .nils, .nils, .nils, .nils, .nils, .nils, .nils, .nils, .nils, .nils, .nils, .nils, .nils, .nils, .nils, .nils, .nils, .nils, .nils, .nils, .nils, .nils, .bool false] [(0, 1, .t 5)], none⟩, ⟨some 7, .box 36 (.t 6), none⟩, ⟨some 3, .mov (.t 7), none⟩]) (.seq (.seq (.reg [⟨some 8, .mov (.c (.int .i64 0)), none⟩]) (.block 0 (.loop (.seq (.reg [⟨some 9, .bin .lss (.t 8) (.c (.int .i64 32)), none⟩]) (.seq (.cond (.t 9) .skip (.exit 0)) (.seq (.block 1 (.seq (.reg [⟨some 10, .mov (.t 8), none⟩, ⟨some 4, .mov (.t 10), none⟩]) (.dreg [⟨some 11, .mov (.t 3), none⟩, ⟨some 12, .mov (.t 4), none⟩, ⟨some 13, .mksl 1 [.int .u8 0] 1 (.c (.int .i64 32)) (.c (.int .i64 32)), none⟩, ⟨some 14, .nilck (.t 11), none⟩, ⟨some 15, .faddr 1 (.t 14), none⟩, ⟨some 16, .iaddrA 32 1 (.t 15) (.t 12), none⟩, ⟨none, .store 1 (.t 16) (.t 13), none⟩] [[], [], [], [0], [3], [4, 1, 0, 1, 2], [5, 2, 0, 1, 2]]))) (.reg [⟨some 17, .bin .add (.t 8) (.c (.int .i64 1)), none⟩, ⟨some 8, .mov (.t 17), none⟩]))))))) (.seq (.reg [⟨some 18, .mov (.t 3), none⟩, ⟨some 2, .mov (.t 18), none⟩]) .ret)))
theorem is_disk_New : FnIs Tryz.prog 45 19 c_disk_New [.t 2] := ⟨Tryz.f45, _, Tryz.func45, rfl, rfl, by kernel_rfl, by kernel_rfl⟩

def c_count_New : CC := .seq (.reg [⟨some 2, .mov (.c .nilp), none⟩]) (.seq (.reg [⟨some 3, .mov (.t 0), none⟩, ⟨some 4, .build [.nilp, .int .u64 0, .int .u64 0, .int .u64 0] [(0, 1, .t 3)], none⟩, ⟨some 5, .box 4 (.t 4), none⟩, ⟨some 2, .mov (.t 5), none⟩]) .ret)
theorem is_count_New : FnIs Tryz.prog 46 6 c_count_New [.t 2] := ⟨Tryz.f46, _, Tryz.func46, rfl, rfl, by kernel_rfl, by kernel_rfl⟩

def c_count_Counter_Value : CC := .seq (.reg [⟨some 2, .mov (.c (.int .u64 0)), none⟩]) (.seq (.seq (.reg [⟨some 3, .mov (.t 0), none⟩, ⟨some 4, .eqv .p false (.t 3) (.c .nilp), none⟩]) (.cond (.t 4) (.seq (.reg [⟨some 2, .mov (.c (.int .u64 0)), none⟩]) .ret) .skip)) (.seq (.reg [⟨some 5, .mov (.t 0), none⟩, ⟨some 6, .nilck (.t 5), none⟩, ⟨some 7, .faddr 1 (.t 6), none⟩, ⟨some 8, .load 1 false (.t 7), none⟩, ⟨some 2, .mov (.t 8), none⟩]) .ret))
theorem is_count_Counter_Value : FnIs Tryz.prog 78 9 c_count_Counter_Value [.t 2] := ⟨Tryz.f78, _, Tryz.func78, rfl, rfl, by kernel_rfl, by kernel_rfl⟩

def c_count_Counter_Boots : CC := .seq (.reg [⟨some 2, .mov (.c (.int .u64 0)), none⟩]) (.seq (.seq (.reg [⟨some 3, .mov (.t 0), none⟩, ⟨some 4, .eqv .p false (.t 3) (.c .nilp), none⟩]) (.cond (.t 4) (.seq (.reg [⟨some 2, .mov (.c (.int .u64 0)), none⟩]) .ret) .skip)) (.seq (.reg [⟨some 5, .mov (.t 0), none⟩, ⟨some 6, .nilck (.t 5), none⟩, ⟨some 7, .faddr 2 (.t 6), none⟩, ⟨some 8, .load 1 false (.t 7), none⟩, ⟨some 2, .mov (.t 8), none⟩]) .ret))
theorem is_count_Counter_Boots : FnIs Tryz.prog 52 9 c_count_Counter_Boots [.t 2] := ⟨Tryz.f52, _, Tryz.func52, rfl, rfl, by kernel_rfl, by kernel_rfl⟩

def c_count_Counter_Boot : CC := .seq (.reg [⟨some 2, .mov (.c (.bool false)), none⟩]) (.seq (.seq (.reg [⟨some 3, .mov (.t 0), none⟩, ⟨some 4, .eqv .p false (.t 3) (.c .nilp), none⟩, ⟨some 5, .mov (.t 4), none⟩, ⟨some 6, .mov (.t 0), some (5, false)⟩, ⟨some 7, .nilck (.t 6), some (5, false)⟩, ⟨some 8, .faddr 0 (.t 7), some (5, false)⟩, ⟨some 9, .load 1 false (.t 8), some (5, false)⟩, ⟨some 10, .call 77 [.t 9], some (5, false)⟩, ⟨some 11, .not (.t 10), some (5, false)⟩, ⟨some 12, .pick (.t 5) (.c (.bool true)) (.t 11), none⟩]) (.cond (.t 12) (.seq (.reg [⟨some 2, .mov (.c (.bool false)), none⟩]) .ret) .skip)) (.seq (.reg [⟨some 13, .mov (.t 0), none⟩, ⟨some 14, .nilck (.t 13), none⟩, ⟨some 15, .faddr 2 (.t 14), none⟩, ⟨some 16, .load 1 false (.t 15), none⟩, ⟨some 17, .bin .add (.t 16) (.c (.int .u64 1)), none⟩, ⟨some 18, .nilck (.t 13), none⟩, ⟨some 19, .faddr 2 (.t 18), none⟩, ⟨none, .store 1 (.t 19) (.t 17), none⟩]) (.seq (.reg [⟨some 2, .mov (.c (.bool true)), none⟩]) .ret)))
theorem is_count_Counter_Boot : FnIs Tryz.prog 49 20 c_count_Counter_Boot [.t 2] := ⟨Tryz.f49, _, Tryz.func49, rfl, rfl, by kernel_rfl, by kernel_rfl⟩

def c_keys_New : CC := .seq (.reg [⟨some 4, .mov (.c .nilp), none⟩]) (.seq (.reg [⟨some 5, .mov (.t 1), none⟩, ⟨some 6, .mov (.t 0), none⟩, ⟨some 7, .bsl 1 [.c (.int .u32 1)], none⟩, ⟨some 8, .build [.nilp, .int .u64 0, .nils] [(0, 1, .t 5), (1, 1, .t 6), (2, 1, .t 7)], none⟩, ⟨some 9, .box 3 (.t 8), none⟩, ⟨some 4, .mov (.t 9), none⟩]) .ret)
theorem is_keys_New : FnIs Tryz.prog 47 10 c_keys_New [.t 4] := ⟨Tryz.f47, _, Tryz.func47, rfl, rfl, by kernel_rfl, by kernel_rfl⟩

def c_keys_Of : CC := .seq (.reg [⟨some 4, .alloc [.int .u64 0, .int .u64 0], none⟩]) (.seq (.reg [⟨some 5, .mov (.t 0), none⟩, ⟨some 6, .mov (.t 0), none⟩, ⟨some 7, .build [.int .u64 0, .int .u64 0] [(0, 1, .t 5), (1, 1, .t 6)], none⟩, ⟨some 8, .mov (.t 1), none⟩, ⟨some 9, .conv .u64 (.t 8), none⟩, ⟨some 10, .build [.int .u64 0, .int .u64 0] [(0, 1, .c (.int .u64 0)), (1, 1, .t 9)], none⟩, ⟨some 11, .call 98 [.t 7, .t 10], none⟩, ⟨none, .store 2 (.t 4) (.t 11), none⟩]) .ret)
theorem is_keys_Of : FnIs Tryz.prog 65 12 c_keys_Of [.cell 4 2 true] := ⟨Tryz.f65, _, Tryz.func65, rfl, rfl, by kernel_rfl, by kernel_rfl⟩

def c_keys_Keys_Current : CC := .seq (.reg [⟨some 2, .mov (.c (.int .u32 0)), none⟩]) (.seq (.seq (.reg [⟨some 3, .mov (.t 0), none⟩, ⟨some 4, .eqv .p false (.t 3) (.c .nilp), none⟩]) (.cond (.t 4) (.seq (.reg [⟨some 2, .mov (.c (.int .u32 0)), none⟩]) .ret) .skip)) (.seq (.dreg [⟨some 5, .mov (.t 0), none⟩, ⟨some 6, .nilck (.t 5), none⟩, ⟨some 7, .faddr 2 (.t 6), none⟩, ⟨some 8, .load 1 false (.t 7), none⟩, ⟨some 9, .mov (.t 0), none⟩, ⟨some 10, .nilck (.t 9), none⟩, ⟨some 11, .faddr 2 (.t 10), none⟩, ⟨some 12, .load 1 false (.t 11), none⟩, ⟨some 13, .len (.t 12), none⟩, ⟨some 14, .bin .sub (.t 13) (.c (.int .i64 1)), none⟩, ⟨some 15, .iaddr 1 (.t 8) (.t 14), none⟩, ⟨some 16, .load 1 false (.t 15), none⟩, ⟨some 2, .mov (.t 16), none⟩] [[], [0], [1], [2], [], [4], [5], [6], [7], [8], [3, 9], [10], [11, 0, 1, 2, 3, 4, 5, 6, 7, 8, 9, 10, 11]]) .ret))
theorem is_keys_Keys_Current : FnIs Tryz.prog 127 17 c_keys_Keys_Current [.t 2] := ⟨Tryz.f127, _, Tryz.func127, rfl, rfl, by kernel_rfl, by kernel_rfl⟩

def c_keys_Keys_Key : CC := .seq (.reg [⟨some 4, .alloc [.int .u64 0, .int .u64 0], none⟩, ⟨some 5, .mov (.c (.bool false)), none⟩]) (.seq (.seq (.reg [⟨some 6, .mov (.t 0), none⟩, ⟨some 7, .call 64 [.t 6], none⟩, ⟨some 8, .mov (.t 1), none⟩, ⟨some 9, .call 63 [.t 7, .t 8], none⟩, ⟨some 10, .not (.t 9), none⟩]) (.cond (.t 10) (.seq (.reg [⟨some 11, .build [.int .u64 0, .int .u64 0] [], none⟩, ⟨none, .store 2 (.t 4) (.t 11), none⟩, ⟨some 5, .mov (.c (.bool false)), none⟩]) .ret) .skip)) (.seq (.reg [⟨some 12, .mov (.t 0), none⟩, ⟨some 13, .nilck (.t 12), none⟩, ⟨some 14, .faddr 1 (.t 13), none⟩, ⟨some 15, .load 1 false (.t 14), none⟩, ⟨some 16, .mov (.t 1), none⟩, ⟨some 17, .call 65 [.t 15, .t 16], none⟩, ⟨none, .store 2 (.t 4) (.t 17), none⟩, ⟨some 5, .mov (.c (.bool true)), none⟩]) .ret))
theorem is_keys_Keys_Key : FnIs Tryz.prog 35 18 c_keys_Keys_Key [.cell 4 2 true, .t 5] := ⟨Tryz.f35, _, Tryz.func35, rfl, rfl, by kernel_rfl, by kernel_rfl⟩

def c_keys_Keys_Epochs : CC := .seq (.reg [⟨some 2, .mov (.c .nils), none⟩]) (.seq (.seq (.reg [⟨some 3, .mov (.t 0), none⟩, ⟨some 4, .eqv .p false (.t 3) (.c .nilp), none⟩]) (.cond (.t 4) (.seq (.reg [⟨some 2, .mov (.c .nils), none⟩]) .ret) .skip)) (.seq (.reg [⟨some 5, .mov (.t 0), none⟩, ⟨some 6, .nilck (.t 5), none⟩, ⟨some 7, .faddr 2 (.t 6), none⟩, ⟨some 8, .load 1 false (.t 7), none⟩, ⟨some 9, .call 97 [.t 8], none⟩, ⟨some 2, .mov (.t 9), none⟩]) .ret))
theorem is_keys_Keys_Epochs : FnIs Tryz.prog 64 10 c_keys_Keys_Epochs [.t 2] := ⟨Tryz.f64, _, Tryz.func64, rfl, rfl, by kernel_rfl, by kernel_rfl⟩

def c_slices_Containsuint32_uint32 : CC := .seq (.reg [⟨some 4, .mov (.c (.bool false)), none⟩]) (.seq (.reg [⟨some 5, .mov (.t 0), none⟩, ⟨some 6, .mov (.t 1), none⟩, ⟨some 7, .call 96 [.t 5, .t 6], none⟩, ⟨some 8, .bin .geq (.t 7) (.c (.int .i64 0)), none⟩, ⟨some 4, .mov (.t 8), none⟩]) .ret)
theorem is_slices_Containsuint32_uint32 : FnIs Tryz.prog 63 9 c_slices_Containsuint32_uint32 [.t 4] := ⟨Tryz.f63, _, Tryz.func63, rfl, rfl, by kernel_rfl, by kernel_rfl⟩

def c_slices_Indexuint32_uint32 : CC := .seq (.reg [⟨some 4, .mov (.c (.int .i64 0)), none⟩]) (.seq (.seq (.reg [⟨some 6, .mov (.t 0), none⟩, ⟨some 7, .len (.t 6), none⟩, ⟨some 8, .mov (.c (.int .i64 0)), none⟩]) (.block 0 (.loop (.seq (.reg [⟨some 9, .bin .lss (.t 8) (.t 7), none⟩]) (.seq (.cond (.t 9) .skip (.exit 0)) (.seq (.block 1 (.seq (.reg [⟨some 10, .mov (.t 8), none⟩, ⟨some 5, .mov (.t 10), none⟩]) (.seq (.reg [⟨some 11, .mov (.t 1), none⟩, ⟨some 12, .mov (.t 0), none⟩, ⟨some 13, .mov (.t 5), none⟩, ⟨some 14, .iaddr 1 (.t 12) (.t 13), none⟩, ⟨some 15, .load 1 false (.t 14), none⟩, ⟨some 16, .bin .eql (.t 11) (.t 15), none⟩]) (.cond (.t 16) (.seq (.reg [⟨some 17, .mov (.t 5), none⟩, ⟨some 4, .mov (.t 17), none⟩]) .ret) .skip)))) (.reg [⟨some 18, .bin .add (.t 8) (.c (.int .i64 1)), none⟩, ⟨some 8, .mov (.t 18), none⟩]))))))) (.seq (.reg [⟨some 4, .mov (.c (.int .i64 (-1))), none⟩]) .ret))
theorem is_slices_Indexuint32_uint32 : FnIs Tryz.prog 96 19 c_slices_Indexuint32_uint32 [.t 4] := ⟨Tryz.f96, _, Tryz.func96, rfl, rfl, by kernel_rfl, by kernel_rfl⟩

def c_slices_Cloneuint32_uint32 : CC := .seq (.reg [⟨some 2, .mov (.c .nils), none⟩]) (.seq (.seq (.reg [⟨some 3, .mov (.t 0), none⟩, ⟨some 4, .isnil false (.t 3), none⟩]) (.cond (.t 4) (.seq (.reg [⟨some 2, .mov (.c .nils), none⟩]) .ret) .skip)) (.seq (.reg [⟨some 5, .bsl0, none⟩, ⟨some 6, .mov (.t 0), none⟩, ⟨some 7, .app 1 4 (.t 5) (.t 6), none⟩, ⟨some 2, .mov (.t 7), none⟩]) .ret))
theorem is_slices_Cloneuint32_uint32 : FnIs Tryz.prog 97 8 c_slices_Cloneuint32_uint32 [.t 2] := ⟨Tryz.f97, _, Tryz.func97, rfl, rfl, by kernel_rfl, by kernel_rfl⟩

end Go.Proofs.YtafkhpjnihnfpaaGreat


namespace Go.Proofs.YtafkhpjnihnfpaaGreat
open Go Go.Abs

theorem hp_ext' {h k : AHeap} (h1 : ∀ i, h.get i = k.get i) (h2 : h.next = k.next) (h3 : ∀ i, h.gap i = k.gap i) : h = k := by
  cases h; cases k
  simp only at h1 h2 h3
  rw [funext h1, h2, funext h3]
theorem set_self {h : AHeap} {s : Nat} {x : Option AObj} (hs : h.get s = x) : h.set s x = h :=
  hp_ext' (fun i => by rw [get_set]; split; · rename_i e; rw [e, hs]
                       · rfl) rfl fun _ => rfl
theorem clo_flat4 {N : Nat → Prop} {n : Nat} {row : List AV} (h : ∀ v ∈ row, AV.flat v = true) : CloObj N (.mem n [row]) := by
  intro x hx v hv
  simp only [List.mem_singleton] at hx
  subst hx
  exact clo_flat (h v hv)
theorem PwS.flat (s : PwS) : ∀ v ∈ s.row, AV.flat v = true := by simp [PwS.row, AV.flat]
theorem fz_unit {h h1 : AHeap} : Fz h h1 (Go.Abs.fin []) (.tup []) := .clo _ (.tup _ (by simp))
theorem power_On_ae {h : AHeap} {p : Nat} {s : PwS} (hp : h.get p = some (.mem 4 [s.row])) : AE Tryz.prog 48 [.ptr p 0 0] h (.bool (!s.gone)) h := by
  refine AE.wf fun hwf => ?_
  have h0 := hwf _ _ hp
  refine AE.pureW is_power_Power_On (by simp) ?_
  unfold c_power_Power_On
  simp only [PwS.row] at hp
  (refine go ?_)
  refine WW.ret (PureQ.finD ?_)
  exact fz_b rfl
theorem power_Spend_ae {h : AHeap} {p k : Nat} {s : PwS} (hp : h.get p = some (.mem 4 [s.row])) (hk : s.Ok k) (hkk : k ≤ 1000000000) : AE Tryz.prog 77 [.ptr p 0 0] h (.bool s.can) (h.set p (some (.mem 4 [s.spend.row]))) := by
  refine AE.wf fun hwf => ?_
  have h0 := hwf _ _ hp
  refine AE.effW is_power_Power_Spend (by simp) (Ext.set Ext.refl (Nm.old hp) (clo_flat4 (PwS.flat _))) ?_
  unfold c_power_Power_Spend
  have hp' := hp
  simp only [PwS.row] at hp'
  (refine go ?_)
  refine WL.call rfl (by first | exact True.intro | exact rfl) gSL (power_On_ae hp) ?_
  (refine go ?_)
  obtain ⟨k1, k2, k3, k4⟩ := hk
  cases hg : s.gone with
  | true =>
    rw [hg] at hp'
    (refine go ?_)
    refine WW.ret (EffQ.finD ?_ ?_)
    · rw [PwS.spend, if_pos hg, set_self hp]; exact Keeps.refl _
    · exact fz_b (by simp [PwS.can, hg])
  | false =>
    rw [hg] at hp'
    (refine go ?_)
    cases hf : s.fuse with
    | true =>
      rw [hf] at hp'
      have k5 := k1 hf
      (refine go ?_)
      (refine WW.ifB rfl (fun hz1 => ?_) (fun hz1 => ?_))
      · (refine go ?_)
        refine WW.ret (EffQ.finD ?_ ?_)
        · rw [PwS.spend, if_neg (by simp [hg]), if_pos (by simp [hf, hz1])]; refine ⟨gLE, fun id hu => ?_⟩; have hlt : id < AHeap.next h := hu.1; simp only [get_put, get_set]; (repeat' split) <;> first | rfl | omega | (simp [PwS.row, hf]; done)
        · exact fz_b (by simp [PwS.can, hg, hf, hz1])
      · (refine go ?_)
        refine WW.ret (EffQ.finD ?_ ?_)
        · rw [PwS.spend, if_neg (by simp [hg]), if_neg (by simp [hf, hz1]), if_pos hf]; refine ⟨gLE, fun id hu => ?_⟩; have hlt : id < AHeap.next h := hu.1; simp only [get_put, get_set]; (repeat' split) <;> first | rfl | omega | (simp [PwS.row, hf, hg]; done)
        · exact fz_b (by simp [PwS.can, hg, hf, hz1])
    | false =>
      rw [hf] at hp'
      (refine go ?_)
      refine WW.ret (EffQ.finD ?_ ?_)
      · rw [PwS.spend, if_neg (by simp [hg]), if_neg (by simp [hf]), if_neg (by simp [hf])]; refine ⟨gLE, fun id hu => ?_⟩; have hlt : id < AHeap.next h := hu.1; simp only [get_put, get_set]; (repeat' split) <;> first | rfl | omega | (simp [PwS.row, hf, hg]; done)
      · exact fz_b (by simp [PwS.can, hg, hf])
end Go.Proofs.YtafkhpjnihnfpaaGreat


namespace Go.Proofs.YtafkhpjnihnfpaaGreat
open Go Go.Abs

theorem clo_row {N : Nat → Prop} {n p : Nat} {row : List AV} (hp : N p) (h : ∀ v ∈ row, AV.flat v = true) : CloObj N (.mem n [.ptr p 0 0 :: row]) := by
  intro x hx v hv
  simp only [List.mem_singleton] at hx
  subst hx
  rcases List.mem_cons.1 hv with rfl | hv
  · exact .ptr _ _ _ hp
  · exact clo_flat (h v hv)
theorem power_New_ae {h : AHeap} {nx : Nat} (hn : h.next = nx) : AE Tryz.prog 40 [] h (.ptr nx 0 0) (h.put nx (.mem 4 [(⟨false, false, 0, 0⟩ : PwS).row])) := by
  subst hn
  refine AC.introW is_power_New (by simp) ?_
  unfold c_power_New
  (refine go ?_)
  exact WW.ret ⟨.inl rfl, _, gRES, rfl, rfl⟩
def CtS.obj (p : Nat) (c : CtS) : AObj := .mem 4 [.ptr p 0 0 :: c.row]
theorem CtS.flat (s : CtS) : ∀ v ∈ s.row, AV.flat v = true := by simp [CtS.row, AV.flat]
structure CtS.Ok (c : CtS) (k : Nat) : Prop where
  v : 0 ≤ c.value ∧ c.value ≤ k
  b : 0 ≤ c.boots ∧ c.boots ≤ k
  a : 0 ≤ c.at' ∧ c.at' ≤ k
def CtS.boot (c : CtS) (ok : Bool) : CtS := if ok then { c with boots := c.boots + 1 } else c
def CtS.bump (c : CtS) (ok : Bool) : CtS := if ok then { c with value := c.value + 1, at' := c.boots } else c
theorem CtS.Ok.boot {c : CtS} {k : Nat} (h : c.Ok k) (ok : Bool) : (c.boot ok).Ok (k + 1) := by
  obtain ⟨h1, h2, h3⟩ := h
  cases ok
  · exact ⟨by show 0 ≤ c.value ∧ c.value ≤ _; omega, by show 0 ≤ c.boots ∧ c.boots ≤ _; omega, by show 0 ≤ c.at' ∧ c.at' ≤ _; omega⟩
  · exact ⟨by show 0 ≤ c.value ∧ c.value ≤ _; omega, by show 0 ≤ c.boots + 1 ∧ c.boots + 1 ≤ _; omega, by show 0 ≤ c.at' ∧ c.at' ≤ _; omega⟩
theorem CtS.Ok.bump {c : CtS} {k : Nat} (h : c.Ok k) (ok : Bool) : (c.bump ok).Ok (k + 1) := by
  obtain ⟨h1, h2, h3⟩ := h
  cases ok
  · exact ⟨by show 0 ≤ c.value ∧ c.value ≤ _; omega, by show 0 ≤ c.boots ∧ c.boots ≤ _; omega, by show 0 ≤ c.at' ∧ c.at' ≤ _; omega⟩
  · exact ⟨by show 0 ≤ c.value + 1 ∧ c.value + 1 ≤ _; omega, by show 0 ≤ c.boots ∧ c.boots ≤ _; omega, by show 0 ≤ c.boots ∧ c.boots ≤ _; omega⟩
theorem count_New_ae {h : AHeap} {nx p : Nat} (hn : h.next = nx) : AE Tryz.prog 46 [.ptr p 0 0] h (.ptr nx 0 0) (h.put nx (CtS.obj p ⟨0, 0, 0⟩)) := by
  subst hn
  refine AC.introW is_count_New (by simp) ?_
  unfold c_count_New
  (refine go ?_)
  exact WW.ret ⟨.inl rfl, _, gRES, rfl, rfl⟩
theorem count_Value_ae {h : AHeap} {p c : Nat} {s : CtS} (hc : h.get c = some (s.obj p)) : AE Tryz.prog 78 [.ptr c 0 0] h (.int .u64 s.value) h := by
  refine AE.wf fun hwf => ?_
  have h0 := hwf _ _ hc
  refine AE.pureW is_count_Counter_Value (by simp) ?_
  unfold c_count_Counter_Value
  simp only [CtS.obj, CtS.row] at hc
  (refine go ?_)
  refine WW.ret (PureQ.finD ?_)
  exact .clo _ (.int _ _)
theorem count_Boots_ae {h : AHeap} {p c : Nat} {s : CtS} (hc : h.get c = some (s.obj p)) : AE Tryz.prog 52 [.ptr c 0 0] h (.int .u64 s.boots) h := by
  refine AE.wf fun hwf => ?_
  have h0 := hwf _ _ hc
  refine AE.pureW is_count_Counter_Boots (by simp) ?_
  unfold c_count_Counter_Boots
  simp only [CtS.obj, CtS.row] at hc
  (refine go ?_)
  refine WW.ret (PureQ.finD ?_)
  exact .clo _ (.int _ _)
/-- Power and one more object are turned. -/
theorem ext_pw {h : AHeap} {p c : Nat} {x y : AObj} {s s' : PwS} (hp : h.get p = some (.mem 4 [s.row])) (hc : h.get c = some x) (hy : CloObj (Nm h (h.set p (some (.mem 4 [s'.row])))) y) : Ext h ((h.set p (some (.mem 4 [s'.row]))).set c (some y)) :=
  Ext.set (Ext.set Ext.refl (Nm.old hp) (clo_flat4 (PwS.flat _))) (Nm.old hc) hy
theorem count_Boot_ae {h : AHeap} {p c k : Nat} {w : PwS} {s : CtS} (hp : h.get p = some (.mem 4 [w.row])) (hc : h.get c = some (s.obj p)) (hw : w.Ok k) (hs : s.Ok k) (hk : k ≤ 1000000000) :
    AE Tryz.prog 49 [.ptr c 0 0] h (.bool w.can) ((h.set p (some (.mem 4 [w.spend.row]))).set c (some ((s.boot w.can).obj p))) := by
  refine AE.wf fun hwf => ?_
  have h0 := hwf _ _ hc
  have h1 := hwf _ _ hp
  have hne : p ≠ c := by rintro rfl; rw [hp] at hc; simp [CtS.obj, PwS.row, CtS.row] at hc
  refine AE.effW is_count_Counter_Boot (by simp) (ext_pw hp hc (clo_row (Nm.old hp) (CtS.flat _))) ?_
  unfold c_count_Counter_Boot
  have hc' := hc
  simp only [CtS.obj, CtS.row] at hc'
  (refine go ?_)
  refine WL.call rfl (by first | exact True.intro | exact rfl) gSL (power_Spend_ae hp hw hk) ?_
  obtain ⟨b1, b2, b3⟩ := hs
  cases hcan : w.can with
  | false =>
    (refine go ?_)
    refine WW.ret (EffQ.finD ?_ ?_)
    · rw [CtS.boot, if_neg (by simp), set_self (x := some (s.obj p)) (get_set_neE (Ne.symm hne) hc)]; exact Keeps.refl _
    · exact fz_b rfl
  | true =>
    (refine go ?_)
    refine WW.ret (EffQ.finD ?_ ?_)
    · rw [CtS.boot, if_pos rfl]; refine ⟨gLE, fun id hu => ?_⟩; have hlt : id < AHeap.next h := hu.1; simp only [get_put, get_set]; (repeat' split) <;> first | rfl | omega | (simp [CtS.obj, CtS.row]; done)
    · exact fz_b rfl
end Go.Proofs.YtafkhpjnihnfpaaGreat


namespace Go.Proofs.YtafkhpjnihnfpaaGreat
open Go Go.Abs

/-- The names of a device's objects. -/
structure SdN where
  p : Nat
  s : Nat
  B : Nat
  w : Nat
  t : Nat
def SdS.obj (n : SdN) (x : SdS) : AObj := .mem 4 [[.ptr n.p 0 0, .ref n.B 0 x.lasts.length, .app n.w x.gen 2 (x.waits.map encO), .app n.t 0 2 (x.trace.map encO)]]
structure SdAt (h : AHeap) (n : SdN) (w : PwS) (x : SdS) : Prop where
  pw : h.get n.p = some (.mem 4 [w.row])
  ob : h.get n.s = some (x.obj n)
  bl : h.get n.B = some (.mem 1 (x.lasts.map encB))
  wt : h.get n.w = some (.tail x.gen x.waits.length)
  tr : h.get n.t = some (.tail 0 x.trace.length)
  ne : n.w ≠ n.t
theorem sdAt_of {h : AHeap} {p s B w t : Nat} {pw : PwS} {x : SdS} (h1 : h.get p = some (.mem 4 [pw.row])) (h2 : h.get s = some (.mem 4 [[.ptr p 0 0, .ref B 0 x.lasts.length, .app w x.gen 2 (x.waits.map encO), .app t 0 2 (x.trace.map encO)]])) (h3 : h.get B = some (.mem 1 (x.lasts.map encB))) (h4 : h.get w = some (.tail x.gen x.waits.length)) (h5 : h.get t = some (.tail 0 x.trace.length)) (h6 : w ≠ t) : SdAt h ⟨p, s, B, w, t⟩ pw x := ⟨h1, h2, h3, h4, h5, h6⟩
structure SdNe (h : AHeap) (n : SdN) : Prop where
  a1 : n.p < h.next
  a2 : n.s < h.next
  a3 : n.B < h.next
  a4 : n.w < h.next
  a5 : n.t < h.next
  b1 : n.p ≠ n.s
  b2 : n.p ≠ n.B
  b3 : n.p ≠ n.w
  b4 : n.p ≠ n.t
  b5 : n.s ≠ n.B
  b6 : n.s ≠ n.w
  b7 : n.s ≠ n.t
  b8 : n.B ≠ n.w
  b9 : n.B ≠ n.t
  bx : n.w ≠ n.t
theorem SdNe.mono {h h' : AHeap} {n : SdN} (hn : SdNe h n) (hh : h.next ≤ h'.next) : SdNe h' n := by
  obtain ⟨a1, a2, a3, a4, a5, b1, b2, b3, b4, b5, b6, b7, b8, b9, bx⟩ := hn
  exact ⟨by omega, by omega, by omega, by omega, by omega, b1, b2, b3, b4, b5, b6, b7, b8, b9, bx⟩
theorem SdAt.nes {h : AHeap} {n : SdN} {w : PwS} {x : SdS} (hd : SdAt h n w x) (hwf : ∀ id y, h.get id = some y → id < h.next) : SdNe h n := by
  obtain ⟨q1, q2, q3, q4, q5, q6⟩ := hd
  have key : ∀ {i j : Nat} {y z : AObj}, h.get i = some y → h.get j = some z → y ≠ z → i ≠ j := fun hi hj hne e => by
    subst e; rw [hi] at hj; exact hne (Option.some.inj hj)
  refine ⟨hwf _ _ q1, hwf _ _ q2, hwf _ _ q3, hwf _ _ q4, hwf _ _ q5, key q1 q2 ?_, key q1 q3 ?_, key q1 q4 ?_, key q1 q5 ?_, key q2 q3 ?_, key q2 q4 ?_, key q2 q5 ?_, key q3 q4 ?_, key q3 q5 ?_, q6⟩ <;> simp [SdS.obj, PwS.row]
/-- All of a device's objects anew. -/
def sdPut (n : SdN) (w : PwS) (x : SdS) (h : AHeap) : AHeap := ((((h.set n.p (some (.mem 4 [w.row]))).set n.B (some (.mem 1 (x.lasts.map encB)))).set n.w (some (.tail x.gen x.waits.length))).set n.t (some (.tail 0 x.trace.length))).set n.s (some (x.obj n))
theorem clo_encO (x : Wr) : ∀ v ∈ encO x, ∀ N, Clo N v := by
  intro v hv N
  simp only [encO, List.mem_cons, List.not_mem_nil, or_false] at hv
  rcases hv with rfl | rfl
  · exact .int _ _
  · exact .imm _ _ fun y hy u hu => by
      obtain ⟨c, _, rfl⟩ := List.mem_map.1 hy
      exact clo_flat (by simp only [encB, List.mem_singleton] at hu; subst hu; rfl)
theorem clo_ops {N : Nat → Prop} {l : List Wr} : ∀ c ∈ l.map encO, ∀ v ∈ c, Clo N v := fun c hc v hv => by
  obtain ⟨x, _, rfl⟩ := List.mem_map.1 hc
  exact clo_encO x v hv N
theorem ext_sd {h : AHeap} {n : SdN} {w : PwS} {x : SdS} (hd : SdAt h n w x) (w' : PwS) (x' : SdS) : Ext h (sdPut n w' x' h) := by
  obtain ⟨q1, q2, q3, q4, q5, q6⟩ := hd
  refine Ext.set (Ext.set (x := .tail _ _) (Ext.set (x := .tail _ _) (Ext.set (Ext.set Ext.refl (Nm.old q1) (clo_flat4 (PwS.flat _))) (Nm.old q3) ?_) (Nm.old q4) trivial) (Nm.old q5) trivial) (Nm.old q2) ?_
  · intro y hy v hv
    obtain ⟨c, _, rfl⟩ := List.mem_map.1 hy
    exact clo_flat (by simp only [encB, List.mem_singleton] at hv; subst hv; rfl)
  · intro y hy v hv
    simp only [List.mem_singleton] at hy
    subst hy
    simp only [List.mem_cons, List.not_mem_nil, or_false] at hv
    rcases hv with rfl | rfl | rfl | rfl
    · exact .ptr _ _ _ (Nm.old q1)
    · exact .ref _ _ _ (Nm.old q3)
    · exact .app _ _ _ _ (Nm.old q4) clo_ops
    · exact .app _ _ _ _ (Nm.old q5) clo_ops
theorem SdAt.put {h : AHeap} {n : SdN} (hn : SdNe h n) (w' : PwS) (x' : SdS) : SdAt (sdPut n w' x' h) n w' x' := by
  obtain ⟨a1, a2, a3, a4, a5, b1, b2, b3, b4, b5, b6, b7, b8, b9, bx⟩ := hn
  unfold sdPut
  exact ⟨gH, gH, gH, gH, gH, bx⟩
theorem get_sdPut {h : AHeap} {n : SdN} {w' : PwS} {x' : SdS} {id : Nat} (h1 : id ≠ n.p) (h2 : id ≠ n.s) (h3 : id ≠ n.B) (h4 : id ≠ n.w) (h5 : id ≠ n.t) : (sdPut n w' x' h).get id = h.get id :=
  get_set_neE h2 (get_set_neE h5 (get_set_neE h4 (get_set_neE h3 (get_set_neE h1 rfl))))
/-- What is so behind a call: nothing else is turned. -/
theorem keeps_sd {h h1 : AHeap} {n : SdN} {w' : PwS} {x' : SdS} (hk : KeepsB [n.p, n.s, n.B, n.w, n.t] h h1) (hd : SdAt h1 n w' x') : Keeps (sdPut n w' x' h) h1 := by
  refine ⟨hk.1, fun id hu => ?_⟩
  simp only [sdPut, get_set]
  split
  · rename_i e; rw [e, hd.ob]
  · split
    · rename_i e; rw [e, hd.tr]
    · split
      · rename_i e; rw [e, hd.wt]
      · split
        · rename_i e; rw [e, hd.bl]
        · split
          · rename_i e; rw [e, hd.pw]
          · rename_i e1 e2 e3 e4 e5
            exact hk.2 id hu (by simp [e1, e2, e3, e4, e5])
theorem ssd_Size_ae {h : AHeap} {n : SdN} {x : SdS} (hd : h.get n.s = some (x.obj n)) : AE Tryz.prog 95 [.ptr n.s 0 0] h (.int .i64 x.lasts.length) h := by
  refine AE.wf fun hwf => ?_
  have h0 := hwf _ _ hd
  refine AE.pureW is_ssd_SSD_Size (by simp) ?_
  unfold c_ssd_SSD_Size
  simp only [SdS.obj] at hd
  (refine go ?_)
  refine WW.ret (PureQ.finD ?_)
  exact clo_i rfl
theorem ssd_is_ae {h : AHeap} {n : SdN} {x : SdS} (hd : h.get n.s = some (x.obj n)) (hl : x.lasts.length ≤ 1000000) (off k : Int) (hk : k ≤ 9223372036854775807) : AE Tryz.prog 59 [.ptr n.s 0 0, .int .i64 off, .int .i64 k] h (.bool (inB x.lasts.length off k)) h := by
  refine AE.wf fun hwf => ?_
  have h0 := hwf _ _ hd
  refine AE.pureW is_ssd_SSD_is (by simp) ?_
  unfold c_ssd_SSD_is
  (refine go ?_)
  (apply WL.andB; exact rfl; exact rfl; exact rfl; exact BP.of; intro hz1)
  · (repeat first | (apply GW.goS; exact Stp.auto) | apply GW.nil | exact rfl)
  (refine go ?_)
  (apply WL.andB; exact rfl; exact rfl; exact rfl; exact BP.of; intro hz2)
  · (repeat first | (apply GW.goS; exact Stp.auto) | apply GW.nil | exact rfl)
    refine GW.call rfl (by first | exact True.intro | exact rfl) gSL (ssd_Size_ae hd) ?_
    (repeat first | (apply GW.goS; exact Stp.auto) | apply GW.nil | exact rfl)
  (refine go ?_)
  (apply WL.andB; exact rfl; exact rfl; exact rfl; exact BP.of; intro hz3)
  · simp only [Bool.and_eq_true, decide_eq_true_eq, ge_iff_le] at hz3
    (repeat first | (apply GW.goS; exact Stp.auto) | apply GW.nil | exact rfl)
    refine GW.call rfl (by first | exact True.intro | exact rfl) gSL (ssd_Size_ae hd) ?_
    (repeat first | (apply GW.goS; exact Stp.auto) | apply GW.nil | exact rfl)
  (refine go ?_)
  refine WW.ret (PureQ.finD ?_)
  exact fz_b rfl
theorem ssd_copied_ae (x : Wr) (hx : x.2.length ≤ 1000000) (h : AHeap) : AE Tryz.prog 187 [.agg (encO x)] h (.agg (encO x)) h := by
  refine AE.pureW is_ssd_copied (by simp) ?_
  unfold c_ssd_copied
  (repeat first | refine WL.go ?_ | refine WW.seq ?_ | refine WW.reg ?_ | refine WL.nil ?_ | refine WW.skip ?_ | refine WW.block ?_ | refine WW.exit ?_ | refine WW.condT rfl ?_ | refine WW.condF rfl ?_ | refine WL.gox ?_ | refine thenN ?_ | refine blkN ?_)
  refine WW.dregX [6] [] [h.next + 1] gN (by decide +kernel) ?_
  (refine go ?_)
  refine DW.callS rfl (by first | exact True.intro | exact rfl) gSL rfl (bytes_Clone_ae x.2 hx _) ?_
  (refine go ?_)
  refine WW.ret (PureQ.finD ?_)
  exact .clo _ (.agg _ fun v hv => clo_encO x v hv _)
/-- A write, if it is within and there is power. -/
def SdS.write (x : SdS) (o : Wr) (ok : Bool) : SdS := if ok then { x with waits := x.waits ++ [o], trace := x.trace ++ [o] } else x
theorem ssd_Write_ae {h : AHeap} {n : SdN} {w : PwS} {x : SdS} {k : Nat} (hd : SdAt h n w x) (hw : w.Ok k) (hk : k ≤ 1000000000) (hl : x.lasts.length ≤ 1000000) (h1 : x.waits.length ≤ 1000000) (h2 : x.trace.length ≤ 1000000) (off : Int) (b : Bs) (hb : b.length ≤ 1000000) :
    AE Tryz.prog 173 [.ptr n.s 0 0, .int .i64 off, .imm 1 (b.map encB)] h (.bool (inB x.lasts.length off b.length && w.can))
      (sdPut n (if inB x.lasts.length off b.length then w.spend else w) (x.write (off, b) (inB x.lasts.length off b.length && w.can)) h) := by
  refine AE.wf fun hwf => ?_
  obtain ⟨a1, a2, a3, a4, a5, b1, b2, b3, b4, b5, b6, b7, b8, b9, bx⟩ := hd.nes hwf
  have hd' := hd
  obtain ⟨q1, q2, q3, q4, q5, q6⟩ := hd
  refine AE.effW is_ssd_SSD_Write (by simp) (ext_sd hd' _ _) ?_
  unfold c_ssd_SSD_Write
  (refine go ?_)
  refine WL.call rfl (by first | exact True.intro | exact rfl) gSL (ssd_is_ae q2 hl off b.length (by omega)) ?_
  have q2' := q2
  simp only [SdS.obj] at q2'
  cases hin : inB x.lasts.length off b.length with
  | false =>
    (refine go ?_)
    refine WW.ret (EffQ.finD ?_ ?_)
    · exact keeps_sd KeepsB.refl (by rw [if_neg (by simp), Bool.false_and, SdS.write, if_neg (by simp)]; exact hd')
    · exact fz_b rfl
  | true =>
    (refine go ?_)
    refine WL.call rfl (by first | exact True.intro | exact rfl) gSL (power_Spend_ae q1 hw hk) ?_
    cases hcan : w.can with
    | false =>
      (refine go ?_)
      refine WW.ret (EffQ.finD ?_ ?_)
      · refine keeps_sd gKB ?_
        rw [if_pos rfl, Bool.and_false, SdS.write, if_neg (by simp)]
        exact ⟨gH, gH, gH, gH, gH, bx⟩
      · exact fz_b rfl
    | true =>
      (repeat first | refine WL.go ?_ | refine WW.seq ?_ | refine WW.reg ?_ | refine WL.nil ?_ | refine WW.skip ?_ | refine WW.block ?_ | refine WW.exit ?_ | refine WW.condT rfl ?_ | refine WW.condF rfl ?_ | refine WL.gox ?_ | refine thenN ?_ | refine blkN ?_)
      refine WW.dregX [8, 11] [] [n.w, n.s] gN (by decide +kernel) ?_
      (refine go ?_)
      refine DW.callS rfl (by first | exact True.intro | exact rfl) gSL rfl (ssd_copied_ae (off, b) hb _) ?_
      (refine go ?_)
      refine DW.callS rfl (by first | exact True.intro | exact rfl) gSL rfl (ssd_copied_ae (off, b) hb _) ?_
      (refine go ?_)
      refine WW.ret (EffQ.finD ?_ ?_)
      · refine keeps_sd gKB ?_
        rw [if_pos rfl, Bool.and_self, SdS.write, if_pos rfl]
        have ho : SdS.obj n { x with waits := x.waits ++ [(off, b)], trace := x.trace ++ [(off, b)] } = .mem 4 [[.ptr n.p 0 0, .ref n.B 0 x.lasts.length, .app n.w x.gen 2 (x.waits.map encO ++ [encO (off, b)]), .app n.t 0 2 (x.trace.map encO ++ [encO (off, b)])]] := by simp [SdS.obj]
        have e1 : (x.waits ++ [(off, b)]).length = x.waits.length + 1 := by simp
        have e2 : (x.trace ++ [(off, b)]).length = x.trace.length + 1 := by simp
        refine ⟨gH, ?_, gH, ?_, ?_, bx⟩
        · rw [ho]; exact gH
        · simp only [e1]; exact gH
        · simp only [e2]; exact gH
      · exact fz_b rfl
end Go.Proofs.YtafkhpjnihnfpaaGreat


namespace Go.Proofs.YtafkhpjnihnfpaaGreat
open Go Go.Abs

structure DkN where
  p : Nat
  d : Nat
  w : Nat
  t : Nat
def encBl (b : Bs) : AV := .imm 1 (b.map encB)
def dkRow (p w t : Nat) (x : DkS) : List AV := .ptr p 0 0 :: (x.lasts.map encBl ++ [.app w x.gen 2 (x.waits.map encO), .app t 0 2 (x.trace.map encO), .bool x.refuses])
structure DkAt (h : AHeap) (n : DkN) (w : PwS) (x : DkS) : Prop where
  pw : h.get n.p = some (.mem 4 [w.row])
  ob : h.get n.d = some (.mem 36 [dkRow n.p n.w n.t x])
  wt : h.get n.w = some (.tail x.gen x.waits.length)
  tr : h.get n.t = some (.tail 0 x.trace.length)
  ne : n.w ≠ n.t
  ll : x.lasts.length = 32
theorem dkAt_of {h : AHeap} {p d w t : Nat} {pw : PwS} {x : DkS} (h1 : h.get p = some (.mem 4 [pw.row])) (h2 : h.get d = some (.mem 36 [dkRow p w t x])) (h4 : h.get w = some (.tail x.gen x.waits.length)) (h5 : h.get t = some (.tail 0 x.trace.length)) (h6 : w ≠ t) (hl : x.lasts.length = 32) : DkAt h ⟨p, d, w, t⟩ pw x := ⟨h1, h2, h4, h5, h6, hl⟩
theorem putC_next {a z u : AV} {i : Nat} {r : List AV} : putC (a :: (List.replicate i z ++ u :: r)) (1 + i) [z] = a :: (List.replicate (i + 1) z ++ r) := by
  have h1 : List.take (i + 1) (a :: (List.replicate i z ++ u :: r)) = a :: List.replicate i z := by
    rw [List.take_succ_cons, List.take_left' (by simp)]
  have h2 : List.drop (i + 1 + 1) (a :: (List.replicate i z ++ u :: r)) = r := by
    rw [List.drop_succ_cons, show List.replicate i z ++ u :: r = (List.replicate i z ++ [u]) ++ r by simp, List.drop_left' (by simp)]
  rw [putC, Nat.add_comm 1 i, h1, List.length_singleton, h2, List.replicate_succ']
  simp
theorem put_set {h : AHeap} {n : Nat} {x y : AObj} : (h.put n x).set n (some y) = h.put n y :=
  hp_ext' (fun i => by simp only [get_put, get_set]; split <;> rfl) rfl fun _ => rfl
def zBl : AV := .imm 1 (List.replicate 32 [.int .u8 0])
def dk0 : DkS := ⟨List.replicate 32 (List.replicate 32 0), [], [], false, 0⟩
def dkNew (p nx : Nat) (h : AHeap) : AHeap := ((h.put nx (.mem 36 [dkRow p (nx + 1) (nx + 2) dk0])).put (nx + 1) (.tail 0 0)).put (nx + 2) (.tail 0 0)
set_option maxHeartbeats 1000000 in
theorem disk_New_ae {h : AHeap} {p nx : Nat} (hn : h.next = nx) (hp : p < nx) : AE Tryz.prog 45 [.ptr p 0 0] h (.ptr nx 0 0) (dkNew p nx h) := by
  subst hn
  refine AC.introW is_disk_New (by simp) ?_
  unfold c_disk_New
  (refine go ?_)
  refine WW.loopE (fun (i : Nat) => [(3, some (.ptr h.next 0 0)), (8, some (.int .i64 i))])
    (fun i h' => h' = h.put h.next (.mem 36 [.ptr p 0 0 :: (List.replicate i zBl ++ (List.replicate (32 - i) .nils ++ [.nils, .nils, .bool false]))]) ∧ i ≤ 32) (fun i => 32 - i) 0 gSUB ⟨rfl, by omega⟩ ?_
  rintro i h' ⟨rfl, c1⟩
  (refine go ?_)
  (refine WW.ifB rfl (fun hz1 => ?_) (fun hz1 => ?_))
  · have hi : i < 32 := by omega
    (repeat first | refine WW.seq ?_ | refine WW.reg ?_ | refine WL.nil ?_ | refine WW.skip ?_ | refine WW.block ?_ | refine thenN ?_ | refine blkN ?_); iterate 2 (refine WL.go ?_)
    (repeat first | refine WL.go ?_ | refine WW.seq ?_ | refine WW.reg ?_ | refine WL.nil ?_ | refine WW.skip ?_ | refine WW.block ?_ | refine WW.exit ?_ | refine WW.condT rfl ?_ | refine WW.condF rfl ?_ | refine WL.gox ?_ | refine thenN ?_ | refine blkN ?_)
    refine WW.dregX [6] [2] [h.next] gN (by decide +kernel) ?_
    iterate 2 (refine DW.go ?_)
    refine DW.fxF (fun h2 _ => FX.mkslI (n := 32) rfl rfl rfl rfl (by decide) (by first | exact True.intro | exact rfl)) rfl (fun _ _ _ => rfl) ?_
    iterate 3 (refine DW.go ?_)
    have hr : List.replicate (32 - i) AV.nils = AV.nils :: List.replicate (32 - (i + 1)) AV.nils := by
      rw [show 32 - i = (32 - (i + 1)) + 1 by omega, List.replicate_succ]
    rw [hr]
    refine DW.goW (hs := Stp.store1N (cs := .ptr p 0 0 :: (List.replicate (i + 1) zBl ++ (List.replicate (32 - (i + 1)) .nils ++ [.nils, .nils, .bool false]))) rfl rfl gH rfl (by simp; omega) rfl (by
      show putC _ (0 + 1 + i * 1) [zBl] = _
      rw [show 0 + 1 + i * 1 = 1 + i by omega, List.cons_append]
      exact putC_next) (by first | exact True.intro | exact rfl)) ?_ (fun hp => PhiW.setW (by simp) hp)
    refine DW.endL ?_
    rw [put_set]
    (refine go ?_)
    exact ⟨i + 1, gSUB, ⟨rfl, by omega⟩, by omega⟩
  · have hi : i = 32 := by omega
    subst hi
    (refine go ?_)
    refine WW.cvt (Cvt.adoptM 2 (id := h.next) (i := 0) (j := 33) gH rfl rfl gN) ?_
    refine WW.cvt (Cvt.adoptM 2 (id := h.next) (i := 0) (j := 34) gH rfl rfl gN) ?_
    refine WW.ret ⟨.inl rfl, _, gRES, rfl, hp_ext' (fun i => ?_) ?_ fun i => rfl⟩
    · have ho : dkRow p (h.next + 1) (h.next + 2) dk0 = ((AV.ptr p 0 0 :: (List.replicate 32 zBl ++ (List.replicate (32 - 32) .nils ++ [.nils, .nils, .bool false]))).set 33 (.app (h.next + 1) 0 2 [])).set 34 (.app (h.next + 1 + 1) 0 2 []) := rfl
      unfold dkNew
      rw [ho]
      simp only [get_put, get_set]
      (repeat' split) <;> first | rfl | omega
    · unfold dkNew; exact (gN : _ = h.next + 1 + 1 + 1).trans (gN : _ = h.next + 1 + 1 + 1).symm
end Go.Proofs.YtafkhpjnihnfpaaGreat


namespace Go.Proofs.YtafkhpjnihnfpaaGreat
open Go Go.Abs

/-- A leaf: kind, flag, number; epoch, slot, number of its nonce; tag. -/
structure Lf where
  k : Int
  d : Bool
  lba : Int
  e : Int
  sl : Int
  n : Int
  tg : Pr
  deriving DecidableEq
def lf0 : Lf := ⟨0, false, 0, 0, 0, 0, (0, 0)⟩
def encL (x : Lf) : List AV := [.int .i64 x.k, .bool x.d, .int .i64 x.lba, .int .u32 x.e, .int .u32 x.sl, .int .u64 x.n, .int .u64 x.tg.1, .int .u64 x.tg.2]
/-- What fits the types. -/
structure Lf.Wf (x : Lf) : Prop where
  k : -9223372036854775808 ≤ x.k ∧ x.k ≤ 9223372036854775807
  lba : -9223372036854775808 ≤ x.lba ∧ x.lba ≤ 9223372036854775807
  e : 0 ≤ x.e ∧ x.e < 4294967296
  sl : 0 ≤ x.sl ∧ x.sl < 4294967296
  n : 0 ≤ x.n ∧ x.n < 18446744073709551616
  t1 : 0 ≤ x.tg.1 ∧ x.tg.1 < 18446744073709551616
  t2 : 0 ≤ x.tg.2 ∧ x.tg.2 < 18446744073709551616
def lbaOk (n : Int) : Bool := decide (0 ≤ n) && decide (n < 32)
def leafIs (x : Lf) (i : Int) : Bool :=
  if i < 0 ∨ 16 ≤ i then false
  else if x.k = 0 then decide (x = lf0)
  else if x.k = 2 then lbaOk x.lba && decide (x = { lf0 with k := 2, d := true, lba := x.lba })
  else if x.k = 1 then lbaOk x.lba && decide (x.sl = i) && decide (0 < x.e)
  else false
theorem lf_beq (x y : Lf) : (x.k == y.k && (x.d == y.d && (x.lba == y.lba && (x.e == y.e && (x.sl == y.sl && (x.n == y.n && (x.tg.1 == y.tg.1 && (x.tg.2 == y.tg.2 && true)))))))) = decide (x = y) := by
  obtain ⟨a1, a2, a3, a4, a5, a6, a7, a8⟩ := x
  obtain ⟨b1, b2, b3, b4, b5, b6, b7, b8⟩ := y
  rw [Bool.eq_iff_iff]
  simp only [Bool.and_eq_true, beq_iff_eq, decide_eq_true_eq, and_true, Lf.mk.injEq, Prod.mk.injEq]
theorem leaf_isLba_ae (n : Int) (h : AHeap) : AE Tryz.prog 66 [.int .i64 n] h (.bool (lbaOk n)) h := by
  refine AE.pureW is_leaf_isLba (by simp) ?_
  unfold c_leaf_isLba
  (refine go ?_)
  (apply WL.andB; exact rfl; exact rfl; exact rfl; exact BP.of; intro hz1)
  · (repeat first | (apply GW.goS; exact Stp.auto) | apply GW.nil | exact rfl)
  (refine go ?_)
  refine WW.ret (PureQ.finD ?_)
  exact fz_b (by simp [lbaOk])
theorem leaf_Is_ae (x : Lf) (i : Int) (h : AHeap) : AE Tryz.prog 38 [.agg (encL x), .int .i64 i] h (.bool (leafIs x i)) h := by
  refine AE.pureW is_leaf_Is (by simp) ?_
  unfold c_leaf_Is
  (refine go ?_)
  (apply WL.orB; exact rfl; exact rfl; exact rfl; exact BP.of; intro hz1)
  · (repeat first | (apply GW.goS; exact Stp.auto) | apply GW.nil | exact rfl)
  (refine go ?_)
  (refine WW.ifB rfl (fun hz2 => ?_) (fun hz2 => ?_))
  · (refine go ?_)
    refine WW.ret (PureQ.finD ?_)
    exact fz_b (by simp at hz2; rw [leafIs, if_pos (by omega)])
  have hi : 0 ≤ i ∧ i < 16 := by simp at hz2; omega
  have e0 : leafIs x i = if x.k = 0 then decide (x = lf0)
    else if x.k = 2 then lbaOk x.lba && decide (x = { lf0 with k := 2, d := true, lba := x.lba })
    else if x.k = 1 then lbaOk x.lba && decide (x.sl = i) && decide (0 < x.e) else false := by rw [leafIs, if_neg (by omega)]
  (refine go ?_)
  (refine WW.ifB rfl (fun hz3 => ?_) (fun hz3 => ?_))
  · (refine go ?_)
    refine WW.ret (PureQ.finD ?_)
    exact fz_b (by rw [e0, if_pos hz3]; exact lf_beq x lf0)
  (refine go ?_)
  (refine WW.ifB rfl (fun hz4 => ?_) (fun hz4 => ?_))
  · (refine go ?_)
    refine WL.call rfl (by first | exact True.intro | exact rfl) gSL (leaf_isLba_ae x.lba _) ?_
    (refine go ?_)
    cases hl : lbaOk x.lba with
    | false =>
      (refine go ?_)
      refine WW.ret (PureQ.finD ?_)
      exact fz_b (by rw [e0, if_neg hz3, if_pos hz4, hl]; rfl)
    | true =>
      (refine go ?_)
      refine WW.ret (PureQ.finD ?_)
      exact fz_b (by rw [e0, if_neg hz3, if_pos hz4, hl, Bool.true_and]; exact lf_beq x { lf0 with k := 2, d := true, lba := x.lba })
  (refine go ?_)
  (refine WW.ifB rfl (fun hz5 => ?_) (fun hz5 => ?_))
  · (refine go ?_)
    refine WL.call rfl (by first | exact True.intro | exact rfl) gSL (leaf_isLba_ae x.lba _) ?_
    (refine go ?_)
    cases hl : lbaOk x.lba with
    | false =>
      (refine go ?_)
      refine WW.ret (PureQ.finD ?_)
      exact fz_b (by rw [e0, if_neg hz3, if_neg hz4, if_pos hz5, hl]; rfl)
    | true =>
      (refine go ?_)
      (refine WL.spB rfl (fun hz6 => ?_) (fun hz6 => ?_))
      · (refine go ?_)
        refine WW.ret (PureQ.finD ?_)
        refine fz_b ?_
        rw [e0, if_neg hz3, if_neg hz4, if_pos hz5, hl, decide_eq_true (show x.sl = i from hz6)]
        simp
      · (refine go ?_)
        refine WW.ret (PureQ.finD ?_)
        refine fz_b ?_
        rw [e0, if_neg hz3, if_neg hz4, if_pos hz5, hl, decide_eq_false (show ¬ x.sl = i from hz6)]
        rfl
  (refine go ?_)
  refine WW.ret (PureQ.finD ?_)
  exact fz_b (by rw [e0, if_neg hz3, if_neg hz4, if_neg hz5])
/-- A leaf's bytes. -/
def leafB (x : Lf) : Bs := putB x.k 1 ++ (putB (if x.d then 1 else 0) 1 ++ (putB x.lba 2 ++ (putB x.e 4 ++ (putB x.n 8 ++ pairB x.tg))))
theorem leafB_len (x : Lf) : (leafB x).length = 32 := by
  simp only [leafB, List.length_append, pairB, putB_lenN _ 1 (by decide), putB_lenN _ 2 (by decide), putB_lenN _ 4 (by decide), putB_lenN _ 8 (by decide)]
/-- A leaf out of bytes, as far as they say one. -/
def leafD (b : Bs) (i : Int) : Lf := ⟨getB (b.take 1), getB ((b.drop 1).take 1) == 1, getB ((b.drop 2).take 2), getB ((b.drop 4).take 4), if getB (b.take 1) = 1 then i else 0, getB ((b.drop 8).take 8), pairF ((b.drop 16).take 16)⟩
/-- Does the row say a leaf at i? -/
def leafG (b : Bs) (i : Int) : Bool := decide (b.length = 32) && leafIs (leafD b i) i && (leafB (leafD b i) == b)
/-- A leaf, in bytes, and back. -/
theorem leafG_B (x : Lf) (hx : x.Wf) (i : Int) (hi : leafIs x i = true) : leafG (leafB x) i = true ∧ leafD (leafB x) i = x := by
  have hk : 0 ≤ x.k ∧ x.k < 256 ∧ 0 ≤ x.lba ∧ x.lba < 65536 ∧ x.sl = (if x.k = 1 then i else 0) := by
    have hl := hi
    rw [leafIs] at hl
    split at hl
    · cases hl
    · split at hl
      · have := of_decide_eq_true hl; subst this; simp [lf0]
      · split at hl
        · rename_i hk2
          simp [lbaOk] at hl
          have hsl : x.sl = 0 := by rw [hl.2]; rfl
          rw [if_neg (by omega)]; omega
        · split at hl
          · rename_i hk1
            simp [lbaOk] at hl; rw [if_pos hk1]; omega
          · cases hl
  have hd : leafD (leafB x) i = x := by
    have e1 : (leafB x).take 1 = putB x.k 1 := List.take_left' (putB_lenN _ 1 (by decide))
    have s1 : (leafB x).drop 1 = putB (if x.d then 1 else 0) 1 ++ (putB x.lba 2 ++ (putB x.e 4 ++ (putB x.n 8 ++ pairB x.tg))) := List.drop_left' (putB_lenN _ 1 (by decide))
    have s2 : (leafB x).drop 2 = putB x.lba 2 ++ (putB x.e 4 ++ (putB x.n 8 ++ pairB x.tg)) := by
      rw [show 2 = 1 + 1 from rfl, ← List.drop_drop, s1]; exact List.drop_left' (putB_lenN _ 1 (by decide))
    have s4 : (leafB x).drop 4 = putB x.e 4 ++ (putB x.n 8 ++ pairB x.tg) := by
      rw [show 4 = 2 + 2 from rfl, ← List.drop_drop, s2]; exact List.drop_left' (putB_lenN _ 2 (by decide))
    have s8 : (leafB x).drop 8 = putB x.n 8 ++ pairB x.tg := by
      rw [show 8 = 4 + 4 from rfl, ← List.drop_drop, s4]; exact List.drop_left' (putB_lenN _ 4 (by decide))
    have s16 : (leafB x).drop 16 = pairB x.tg := by
      rw [show 16 = 8 + 8 from rfl, ← List.drop_drop, s8]; exact List.drop_left' (putB_lenN _ 8 (by decide))
    have p16 : (pairB x.tg).take 16 = pairB x.tg := List.take_of_length_le (by simp [pairB])
    rw [leafD, e1, s1, s2, s4, s8, s16, List.take_left' (putB_lenN _ 1 (by decide)), List.take_left' (putB_lenN _ 2 (by decide)), List.take_left' (putB_lenN _ 4 (by decide)), List.take_left' (putB_lenN _ 8 (by decide)), p16, get_put1 _ ⟨hk.1, hk.2.1⟩, get_put2 _ ⟨hk.2.2.1, hk.2.2.2.1⟩, get_put4 _ hx.e, get_put8 _ hx.n, pairF_B _ hx.t1 hx.t2, ← hk.2.2.2.2]
    have hb : (getB (putB (if x.d then 1 else 0) 1) == 1) = x.d := by
      cases x.d
      · rw [show (if false = true then (1 : Int) else 0) = 0 from rfl, get_put1 0 (by decide)]; rfl
      · rw [show (if true = true then (1 : Int) else 0) = 1 from rfl, get_put1 1 (by decide)]; rfl
    rw [hb]
  refine ⟨?_, hd⟩
  rw [leafG, hd, hi, leafB_len]
  simp
end Go.Proofs.YtafkhpjnihnfpaaGreat


namespace Go.Proofs.YtafkhpjnihnfpaaGreat
open Go Go.Abs

def ofK (seed e : Int) : Pr := encF (seed, seed) (0, e)
def KsS.obj (p te : Nat) (k : KsS) : AObj := .mem 3 [[.ptr p 0 0, .int .u64 k.seed, .ref te 0 k.epochs.length]]
def KsS.cur (k : KsS) : Int := k.epochs.getLastD 0
structure KsAt (h : AHeap) (p k te : Nat) (s : KsS) : Prop where
  ob : h.get k = some (s.obj p te)
  tl : h.get te = some (.mem 1 (s.epochs.map encE))
  ne : s.epochs ≠ []
  sm : s.epochs.length ≤ 1000000
theorem clo_encE (e : Int) : ∀ v ∈ encE e, AV.flat v = true := by simp [encE, AV.flat]
theorem keys_New_ae {h : AHeap} {nx p : Nat} (hn : h.next = nx) (seed : Int) : AE Tryz.prog 47 [.int .u64 seed, .ptr p 0 0] h (.ptr (nx + 1) 0 0) ((h.put nx (.mem 1 [[.int .u32 1]])).put (nx + 1) ((⟨seed, [1]⟩ : KsS).obj p nx)) := by
  subst hn
  refine AC.introW is_keys_New (by simp) ?_
  unfold c_keys_New
  (repeat first | refine WW.seq ?_ | refine WW.reg ?_ | refine WL.nil ?_ | refine WW.skip ?_ | refine WW.block ?_ | refine thenN ?_ | refine blkN ?_); iterate 1 (refine WL.go ?_)
  (repeat first | refine WW.seq ?_ | refine WW.reg ?_ | refine WL.nil ?_ | refine WW.skip ?_ | refine WW.block ?_ | refine thenN ?_ | refine blkN ?_); iterate 2 (refine WL.go ?_)
  refine WL.fx1 (FX.bslN (nx := h.next) rfl rfl rfl rfl (by first | exact True.intro | exact rfl)) ?_
  (refine go ?_)
  exact WW.ret ⟨.inl rfl, _, gRES, rfl, rfl⟩
theorem keys_Current_ae {h : AHeap} {p k te : Nat} {s : KsS} (hk : KsAt h p k te s) : AE Tryz.prog 127 [.ptr k 0 0] h (.int .u32 s.cur) h := by
  obtain ⟨q1, q2, q3, q4⟩ := hk
  refine AE.wf fun hwf => ?_
  have h0 := hwf _ _ q1
  have hl : 0 < s.epochs.length := List.length_pos_iff.2 q3
  refine AE.pureW is_keys_Keys_Current (by simp) ?_
  unfold c_keys_Keys_Current
  simp only [KsS.obj] at q1
  (repeat first | refine WL.go ?_ | refine WW.seq ?_ | refine WW.reg ?_ | refine WL.nil ?_ | refine WW.skip ?_ | refine WW.block ?_ | refine WW.exit ?_ | refine WW.condT rfl ?_ | refine WW.condF rfl ?_ | refine WL.gox ?_ | refine thenN ?_ | refine blkN ?_)
  refine WW.dregX [] [] [] gN (by decide +kernel) ?_
  (refine go ?_)
  refine WW.ret (PureQ.finD ?_)
  refine clo_i ?_
  rw [KsS.cur, List.getLastD_eq_getLast?, List.getLast?_eq_getElem?, List.getElem?_eq_getElem (by omega)]
  simp only [Option.getD_some]
  congr 1
  omega
theorem slices_CloneE_ae {h : AHeap} {te : Nat} (l : List Int) (hl : l.length ≤ 1000000) (hne : l ≠ []) (ht : h.get te = some (.mem 1 (l.map encE))) : AE Tryz.prog 97 [.ref te 0 l.length] h (.imm 1 (l.map encE)) h := by
  refine AE.wf fun hwf => ?_
  have h0 := hwf _ _ ht
  refine AE.pureW is_slices_Cloneuint32_uint32 (by simp) ?_
  unfold c_slices_Cloneuint32_uint32
  (repeat first | refine WW.seq ?_ | refine WW.reg ?_ | refine WL.nil ?_ | refine WW.skip ?_ | refine WW.block ?_ | refine thenN ?_ | refine blkN ?_); iterate 1 (refine WL.go ?_)
  (repeat first | refine WW.seq ?_ | refine WW.reg ?_ | refine WL.nil ?_ | refine WW.skip ?_ | refine WW.block ?_ | refine thenN ?_ | refine blkN ?_); iterate 1 (refine WL.go ?_)
  refine WL.go (hs := Stp.isnil (t := false) rfl rfl (by first | exact True.intro | exact rfl)) ?_
  (repeat first | refine WW.seq ?_ | refine WW.reg ?_ | refine WL.nil ?_ | refine WW.skip ?_ | refine WW.block ?_ | refine thenN ?_ | refine blkN ?_)
  refine WW.condF rfl ?_
  (refine go ?_)
  refine WW.ret (PureQ.finD ?_)
  rw [List.drop_zero, List.take_of_length_le (by simp)]
  exact fz_app rfl (flatC_map clo_encE)
theorem slices_Contains_ae (l : List Int) (hl : l.length ≤ 1000000) (v : Int) (h : AHeap) : AE Tryz.prog 63 [.imm 1 (l.map encE), .int .u32 v] h (.bool (decide (v ∈ l))) h := by
  have hix : AE Tryz.prog 96 [.imm 1 (l.map encE), .int .u32 v] h (.int .i64 (if v ∈ l then (l.idxOf v : Int) else -1)) h := by
    refine AE.pureW is_slices_Indexuint32_uint32 (by simp) ?_
    unfold c_slices_Indexuint32_uint32
    (refine go ?_)
    refine WW.loopE (fun (i : Nat) => [(0, some (.imm 1 (l.map encE))), (1, some (.int .u32 v)), (7, some (.int .i64 l.length)), (8, some (.int .i64 i))])
      (fun i h' => h' = h ∧ i ≤ l.length ∧ v ∉ l.take i) (fun i => l.length - i) 0 gSUB ⟨rfl, Nat.zero_le _, by simp⟩ ?_
    rintro i h' ⟨rfl, c1, c2⟩
    (refine go ?_)
    (refine WW.ifB rfl (fun hz1 => ?_) (fun hz1 => ?_))
    · have hi : i < l.length := by omega
      (refine go ?_)
      (refine WW.ifB rfl (fun hz2 => ?_) (fun hz2 => ?_))
      · (refine go ?_)
        refine WW.ret (PureQ.finD ?_)
        refine clo_i ?_
        have hm : v ∈ l := by rw [hz2]; exact List.getElem_mem hi
        rw [if_pos hm]
        have h1 : l = l.take i ++ v :: l.drop (i + 1) := by
          conv => lhs; rw [← List.take_append_drop i l, List.drop_eq_getElem_cons hi, ← hz2]
        have h2 : l.idxOf v = i := by
          rw [h1, List.idxOf_append, if_neg c2]
          simp; omega
        rw [h2]
      · (refine go ?_)
        refine ⟨i + 1, gSUB, ⟨rfl, by omega, ?_⟩, by omega⟩
        rw [List.take_succ_eq_append_getElem hi, List.mem_append, List.mem_singleton]
        rintro (h3 | h3)
        · exact c2 h3
        · exact hz2 h3
    · (refine go ?_)
      refine WW.ret (PureQ.finD ?_)
      refine clo_i ?_
      rw [List.take_of_length_le (by omega)] at c2
      rw [if_neg c2]
  refine AE.pureW is_slices_Containsuint32_uint32 (by simp) ?_
  unfold c_slices_Containsuint32_uint32
  (refine go ?_)
  refine WL.call rfl (by first | exact True.intro | exact rfl) gSL (hix) ?_
  (refine go ?_)
  refine WW.ret (PureQ.finD ?_)
  refine fz_b ?_
  split <;> simp_all <;> omega
theorem keys_Epochs_ae {h : AHeap} {p k te : Nat} {s : KsS} (hk : KsAt h p k te s) : AE Tryz.prog 64 [.ptr k 0 0] h (.imm 1 (s.epochs.map encE)) h := by
  obtain ⟨q1, q2, q3, q4⟩ := hk
  refine AE.wf fun hwf => ?_
  have h0 := hwf _ _ q1
  refine AE.pureW is_keys_Keys_Epochs (by simp) ?_
  unfold c_keys_Keys_Epochs
  simp only [KsS.obj] at q1
  (refine go ?_)
  refine WL.call rfl (by first | exact True.intro | exact rfl) gSL (slices_CloneE_ae s.epochs q4 q3 q2) ?_
  (refine go ?_)
  refine WW.ret (PureQ.finD ?_)
  exact .clo _ (.imm _ _ fun x hx v hv => by
    obtain ⟨i, _, rfl⟩ := List.mem_map.1 hx
    exact clo_flat (clo_encE i v hv))
theorem keys_Of_ae (seed e : Int) (he : 0 ≤ e ∧ e < 4294967296) (h : AHeap) : AE Tryz.prog 65 [.int .u64 seed, .int .u32 e] h (.agg (encP (ofK seed e))) h := by
  refine AE.pureW is_keys_Of (by simp) ?_
  unfold c_keys_Of
  (refine go ?_)
  refine WL.call rfl (by first | exact True.intro | exact rfl) gSL (speck_Encrypt_ae (seed, seed) (0, e) _) ?_
  (refine go ?_)
  refine WW.ret (PureQ.finD ?_)
  exact fz_agg rfl (flatP _)
theorem keys_Key_ae {h : AHeap} {p k te : Nat} {s : KsS} (hk : KsAt h p k te s) (e : Int) (he : 0 ≤ e ∧ e < 4294967296) : AE Tryz.prog 35 [.ptr k 0 0, .int .u32 e] h (.tup [.agg (encP (if e ∈ s.epochs then ofK s.seed e else (0, 0))), .bool (decide (e ∈ s.epochs))]) h := by
  have hk' := hk
  obtain ⟨q1, q2, q3, q4⟩ := hk
  refine AE.wf fun hwf => ?_
  have h0 := hwf _ _ q1
  have h1 := hwf _ _ q2
  refine AE.pureW is_keys_Keys_Key (by simp) ?_
  unfold c_keys_Keys_Key
  simp only [KsS.obj] at q1
  (refine go ?_)
  refine WL.call rfl (by first | exact True.intro | exact rfl) gSL (keys_Epochs_ae ⟨(get_put_neE (by omega) hk'.ob), (get_put_neE (by omega) q2), q3, q4⟩) ?_
  (refine go ?_)
  refine WL.call rfl (by first | exact True.intro | exact rfl) gSL (slices_Contains_ae s.epochs q4 e _) ?_
  (refine go ?_)
  (refine WW.ifB rfl (fun hz1 => ?_) (fun hz1 => ?_))
  · (refine go ?_)
    refine WW.ret (PureQ.finD ?_)
    exact Fz.tup2 (fz_agg (by simp [hz1, encP, putC, AV.cs]) (by simp [putC, AV.cs, AV.flat, encP])) (fz_b (by simp [hz1]))
  · have hm : e ∈ s.epochs := by simpa using hz1
    (refine go ?_)
    refine WL.call rfl (by first | exact True.intro | exact rfl) gSL (keys_Of_ae s.seed e he _) ?_
    (refine go ?_)
    refine WW.ret (PureQ.finD ?_)
    exact Fz.tup2 (fz_agg (by simp [hm, encP, putC, AV.cs]) (by simp [putC, AV.cs, AV.flat, encP])) (fz_b (by simp [hm]))
def KsS.add (k : KsS) (ok : Bool) : KsS := if ok then { k with epochs := k.epochs ++ [k.cur + 1] } else k
end Go.Proofs.YtafkhpjnihnfpaaGreat


namespace Go.Proofs.YtafkhpjnihnfpaaGreat
open Go Go.Abs


def isG (n : Int) : Bool := n == 4 || n == 8 || n == 16



theorem geom_Is_ae (n : Int) (h : AHeap) : AE Tryz.prog 39 [.int .i64 n] h (.bool (isG n)) h := by
  refine AE.pureW is_geom_Is (by simp) ?_
  unfold c_geom_Is
  (refine go ?_)
  (refine WL.spB rfl (fun hz => ?_) (fun hz => ?_)) <;> (refine go ?_)
  · refine WW.ret (PureQ.finD ?_)
    exact fz_b (by simp [isG, hz])
  (refine WL.spB rfl (fun hz8 => ?_) (fun hz8 => ?_)) <;> (refine go ?_)
  all_goals
    refine WW.ret (PureQ.finD ?_)
    exact fz_b (by simp [isG, hz, hz8])

theorem xor1_lt (k n : Nat) (hk : k < 2 * n) : k ^^^ 1 < 2 * n := by
  have : (k ^^^ 1) / 2 = k / 2 := by
    rw [Nat.xor_div_two]; simp
  omega

/-- The neighbours from node k up. -/
def upL (l : List Pr) (k : Nat) : List Pr := if h : k ≤ 1 then [] else l.getD (k ^^^ 1) (0, 0) :: upL l (k / 2)
termination_by k
decreasing_by omega
theorem upL_one {l : List Pr} {k : Nat} (h : k ≤ 1) : upL l k = [] := by rw [upL]; simp [h]
theorem upL_more {l : List Pr} {k : Nat} (h : 1 < k) : upL l k = l.getD (k ^^^ 1) (0, 0) :: upL l (k / 2) := by rw [upL]; simp [show ¬ k ≤ 1 by omega]
end Go.Proofs.YtafkhpjnihnfpaaGreat


namespace Go.Proofs.YtafkhpjnihnfpaaGreat
open Go Go.Abs

theorem isG_cases {n : Int} (h : isG n = true) : n = 4 ∨ n = 8 ∨ n = 16 := by simp [isG] at h; omega
def sizeG (n : Int) : Int := if isG n then n * 160 + 120 else 0
def recG (n i : Int) : Int := if isG n && decide (0 ≤ i) && decide (i < 2) then n * 160 + i * 60 else -1
theorem geom_among_ae (n i m : Int) (h : AHeap) : AE Tryz.prog 111 [.agg [.int .i64 n], .int .i64 i, .int .i64 m] h (.bool (isG n && decide (0 ≤ i) && decide (i < m))) h := by
  refine AE.pureW is_geom_Geom_among (by simp) ?_
  unfold c_geom_Geom_among
  (refine go ?_)
  refine WL.call rfl (by first | exact True.intro | exact rfl) gSL (geom_Is_ae n _) ?_
  (refine go ?_)
  (apply WL.andB; exact rfl; exact rfl; exact rfl; exact BP.of; intro hz1)
  · (repeat first | (apply GW.goS; exact Stp.auto) | apply GW.nil | exact rfl)
  (refine go ?_)
  (apply WL.andB; exact rfl; exact rfl; exact rfl; exact BP.of; intro hz2)
  · (repeat first | (apply GW.goS; exact Stp.auto) | apply GW.nil | exact rfl)
  (refine go ?_)
  refine WW.ret (PureQ.finD ?_)
  exact fz_b (by simp)
theorem geom_area_ae (n : Int) (hn : isG n = true) (h : AHeap) : AE Tryz.prog 112 [.agg [.int .i64 n]] h (.int .i64 (n * 64)) h := by
  have := isG_cases hn
  refine AE.pureW is_geom_Geom_area (by simp) ?_
  unfold c_geom_Geom_area
  (refine go ?_)
  refine WW.ret (PureQ.finD ?_)
  exact clo_i rfl
theorem geom_Rec_ae (n i : Int) (h : AHeap) : AE Tryz.prog 76 [.agg [.int .i64 n], .int .i64 i] h (.int .i64 (recG n i)) h := by
  refine AE.pureW is_geom_Geom_Rec (by simp) ?_
  unfold c_geom_Geom_Rec
  (refine go ?_)
  refine WL.call rfl (by first | exact True.intro | exact rfl) gSL (geom_among_ae n i 2 _) ?_
  cases hc : (isG n && decide (0 ≤ i) && decide (i < 2)) with
  | false =>
    (refine go ?_)
    refine WW.ret (PureQ.finD ?_)
    exact clo_i (by rw [recG, hc]; rfl)
  | true =>
    have hb : isG n = true ∧ 0 ≤ i ∧ i < 2 := by simpa [and_assoc] using hc
    obtain ⟨hg, i0, i1⟩ := hb
    have := isG_cases hg
    (repeat first | refine WL.go ?_ | refine WW.seq ?_ | refine WW.reg ?_ | refine WL.nil ?_ | refine WW.skip ?_ | refine WW.block ?_ | refine WW.exit ?_ | refine WW.condT rfl ?_ | refine WW.condF rfl ?_ | refine WL.gox ?_ | refine thenN ?_ | refine blkN ?_)
    refine WW.dregX [] [] [] gN (by decide +kernel) ?_
    (refine go ?_)
    refine DW.callS rfl (by first | exact True.intro | exact rfl) gSL rfl (geom_area_ae n hg _) ?_
    (refine go ?_)
    refine WW.ret (PureQ.finD ?_)
    exact clo_i (by rw [recG, hc, if_pos rfl]; omega)
theorem geom_Size_ae (n : Int) (h : AHeap) : AE Tryz.prog 44 [.agg [.int .i64 n]] h (.int .i64 (sizeG n)) h := by
  refine AE.pureW is_geom_Geom_Size (by simp) ?_
  unfold c_geom_Geom_Size
  (refine go ?_)
  refine WL.call rfl (by first | exact True.intro | exact rfl) gSL (geom_Is_ae n _) ?_
  cases hg : isG n with
  | false =>
    (refine go ?_)
    refine WW.ret (PureQ.finD ?_)
    exact clo_i (by rw [sizeG, hg]; rfl)
  | true =>
    have := isG_cases hg
    have hr : recG n 1 = n * 160 + 60 := by rw [recG, hg]; simp
    (refine go ?_)
    refine WL.call rfl (by first | exact True.intro | exact rfl) gSL (geom_Rec_ae n 1 _) ?_
    rw [hr]
    (refine go ?_)
    refine WW.ret (PureQ.finD ?_)
    exact clo_i (by rw [sizeG, hg, if_pos rfl]; omega)
end Go.Proofs.YtafkhpjnihnfpaaGreat


namespace Go.Proofs.YtafkhpjnihnfpaaGreat
open Go Go.Abs

/-- A root: count, epoch, slots, hash. -/
structure Rt where
  c : Int
  e : Int
  n : Int
  g : Pr
  deriving DecidableEq
def rt0 : Rt := ⟨0, 0, 0, (0, 0)⟩
structure Rt.Wf (r : Rt) : Prop where
  c : 0 ≤ r.c ∧ r.c < 18446744073709551616
  e : 0 ≤ r.e ∧ r.e < 4294967296
  g1 : 0 ≤ r.g.1 ∧ r.g.1 < 18446744073709551616
  g2 : 0 ≤ r.g.2 ∧ r.g.2 < 18446744073709551616
def rootB (r : Rt) : Bs := putB r.c 8 ++ (putB r.e 4 ++ (putB r.n 4 ++ pairB r.g))
theorem rootB_len (r : Rt) : (rootB r).length = 32 := by
  simp only [rootB, List.length_append, pairB, putB_lenN _ 4 (by decide), putB_lenN _ 8 (by decide)]
def rootD (b : Bs) : Rt := ⟨getB (b.take 8), getB ((b.drop 8).take 4), getB ((b.drop 12).take 4), pairF ((b.drop 16).take 16)⟩
def rootG (b : Bs) : Bool := decide (b.length = 32) && isG (getB ((b.drop 12).take 4))
/-- A root, in bytes, and back. -/
theorem rootG_B (r : Rt) (hr : r.Wf) (hg : isG r.n = true) : rootG (rootB r) = true ∧ rootD (rootB r) = r := by
  have hn := isG_cases hg
  have e1 : (rootB r).take 8 = putB r.c 8 := List.take_left' (putB_lenN _ 8 (by decide))
  have s8 : (rootB r).drop 8 = putB r.e 4 ++ (putB r.n 4 ++ pairB r.g) := List.drop_left' (putB_lenN _ 8 (by decide))
  have s12 : (rootB r).drop 12 = putB r.n 4 ++ pairB r.g := by
    rw [show 12 = 8 + 4 from rfl, ← List.drop_drop, s8]; exact List.drop_left' (putB_lenN _ 4 (by decide))
  have s16 : (rootB r).drop 16 = pairB r.g := by
    rw [show 16 = 12 + 4 from rfl, ← List.drop_drop, s12]; exact List.drop_left' (putB_lenN _ 4 (by decide))
  have p16 : (pairB r.g).take 16 = pairB r.g := List.take_of_length_le (by simp [pairB])
  have en : getB (((rootB r).drop 12).take 4) = r.n := by rw [s12, List.take_left' (putB_lenN _ 4 (by decide)), get_put4 _ (by omega)]
  refine ⟨by rw [rootG, en, hg, rootB_len]; rfl, ?_⟩
  rw [rootD, en, e1, s8, s16, List.take_left' (putB_lenN _ 4 (by decide)), p16, get_put8 _ hr.c, get_put4 _ hr.e, pairF_B _ hr.g1 hr.g2]

/-- A record's bytes. -/
def recB (e v : Int) (b : Bs) (tg : Pr) : Bs := putB e 4 ++ (putB v 8 ++ (b ++ pairB tg))
theorem recB_len (e v : Int) (b : Bs) (tg : Pr) (hb : b.length = 32) : (recB e v b tg).length = 60 := by
  simp only [recB, List.length_append, pairB, putB_lenN _ 4 (by decide), putB_lenN _ 8 (by decide), hb]
/-- A record out of bytes. -/
structure Rec where
  e : Int
  v : Int
  b : Bs
  tg : Pr
def recD (r : Bs) : Rec := ⟨getB (r.take 4), getB ((r.drop 4).take 8), (r.drop 12).take 32, pairF ((r.drop 44).take 16)⟩
end Go.Proofs.YtafkhpjnihnfpaaGreat


namespace Go.Proofs.YtafkhpjnihnfpaaGreat
open Go Go.Abs

def mkO (boot : Int) (k : Nat) : AObj := .mem 2 [[.int .u64 boot, .int .i64 k]]
theorem nonce_New_ae {h : AHeap} {nx : Nat} (hn : h.next = nx) (boot : Int) (hb : 0 ≤ boot ∧ boot < 4294967296) : AE Tryz.prog 51 [.int .u64 boot] h (.tup [.ptr nx 0 0, .int .i64 0]) (h.put nx (mkO boot 0)) := by
  subst hn
  refine AC.introW is_nonce_New (by simp) ?_
  unfold c_nonce_New
  (refine go ?_)
  (refine WW.ifB rfl (fun hz1 => ?_) (fun hz1 => ?_))
  · exfalso; omega
  (refine go ?_)
  exact WW.ret ⟨.inl rfl, _, gRES, rfl, rfl⟩
theorem nonce_Left_ae {h : AHeap} {m : Nat} {boot : Int} {k : Nat} (hm : h.get m = some (mkO boot k)) (hk : k ≤ 100) : AE Tryz.prog 133 [.ptr m 0 0] h (.int .i64 (100 - k)) h := by
  refine AE.wf fun hwf => ?_
  have h0 := hwf _ _ hm
  refine AE.pureW is_nonce_Maker_Left (by simp) ?_
  unfold c_nonce_Maker_Left
  simp only [mkO] at hm
  (refine go ?_)
  refine WW.ret (PureQ.finD ?_)
  exact fz_i rfl
theorem nonce_Next_ae {h : AHeap} {m : Nat} {boot : Int} {k : Nat} (hm : h.get m = some (mkO boot k)) (hb : 0 ≤ boot ∧ boot < 4294967296) (hk : k < 100) (e slot : Int) (hs : 0 ≤ slot ∧ slot ≤ 65535) :
    AE Tryz.prog 171 [.ptr m 0 0, .int .u32 e, .int .i64 slot] h (.tup [.agg (encN (e, slot, boot * 4294967296 + ((k + 1 : Nat) : Int))), .int .i64 0]) (h.set m (some (mkO boot (k + 1)))) := by
  refine AE.wf fun hwf => ?_
  have h0 := hwf _ _ hm
  refine AE.effW is_nonce_Maker_Next (by simp) ?_ ?_
  · exact Ext.set Ext.refl (Nm.old hm) (clo_flat4 (by simp [AV.flat]))
  unfold c_nonce_Maker_Next
  have hm' := hm
  simp only [mkO] at hm'
  (refine go ?_)
  (apply WL.orB; exact rfl; exact rfl; exact rfl; exact BP.of; intro hz1)
  · (repeat first | (apply GW.goS; exact Stp.auto) | apply GW.nil | exact rfl)
  (refine go ?_)
  (refine WW.ifB rfl (fun hz2 => ?_) (fun hz2 => ?_))
  · exfalso; simp at hz2; omega
  (refine go ?_)
  refine WL.call rfl (by first | exact True.intro | exact rfl) gSL (nonce_Left_ae (get_put_neE (by omega) hm) (by omega)) ?_
  (refine go ?_)
  (refine WW.ifB rfl (fun hz3 => ?_) (fun hz3 => ?_))
  · exfalso; omega
  (refine go ?_)
  have hx : IntKind.u64.wrap (IntKind.u64.wrap (boot * 2 ^ min (Int.toNat 32) IntKind.u64.bits) + ((k + 1 : Nat) : Int)) = boot * 4294967296 + ((k + 1 : Nat) : Int) := by
    rw [show min (Int.toNat 32) IntKind.u64.bits = 32 by decide, wrap_in (k := .u64) (n := boot * 2 ^ 32) (by constructor <;> omega), wrap_in (by constructor <;> omega)]; rfl
  refine WW.ret (EffQ.finD ?_ ?_)
  · refine ⟨gLE, fun id hu => ?_⟩; have hlt : id < AHeap.next h := hu.1; simp only [get_put, get_set]; (repeat' split) <;> first | rfl | omega | (simp [mkO]; done)
  · exact Fz.tup2 (fz_agg (by rw [hx]; rfl) (by simp [AV.flat])) (fz_i rfl)
end Go.Proofs.YtafkhpjnihnfpaaGreat


namespace Go.Proofs.YtafkhpjnihnfpaaGreat
open Go Go.Abs

def dkPut (n : DkN) (w : PwS) (x : DkS) (h : AHeap) : AHeap := (((h.set n.p (some (.mem 4 [w.row]))).set n.w (some (.tail x.gen x.waits.length))).set n.t (some (.tail 0 x.trace.length))).set n.d (some (.mem 36 [dkRow n.p n.w n.t x]))
structure DkNe (h : AHeap) (n : DkN) : Prop where
  a1 : n.p < h.next
  a2 : n.d < h.next
  a4 : n.w < h.next
  a5 : n.t < h.next
  b1 : n.p ≠ n.d
  b3 : n.p ≠ n.w
  b4 : n.p ≠ n.t
  b6 : n.d ≠ n.w
  b7 : n.d ≠ n.t
  bx : n.w ≠ n.t
theorem DkAt.nes {h : AHeap} {n : DkN} {w : PwS} {x : DkS} (hd : DkAt h n w x) (hwf : ∀ id y, h.get id = some y → id < h.next) : DkNe h n := by
  obtain ⟨q1, q2, q4, q5, q6, q7⟩ := hd
  have key : ∀ {i j : Nat} {y z : AObj}, h.get i = some y → h.get j = some z → y ≠ z → i ≠ j := fun hi hj hne e => by
    subst e; rw [hi] at hj; exact hne (Option.some.inj hj)
  refine ⟨hwf _ _ q1, hwf _ _ q2, hwf _ _ q4, hwf _ _ q5, key q1 q2 ?_, key q1 q4 ?_, key q1 q5 ?_, key q2 q4 ?_, key q2 q5 ?_, q6⟩ <;> simp
theorem DkAt.put {h : AHeap} {n : DkN} (hn : DkNe h n) (w' : PwS) {x' : DkS} (hl : x'.lasts.length = 32) : DkAt (dkPut n w' x' h) n w' x' := by
  obtain ⟨a1, a2, a4, a5, b1, b3, b4, b6, b7, bx⟩ := hn
  unfold dkPut
  exact ⟨gH, gH, gH, gH, bx, hl⟩
def DkS.write (x : DkS) (o : Wr) (ok : Bool) : DkS := if ok then { x with waits := x.waits ++ [o], trace := x.trace ++ [o] } else x
/-- A block as it is read. -/
def DkS.block (x : DkS) (lba : Int) : Bs := x.waits.foldl (fun b o => if o.1 = lba then o.2 else b) (x.lasts.getD lba.toNat [])
end Go.Proofs.YtafkhpjnihnfpaaGreat


namespace Go.Proofs.YtafkhpjnihnfpaaGreat
open Go Go.Abs

/-- A function that has a body. -/
structure Bodied (f : Nat) : Prop where
  ok : bodied Tryz.prog f = true
/-- What waits is laid, as far as K says. -/
def settleF (K : Nat → Bool) : Nat → List Wr → Bs → Bs
  | _, [], b => b
  | i, x :: r, b => settleF K (i + 1) r (if K i then layO b x else b)
theorem settle_len (K : Nat → Bool) (n : Nat) : ∀ (l : List Wr) (i : Nat) (b : Bs), (∀ x ∈ l, 0 ≤ x.1 ∧ x.1 + x.2.length ≤ n) → b.length = n → (settleF K i l b).length = n
  | [], _, _, _, hb => hb
  | x :: r, i, b, hw, hb => by
    rw [settleF]
    refine settle_len K n r (i + 1) _ (fun y hy => hw y (by simp [hy])) ?_
    split
    · rw [layO_len _ _ (by have := hw x (by simp); omega), hb]
    · exact hb
def SdS.settle (x : SdS) (K : Nat → Bool) : SdS := { x with lasts := settleF K 0 x.waits x.lasts, waits := [], gen := x.gen + 1 }
/-- A barrier, if there is power: all that waits lasts. -/
def SdS.barrier (x : SdS) (ok : Bool) : SdS := if ok then { x.settle (fun _ => true) with trace := x.trace ++ [(-1, [])] } else x
theorem lay_len : ∀ (l : List Wr) (b : Bs) (n : Nat), b.length = n → (∀ o ∈ l, 0 ≤ o.1 ∧ o.1 + o.2.length ≤ n) → (l.foldl layO b).length = n
  | [], _, _, hb, _ => hb
  | o :: l, b, n, hb, hw => by
    rw [List.foldl_cons]
    exact lay_len l _ n (by rw [layO_len _ _ (by have := hw o (by simp); omega), hb]) fun y hy => hw y (by simp [hy])
theorem snap_len {x : SdS} (hw : ∀ o ∈ x.waits, 0 ≤ o.1 ∧ o.1 + o.2.length ≤ x.lasts.length) : x.snap.length = x.lasts.length := lay_len _ _ _ rfl hw
def sd0 (k : Nat) : SdS := ⟨List.replicate k 0, [], [], 0⟩
def sdNew (p nx k : Nat) (h : AHeap) : AHeap := (((h.put nx (.mem 1 ((sd0 k).lasts.map encB))).put (nx + 1) ((sd0 k).obj ⟨p, nx + 1, nx, nx + 2, nx + 3⟩)).put (nx + 2) (.tail 0 0)).put (nx + 3) (.tail 0 0)
theorem ssd_New_ae {h : AHeap} {p nx : Nat} (hn : h.next = nx) (hp : p < nx) (k : Nat) (hk : k ≤ 65536) : AE Tryz.prog 43 [.int .i64 k, .ptr p 0 0] h (.ptr (nx + 1) 0 0) (sdNew p nx k h) := by
  subst hn
  refine AC.introW is_ssd_New (by simp) ?_
  unfold c_ssd_New
  (refine go ?_)
  (refine WW.ifB rfl (fun hz1 => ?_) (fun hz1 => ?_))
  · exfalso; omega
  (repeat first | refine WW.seq ?_ | refine WW.reg ?_ | refine WL.nil ?_ | refine WW.skip ?_ | refine WW.block ?_ | refine thenN ?_ | refine blkN ?_)
  (repeat first | refine WW.seq ?_ | refine WW.reg ?_ | refine WL.nil ?_ | refine WW.skip ?_ | refine WW.block ?_ | refine thenN ?_ | refine blkN ?_); iterate 2 (refine WL.go ?_)
  (repeat first | refine WW.seq ?_ | refine WW.reg ?_ | refine WL.nil ?_ | refine WW.skip ?_ | refine WW.block ?_ | refine thenN ?_ | refine blkN ?_); iterate 4 (refine WL.go ?_)
  have hz : List.replicate k [AV.int .u8 0] = (sd0 k).lasts.map encB := by show _ = (List.replicate k (0 : UInt8)).map encB; rw [List.map_replicate]; rfl
  rw [hz]
  refine WL.cvt (Cvt.adoptM 2 (id := h.next + 1) (i := 0) (j := 2) gH rfl rfl gN) ?_
  refine WL.cvt (Cvt.adoptM 2 (id := h.next + 1) (i := 0) (j := 3) gH rfl rfl gN) ?_
  (refine go ?_)
  refine WW.ret ⟨.inl rfl, _, gRES, rfl, hp_ext' (fun i => ?_) ?_ fun i => rfl⟩
  · have ho : (sd0 k).obj ⟨p, h.next + 1, h.next, h.next + 2, h.next + 3⟩ = .mem 4 [[.ptr p 0 0, .ref h.next 0 k, .app (h.next + 2) 0 2 [], .app (h.next + 3) 0 2 []]] := by simp [SdS.obj, sd0]
    unfold sdNew
    rw [ho]
    simp only [get_put, get_set]
    (repeat' split) <;> first | rfl | omega
  · unfold sdNew; exact (gN : _ = h.next + 1 + 1 + 1 + 1).trans (gN : _ = h.next + 1 + 1 + 1 + 1).symm
end Go.Proofs.YtafkhpjnihnfpaaGreat


namespace Go.Proofs.YtafkhpjnihnfpaaGreat
open Go Go.Abs

/-- A real lock's cells. -/
def reC : List AV := [.func (.func 67) [] [], .func (.func 68) [] [], .func (.func 69) [] [], .func (.func 70) [.nilp] [], .func (.func 71) [.nilp] []]
theorem lock_Real_ae {h : AHeap} {nx : Nat} (hn : h.next = nx) : AE Tryz.prog 41 [] h (.ptr nx 0 0) (h.put nx (.mem 5 [reC])) := by
  subst hn
  refine AC.introW is_lock_Real (by simp) ?_
  unfold c_lock_Real
  (refine go ?_)
  exact WW.ret ⟨.inl rfl, _, gRES, rfl, rfl⟩
end Go.Proofs.YtafkhpjnihnfpaaGreat


namespace Go.Proofs.YtafkhpjnihnfpaaGreat
open Go Go.Abs

theorem oracle_IssuedN_ae (h : AHeap) : AE Tryz.prog 70 [.nilp] h (.imm 10 []) h := by
  refine AE.pureW is_oracle_Oracle_Issued (by simp) ?_
  unfold c_oracle_Oracle_Issued
  (refine go ?_)
  refine WW.ret (PureQ.finD ?_)
  exact .nil _
theorem lock_IssuedR_ae {h : AHeap} {l : Nat} (hl : h.get l = some (.mem 5 [reC])) : AE Tryz.prog 34 [.ptr l 0 0] h (.imm 10 []) h := by
  refine AE.pureW is_lock_Lock_Issued (by simp) ?_
  unfold c_lock_Lock_Issued
  simp only [reC] at hl
  (refine go ?_)
  refine WL.fx1 (FX.callv rfl rfl (by first | exact True.intro | exact rfl) (by kernel_rfl) (oracle_IssuedN_ae _)) ?_
  (refine go ?_)
  refine WW.ret (PureQ.finD ?_)
  exact fz_imm rfl (by simp [flatC])
theorem lock_TwiceI_ae {h : AHeap} {l o t s g : Nat} {L : List Iss} {S : List Bs} (hl : IdAt h l o t s g L S) (hL : L.length ≤ 1000000) : AE Tryz.prog 36 [.ptr l 0 0] h (.bool (dupB (L.map kn))) h := by
  obtain ⟨q0, hO⟩ := hl
  refine AE.pureW is_lock_Lock_Twice (by simp) ?_
  unfold c_lock_Lock_Twice
  simp only [idC] at q0
  (refine go ?_)
  refine WL.fx1 (FX.callv rfl rfl (by first | exact True.intro | exact rfl) (by kernel_rfl) (oracle_Twice_ae hO hL)) ?_
  (refine go ?_)
  refine WW.ret (PureQ.finD ?_)
  exact fz_b rfl
end Go.Proofs.YtafkhpjnihnfpaaGreat


namespace Go.Proofs.YtafkhpjnihnfpaaGreat
open Go Go.Abs

theorem lock_SealI_ae {h : AHeap} {l o t s g : Nat} {L : List Iss} {S : List Bs} (hl : IdAt h l o t s g L S) (hL : L.length ≤ 1000000) (k : Pr) (n : Nn) (head data : Bs) (hh : head.length ≤ 4000) (hd : data.length ≤ 4000) :
    AE Tryz.prog 172 [.ptr l 0 0, .agg (encP k), .agg (encN n), .imm 1 (head.map encB), .imm 1 (data.map encB)] h
      (.tup [.agg (encS (newI (L.length + 1) k n head data).out (newI (L.length + 1) k n head data).tag), .bool true])
      ((h.set t (some (.tail g (L.length + 1)))).set o (some (.mem 2 [[.app t g 10 ((L ++ [newI (L.length + 1) k n head data]).map encI), .map s]]))) := by
  obtain ⟨q0, hO⟩ := hl
  obtain ⟨q1, q2, q3⟩ := id hO
  refine AE.wf fun hwf => ?_
  have h0 := hwf _ _ q0
  have ho := hwf _ _ q1
  have ht := hwf _ _ q2
  have hs := hwf _ _ q3
  have d1 : l ≠ o := fun e => by subst e; rw [q0] at q1; cases q1
  have d2 : l ≠ t := fun e => by subst e; rw [q0] at q2; cases q2
  have d3 : t ≠ o := fun e => by subst e; rw [q1] at q2; cases q2
  refine AE.effW is_lock_Lock_Seal (by simp) ?_ ?_
  · refine Ext.set (Ext.set (x := .tail _ _) Ext.refl (Nm.old q2) trivial) (Nm.old q1) ?_
    intro x hx v hv
    simp only [List.mem_singleton] at hx
    subst hx
    simp only [List.mem_cons, List.not_mem_nil, or_false] at hv
    rcases hv with rfl | rfl
    · exact .app _ _ _ _ (Nm.old q2) fun x hx v hv => by
        obtain ⟨i, _, rfl⟩ := List.mem_map.1 hx
        exact clo_encI i v hv
    · exact .map _ (Nm.old q3)
  unfold c_lock_Lock_Seal
  simp only [idC] at q0
  (repeat first | refine WL.go ?_ | refine WW.seq ?_ | refine WW.reg ?_ | refine WL.nil ?_ | refine WW.skip ?_ | refine WW.block ?_ | refine WW.exit ?_ | refine WW.condT rfl ?_ | refine WW.condF rfl ?_ | refine WL.gox ?_ | refine thenN ?_ | refine blkN ?_)
  refine WW.dregX [8, 11] [] [t, o, h.next + 2] gN (by decide +kernel) ?_
  (refine go ?_)
  have hcon := oracle_Seal_ae (h := ((h.put h.next (.mem 2 [encP k])).put (h.next + 1) (.mem 3 [encN n])).put (h.next + 2) (.mem 3 [[.nils, .int .u64 0, .int .u64 0]])) (orAt_get hO gE gE gE) hL k n head data hh hd
  refine DW.fx0 (FX.callv rfl rfl (by first | exact True.intro | exact rfl) (by kernel_rfl) hcon) rfl rfl (fun hp => PhiW.setW (by simp) (PhiW.setW (by simp) hp)) rfl ?_
  (refine go ?_)
  generalize newI (L.length + 1) k n head data = x at *
  refine WW.ret (EffQ.finD ?_ ?_)
  · refine ⟨gLE, fun id hu => ?_⟩; have hlt : id < AHeap.next h := hu.1; simp only [get_put, get_set]; (repeat' split) <;> first | rfl | omega | (simp []; done)
  · refine .clo _ (.tup _ fun v hv => ?_)
    simp only [List.mem_cons, List.not_mem_nil, or_false] at hv
    rcases hv with rfl | rfl
    · exact .agg _ (clo_encS x.out x.tag)
    · exact .bool _
theorem lock_IssuedI_ae {h : AHeap} {l o t s g : Nat} {L : List Iss} {S : List Bs} (hl : IdAt h l o t s g L S) (hL : L.length ≤ 1000000) (hx : ∀ x ∈ L, x.head.length ≤ 1000000 ∧ x.data.length ≤ 1000000 ∧ x.out.length ≤ 1000000) :
    AE Tryz.prog 34 [.ptr l 0 0] h (.imm 10 (L.map encI)) h := by
  obtain ⟨q0, hO⟩ := hl
  refine AE.pureW is_lock_Lock_Issued (by simp) ?_
  unfold c_lock_Lock_Issued
  simp only [idC] at q0
  (refine go ?_)
  refine WL.fx1 (FX.callv rfl rfl (by first | exact True.intro | exact rfl) (by kernel_rfl) (oracle_Issued_ae hO hL hx)) ?_
  (refine go ?_)
  refine WW.ret (PureQ.finD ?_)
  exact .clo _ (.imm _ _ fun x hx v hv => by
    obtain ⟨i, _, rfl⟩ := List.mem_map.1 hx
    exact clo_encI i v hv)
end Go.Proofs.YtafkhpjnihnfpaaGreat


namespace Go.Proofs.YtafkhpjnihnfpaaGreat
open Go Go.Abs

/-- All that is there: slots, power, the devices, the counters, the keys, what the lock sealed and summed. -/
structure WS where
  n : Int
  pw : PwS
  sd : SdS
  dk : DkS
  ct : CtS
  ks : KsS
  L : List Iss
  S : List Bs
/-- The names of a world's objects: power, the lock's four, from a on the rest. -/
structure WN where
  p : Nat
  l : Nat
  o : Nat
  t : Nat
  q : Nat
  a : Nat
  B : Nat
  E : Nat
def wRow (n : WN) (k : Int) : List AV := [.int .i64 k, .ptr n.p 0 0, .ptr (n.a + 1) 0 0, .ptr (n.a + 4) 0 0, .ptr (n.a + 7) 0 0, .ptr (n.a + 9) 0 0, .ptr n.l 0 0]
/-- Either lock, by what it sealed and summed. -/
structure LkAt (md : Bool) (h : AHeap) (l o t q : Nat) (L : List Iss) (S : List Bs) : Prop where
  id : md = true → IdAt h l o t q 0 L S
  re : md = false → h.get l = some (.mem 5 [reC])
structure WAt (md : Bool) (h : AHeap) (n : WN) (s : WS) : Prop where
  sd : SdAt h ⟨n.p, n.a + 1, n.B, n.a + 2, n.a + 3⟩ s.pw s.sd
  dk : DkAt h ⟨n.p, n.a + 4, n.a + 5, n.a + 6⟩ s.pw s.dk
  ct : h.get (n.a + 7) = some (s.ct.obj n.p)
  ks : KsAt h n.p (n.a + 9) n.E s.ks
  w : h.get (n.a + 10) = some (.mem 7 [wRow n s.n])
  lk : LkAt md h n.l n.o n.t n.q s.L s.S
  op : n.p < n.a
  ol : n.l < n.a
  oo : md = true → n.o < n.a ∧ n.t < n.a ∧ n.q < n.a
  nx : n.a + 11 ≤ h.next
  oB : (n.B = n.a ∨ n.a + 11 ≤ n.B) ∧ (n.E = n.a + 8 ∨ n.a + 11 ≤ n.E) ∧ n.B ≠ n.E
  nB : n.B < h.next ∧ n.E < h.next
def ws0 (k : Nat) (seed : Int) : WS := ⟨k, ⟨false, false, 0, 0⟩, sd0 (k * 160 + 120), dk0, ⟨0, 0, 0⟩, ⟨seed, [1]⟩, [], []⟩
theorem SdAt.same {h h' : AHeap} {n : SdN} {w : PwS} {x : SdS} (hd : SdAt h n w x) (h1 : h'.get n.p = h.get n.p) (h2 : h'.get n.s = h.get n.s) (h3 : h'.get n.B = h.get n.B) (h4 : h'.get n.w = h.get n.w) (h5 : h'.get n.t = h.get n.t) : SdAt h' n w x :=
  ⟨h1.trans hd.pw, h2.trans hd.ob, h3.trans hd.bl, h4.trans hd.wt, h5.trans hd.tr, hd.ne⟩
theorem DkAt.same {h h' : AHeap} {n : DkN} {w : PwS} {x : DkS} (hd : DkAt h n w x) (h1 : h'.get n.p = h.get n.p) (h2 : h'.get n.d = h.get n.d) (h4 : h'.get n.w = h.get n.w) (h5 : h'.get n.t = h.get n.t) : DkAt h' n w x :=
  ⟨h1.trans hd.pw, h2.trans hd.ob, h4.trans hd.wt, h5.trans hd.tr, hd.ne, hd.ll⟩
theorem KsAt.same {h h' : AHeap} {p k te : Nat} {s : KsS} (hd : KsAt h p k te s) (h2 : h'.get k = h.get k) (h3 : h'.get te = h.get te) : KsAt h' p k te s :=
  ⟨h2.trans hd.ob, h3.trans hd.tl, hd.ne, hd.sm⟩
theorem LkAt.same {md : Bool} {h h' : AHeap} {l o t q : Nat} {L : List Iss} {S : List Bs} (hd : LkAt md h l o t q L S) (h1 : h'.get l = h.get l) (h2 : md = true → h'.get o = h.get o ∧ h'.get t = h.get t ∧ h'.get q = h.get q) : LkAt md h' l o t q L S := by
  refine ⟨fun e => ?_, fun e => h1.trans (hd.re e)⟩
  obtain ⟨g1, g2, g3⟩ := h2 e
  obtain ⟨q0, q1, q2, q3⟩ := hd.id e
  exact ⟨h1.trans q0, ⟨g1.trans q1, g2.trans q2, g3.trans q3⟩⟩
theorem sdNew_ex {h : AHeap} {p nx k : Nat} {w : PwS} (hn : h.next = nx) (hp : p < nx) (hw : h.get p = some (.mem 4 [w.row])) : ∃ h1, sdNew p nx k h = h1 ∧ SdAt h1 ⟨p, nx + 1, nx, nx + 2, nx + 3⟩ w (sd0 k) ∧ h1.next = nx + 4 ∧ (∀ id, id < nx → h1.get id = h.get id) ∧ (∀ h0 : AHeap, Keeps h0 h → Keeps h0 h1) := by
  subst hn
  refine ⟨_, rfl, ?_, ?_, fun id hi => ?_, fun h0 k0 => ?_⟩
  · unfold sdNew
    exact sdAt_of gH gH gH gH gH (by omega)
  · unfold sdNew; show AHeap.next _ = h.next + 1 + 1 + 1 + 1; exact gN
  · unfold sdNew; exact gE
  · have := k0.1
    unfold sdNew; exact gK
theorem dkNew_ex {h : AHeap} {p nx : Nat} {w : PwS} (hn : h.next = nx) (hp : p < nx) (hw : h.get p = some (.mem 4 [w.row])) : ∃ h1, dkNew p nx h = h1 ∧ DkAt h1 ⟨p, nx, nx + 1, nx + 2⟩ w dk0 ∧ h1.next = nx + 3 ∧ (∀ id, id < nx → h1.get id = h.get id) ∧ (∀ h0 : AHeap, Keeps h0 h → Keeps h0 h1) := by
  subst hn
  refine ⟨_, rfl, ?_, ?_, fun id hi => ?_, fun h0 k0 => ?_⟩
  · unfold dkNew
    exact dkAt_of gH gH gH gH (by omega) (by simp [dk0])
  · unfold dkNew; show AHeap.next _ = h.next + 1 + 1 + 1; exact gN
  · unfold dkNew; exact gE
  · have := k0.1
    unfold dkNew; exact gK
set_option maxHeartbeats 2000000 in
theorem world_New_ac (md : Bool) (k : Nat) (hk : isG k = true) (seed : Int) (h : AHeap) : AC Tryz.prog 25 [.int .i64 k, .int .u64 seed, .bool md] h
    (fun r h' => ∃ n : WN, r = .tup [.ptr (n.a + 10) 0 0, .int .i64 0] ∧ WAt md h' n (ws0 k seed) ∧ h.next ≤ n.p ∧ h.next ≤ n.l ∧ (md = true → h.next ≤ n.o ∧ h.next ≤ n.t ∧ h.next ≤ n.q) ∧ h.next ≤ h'.next ∧ ∀ h0 : AHeap, Keeps h0 h → Keeps h0 h') := by
  refine AC.introW is_world_New (by simp) ?_
  unfold c_world_New
  (refine go ?_)
  refine WL.call rfl (by first | exact True.intro | exact rfl) gSL (geom_Is_ae k _) ?_
  rw [hk]
  (refine go ?_)
  refine WL.call rfl (by first | exact True.intro | exact rfl) gSL (power_New_ae rfl) ?_
  (refine go ?_)
  refine WL.call rfl (by first | exact True.intro | exact rfl) gSL (lock_Real_ae (nx := h.next + 1 + 1) gN) ?_
  refine WL.go ?_
  refine WL.nil ?_
  refine thenN ?_
  have hkk := isG_cases hk
  have hsz : sizeG (k : Int) = ((k * 160 + 120 : Nat) : Int) := by rw [sizeG, if_pos hk]; omega
  rw [put_set]
  refine WW.seqM (fun e7 h7 => ∃ l o t q a, subE [(1, some (.int .u64 seed)), (8, some (.ptr (h.next + 1) 0 0)), (9, some (.ptr h.next 0 0)), (10, some (.ptr l 0 0))] e7 ∧
    h7.get h.next = some (.mem 4 [(⟨false, false, 0, 0⟩ : PwS).row]) ∧ h7.get (h.next + 1) = some (.mem 1 [[.int .i64 k]]) ∧ LkAt md h7 l o t q [] [] ∧ h7.next = a ∧ h.next + 2 ≤ l ∧ l < a ∧ (md = true → h.next + 2 ≤ o ∧ o < a ∧ h.next + 2 ≤ t ∧ t < a ∧ h.next + 2 ≤ q ∧ q < a) ∧ ∀ h0 : AHeap, Keeps h0 h → Keeps h0 h7) ?_ ?_
  · cases md with
    | false =>
      (refine go ?_)
      refine ⟨rfl, h.next + 1 + 1, 0, 0, 0, h.next + 1 + 1 + 1, gSUB, gH, gH, ⟨nofun, fun _ => gH⟩, gN, by omega, by omega, nofun, fun h0 k0 => ?_⟩
      have := k0.1
      exact gK
    | true =>
      (refine go ?_)
      refine WL.call rfl (by first | exact True.intro | exact rfl) gSL (lock_Ideal_ae (nx := h.next + 1 + 1 + 1) gN) ?_
      obtain ⟨h2, e2, o2, n2, m2, k2⟩ := newL_ex (h := ((h.put h.next (.mem 4 [(⟨false, false, 0, 0⟩ : PwS).row])).put (h.next + 1) (.mem 1 [[.int .i64 k]])).put (h.next + 1 + 1) (.mem 5 [reC])) (nx := h.next + 1 + 1 + 1) gN
      rw [e2]
      clear e2
      have hx0 : Keeps h (((h.put h.next (.mem 4 [(⟨false, false, 0, 0⟩ : PwS).row])).put (h.next + 1) (.mem 1 [[.int .i64 k]])).put (h.next + 1 + 1) (.mem 5 [reC])) := gK
      (refine go ?_)
      refine ⟨rfl, _, _, _, _, _, gSUB, (m2 _ (by omega)).trans gH, (m2 _ (by omega)).trans gH, ⟨fun _ => o2, nofun⟩, n2, by omega, by omega, fun _ => ⟨by omega, by omega, by omega, by omega, by omega, by omega⟩, fun h0 k0 => k2 h0 ?_⟩
      have := k0.1
      exact gK
  · rintro e7 h7 ⟨l, o, t, q, a, hs7, hp0, hg0, hlk, hn7, l1, l2, hid, hK⟩
    refine WW.cvt (Cvt.sub hs7) ?_
    have hKh := (hK h (Keeps.refl _)).1
    (repeat first | refine WL.go ?_ | refine WW.seq ?_ | refine WW.reg ?_ | refine WL.nil ?_ | refine WW.skip ?_ | refine WW.block ?_ | refine WW.exit ?_ | refine WW.condT rfl ?_ | refine WW.condF rfl ?_ | refine WL.gox ?_ | refine thenN ?_ | refine blkN ?_)
    refine WW.dregX [5, 7, 9, 12, 15] [0] [] gN (by decide +kernel) ?_
    (refine go ?_)
    refine DW.callS rfl (by first | exact True.intro | exact rfl) gSL rfl (geom_Size_ae k _) ?_
    rw [hsz]
    (refine go ?_)
    refine DW.callSW rfl (by first | exact True.intro | exact rfl) gSL rfl rfl (fun hp => by unfold sdNew; exact PhiW.put (by omega) (PhiW.put (by omega) (PhiW.put (by omega) (PhiW.put (by omega) hp)))) (ssd_New_ae (nx := a) hn7 (by omega) (k * 160 + 120) (by omega)) ?_
    obtain ⟨h1, e1, d1, n1, m1, k1⟩ := sdNew_ex (k := k * 160 + 120) (nx := a) hn7 (by omega) hp0
    rw [e1]
    clear e1
    have hp1 := (m1 h.next (by omega)).trans hp0
    (refine go ?_)
    refine DW.callSW rfl (by first | exact True.intro | exact rfl) gSL rfl rfl (fun hp => by unfold dkNew; exact PhiW.put (by omega) (PhiW.put (by omega) (PhiW.put (by omega) hp))) (disk_New_ae (nx := a + 4) n1 (by omega)) ?_
    obtain ⟨h2, e2, d2, n2, m2, k2⟩ := dkNew_ex n1 (by omega) hp1
    rw [e2]
    clear e2
    (refine go ?_)
    refine DW.callSW rfl (by first | exact True.intro | exact rfl) gSL rfl rfl (fun hp => by repeat first | exact hp | refine PhiW.put (by omega) ?_ | refine PhiW.setN (by omega) ?_ | refine PhiW.setW (by simp; done) ?_) (count_New_ae (nx := a + 4 + 3) gN (p := h.next)) ?_
    (refine go ?_)
    refine DW.callSW rfl (by first | exact True.intro | exact rfl) gSL rfl rfl (fun hp => by repeat first | exact hp | refine PhiW.put (by omega) ?_ | refine PhiW.setN (by omega) ?_ | refine PhiW.setW (by simp; done) ?_) (keys_New_ae (nx := a + 4 + 3 + 1) gN seed) ?_
    (refine go ?_)
    refine WW.named (fun hF => (∀ id, id < a + 7 → hF.get id = h2.get id) ∧ hF.get (a + 7) = some (CtS.obj h.next ⟨0, 0, 0⟩) ∧ hF.get (a + 8) = some (.mem 1 [[.int .u32 1]]) ∧ hF.get (a + 9) = some ((⟨seed, [1]⟩ : KsS).obj h.next (a + 8)) ∧ hF.get (a + 10) = some (.mem 7 [[.int .i64 k, .ptr h.next 0 0, .ptr (a + 1) 0 0, .ptr (a + 4) 0 0, .ptr (a + 7) 0 0, .ptr (a + 9) 0 0, .ptr l 0 0]]) ∧ hF.next = a + 11 ∧ ∀ h0 : AHeap, Keeps h0 h → Keeps h0 hF)
      ⟨fun id hi => gE, gH, gH, gH, gH, ?_, fun h0 k0 => ?_⟩ ?_
    · show AHeap.next _ = a + 4 + 3 + 1 + 1 + 1 + 1
      exact gN
    · have k3 := k2 h0 (k1 h0 (hK h0 k0))
      have k4 := (hK h0 k0).1
      exact gK
    rintro hF ⟨f1, f2, f3, f4, f5, f6, f7⟩
    have f8 : ∀ id, id < a + 4 → hF.get id = h1.get id := fun id hi => (f1 id (by omega)).trans (m2 id hi)
    have f9 : ∀ id, id < a → hF.get id = h7.get id := fun id hi => (f8 id (by omega)).trans (m1 id hi)
    refine WW.ret ⟨.inl rfl, _, gRES, ⟨h.next, l, o, t, q, a, a, a + 8⟩, rfl, ⟨d1.same (f8 _ ?_) (f8 _ ?_) (f8 _ ?_) (f8 _ ?_) (f8 _ ?_), d2.same (f1 _ ?_) (f1 _ ?_) (f1 _ ?_) (f1 _ ?_), f2, ⟨f4, f3, by simp [ws0], by simp [ws0]⟩, f5, hlk.same (f9 _ l2) fun e => ⟨f9 _ (hid e).2.1, f9 _ (hid e).2.2.2.1, f9 _ (hid e).2.2.2.2.2⟩, ?_, l2, fun e => ⟨(hid e).2.1, (hid e).2.2.2.1, (hid e).2.2.2.2.2⟩, ?_, ⟨.inl rfl, .inl rfl, ?_⟩, ?_⟩, Nat.le_refl _, ?_, fun e => ⟨?_, ?_, ?_⟩, ?_, f7⟩
    all_goals (first | omega | (dsimp only; omega) | (have := hid e; omega) | (have := hid e; dsimp only; omega))
end Go.Proofs.YtafkhpjnihnfpaaGreat


namespace Go.Proofs.YtafkhpjnihnfpaaGreat
open Go Go.Abs

def WS.key (s : WS) : Pr := if s.ks.cur ∈ s.ks.epochs then ofK s.ks.seed s.ks.cur else (0, 0)
theorem world_Key_ae {md : Bool} {h : AHeap} {n : WN} {s : WS} (hw : WAt md h n s) (hc : 0 ≤ s.ks.cur ∧ s.ks.cur < 4294967296) : AE Tryz.prog 170 [.ptr (n.a + 10) 0 0] h (.tup [.int .u32 s.ks.cur, .agg (encP s.key)]) h := by
  have hn := hw.nx
  have hob := hw.w
  simp only [wRow] at hob
  refine AE.pureW is_world_World_Key (by simp) ?_
  have hnB := hw.nB
  unfold c_world_World_Key
  (refine go ?_)
  refine WL.call rfl (by first | exact True.intro | exact rfl) gSL (keys_Current_ae (hw.ks.same gE gE)) ?_
  (refine go ?_)
  refine WL.call rfl (by first | exact True.intro | exact rfl) gSL (keys_Key_ae (hw.ks.same gE gE) s.ks.cur hc) ?_
  (refine go ?_)
  refine WW.ret (PureQ.finD ?_)
  exact Fz.tup2 (.clo _ (.int _ _)) (fz_agg rfl (flatP _))
/-- A seal by either lock. -/
def sealP (md : Bool) (L : List Iss) (k : Pr) (n : Nn) (head data : Bs) : Bs × Pr := match md with
  | true => ((newI (L.length + 1) k n head data).out, (newI (L.length + 1) k n head data).tag)
  | false => (gcmB k n data, gcmT k n head (gcmB k n data))
def sealL (md : Bool) (L : List Iss) (k : Pr) (n : Nn) (head data : Bs) : List Iss := match md with
  | true => L ++ [newI (L.length + 1) k n head data]
  | false => L
theorem lock_IssuedW_ae {md : Bool} {h : AHeap} {l o t q : Nat} {L : List Iss} {S : List Bs} (hl : LkAt md h l o t q L S) (hf : md = false → L = []) (hL : L.length ≤ 1000000) (hx : ∀ x ∈ L, x.head.length ≤ 1000000 ∧ x.data.length ≤ 1000000 ∧ x.out.length ≤ 1000000) :
    AE Tryz.prog 34 [.ptr l 0 0] h (.imm 10 (L.map encI)) h := by
  cases md with
  | true => exact lock_IssuedI_ae (hl.id rfl) hL hx
  | false => rw [hf rfl]; exact lock_IssuedR_ae (hl.re rfl)
end Go.Proofs.YtafkhpjnihnfpaaGreat


namespace Go.Proofs.YtafkhpjnihnfpaaGreat
open Go Go.Abs

abbrev WN.sdN (n : WN) : SdN := ⟨n.p, n.a + 1, n.B, n.a + 2, n.a + 3⟩
abbrev WN.dkN (n : WN) : DkN := ⟨n.p, n.a + 4, n.a + 5, n.a + 6⟩
theorem WAt.nep {md : Bool} {h : AHeap} {n : WN} {s : WS} (hw : WAt md h n s) : n.l ≠ n.p ∧ (md = true → n.o ≠ n.p ∧ n.t ≠ n.p ∧ n.q ≠ n.p) := by
  have key : ∀ {i j : Nat} {y z : AObj}, h.get i = some y → h.get j = some z → y ≠ z → i ≠ j := fun hi hj hne e => by
    subst e; rw [hi] at hj; exact hne (Option.some.inj hj)
  have hp := hw.sd.pw
  refine ⟨?_, fun e => ?_⟩
  · cases md with
    | true => exact key (hw.lk.id rfl).cells hp (by simp)
    | false => exact key (hw.lk.re rfl) hp (by simp)
  · obtain ⟨q0, q1, q2, q3⟩ := hw.lk.id e
    exact ⟨key q1 hp (by simp), key q2 hp (by simp), key q3 hp (by simp)⟩
/-- Names of a world that no device turns. -/
def WN.still (md : Bool) (n : WN) (id : Nat) : Prop := id = n.a + 10 ∨ id = n.l ∨ (md = true ∧ (id = n.o ∨ id = n.t ∨ id = n.q))
theorem WAt.re {md : Bool} {h h' : AHeap} {n : WN} {s s' : WS} (hw : WAt md h n s) (hn : s'.n = s.n) (hL : s'.L = s.L) (hS : s'.S = s.S) (hx : h.next ≤ h'.next) (sd : SdAt h' n.sdN s'.pw s'.sd) (dk : DkAt h' n.dkN s'.pw s'.dk) (ct : h'.get (n.a + 7) = some (s'.ct.obj n.p)) (ks : KsAt h' n.p (n.a + 9) n.E s'.ks) (fr : ∀ id, n.still md id → h'.get id = h.get id) : WAt md h' n s' := by
  refine ⟨sd, dk, ct, ks, (fr _ (.inl rfl)).trans (by rw [hn]; exact hw.w), ?_, hw.op, hw.ol, hw.oo, Nat.le_trans hw.nx hx, hw.oB, ⟨Nat.lt_of_lt_of_le hw.nB.1 hx, Nat.lt_of_lt_of_le hw.nB.2 hx⟩⟩
  rw [hL, hS]
  exact hw.lk.same (fr _ (.inr (.inl rfl))) fun e => ⟨fr _ (.inr (.inr ⟨e, .inl rfl⟩)), fr _ (.inr (.inr ⟨e, .inr (.inl rfl)⟩)), fr _ (.inr (.inr ⟨e, .inr (.inr rfl)⟩))⟩
theorem WAt.still {md : Bool} {h : AHeap} {n : WN} {s : WS} (hw : WAt md h n s) {id : Nat} (hi : n.still md id) : id ≠ n.p ∧ (id < n.a ∨ id = n.a + 10) := by
  have hp := hw.nep
  have h1 := hw.op
  have hoB := hw.oB
  have h2 := hw.ol
  rcases hi with rfl | rfl | ⟨e, rfl | rfl | rfl⟩
  · omega
  · omega
  · have := hw.oo e; have := hp.2 e; omega
  · have := hw.oo e; have := hp.2 e; omega
  · have := hw.oo e; have := hp.2 e; omega
theorem WAt.sdNe {md : Bool} {h : AHeap} {n : WN} {s : WS} (hw : WAt md h n s) : SdNe h n.sdN := by
  have h1 := hw.op
  have hoB := hw.oB
  have h2 := hw.nx
  have h3 := hw.nB
  constructor <;> dsimp only <;> omega
theorem WAt.putSd {md : Bool} {h : AHeap} {n : WN} {s : WS} (hw : WAt md h n s) (w' : PwS) (x' : SdS) : WAt md (sdPut n.sdN w' x' h) n { s with pw := w', sd := x' } := by
  have h1 := hw.op
  have hoB := hw.oB
  have hd := hw.dk
  have hp := SdAt.put hw.sdNe w' x'
  have g : ∀ id, id ≠ n.p → (id ≠ n.B ∧ (id < n.a ∨ n.a + 4 ≤ id)) → (sdPut n.sdN w' x' h).get id = h.get id := fun id e1 e2 => get_sdPut (by dsimp only; omega) (by dsimp only; omega) (by dsimp only; omega) (by dsimp only; omega) (by dsimp only; omega)
  refine hw.re rfl rfl rfl (Nat.le_refl _) hp ⟨hp.pw, (g _ (by dsimp only; omega) (by dsimp only; omega)).trans hd.ob, (g _ (by dsimp only; omega) (by dsimp only; omega)).trans hd.wt, (g _ (by dsimp only; omega) (by dsimp only; omega)).trans hd.tr, hd.ne, hd.ll⟩ ((g _ (by omega) (by omega)).trans hw.ct) (hw.ks.same (g _ (by omega) (by omega)) (g _ (by omega) (by omega))) fun id hi => ?_
  have := hw.still hi
  exact g id this.1 (by omega)
theorem WAt.putCt {md : Bool} {h : AHeap} {n : WN} {s : WS} (hw : WAt md h n s) (w' : PwS) (c' : CtS) : WAt md ((h.set n.p (some (.mem 4 [w'.row]))).set (n.a + 7) (some (c'.obj n.p))) n { s with pw := w', ct := c' } := by
  have h1 := hw.op
  have hoB := hw.oB
  have hd := hw.dk
  have hs := hw.sd
  have g : ∀ id, id ≠ n.p → id ≠ n.a + 7 → ((h.set n.p (some (.mem 4 [w'.row]))).set (n.a + 7) (some (c'.obj n.p))).get id = h.get id := fun id e1 e2 => get_set_neE e2 (get_set_neE e1 rfl)
  have gp : ((h.set n.p (some (.mem 4 [w'.row]))).set (n.a + 7) (some (c'.obj n.p))).get n.p = some (.mem 4 [w'.row]) := get_set_neE (by omega) get_set_same
  refine hw.re rfl rfl rfl (Nat.le_refl _) ⟨gp, (g _ (by dsimp only; omega) (by dsimp only; omega)).trans hs.ob, (g _ (by dsimp only; omega) (by dsimp only; omega)).trans hs.bl, (g _ (by dsimp only; omega) (by dsimp only; omega)).trans hs.wt, (g _ (by dsimp only; omega) (by dsimp only; omega)).trans hs.tr, hs.ne⟩ ⟨gp, (g _ (by dsimp only; omega) (by dsimp only; omega)).trans hd.ob, (g _ (by dsimp only; omega) (by dsimp only; omega)).trans hd.wt, (g _ (by dsimp only; omega) (by dsimp only; omega)).trans hd.tr, hd.ne, hd.ll⟩ get_set_same (hw.ks.same (g _ (by omega) (by omega)) (g _ (by omega) (by omega))) fun id hi => ?_
  have := hw.still hi
  exact g id this.1 (by omega)
end Go.Proofs.YtafkhpjnihnfpaaGreat


namespace Go.Proofs.YtafkhpjnihnfpaaGreat
open Go Go.Abs

def crashF (K : Nat → Bool) : Nat → List Wr → List Bs → List Bs
  | _, [], b => b
  | i, o :: r, b => crashF K (i + 1) r (if K i then b.set o.1.toNat o.2 else b)
def DkS.crash (x : DkS) (K : Nat → Bool) : DkS := { x with lasts := crashF K 0 x.waits x.lasts, waits := [], gen := x.gen + 1 }
end Go.Proofs.YtafkhpjnihnfpaaGreat


namespace Go.Proofs.YtafkhpjnihnfpaaGreat
open Go Go.Abs

/-- All that was used is used and stands as it stood, but for W. -/
structure Kp (W : Nat → Prop) (h h1 : AHeap) : Prop where
  next : h.next ≤ h1.next
  us : ∀ id, h.used id → h1.used id
  get : ∀ id, h.used id → ¬ W id → h1.get id = h.get id
section
variable {W : Nat → Prop} {h h1 h2 : AHeap}
theorem Kp.refl : Kp W h h := ⟨Nat.le_refl _, fun _ h => h, fun _ _ _ => rfl⟩
theorem Kp.put (hk : Kp W h h1) {nm : Nat} (hn : h.next ≤ nm) (x : AObj) : Kp W h (h1.put nm x) :=
  ⟨next_le_put hk.next, fun id hu => put_used (hk.us id hu), fun id hu hw => by
    rw [get_put, if_neg (by have := hu.1; omega)]
    exact hk.get id hu hw⟩
theorem Kp.setN (hk : Kp W h h1) {nm : Nat} (hn : h.next ≤ nm) (x : Option AObj) : Kp W h (h1.set nm x) :=
  ⟨hk.next, hk.us, fun id hu hw => by
    rw [get_set, if_neg (by have := hu.1; omega)]
    exact hk.get id hu hw⟩
theorem Kp.setW (hk : Kp W h h1) {nm : Nat} (hn : W nm) (x : Option AObj) : Kp W h (h1.set nm x) :=
  ⟨hk.next, hk.us, fun id hu hw => by
    rw [get_set, if_neg (fun e => hw (by rw [e]; exact hn))]
    exact hk.get id hu hw⟩
theorem Kp.keep (hk : Kp W h h1) (k : Nat) : Kp W h (h1.keep k) := ⟨Nat.le_trans hk.next (Nat.le_add_right _ _), fun id hu => used_keep (hk.us id hu), hk.get⟩
theorem Kp.trans (hk : Kp W h h1) (hk2 : Kp W h1 h2) : Kp W h h2 := ⟨Nat.le_trans hk.next hk2.next, fun id hu => hk2.us id (hk.us id hu), fun id hu hw => (hk2.get id (hk.us id hu) hw).trans (hk.get id hu hw)⟩
theorem Kp.trans2 {V : Nat → Prop} (hk : Kp V h h1) (hk2 : Kp W h1 h2) (hv : ∀ id, W id → V id ∨ h.next ≤ id) : Kp V h h2 := ⟨Nat.le_trans hk.next hk2.next, fun id hu => hk2.us id (hk.us id hu), fun id hu hw => (hk2.get id (hk.us id hu) fun e => (hv id e).elim hw fun e2 => by have := hu.1; omega).trans (hk.get id hu hw)⟩
theorem Kp.mono {V : Nat → Prop} (hk : Kp W h h1) (hv : ∀ id, h.used id → W id → V id) : Kp V h h1 := ⟨hk.next, hk.us, fun id hu hw => hk.get id hu fun e => hw (hv id hu e)⟩
theorem Kp.keeps (hk : Kp W h h1) (hv : ∀ id, W id → h.next ≤ id) : Keeps h h1 := ⟨hk.next, fun id hu => hk.get id hu fun e => by have := hv id e; have := hu.1; omega⟩
end
/-- The names that a world's calls write. -/
def WN.own (md : Bool) (n : WN) (id : Nat) : Prop := id = n.p ∨ ((n.a < id ∧ id < n.a + 8) ∨ id = n.a + 9 ∨ id = n.B ∨ id = n.E) ∨ (md = true ∧ (id = n.o ∨ id = n.t ∨ id = n.q))
/-- All names of a world. -/
def WN.all (md : Bool) (n : WN) (id : Nat) : Prop := id = n.p ∨ id = n.l ∨ ((n.a < id ∧ id < n.a + 8) ∨ id = n.a + 9 ∨ id = n.a + 10 ∨ id = n.B ∨ id = n.E) ∨ (md = true ∧ (id = n.o ∨ id = n.t ∨ id = n.q))
theorem WN.own_all {md : Bool} {n : WN} {id : Nat} (h : n.own md id) : n.all md id := by
  rcases h with h | h | h
  · exact .inl h
  · exact .inr (.inr (.inl (by omega)))
  · exact .inr (.inr (.inr h))
theorem WAt.used {md : Bool} {h : AHeap} {n : WN} {s : WS} (hw : WAt md h n s) (hu : ∀ id x, h.get id = some x → h.used id) : ∀ id, n.all md id → h.used id := fun id hi => by
  have hs := hw.sd
  have hd := hw.dk
  have hk := hw.ks
  rcases hi with rfl | rfl | hi | ⟨hm, rfl | rfl | rfl⟩
  · exact hu _ _ hs.pw
  · cases md with
    | true => exact hu _ _ (hw.lk.id rfl).cells
    | false => exact hu _ _ (hw.lk.re rfl)
  · have : id = n.B ∨ id = n.a + 1 ∨ id = n.a + 2 ∨ id = n.a + 3 ∨ id = n.a + 4 ∨ id = n.a + 5 ∨ id = n.a + 6 ∨ id = n.a + 7 ∨ id = n.E ∨ id = n.a + 9 ∨ id = n.a + 10 := by omega
    rcases this with rfl | rfl | rfl | rfl | rfl | rfl | rfl | rfl | rfl | rfl | rfl
    · exact hu _ _ hs.bl
    · exact hu _ _ hs.ob
    · exact hu _ _ hs.wt
    · exact hu _ _ hs.tr
    · exact hu _ _ hd.ob
    · exact hu _ _ hd.wt
    · exact hu _ _ hd.tr
    · exact hu _ _ hw.ct
    · exact hu _ _ hk.tl
    · exact hu _ _ hk.ob
    · exact hu _ _ hw.w
  all_goals
    obtain ⟨q0, q1, q2, q3⟩ := hw.lk.id hm
    first | exact hu _ _ q1 | exact hu _ _ q2 | exact hu _ _ q3
theorem WAt.kp {W : Nat → Prop} {md : Bool} {h h' : AHeap} {n : WN} {s : WS} (hw : WAt md h n s) (hu : ∀ id, n.all md id → h.used id) (hk : Kp W h h') (hd : ∀ id, n.all md id → ¬ W id) : WAt md h' n s := by
  have g : ∀ id, n.all md id → h'.get id = h.get id := fun id hi => hk.get id (hu id hi) (hd id hi)
  have ga : ∀ i, 0 < i ∧ i < 11 ∧ i ≠ 8 → h'.get (n.a + i) = h.get (n.a + i) := fun i hi => g _ (.inr (.inr (.inl (by omega))))
  have gB : h'.get n.B = h.get n.B := g _ (.inr (.inr (.inl (by omega))))
  have gE : h'.get n.E = h.get n.E := g _ (.inr (.inr (.inl (by omega))))
  have g0 := g n.p (.inl rfl)
  refine ⟨hw.sd.same g0 (ga 1 (by omega)) gB (ga 2 (by omega)) (ga 3 (by omega)), hw.dk.same g0 (ga 4 (by omega)) (ga 5 (by omega)) (ga 6 (by omega)), (ga 7 (by omega)).trans hw.ct, hw.ks.same (ga 9 (by omega)) gE, (ga 10 (by omega)).trans hw.w, hw.lk.same (g _ (.inr (.inl rfl))) fun e => ⟨g _ (.inr (.inr (.inr ⟨e, .inl rfl⟩))), g _ (.inr (.inr (.inr ⟨e, .inr (.inl rfl)⟩))), g _ (.inr (.inr (.inr ⟨e, .inr (.inr rfl)⟩)))⟩, hw.op, hw.ol, hw.oo, Nat.le_trans hw.nx hk.next, hw.oB, ⟨Nat.lt_of_lt_of_le hw.nB.1 hk.next, Nat.lt_of_lt_of_le hw.nB.2 hk.next⟩⟩
/-- New objects alone. -/
theorem WAt.new {md : Bool} {h h' : AHeap} {n : WN} {s : WS} (hw : WAt md h n s) (hu : ∀ id, n.all md id → h.used id) (hk : Kp (fun _ => False) h h') : WAt md h' n s := hw.kp hu hk fun _ _ h => h
theorem kp_sd {md : Bool} {h : AHeap} (n : WN) (w : PwS) (x : SdS) : Kp (n.own md) h (sdPut n.sdN w x h) := by
  unfold sdPut
  refine Kp.setW (Kp.setW (Kp.setW (Kp.setW (Kp.setW Kp.refl (.inl rfl) _) (.inr (.inl ?_)) _) (.inr (.inl ?_)) _) (.inr (.inl ?_)) _) (.inr (.inl ?_)) _ <;> dsimp only <;> omega
theorem kp_ct {md : Bool} {h : AHeap} (n : WN) (w : PwS) (c : CtS) : Kp (n.own md) h ((h.set n.p (some (.mem 4 [w.row]))).set (n.a + 7) (some (c.obj n.p))) := Kp.setW (Kp.setW Kp.refl (.inl rfl) _) (.inr (.inl (by omega))) _
/-- A crash: what waits is kept by a list; the power is back. -/
def WS.crash (s : WS) (K : Nat → Bool) : WS := { s with pw := { s.pw with gone := false, fuse := false }, sd := s.sd.settle K, dk := s.dk.crash K }
end Go.Proofs.YtafkhpjnihnfpaaGreat


namespace Go.Proofs.YtafkhpjnihnfpaaGreat
open Go Go.Abs

theorem pairB_len (p : Pr) : (pairB p).length = 16 := by simp [pairB]
/-- What is summed for a leaf, for a node. -/
def leafK (b : Bs) : Bs := 0 :: b
def nodeK (a b : Pr) : Bs := 1 :: (pairB a ++ pairB b)
def sumP (S : List Bs) (k : Bs) : Pr := (eees, (sumN S k : Int))
theorem sumS_le (S : List Bs) (k : Bs) : (sumS S k).length ≤ S.length + 1 := by unfold sumS; split <;> simp
theorem hp_ext {h k : AHeap} (h1 : ∀ i, h.get i = k.get i) (h2 : h.next = k.next) (h3 : ∀ i, h.gap i = k.gap i) : h = k := by
  cases h; cases k
  simp only at h1 h2 h3
  rw [funext h1, h2, funext h3]
theorem set_none {h : AHeap} {s : Nat} (hs : h.get s = none) : h.set s none = h :=
  hp_ext (fun i => by rw [get_set]; split; · rename_i e; rw [e, hs]
                      · rfl) rfl fun _ => rfl
/-- By either lock (true: an ideal one that summed S): a sum, what was summed then, the object of it. -/
def gP (md : Bool) (S : List Bs) (k : Bs) : Pr := match md with | true => sumP S k | false => digestF k
def gS (md : Bool) (S : List Bs) (k : Bs) : List Bs := match md with | true => sumS S k | false => S
def gO (md : Bool) (S : List Bs) : Option AObj := match md with | true => some (.map (encM S)) | false => none
theorem gS_le (md : Bool) (S : List Bs) (k : Bs) : (gS md S k).length ≤ S.length + 1 := by
  cases md
  · exact Nat.le_succ _
  · exact sumS_le S k
/-- Either lock at l. -/
structure GAt (md : Bool) (h : AHeap) (l s : Nat) (S : List Bs) : Prop where
  id : md = true → ∃ o t g L, IdAt h l o t s g L S
  re : md = false → h.get l = some (.mem 5 [reC])
  sm : h.get s = gO md S
  ls : s < h.next
  ll : l < h.next
theorem GAt.ne {md : Bool} {h : AHeap} {l s : Nat} {S : List Bs} (hl : GAt md h l s S) : l ≠ s := by
  rintro rfl
  cases md with
  | true => obtain ⟨o, t, g, L, q, q1⟩ := hl.id rfl; rw [q1.sums] at q; cases q
  | false => have := hl.re rfl; rw [hl.sm] at this; cases this
structure GLt (md : Bool) (h : AHeap) (l s : Nat) (S : List Bs) : Prop where
  a1 : l < h.next
  a2 : s < h.next
  a3 : h.get s = gO md S
  a4 : l ≠ s
theorem GAt.lt {md : Bool} {h : AHeap} {l s : Nat} {S : List Bs} (hl : GAt md h l s S) : GLt md h l s S := ⟨hl.ll, hl.ls, hl.sm, hl.ne⟩
theorem GAt.frame {md : Bool} {h h' : AHeap} {l s : Nat} {S S' : List Bs} (hl : GAt md h l s S) (hu : ∀ id x, h.get id = some x → h.used id) (hk : KeepsB [s] h h') (hs : h'.get s = gO md S') : GAt md h' l s S' := by
  refine ⟨fun e => ?_, fun e => ?_, hs, Nat.lt_of_lt_of_le hl.ls hk.1, Nat.lt_of_lt_of_le hl.ll hk.1⟩
  · obtain ⟨o, t, g, L, q0, q1, q2, q3⟩ := hl.id e
    subst e
    have d1 : o ≠ s := by rintro rfl; rw [q1] at q3; cases q3
    have d2 : t ≠ s := by rintro rfl; rw [q2] at q3; cases q3
    exact ⟨o, t, g, L, (hk.2 l (hu _ _ q0) (by simpa using hl.ne)).trans q0, ⟨(hk.2 o (hu _ _ q1) (by simpa using d1)).trans q1, (hk.2 t (hu _ _ q2) (by simpa using d2)).trans q2, hs⟩⟩
  · have q0 := hl.re e
    exact (hk.2 l (hu _ _ q0) (by simpa using hl.ne)).trans q0
theorem GAt.ext {md : Bool} {h : AHeap} {l s : Nat} {S : List Bs} (hl : GAt md h l s S) (_hu : ∀ id x, h.get id = some x → h.used id) (S' : List Bs) : Ext h (h.set s (gO md S')) := by
  cases md with
  | true => exact Ext.set (x := .map _) Ext.refl (Nm.old hl.sm) (clo_encM _)
  | false => rw [show gO false S' = none from rfl, set_none hl.sm]; exact Ext.refl
attribute [local irreducible] digestF
/-- The leaves' sums from node k on. -/
def lfF (md : Bool) : List Bs → Nat → List Pr → List Bs → List Pr × List Bs
  | [], _, N, S => (N, S)
  | b :: r, k, N, S => lfF md r (k + 1) (N.set k (gP md S (leafK b))) (gS md S (leafK b))
def kidK (N : List Pr) (i : Nat) : Bs := nodeK (N.getD (2 * i) (0, 0)) (N.getD (2 * i + 1) (0, 0))
/-- The sums of nodes i, i - 1, .., 1. -/
def upF (md : Bool) : Nat → List Pr → List Bs → List Pr × List Bs
  | 0, N, S => (N, S)
  | i + 1, N, S => upF md i (N.set (i + 1) (gP md S (kidK N (i + 1)))) (gS md S (kidK N (i + 1)))
def buildF (md : Bool) (lv : List Bs) (S : List Bs) : List Pr × List Bs :=
  upF md (lv.length - 1) (lfF md lv lv.length (List.replicate (2 * lv.length) (0, 0)) S).1 (lfF md lv lv.length (List.replicate (2 * lv.length) (0, 0)) S).2
theorem lfF_len (md : Bool) : ∀ (lv : List Bs) (k : Nat) (N : List Pr) (S : List Bs), (lfF md lv k N S).1.length = N.length ∧ (lfF md lv k N S).2.length ≤ S.length + lv.length
  | [], _, _, _ => ⟨rfl, Nat.le_refl _⟩
  | b :: r, k, N, S => by
    have h1 := lfF_len md r (k + 1) (N.set k (gP md S (leafK b))) (gS md S (leafK b))
    have h2 := gS_le md S (leafK b)
    simp only [lfF, List.length_set, List.length_cons] at *
    omega
theorem upF_len (md : Bool) : ∀ (i : Nat) (N : List Pr) (S : List Bs), (upF md i N S).1.length = N.length ∧ (upF md i N S).2.length ≤ S.length + i
  | 0, _, _ => ⟨rfl, Nat.le_refl _⟩
  | i + 1, N, S => by
    have h1 := upF_len md i (N.set (i + 1) (gP md S (kidK N (i + 1)))) (gS md S (kidK N (i + 1)))
    have h2 := gS_le md S (kidK N (i + 1))
    simp only [upF, List.length_set] at *
    omega

end Go.Proofs.YtafkhpjnihnfpaaGreat


namespace Go.Proofs.YtafkhpjnihnfpaaGreat
open Go Go.Abs

def lfAt (n a i : Int) : Int := n * 32 + a * (n * 64) + i * 32
def ndAt (n a i : Int) : Int := n * 32 + a * (n * 64) + n * 32 + i * 16
/-- All names, and the one where the sums are (or nothing is). -/
def WN.nm (md : Bool) (n : WN) (id : Nat) : Prop := n.all md id ∨ id = n.q
structure WG (md : Bool) (h : AHeap) (n : WN) (s : WS) : Prop where
  w : WAt md h n s
  us : ∀ id, n.nm md id → h.used id
  qn : md = false → h.get n.q = none
theorem WAt.same {md : Bool} {h h' : AHeap} {n : WN} {s : WS} (hw : WAt md h n s) (g : ∀ id, n.all md id → h'.get id = h.get id) (hx : h.next ≤ h'.next) : WAt md h' n s := by
  have ga : ∀ i, 0 < i ∧ i < 11 ∧ i ≠ 8 → h'.get (n.a + i) = h.get (n.a + i) := fun i hi => g _ (.inr (.inr (.inl (by omega))))
  have gB : h'.get n.B = h.get n.B := g _ (.inr (.inr (.inl (by omega))))
  have gE : h'.get n.E = h.get n.E := g _ (.inr (.inr (.inl (by omega))))
  have g0 := g n.p (.inl rfl)
  exact ⟨hw.sd.same g0 (ga 1 (by omega)) gB (ga 2 (by omega)) (ga 3 (by omega)), hw.dk.same g0 (ga 4 (by omega)) (ga 5 (by omega)) (ga 6 (by omega)), (ga 7 (by omega)).trans hw.ct, hw.ks.same (ga 9 (by omega)) gE, (ga 10 (by omega)).trans hw.w, hw.lk.same (g _ (.inr (.inl rfl))) fun e => ⟨g _ (.inr (.inr (.inr ⟨e, .inl rfl⟩))), g _ (.inr (.inr (.inr ⟨e, .inr (.inl rfl)⟩))), g _ (.inr (.inr (.inr ⟨e, .inr (.inr rfl)⟩)))⟩, hw.op, hw.ol, hw.oo, Nat.le_trans hw.nx hx, hw.oB, ⟨Nat.lt_of_lt_of_le hw.nB.1 hx, Nat.lt_of_lt_of_le hw.nB.2 hx⟩⟩
theorem WAt.lt {md : Bool} {h : AHeap} {n : WN} {s : WS} (hw : WAt md h n s) {id : Nat} (hi : n.all md id) : id < h.next := by
  have h1 := hw.op
  have h2 := hw.ol
  have h3 := hw.nx
  have h4 := hw.nB
  rcases hi with rfl | rfl | hi | ⟨e, hi⟩
  · omega
  · omega
  · omega
  · have := hw.oo e
    rcases hi with rfl | rfl | rfl <;> omega
theorem WAt.live {md : Bool} {h : AHeap} {n : WN} {s : WS} (hw : WAt md h n s) {id : Nat} (hi : n.all md id) : ∃ x, h.get id = some x := by
  have hs := hw.sd
  have hd := hw.dk
  have hk := hw.ks
  rcases hi with rfl | rfl | hi | ⟨hm, rfl | rfl | rfl⟩
  · exact ⟨_, hs.pw⟩
  · cases md with
    | true => exact ⟨_, (hw.lk.id rfl).cells⟩
    | false => exact ⟨_, hw.lk.re rfl⟩
  · have : id = n.B ∨ id = n.a + 1 ∨ id = n.a + 2 ∨ id = n.a + 3 ∨ id = n.a + 4 ∨ id = n.a + 5 ∨ id = n.a + 6 ∨ id = n.a + 7 ∨ id = n.E ∨ id = n.a + 9 ∨ id = n.a + 10 := by omega
    rcases this with rfl | rfl | rfl | rfl | rfl | rfl | rfl | rfl | rfl | rfl | rfl
    · exact ⟨_, hs.bl⟩
    · exact ⟨_, hs.ob⟩
    · exact ⟨_, hs.wt⟩
    · exact ⟨_, hs.tr⟩
    · exact ⟨_, hd.ob⟩
    · exact ⟨_, hd.wt⟩
    · exact ⟨_, hd.tr⟩
    · exact ⟨_, hw.ct⟩
    · exact ⟨_, hk.tl⟩
    · exact ⟨_, hk.ob⟩
    · exact ⟨_, hw.w⟩
  all_goals
    obtain ⟨q0, q1, q2, q3⟩ := hw.lk.id hm
    first | exact ⟨_, q1⟩ | exact ⟨_, q2⟩ | exact ⟨_, q3⟩
theorem WG.step {md : Bool} {h h' : AHeap} {n : WN} {s s' : WS} (hg : WG md h n s) (hw : WAt md h' n s') (hk : Kp (n.own md) h h') : WG md h' n s' :=
  ⟨hw, fun id hi => hk.us id (hg.us id hi), fun e => by
    rw [hk.get _ (hg.us _ (.inr rfl)) fun ho => ?_]
    · exact hg.qn e
    · obtain ⟨x, hx⟩ := hg.w.live (WN.own_all ho)
      rw [hg.qn e] at hx; cases hx⟩
theorem WG.kp {W : Nat → Prop} {md : Bool} {h h' : AHeap} {n : WN} {s : WS} (hg : WG md h n s) (hk : Kp W h h') (hd : ∀ id, n.nm md id → ¬ W id) : WG md h' n s :=
  ⟨hg.w.same (fun id hi => hk.get id (hg.us id (.inl hi)) (hd id (.inl hi))) hk.next, fun id hi => hk.us id (hg.us id hi), fun e => (hk.get _ (hg.us _ (.inr rfl)) (hd _ (.inr rfl))).trans (hg.qn e)⟩
theorem WG.new {md : Bool} {h h' : AHeap} {n : WN} {s : WS} (hg : WG md h n s) (hk : Kp (fun _ => False) h h') : WG md h' n s := hg.kp hk fun _ _ h => h
theorem WG.g {md : Bool} {h : AHeap} {n : WN} {s : WS} (hg : WG md h n s) : GAt md h n.l n.q s.S := by
  refine ⟨fun e => ⟨n.o, n.t, 0, s.L, hg.w.lk.id e⟩, fun e => hg.w.lk.re e, ?_, (hg.us _ (.inr rfl)).1, (hg.us _ (.inl (.inr (.inl rfl)))).1⟩
  cases md with
  | true => obtain ⟨q0, q1, q2, q3⟩ := hg.w.lk.id rfl; exact q3
  | false => exact hg.qn rfl
theorem world_NewG_ac (md : Bool) (k : Nat) (hk : isG k = true) (seed : Int) (h : AHeap) : AC Tryz.prog 25 [.int .i64 k, .int .u64 seed, .bool md] h
    (fun r h' => ∃ n : WN, r = .tup [.ptr (n.a + 10) 0 0, .int .i64 0] ∧ WG md h' n (ws0 k seed) ∧ (∀ id, n.nm md id → h.next ≤ id) ∧ Kp (fun id => h.next ≤ id) h h') := by
  refine AC.mono (AC.used (AC.spareC (world_New_ac md k hk seed h))) ?_
  rintro r h' ⟨⟨h1, ⟨n, rfl, hw, np, nl, no, nn, kk⟩, rfl⟩, hus, hlv⟩
  replace kk := kk h (Keeps.refl _)
  have g : ∀ id, id < h1.next → ((h1.put h1.next (.tail 0 0)).set h1.next none).get id = h1.get id := fun id hi => get_set_neE (by omega) (get_put_neE (by omega) rfl)
  have hx : h1.next ≤ ((h1.put h1.next (.tail 0 0)).set h1.next none).next := next_le_set (next_le_put (x := .tail 0 0) (Nat.le_refl _))
  have hw2 : WAt md ((h1.put h1.next (.tail 0 0)).set h1.next none) n (ws0 k seed) := hw.same (fun id hi => g id (hw.lt hi)) hx
  have hall : ∀ id, n.all md id → h.next ≤ id := fun id hi => by
    have h1 := hw.op
    have hoB := hw.oB
    rcases hi with rfl | rfl | hi | ⟨e, rfl | rfl | rfl⟩
    · exact np
    · exact nl
    · omega
    · exact (no e).1
    · exact (no e).2.1
    · exact (no e).2.2
  have kp : Kp (fun id => h.next ≤ id) h ((h1.put h1.next (.tail 0 0)).set h1.next none) := ⟨Nat.le_trans nn hx, hus, fun id hu _ => (g id (Nat.lt_of_lt_of_le hu.1 nn)).trans (kk.2 id hu)⟩
  cases md with
  | true =>
    have hqa : n.all true n.q := .inr (.inr (.inr ⟨rfl, .inr (.inr rfl)⟩))
    refine ⟨n, rfl, ⟨hw2, fun id hi => ?_, nofun⟩, fun id hi => ?_, kp⟩
    · have : n.all true id := hi.elim (fun h => h) fun e => e ▸ hqa
      obtain ⟨x, hx⟩ := hw2.live this
      exact hlv _ _ hx
    · exact hall id (hi.elim (fun h => h) fun e => e ▸ hqa)
  | false =>
    have hal : ∀ id, ({ n with q := h1.next } : WN).all false id → n.all false id := fun id hi => by
      rcases hi with rfl | rfl | hi | ⟨e, _⟩
      · exact .inl rfl
      · exact .inr (.inl rfl)
      · exact .inr (.inr (.inl hi))
      · cases e
    refine ⟨{ n with q := h1.next }, rfl, ⟨⟨hw2.sd, hw2.dk, hw2.ct, hw2.ks, hw2.w, ⟨nofun, hw2.lk.re⟩, hw2.op, hw2.ol, nofun, hw2.nx, hw2.oB, hw2.nB⟩, fun id hi => ?_, fun _ => get_set_same⟩, fun id hi => ?_, kp⟩
    · rcases hi with hi | rfl
      · obtain ⟨x, hx⟩ := hw2.live (hal id hi)
        exact hlv _ _ hx
      · exact put_used_nm (x := .tail 0 0)
    · rcases hi with hi | rfl
      · exact hall id (hal id hi)
      · exact nn
end Go.Proofs.YtafkhpjnihnfpaaGreat


namespace Go.Proofs.YtafkhpjnihnfpaaGreat
open Go Go.Abs

section
variable {nx : Nat} {h0 h : AHeap}
end
theorem DW.named {P : Program} {N : Nat} {Φ : AHeap → Prop} {ws fs : List Nat} {K : Env → AHeap → Prop} {j : Nat} {l : List CI} {e : Env} {h : AHeap} (p : AHeap → Prop) (hp : p h) (k : ∀ h5, p h5 → DW P N Φ ws fs K j l e h5) : DW P N Φ ws fs K j l e h := k h hp
end Go.Proofs.YtafkhpjnihnfpaaGreat


namespace Go.Proofs.YtafkhpjnihnfpaaGreat
open Go Go.Abs

def lvOk : List Lf → Nat → Bool
  | [], _ => true
  | x :: r, i => leafIs x i && lvOk r (i + 1)
theorem lvOk_at : ∀ (lv : List Lf) (j i : Nat) (hi : i < lv.length), lvOk lv j = true → leafIs lv[i] ((j + i : Nat) : Int) = true
  | x :: r, j, 0, _, h => by simp only [lvOk, Bool.and_eq_true] at h; exact h.1
  | x :: r, j, i + 1, hi, h => by
    simp only [lvOk, Bool.and_eq_true] at h
    have := lvOk_at r (j + 1) i (by simpa using hi) h.2
    rw [show j + 1 + i = j + (i + 1) by omega] at this
    exact this
def lvB (lv : List Lf) : Bs := (lv.map leafB).flatten
theorem lvB_len : ∀ lv : List Lf, (lvB lv).length = 32 * lv.length
  | [] => rfl
  | x :: r => by
    have := lvB_len r
    simp only [lvB, List.map_cons, List.flatten_cons, List.length_append, leafB_len, List.length_cons] at this ⊢
    omega
def nodesB (N : List Pr) : Bs := (N.map pairB).flatten
theorem nodesB_len : ∀ N : List Pr, (nodesB N).length = 16 * N.length
  | [] => rfl
  | x :: r => by
    have := nodesB_len r
    simp only [nodesB, List.map_cons, List.flatten_cons, List.length_append, pairB_len, List.length_cons] at this ⊢
    omega
def WS.nodes (md : Bool) (s : WS) (lv : List Lf) : List Pr := (buildF md (lv.map leafB) s.S).1
/-- A world behind the two writes of an area. -/
def WS.areaW1 (md : Bool) (s : WS) (a : Int) (lv : List Lf) : WS := { s with S := (buildF md (lv.map leafB) s.S).2, pw := s.pw.spend, sd := s.sd.write (lfAt s.n a 0, lvB lv) s.pw.can }
def WS.areaW (md : Bool) (s : WS) (a : Int) (lv : List Lf) : WS :=
  if s.pw.can then { s.areaW1 md a lv with pw := s.pw.spend.spend, sd := (s.areaW1 md a lv).sd.write (ndAt s.n a 0, nodesB (s.nodes md lv)) s.pw.spend.can } else s.areaW1 md a lv
/-- What a world may be: sizes, steps. -/
structure WS.Fit (s : WS) (k : Nat) : Prop where
  g : isG s.n = true
  pw : s.pw.Ok k
  sd : s.sd.Ok (sizeG s.n).toNat k
  ss : s.S.length ≤ k
  ll : s.L.length ≤ k
theorem SdS.Ok.write {x : SdS} {n k : Nat} (h : x.Ok n k) {o : Wr} (ho : 0 ≤ o.1 ∧ o.1 + o.2.length ≤ n) (ok : Bool) : (x.write o ok).Ok n (k + 1) := by
  obtain ⟨h1, h2, h3, h4⟩ := h
  cases ok with
  | false => exact ⟨h1, h2, Nat.le_succ_of_le h3, Nat.le_succ_of_le h4⟩
  | true =>
    refine ⟨h1, fun y hy => ?_, by simp [SdS.write]; omega, by simp [SdS.write]; omega⟩
    simp only [SdS.write, if_true, List.mem_append, List.mem_singleton] at hy
    rcases hy with hy | rfl
    · exact h2 y hy
    · exact ho
theorem sizeG_pos {n : Int} (h : isG n = true) : sizeG n = n * 160 + 120 := by rw [sizeG, if_pos h]
end Go.Proofs.YtafkhpjnihnfpaaGreat


namespace Go.Proofs.YtafkhpjnihnfpaaGreat
open Go Go.Abs

def WS.row (s : WS) (a : Int) (i : Nat) : Bs := (s.sd.snap.drop (lfAt s.n a i).toNat).take 32
def WS.rows (s : WS) (a : Int) (m : Nat) : List Bs := (List.range m).map (s.row a)
def WS.leaf (s : WS) (a : Int) (i : Nat) : Lf := leafD (s.row a i) i
def WS.leaves (s : WS) (a : Int) (m : Nat) : List Lf := (List.range m).map (s.leaf a)
def WS.allG (s : WS) (a : Int) (m : Nat) : Bool := (List.range m).all fun i => leafG (s.row a i) i
def WS.readS (md : Bool) (s : WS) (a : Int) : WS := if s.pw.gone then s else { s with S := (buildF md (s.rows a s.n.toNat) s.S).2 }
def WS.readT (md : Bool) (s : WS) (a : Int) : Pr := (buildF md (s.rows a s.n.toNat) s.S).1.getD 1 (0, 0)
def WS.readE (md : Bool) (s : WS) (a : Int) (top : Pr) : Int := if s.pw.gone then 7 else if s.readT md a = top ∧ s.allG a s.n.toNat = true then 0 else 3
def WS.readL (md : Bool) (s : WS) (a : Int) (top : Pr) : List Lf := if s.readE md a top = 0 then s.leaves a s.n.toNat else []
theorem rows_len (s : WS) (a : Int) (m : Nat) : (s.rows a m).length = m := by simp [WS.rows]
theorem snap_lenS {s : WS} {k : Nat} (hs : s.Fit k) : s.sd.snap.length = (s.n * 160 + 120).toNat := by
  have := hs.sd.len
  rw [sizeG_pos hs.g] at this
  rw [← this]
  exact snap_len (fun o ho => by have := hs.sd.w o ho; rw [sizeG_pos hs.g] at this; omega)
end Go.Proofs.YtafkhpjnihnfpaaGreat


namespace Go.Proofs.YtafkhpjnihnfpaaGreat
open Go Go.Abs

/-- The way up: the sum, what was summed. -/
def ckF (md : Bool) : List Pr → Nat → Pr → List Bs → Pr × List Bs
  | [], _, p, S => (p, S)
  | x :: r, i, p, S => ckF md r (i / 2) (gP md S (if i % 2 = 1 then nodeK x p else nodeK p x)) (gS md S (if i % 2 = 1 then nodeK x p else nodeK p x))
end Go.Proofs.YtafkhpjnihnfpaaGreat


namespace Go.Proofs.YtafkhpjnihnfpaaGreat
open Go Go.Abs

/-- S comes behind S0: what was summed has its number still. -/
def Pre (S0 S : List Bs) : Prop := ∃ R, S = S0 ++ R
theorem Pre.refl (S : List Bs) : Pre S S := ⟨[], by simp⟩
theorem Pre.trans {A B C : List Bs} (h1 : Pre A B) (h2 : Pre B C) : Pre A C := by
  obtain ⟨R, rfl⟩ := h1; obtain ⟨R', rfl⟩ := h2; exact ⟨R ++ R', by simp⟩
theorem sumS_pre (S : List Bs) (k : Bs) : Pre S (sumS S k) := by
  unfold sumS; split
  · exact Pre.refl _
  · exact ⟨_, rfl⟩
theorem idxS_app (k : Bs) : ∀ (S R : List Bs) (m : Nat), idxS k S = some m → idxS k (S ++ R) = some m
  | [], _, _, h => by simp [idxS] at h
  | s :: S, R, m, h => by
    simp only [idxS, List.cons_append] at h ⊢
    split
    · rename_i e; rw [if_pos e] at h; exact h
    · rename_i e
      rw [if_neg e] at h
      cases hi : idxS k S with
      | none => rw [hi] at h; simp at h
      | some j => rw [hi] at h; rw [idxS_app k S R j hi]; exact h
theorem idxS_snoc (k : Bs) : ∀ (S : List Bs), idxS k S = none → idxS k (S ++ [k]) = some S.length
  | [], _ => by simp [idxS]
  | s :: S, h => by
    simp only [idxS, List.cons_append] at h ⊢
    split
    · rename_i e; rw [if_pos e] at h; cases h
    · rename_i e
      rw [if_neg e] at h
      cases hi : idxS k S with
      | none => rw [idxS_snoc k S hi]; simp
      | some j => rw [hi] at h; simp at h
/-- Behind its sum a key is there, with that number. -/
theorem sum_there (S : List Bs) (k : Bs) : ∃ m, idxS k (sumS S k) = some m ∧ sumN S k = m + 1 := by
  unfold sumS sumN
  cases hi : idxS k S with
  | some m => exact ⟨m, by simp [hi], by simp⟩
  | none => exact ⟨S.length, by simp [idxS_snoc k S hi], by simp⟩
theorem idxS_inj {a b : Bs} : ∀ {S : List Bs} {m : Nat}, idxS a S = some m → idxS b S = some m → a = b
  | [], _, h, _ => by simp [idxS] at h
  | s :: S, m, h1, h2 => by
    simp only [idxS] at h1 h2
    split at h1
    · rename_i e
      split at h2
      · rename_i e2; rw [e, e2]
      · cases h1
        cases hi : idxS b S with
        | none => rw [hi] at h2; simp at h2
        | some j => rw [hi] at h2; simp at h2
    · split at h2
      · cases h2
        cases hi : idxS a S with
        | none => rw [hi] at h1; simp at h1
        | some j => rw [hi] at h1; simp at h1
      · cases hi : idxS a S with
        | none => rw [hi] at h1; simp at h1
        | some j =>
          cases hj : idxS b S with
          | none => rw [hj] at h2; simp at h2
          | some j' =>
            rw [hi] at h1; rw [hj] at h2
            simp at h1 h2
            exact idxS_inj hi (by rw [hj]; congr 1; omega)
/-- p is k's sum, as far as S knows. -/
def IsSum (S : List Bs) (k : Bs) (p : Pr) : Prop := ∃ m, idxS k S = some m ∧ p = (eees, ((m + 1 : Nat) : Int))
theorem IsSum.pre {S S' : List Bs} {k : Bs} {p : Pr} (h : IsSum S k p) (hp : Pre S S') : IsSum S' k p := by
  obtain ⟨m, h1, h2⟩ := h; obtain ⟨R, rfl⟩ := hp
  exact ⟨m, idxS_app k S R m h1, h2⟩
theorem isSum_sum (S : List Bs) (k : Bs) : IsSum (sumS S k) k (sumP S k) := by
  obtain ⟨m, h1, h2⟩ := sum_there S k
  exact ⟨m, h1, by rw [sumP, h2]⟩
theorem IsSum.inj {S : List Bs} {a b : Bs} {p : Pr} (h1 : IsSum S a p) (h2 : IsSum S b p) : a = b := by
  obtain ⟨m, h1, rfl⟩ := h1
  obtain ⟨m', h2, e⟩ := h2
  have : m = m' := by simp at e; omega
  subst this
  exact idxS_inj h1 h2
theorem IsSum.fn {S : List Bs} {a : Bs} {p q : Pr} (h1 : IsSum S a p) (h2 : IsSum S a q) : p = q := by
  obtain ⟨m, h1, rfl⟩ := h1
  obtain ⟨m', h2, rfl⟩ := h2
  rw [h1] at h2; cases h2; rfl
theorem IsSum.rng {S : List Bs} {a : Bs} {p : Pr} (h : IsSum S a p) : p.1 = eees ∧ 0 ≤ p.2 ∧ p.2 ≤ S.length := by
  obtain ⟨m, h1, rfl⟩ := h
  have : ∀ (S : List Bs) (m : Nat), idxS a S = some m → m < S.length := by
    intro S
    induction S with
    | nil => intro m h; simp [idxS] at h
    | cons s S ih =>
      intro m h
      simp only [idxS] at h
      split at h
      · cases h; simp
      · cases hi : idxS a S with
        | none => rw [hi] at h; simp at h
        | some j => rw [hi] at h; have := ih j hi; simp at h; simp; omega
  have := this S m h1
  exact ⟨rfl, by simp; omega, by simp; omega⟩
theorem putB8_inj {v w : Int} (hv : 0 ≤ v ∧ v < 18446744073709551616) (hw : 0 ≤ w ∧ w < 18446744073709551616) (h : putB v 8 = putB w 8) : v = w := by
  have h2 : ∀ i, i < 8 → (v / 2 ^ (8 * (8 - 1 - i))) % 256 = (w / 2 ^ (8 * (8 - 1 - i))) % 256 := by
    intro i hi
    have h3 := congrArg (fun l => l[i]?) h
    simp only [putB, show ¬ ((8 : Nat) < 1 ∨ 8 < 8) by decide, if_false, List.getElem?_map, List.getElem?_range hi, Option.map_some, Option.some.injEq, byteOf] at h3
    have h4 := congrArg UInt8.toNat h3
    rw [UInt8.toNat_ofNat', UInt8.toNat_ofNat'] at h4
    have h5 := Int.emod_nonneg (v / 2 ^ (8 * (8 - 1 - i))) (show (256 : Int) ≠ 0 by decide)
    have h6 := Int.emod_lt_of_pos (v / 2 ^ (8 * (8 - 1 - i))) (show (0 : Int) < 256 by decide)
    have h7 := Int.emod_nonneg (w / 2 ^ (8 * (8 - 1 - i))) (show (256 : Int) ≠ 0 by decide)
    have h8 := Int.emod_lt_of_pos (w / 2 ^ (8 * (8 - 1 - i))) (show (0 : Int) < 256 by decide)
    omega
  have a0 := h2 0 (by decide); have a1 := h2 1 (by decide); have a2 := h2 2 (by decide); have a3 := h2 3 (by decide)
  have a4 := h2 4 (by decide); have a5 := h2 5 (by decide); have a6 := h2 6 (by decide); have a7 := h2 7 (by decide)
  simp only [Nat.reduceSub, Nat.reduceMul, Nat.sub_zero, Int.reducePow] at a0 a1 a2 a3 a4 a5 a6 a7
  omega
def Wfp (p : Pr) : Prop := (0 ≤ p.1 ∧ p.1 < 18446744073709551616) ∧ (0 ≤ p.2 ∧ p.2 < 18446744073709551616)
theorem pairB_inj {p q : Pr} (hp : Wfp p) (hq : Wfp q) (h : pairB p = pairB q) : p = q := by
  obtain ⟨h1, h2⟩ := List.append_inj h (by simp)
  exact Prod.ext (putB8_inj hp.1 hq.1 h1) (putB8_inj hp.2 hq.2 h2)
theorem nodeK_inj {a b c d : Pr} (ha : Wfp a) (hb : Wfp b) (hc : Wfp c) (hd : Wfp d) (h : nodeK a b = nodeK c d) : a = c ∧ b = d := by
  simp only [nodeK, List.cons.injEq, true_and] at h
  obtain ⟨h1, h2⟩ := List.append_inj h (by simp [pairB_len])
  exact ⟨pairB_inj ha hc h1, pairB_inj hb hd h2⟩
theorem leafK_inj {a b : Bs} (h : leafK a = leafK b) : a = b := by simpa [leafK] using h
theorem IsSum.wf {S : List Bs} {a : Bs} {p : Pr} (h : IsSum S a p) (hS : S.length ≤ 1000000) : Wfp p := by
  obtain ⟨h1, h2, h3⟩ := h.rng
  exact ⟨by rw [h1]; decide, by omega, by omega⟩

/-- By either lock: p is k's sum, as far as S knows. -/
def IsG (md : Bool) (S : List Bs) (k : Bs) (p : Pr) : Prop := match md with | true => IsSum S k p | false => p = digestF k
theorem gS_pre (md : Bool) (S : List Bs) (k : Bs) : Pre S (gS md S k) := by
  cases md
  · exact Pre.refl _
  · exact sumS_pre S k
theorem IsG.pre {md : Bool} {S S' : List Bs} {k : Bs} {p : Pr} (h : IsG md S k p) (hp : Pre S S') : IsG md S' k p := by
  cases md
  · exact h
  · exact IsSum.pre h hp
theorem isG_sum (md : Bool) (S : List Bs) (k : Bs) : IsG md (gS md S k) k (gP md S k) := by
  cases md
  · exact rfl
  · exact isSum_sum S k
theorem IsG.fn {md : Bool} {S : List Bs} {a : Bs} {p q : Pr} (h1 : IsG md S a p) (h2 : IsG md S a q) : p = q := by
  cases md
  · exact Eq.trans h1 (Eq.symm h2)
  · exact IsSum.fn h1 h2

abbrev nd (N : List Pr) (i : Nat) : Pr := N.getD i (0, 0)
theorem nd_set {N : List Pr} {i j : Nat} {p : Pr} : nd (N.set i p) j = if i = j ∧ j < N.length then p else nd N j := by
  simp only [nd, List.getD_eq_getElem?_getD, List.getElem?_set]
  by_cases h : i = j
  · subst h
    by_cases h2 : i < N.length
    · simp [h2]
    · simp [h2]
  · simp [h]
/-- The nodes N are the tree of leaves lv, as far as S knows. -/
structure Tree (md : Bool) (S : List Bs) (lv : List Bs) (N : List Pr) : Prop where
  len : N.length = 2 * lv.length
  leaf : ∀ i (hi : i < lv.length), IsG md S (leafK lv[i]) (nd N (lv.length + i))
  node : ∀ j, 1 ≤ j → j < lv.length → IsG md S (nodeK (nd N (2 * j)) (nd N (2 * j + 1))) (nd N j)
theorem Tree.pre {md : Bool} {S S' : List Bs} {lv : List Bs} {N : List Pr} (h : Tree md S lv N) (hp : Pre S S') : Tree md S' lv N :=
  ⟨h.len, fun i hi => (h.leaf i hi).pre hp, fun j h1 h2 => (h.node j h1 h2).pre hp⟩
theorem lfF_tree (md : Bool) : ∀ (r : List Bs) (k : Nat) (N : List Pr) (S : List Bs), k + r.length ≤ N.length → Pre S (lfF md r k N S).2 ∧ (∀ j, j < k → nd (lfF md r k N S).1 j = nd N j) ∧ ∀ i (hi : i < r.length), IsG md (lfF md r k N S).2 (leafK r[i]) (nd (lfF md r k N S).1 (k + i))
  | [], _, _, S, _ => ⟨Pre.refl _, fun _ _ => rfl, fun i hi => absurd hi (by simp)⟩
  | b :: r, k, N, S, hk => by
    simp only [List.length_cons] at hk
    obtain ⟨h1, h2, h3⟩ := lfF_tree md r (k + 1) (N.set k (gP md S (leafK b))) (gS md S (leafK b)) (by simp; omega)
    simp only [lfF]
    refine ⟨(gS_pre md _ _).trans h1, fun j hj => ?_, fun i hi => ?_⟩
    · rw [h2 j (by omega), nd_set, if_neg (by omega)]
    · cases i with
      | zero =>
        rw [show k + 0 = k from rfl, h2 k (by omega), nd_set, if_pos ⟨rfl, by omega⟩]
        exact (isG_sum md S (leafK b)).pre h1
      | succ i =>
        have := h3 i (by simpa using hi)
        rw [show k + 1 + i = k + (i + 1) by omega] at this
        exact this
theorem upF_tree (md : Bool) : ∀ (i : Nat) (N : List Pr) (S : List Bs), i < N.length → Pre S (upF md i N S).2 ∧ (∀ j, i < j → nd (upF md i N S).1 j = nd N j) ∧ ∀ j, 1 ≤ j → j ≤ i → IsG md (upF md i N S).2 (nodeK (nd (upF md i N S).1 (2 * j)) (nd (upF md i N S).1 (2 * j + 1))) (nd (upF md i N S).1 j)
  | 0, _, S, _ => ⟨Pre.refl _, fun _ _ => rfl, fun j h1 h2 => absurd h1 (by omega)⟩
  | i + 1, N, S, hi => by
    obtain ⟨h1, h2, h3⟩ := upF_tree md i (N.set (i + 1) (gP md S (kidK N (i + 1)))) (gS md S (kidK N (i + 1))) (by simp; omega)
    simp only [upF]
    refine ⟨(gS_pre md _ _).trans h1, fun j hj => ?_, fun j j1 j2 => ?_⟩
    · rw [h2 j (by omega), nd_set, if_neg (by omega)]
    · by_cases e : j = i + 1
      · subst e
        rw [h2 (i + 1) (by omega), h2 (2 * (i + 1)) (by omega), h2 (2 * (i + 1) + 1) (by omega), nd_set (j := 2 * (i + 1)), if_neg (by omega), nd_set (j := 2 * (i + 1) + 1), if_neg (by omega), nd_set (j := i + 1), if_pos ⟨rfl, hi⟩]
        exact (isG_sum md S (kidK N (i + 1))).pre h1
      · exact h3 j j1 (by omega)
theorem buildF_tree (md : Bool) (lv : List Bs) (S : List Bs) (hl : 1 ≤ lv.length) : Pre S (buildF md lv S).2 ∧ Tree md (buildF md lv S).2 lv (buildF md lv S).1 := by
  have l1 := lfF_len md lv lv.length (List.replicate (2 * lv.length) (0, 0)) S
  obtain ⟨a1, a2, a3⟩ := lfF_tree md lv lv.length (List.replicate (2 * lv.length) (0, 0)) S (by simp; omega)
  unfold buildF
  generalize lfF md lv lv.length (List.replicate (2 * lv.length) (0, 0)) S = q at *
  simp only [List.length_replicate] at l1
  have l2 := upF_len md (lv.length - 1) q.1 q.2
  obtain ⟨b1, b2, b3⟩ := upF_tree md (lv.length - 1) q.1 q.2 (by omega)
  refine ⟨a1.trans b1, ⟨by omega, fun i hi => ?_, fun j h1 h2 => b3 j h1 (by omega)⟩⟩
  rw [b2 _ (by omega)]
  exact (a3 i hi).pre b1
theorem buildF_len (md : Bool) (lv : List Bs) (S : List Bs) : (buildF md lv S).1.length = 2 * lv.length ∧ (buildF md lv S).2.length ≤ S.length + 2 * lv.length := by
  have l1 := lfF_len md lv lv.length (List.replicate (2 * lv.length) (0, 0)) S
  unfold buildF
  generalize lfF md lv lv.length (List.replicate (2 * lv.length) (0, 0)) S = q at *
  simp only [List.length_replicate] at l1
  have l2 := upF_len md (lv.length - 1) q.1 q.2
  omega
/-- One top, one tree. -/
theorem Tree.one {S : List Bs} {a b : List Bs} {N M : List Pr} (hS : S.length ≤ 1000000) (hN : Tree true S a N) (hM : Tree true S b M) (hl : a.length = b.length) (ht : nd N 1 = nd M 1) : ∀ j, 1 ≤ j → j < 2 * a.length → nd N j = nd M j := by
  have wN : ∀ j, 1 ≤ j → j < 2 * a.length → Wfp (nd N j) := fun j h1 h2 => by
    by_cases h : j < a.length
    · exact (hN.node j h1 h).wf hS
    · have := hN.leaf (j - a.length) (by omega)
      rw [show a.length + (j - a.length) = j by omega] at this
      exact this.wf hS
  have wM : ∀ j, 1 ≤ j → j < 2 * a.length → Wfp (nd M j) := fun j h1 h2 => by
    by_cases h : j < a.length
    · exact (hM.node j h1 (by omega)).wf hS
    · have := hM.leaf (j - a.length) (by omega)
      rw [show b.length + (j - a.length) = j by omega] at this
      exact this.wf hS
  intro j
  induction j using Nat.strongRecOn with
  | ind j ih =>
    intro h1 h2
    by_cases e : j = 1
    · rw [e]; exact ht
    · have hp := ih (j / 2) (by omega) (by omega) (by omega)
      have k1 := hN.node (j / 2) (by omega) (by omega)
      have k2 := hM.node (j / 2) (by omega) (by omega)
      rw [hp] at k1
      obtain ⟨e1, e2⟩ := nodeK_inj (wN _ (by omega) (by omega)) (wN _ (by omega) (by omega)) (wM _ (by omega) (by omega)) (wM _ (by omega) (by omega)) (k1.inj k2)
      rcases Nat.mod_two_eq_zero_or_one j with hm | hm
      · rw [show j = 2 * (j / 2) by omega]; exact e1
      · rw [show j = 2 * (j / 2) + 1 by omega]; exact e2
theorem Tree.leaves {S : List Bs} {a b : List Bs} {N M : List Pr} (hS : S.length ≤ 1000000) (hN : Tree true S a N) (hM : Tree true S b M) (hl : a.length = b.length) (ha : 1 ≤ a.length) (ht : nd N 1 = nd M 1) : a = b := by
  have key := Tree.one hS hN hM hl ht
  refine List.ext_getElem hl fun i h1 h2 => ?_
  have k1 := hN.leaf i h1
  have k2 := hM.leaf i h2
  rw [key (a.length + i) (by omega) (by omega), hl] at k1
  exact leafK_inj (k1.inj k2)
/-- One row of leaves, one tree. -/
theorem Tree.same {md : Bool} {S : List Bs} {a : List Bs} {N M : List Pr} (hN : Tree md S a N) (hM : Tree md S a M) : ∀ n j, 2 * a.length - j ≤ n → 1 ≤ j → j < 2 * a.length → nd N j = nd M j := by
  intro n
  induction n with
  | zero => intro j h1 h2 h3; omega
  | succ n ih =>
    intro j h1 h2 h3
    by_cases h : j < a.length
    · have k1 := hN.node j h2 h
      have k2 := hM.node j h2 h
      rw [ih (2 * j) (by omega) (by omega) (by omega), ih (2 * j + 1) (by omega) (by omega) (by omega)] at k1
      exact k1.fn k2
    · have k1 := hN.leaf (j - a.length) (by omega)
      have k2 := hM.leaf (j - a.length) (by omega)
      rw [show a.length + (j - a.length) = j by omega] at k1 k2
      exact k1.fn k2
end Go.Proofs.YtafkhpjnihnfpaaGreat


namespace Go.Proofs.YtafkhpjnihnfpaaGreat
open Go Go.Abs

theorem sum_known {md : Bool} {S : List Bs} {k : Bs} {p : Pr} (h : IsG md S k p) : gP md S k = p ∧ gS md S k = S := by
  cases md with
  | true =>
    obtain ⟨m, h1, rfl⟩ := h
    exact ⟨by show sumP S k = _; rw [sumP, sumN, h1]; rfl, by show sumS S k = _; rw [sumS, h1]; rfl⟩
  | false => exact ⟨Eq.symm h, rfl⟩
theorem xor_one (k : Nat) : k ^^^ 1 = if k % 2 = 1 then k - 1 else k + 1 := by
  have h1 : (k ^^^ 1) / 2 = k / 2 := by rw [Nat.xor_div_two]; simp
  have h2 : (k ^^^ 1) % 2 = (k + 1) % 2 := by
    have h3 := Nat.testBit_xor k 1 0
    simp only [Nat.testBit_zero] at h3
    rcases Nat.mod_two_eq_zero_or_one k with h | h <;> rcases Nat.mod_two_eq_zero_or_one (k ^^^ 1) with h' | h' <;> simp [h, h'] at h3 <;> omega
  split <;> omega
theorem upL_len (N : List Pr) : ∀ (e i : Nat), i < 2 ^ e → (upL N (2 ^ e + i)).length = e
  | 0, i, h => by
    have : i = 0 := by omega
    subst this; rw [upL_one (by simp)]; rfl
  | e + 1, i, h => by
    have hp : 2 ^ (e + 1) = 2 * 2 ^ e := by rw [Nat.pow_succ]; omega
    have hpos : 0 < 2 ^ e := Nat.two_pow_pos e
    rw [upL_more (by omega), List.length_cons, show (2 ^ (e + 1) + i) / 2 = 2 ^ e + i / 2 by omega, upL_len N e (i / 2) (by omega)]
/-- Its own neighbours lead to the top, and nothing new is summed. -/
theorem ck_up {md : Bool} {S : List Bs} {lv : List Bs} {N : List Pr} (hT : Tree md S lv N) : ∀ (e i : Nat), i < 2 ^ e → 2 ^ e + i < 2 * lv.length → ckF md (upL N (2 ^ e + i)) i (nd N (2 ^ e + i)) S = (nd N 1, S)
  | 0, i, h, _ => by
    have : i = 0 := by omega
    subst this; rw [upL_one (by simp)]; rfl
  | e + 1, i, h, hk => by
    have hp : 2 ^ (e + 1) = 2 * 2 ^ e := by rw [Nat.pow_succ]; omega
    have hpos : 0 < 2 ^ e := Nat.two_pow_pos e
    rw [upL_more (by omega), ckF]
    have hd : (2 ^ (e + 1) + i) / 2 = 2 ^ e + i / 2 := by omega
    have key : (if i % 2 = 1 then nodeK (N.getD ((2 ^ (e + 1) + i) ^^^ 1) (0, 0)) (nd N (2 ^ (e + 1) + i)) else nodeK (nd N (2 ^ (e + 1) + i)) (N.getD ((2 ^ (e + 1) + i) ^^^ 1) (0, 0))) = nodeK (nd N (2 * (2 ^ e + i / 2))) (nd N (2 * (2 ^ e + i / 2) + 1)) := by
      rw [xor_one]
      split
      · rw [if_pos (by omega), show 2 ^ (e + 1) + i - 1 = 2 * (2 ^ e + i / 2) by omega, show 2 ^ (e + 1) + i = 2 * (2 ^ e + i / 2) + 1 by omega]
      · rw [if_neg (by omega), show 2 ^ (e + 1) + i = 2 * (2 ^ e + i / 2) by omega]
    rw [key]
    obtain ⟨k1, k2⟩ := sum_known (hT.node (2 ^ e + i / 2) (by omega) (by omega))
    rw [k1, k2, hd]
    exact ck_up hT e (i / 2) (by omega) (by omega)
theorem Tree.wf {S : List Bs} {lv : List Bs} {N : List Pr} (hT : Tree true S lv N) (hS : S.length ≤ 1000000) {j : Nat} (h1 : 1 ≤ j) (h2 : j < 2 * lv.length) : Wfp (nd N j) := by
  by_cases h : j < lv.length
  · exact (hT.node j h1 h).wf hS
  · have := hT.leaf (j - lv.length) (by omega)
    rw [show lv.length + (j - lv.length) = j by omega] at this
    exact this.wf hS
theorem ck_tree {md : Bool} {S : List Bs} {lv : List Bs} {N : List Pr} (hT : Tree md S lv N) {e : Nat} (he : lv.length = 2 ^ e) {i : Nat} (hi : i < lv.length) : ckF md (upL N (2 ^ e + i)) i (gP md S (leafK lv[i])) (gS md S (leafK lv[i])) = (nd N 1, S) := by
  obtain ⟨k1, k2⟩ := sum_known (hT.leaf i hi)
  rw [k1, k2, he]
  exact ck_up hT e i (by omega) (by omega)
end Go.Proofs.YtafkhpjnihnfpaaGreat


namespace Go.Proofs.YtafkhpjnihnfpaaGreat
open Go Go.Abs

/-- The nodes that stand there. -/
def WS.ndF (s : WS) (a : Int) (j : Nat) : Pr := pairF ((s.sd.snap.drop (ndAt s.n a j).toNat).take 16)
def WS.nds (s : WS) (a : Int) : List Pr := (List.range (2 * s.n.toNat)).map (s.ndF a)
def WS.oneQ (s : WS) (a : Int) (i : Nat) : List Pr := upL (s.nds a) (s.n.toNat + i)
def WS.oneC (md : Bool) (s : WS) (a : Int) (i : Nat) : Pr × List Bs := ckF md (s.oneQ a i) i (gP md s.S (leafK (s.row a i))) (gS md s.S (leafK (s.row a i)))
def WS.oneS (md : Bool) (s : WS) (a : Int) (i : Nat) : WS := if s.pw.gone then s else { s with S := (s.oneC md a i).2 }
def WS.oneE (md : Bool) (s : WS) (a : Int) (i : Nat) (top : Pr) : Int := if s.pw.gone then 7 else if (s.oneC md a i).1 = top ∧ leafG (s.row a i) i = true then 0 else 3
def WS.oneL (md : Bool) (s : WS) (a : Int) (i : Nat) (top : Pr) : Lf := if s.oneE md a i top = 0 then s.leaf a i else lf0
theorem oneQ_len {s : WS} {k : Nat} (hs : s.Fit k) (a : Int) (i : Nat) (hi : (i : Int) < s.n) : ∃ e, s.n.toNat = 2 ^ e ∧ (s.oneQ a i).length = e ∧ e ≤ 4 := by
  have hg := isG_cases hs.g
  have : s.n.toNat = 2 ^ 2 ∨ s.n.toNat = 2 ^ 3 ∨ s.n.toNat = 2 ^ 4 := by omega
  rcases this with h | h | h
  · exact ⟨2, h, by rw [WS.oneQ, h]; exact upL_len _ _ _ (by omega), by omega⟩
  · exact ⟨3, h, by rw [WS.oneQ, h]; exact upL_len _ _ _ (by omega), by omega⟩
  · exact ⟨4, h, by rw [WS.oneQ, h]; exact upL_len _ _ _ (by omega), by omega⟩
end Go.Proofs.YtafkhpjnihnfpaaGreat


namespace Go.Proofs.YtafkhpjnihnfpaaGreat
open Go Go.Abs

theorem x64_rng (a b : Int) : 0 ≤ x64 a b ∧ x64 a b < 18446744073709551616 := by
  have h1 : x64 a b = (((BitVec.ofInt 64 a ^^^ BitVec.ofInt 64 b).toNat : Nat) : Int) := by
    show IntKind.u64.wrap (((BitVec.ofInt 64 a ^^^ BitVec.ofInt 64 b).toNat : Nat) : Int) = _
    have := (BitVec.ofInt 64 a ^^^ BitVec.ofInt 64 b).isLt
    exact IntWalk.u64_in _ (by omega)
  have := (BitVec.ofInt 64 a ^^^ BitVec.ofInt 64 b).isLt
  omega
theorem stepF_wf (s m : Pr) : Wfp (stepF s m) := ⟨x64_rng _ _, x64_rng _ _⟩
theorem steps_wf : ∀ (l : List Bs) (s : Pr), Wfp s → Wfp (l.foldl sumS6 s)
  | [], _, h => h
  | r :: l, s, _ => steps_wf l _ (stepF_wf s (pairF r))
theorem digestF_wf (p : Bs) : Wfp (digestF p) := by
  rw [digestF_S]
  exact steps_wf _ _ ⟨⟨by decide, by decide⟩, ⟨by decide, by decide⟩⟩
theorem IsG.wf {md : Bool} {S : List Bs} {a : Bs} {p : Pr} (h : IsG md S a p) (hS : S.length ≤ 1000000) : Wfp p := by
  cases md with
  | true => exact IsSum.wf h hS
  | false => rw [show p = digestF a from h]; exact digestF_wf a
theorem Tree.wfG {md : Bool} {S : List Bs} {lv : List Bs} {N : List Pr} (hT : Tree md S lv N) (hS : S.length ≤ 1000000) {j : Nat} (h1 : 1 ≤ j) (h2 : j < 2 * lv.length) : Wfp (nd N j) := by
  by_cases h : j < lv.length
  · exact (hT.node j h1 h).wf hS
  · have := hT.leaf (j - lv.length) (by omega)
    rw [show lv.length + (j - lv.length) = j by omega] at this
    exact this.wf hS
/-- So many bytes from a place on. -/
def sub (b : Bs) (o k : Nat) : Bs := (b.drop o).take k
theorem layO_get {b : Bs} {x : Wr} (h : x.1.toNat + x.2.length ≤ b.length) (j : Nat) : (layO b x)[j]? = if x.1.toNat ≤ j ∧ j < x.1.toNat + x.2.length then x.2[j - x.1.toNat]? else b[j]? := by
  have hm : min x.2.length (b.length - x.1.toNat) = x.2.length := by omega
  have ht : min x.1.toNat b.length = x.1.toNat := by omega
  rw [layO, hm, List.take_length]
  simp only [List.getElem?_append, List.length_append, List.length_take, List.getElem?_take, List.getElem?_drop, ht]
  by_cases h1 : j < x.1.toNat
  · rw [if_pos (by omega), if_pos h1, if_pos h1, if_neg (by omega)]
  · by_cases h2 : j < x.1.toNat + x.2.length
    · rw [if_pos h2, if_neg h1, if_pos (by omega)]
    · rw [if_neg h2, if_neg (by omega)]
      congr 1; omega
theorem sub_in {b : Bs} {x : Wr} (h : x.1.toNat + x.2.length ≤ b.length) {o k : Nat} (h1 : x.1.toNat ≤ o) (h2 : o + k ≤ x.1.toNat + x.2.length) : sub (layO b x) o k = sub x.2 (o - x.1.toNat) k := by
  apply List.ext_getElem?; intro j
  simp only [sub, List.getElem?_take, List.getElem?_drop]
  split
  · rw [layO_get h, if_pos (by omega), show o + j - x.1.toNat = o - x.1.toNat + j by omega]
  · rfl
theorem sub_out {b : Bs} {x : Wr} (h : x.1.toNat + x.2.length ≤ b.length) {o k : Nat} (h1 : o + k ≤ x.1.toNat ∨ x.1.toNat + x.2.length ≤ o) : sub (layO b x) o k = sub b o k := by
  apply List.ext_getElem?; intro j
  simp only [sub, List.getElem?_take, List.getElem?_drop]
  split
  · rw [layO_get h, if_neg (by omega)]
  · rfl
theorem flat_sub (k : Nat) : ∀ (L : List Bs) (i : Nat) (hi : i < L.length), (∀ b ∈ L, b.length = k) → sub L.flatten (k * i) k = L[i]
  | b :: r, 0, _, h => by
    rw [sub, List.flatten_cons]; exact List.take_left' (h b (by simp))
  | b :: r, i + 1, hi, h => by
    have hb := h b (by simp)
    have : k * (i + 1) = b.length + k * i := by rw [hb, Nat.mul_add, Nat.mul_one, Nat.add_comm]
    rw [sub, List.flatten_cons, this, List.drop_length_add_append]
    exact flat_sub k r i (by simpa using hi) fun x hx => h x (by simp [hx])
theorem WS.row_sub (s : WS) (a : Int) (i : Nat) : s.row a i = sub s.sd.snap (lfAt s.n a i).toNat 32 := rfl
theorem WS.nd_sub (s : WS) (a : Int) (j : Nat) : s.ndF a j = pairF (sub s.sd.snap (ndAt s.n a j).toNat 16) := rfl

theorem areaW_n (md : Bool) (s : WS) (a : Int) (lv : List Lf) : (s.areaW md a lv).n = s.n := by unfold WS.areaW; split <;> rfl
theorem areaW_S (md : Bool) (s : WS) (a : Int) (lv : List Lf) : (s.areaW md a lv).S = (buildF md (lv.map leafB) s.S).2 := by unfold WS.areaW; split <;> rfl
theorem areaW_snap (md : Bool) {s : WS} (a : Int) (lv : List Lf) (hc : s.pw.can = true) (hc2 : s.pw.spend.can = true) : (s.areaW md a lv).sd.snap = layO (layO s.sd.snap (lfAt s.n a 0, lvB lv)) (ndAt s.n a 0, nodesB (s.nodes md lv)) := by
  simp [WS.areaW, WS.areaW1, SdS.write, hc, hc2, SdS.snap, List.foldl_append]
theorem nodes_len (md : Bool) (s : WS) (lv : List Lf) : (s.nodes md lv).length = 2 * lv.length := by
  have := (buildF_len md (lv.map leafB) s.S).1
  rwa [List.length_map] at this
section
variable {md : Bool} {s : WS} {k : Nat} {a : Int} {lv : List Lf}
theorem areaW_row2 (hs : s.Fit k) (hc : s.pw.can = true) (hc2 : s.pw.spend.can = true) (ha : 0 ≤ a ∧ a < 2) (hl : (lv.length : Int) = s.n) (b : Int) (hb : 0 ≤ b ∧ b < 2) (hne : b ≠ a) (i : Nat) (hi : i < lv.length) : (s.areaW md a lv).row b i = s.row b i := by
  have hg := isG_cases hs.g
  have hsl := snap_lenS hs
  have hlb := lvB_len lv
  have hnb := nodesB_len (s.nodes md lv)
  rw [nodes_len] at hnb
  have hc' : (a = 0 ∧ b = 1) ∨ (a = 1 ∧ b = 0) := by omega
  rw [WS.row_sub, areaW_n, areaW_snap md a lv hc hc2, WS.row_sub]
  have e1 : (lfAt s.n a 0).toNat + (lvB lv).length ≤ s.sd.snap.length := by unfold lfAt; rcases hc' with ⟨rfl, rfl⟩ | ⟨rfl, rfl⟩ <;> omega
  have e2 : (layO s.sd.snap (lfAt s.n a 0, lvB lv)).length = s.sd.snap.length := layO_len _ _ (by dsimp only; omega)
  rw [sub_out (by rw [e2]; dsimp only; unfold ndAt; rcases hc' with ⟨rfl, rfl⟩ | ⟨rfl, rfl⟩ <;> omega) (by dsimp only; unfold lfAt ndAt; rcases hc' with ⟨rfl, rfl⟩ | ⟨rfl, rfl⟩ <;> omega), sub_out (by dsimp only; exact e1) (by dsimp only; unfold lfAt; rcases hc' with ⟨rfl, rfl⟩ | ⟨rfl, rfl⟩ <;> omega)]
end

/-- A top is leaves', as far as S knows. -/
def TopOf (md : Bool) (S : List Bs) (lv : List Lf) (top : Pr) : Prop := ∃ N, Tree md S (lv.map leafB) N ∧ nd N 1 = top
theorem TopOf.pre {md : Bool} {S S' : List Bs} {lv : List Lf} {top : Pr} (h : TopOf md S lv top) (hp : Pre S S') : TopOf md S' lv top := by
  obtain ⟨N, hT, ht⟩ := h; exact ⟨N, hT.pre hp, ht⟩
theorem nodes_top (md : Bool) (s : WS) (lv : List Lf) (h1 : 1 ≤ lv.length) : TopOf md (buildF md (lv.map leafB) s.S).2 lv ((s.nodes md lv).getD 1 (0, 0)) :=
  ⟨s.nodes md lv, (buildF_tree md (lv.map leafB) s.S (by rwa [List.length_map])).2, rfl⟩
theorem rows_of {s : WS} {a : Int} {lv : List Lf} (hr : ∀ i (hi : i < lv.length), s.row a i = leafB lv[i]) (m : Nat) (hm : lv.length = m) : s.rows a m = lv.map leafB := by
  subst hm
  refine List.ext_getElem (by simp [WS.rows]) fun i h1 h2 => ?_
  simp only [WS.rows, List.getElem_map, List.getElem_range]
  exact hr i (by simpa using h2)
/-- What stands there and comes to its top is read. -/
theorem read_well {md : Bool} {s : WS} {k : Nat} {a : Int} {lv : List Lf} {top : Pr} (hs : s.Fit k) (hgo : s.pw.gone = false) (hl : (lv.length : Int) = s.n) (hw : ∀ x ∈ lv, x.Wf) (hok : lvOk lv 0 = true)
    (hr : ∀ i (hi : i < lv.length), s.row a i = leafB lv[i]) (ht : TopOf md s.S lv top) : s.readE md a top = 0 ∧ s.readL md a top = lv := by
  have hg := isG_cases hs.g
  have hm : lv.length = s.n.toNat := by omega
  have hro := rows_of hr s.n.toNat hm
  have hT : s.readT md a = top := by
    obtain ⟨N, hN, rfl⟩ := ht
    obtain ⟨p, hM⟩ := buildF_tree md (lv.map leafB) s.S (by rw [List.length_map]; omega)
    rw [WS.readT, hro]
    exact Tree.same hM (hN.pre p) _ 1 (Nat.le_refl _) (by omega) (by rw [List.length_map]; omega)
  have hL : ∀ i (hi : i < lv.length), leafG (s.row a i) i = true ∧ leafD (s.row a i) i = lv[i] := fun i hi => by
    rw [hr i hi]
    have := lvOk_at lv 0 i hi hok
    rw [Nat.zero_add] at this
    exact leafG_B _ (hw _ (List.getElem_mem hi)) i this
  have hA : s.allG a s.n.toNat = true := by
    rw [WS.allG, List.all_eq_true]
    intro i hi
    exact (hL i (by have := List.mem_range.1 hi; omega)).1
  have hE : s.readE md a top = 0 := by rw [WS.readE, hgo, hT, hA]; simp
  refine ⟨hE, ?_⟩
  rw [WS.readL, if_pos hE]
  refine List.ext_getElem (by simp [WS.leaves, hm]) fun i h1 h2 => ?_
  simp only [WS.leaves, List.getElem_map, List.getElem_range]
  exact (hL i h2).2
theorem upL_congr {A B : List Pr} {m : Nat} (h : ∀ j, 2 ≤ j → j < 2 * m → nd A j = nd B j) : ∀ (n k : Nat), k ≤ n → k < 2 * m → upL A k = upL B k
  | 0, k, hn, _ => by rw [upL_one (by omega), upL_one (by omega)]
  | n + 1, k, hn, hk => by
    by_cases h1 : k ≤ 1
    · rw [upL_one h1, upL_one h1]
    · have hx := xor1_lt k m hk
      have h2 : 2 ≤ k ^^^ 1 := by rw [xor_one]; split <;> omega
      rw [upL_more (l := A) (k := k) (by omega), upL_more (l := B) (k := k) (by omega), upL_congr h n (k / 2) (by omega) (by omega)]
      congr 1
      exact h _ h2 hx
theorem nds_nd (s : WS) (a : Int) (j : Nat) (h : j < 2 * s.n.toNat) : nd (s.nds a) j = s.ndF a j := by
  rw [nd, WS.nds, List.getD_eq_getElem?_getD, List.getElem?_map, List.getElem?_range h]; rfl
/-- One that stands there, and its neighbours. -/
theorem one_well {md : Bool} {s : WS} {k : Nat} {a : Int} {lv : List Lf} {top : Pr} (hs : s.Fit k) (hgo : s.pw.gone = false) (hl : (lv.length : Int) = s.n) (hw : ∀ x ∈ lv, x.Wf) (hok : lvOk lv 0 = true)
    {N : List Pr} (hT : Tree md s.S (lv.map leafB) N) (ht : nd N 1 = top) (hnd : ∀ j, 1 ≤ j → j < 2 * lv.length → s.ndF a j = nd N j) (i : Nat) (hi : i < lv.length) (hr : s.row a i = leafB lv[i]) : s.oneE md a i top = 0 ∧ s.oneL md a i top = lv[i] ∧ s.oneS md a i = s := by
  have hm : lv.length = s.n.toNat := by omega
  obtain ⟨e, he, hq, _⟩ := oneQ_len hs a i (by omega)
  have hQ : s.oneQ a i = upL N (2 ^ e + i) := by
    rw [WS.oneQ, he]
    refine upL_congr (m := lv.length) (fun j h1 h2 => ?_) _ _ (Nat.le_refl _) (by omega)
    rw [nds_nd _ _ _ (by omega), hnd j (by omega) h2]
  have hC : s.oneC md a i = (top, s.S) := by
    rw [WS.oneC, hQ, hr]
    have := ck_tree hT (e := e) (by rw [List.length_map]; omega) (i := i) (by rw [List.length_map]; exact hi)
    rw [List.getElem_map] at this
    rw [this, ht]
  have hL := lvOk_at lv 0 i hi hok
  rw [Nat.zero_add] at hL
  obtain ⟨g1, g2⟩ := leafG_B _ (hw _ (List.getElem_mem hi)) i hL
  have hE : s.oneE md a i top = 0 := by rw [WS.oneE, hgo, hC, hr, g1]; simp
  refine ⟨hE, ?_, ?_⟩
  · rw [WS.oneL, if_pos hE, WS.leaf, hr, g2]
  · rw [WS.oneS, hgo, hC]; rfl
end Go.Proofs.YtafkhpjnihnfpaaGreat


namespace Go.Proofs.YtafkhpjnihnfpaaGreat
open Go Go.Abs

def pick (K : List Int) (i : Nat) : Int := K.getD (i % K.length) 0
end Go.Proofs.YtafkhpjnihnfpaaGreat


namespace Go.Proofs.YtafkhpjnihnfpaaGreat
open Go Go.Abs

/-- No fuse, power on. -/
structure PwS.Free (w : PwS) : Prop where
  g : w.gone = false
  f : w.fuse = false
theorem PwS.Free.can {w : PwS} (h : w.Free) : w.can = true := by simp [PwS.can, h.g, h.f]
theorem PwS.Free.spend {w : PwS} (h : w.Free) : w.spend.Free := by
  have h1 := h.g
  have h2 := h.f
  refine ⟨?_, ?_⟩ <;> simp [PwS.spend, h1, h2]
theorem PwS.Ok.mono {w : PwS} {k k' : Nat} (h : w.Ok k) (hk : k ≤ k') : w.Ok k' := ⟨h.l0, h.l1, h.s0, by have := h.s1; omega⟩
theorem SdS.Ok.mono {x : SdS} {n k k' : Nat} (h : x.Ok n k) (hk : k ≤ k') : x.Ok n k' := ⟨h.len, h.w, Nat.le_trans h.kw hk, Nat.le_trans h.kt hk⟩
theorem WS.Fit.mono {s : WS} {k k' : Nat} (h : s.Fit k) (hk : k ≤ k') : s.Fit k' := ⟨h.g, h.pw.mono hk, h.sd.mono hk, Nat.le_trans h.ss hk, Nat.le_trans h.ll hk⟩
theorem fit_ws0 {n : Nat} (hg : isG n = true) (seed : Int) : (ws0 n seed).Fit 0 := by
  refine ⟨hg, ⟨fun h => by simp [ws0] at h, by simp [ws0], by simp [ws0], by simp [ws0]⟩, ⟨?_, by simp [ws0, sd0], by simp [ws0, sd0], by simp [ws0, sd0]⟩, by simp [ws0], by simp [ws0]⟩
  rw [show (ws0 n seed).n = n from rfl, sizeG_pos hg]
  simp only [ws0, sd0, List.length_replicate]; omega
theorem free_ws0 (n : Nat) (seed : Int) : (ws0 n seed).pw.Free := ⟨rfl, rfl⟩
theorem areaW_pw {md : Bool} {s : WS} (a : Int) (lv : List Lf) (hf : s.pw.Free) : (s.areaW md a lv).pw = s.pw.spend.spend := by rw [WS.areaW, hf.can]; rfl
theorem areaW_free {md : Bool} {s : WS} (a : Int) (lv : List Lf) (hf : s.pw.Free) : (s.areaW md a lv).pw.Free := by rw [areaW_pw a lv hf]; exact hf.spend.spend
theorem fit_readS {md : Bool} {s : WS} {k : Nat} (hs : s.Fit k) (a : Int) : (s.readS md a).Fit (k + 40) := by
  have hg := isG_cases hs.g
  have hbl := (buildF_len md (s.rows a s.n.toNat) s.S).2
  rw [rows_len] at hbl
  have hss := hs.ss
  rw [WS.readS]
  split
  · exact hs.mono (by omega)
  · exact ⟨hs.g, hs.pw.mono (by omega), hs.sd.mono (by omega), by show (buildF md (s.rows a s.n.toNat) s.S).2.length ≤ _; omega, Nat.le_trans hs.ll (by omega)⟩
theorem readS_sd (md : Bool) (s : WS) (a : Int) : (s.readS md a).sd = s.sd ∧ (s.readS md a).n = s.n ∧ (s.readS md a).pw = s.pw := by rw [WS.readS]; split <;> exact ⟨rfl, rfl, rfl⟩
theorem readS_pre (md : Bool) {s : WS} (a : Int) (h1 : 1 ≤ s.n.toNat) : Pre s.S (s.readS md a).S := by
  rw [WS.readS]; split
  · exact Pre.refl _
  · exact (buildF_tree md (s.rows a s.n.toNat) s.S (by rwa [rows_len])).1
theorem row_congr {s s' : WS} (h1 : s'.sd = s.sd) (h2 : s'.n = s.n) (a : Int) (i : Nat) : s'.row a i = s.row a i := by rw [WS.row_sub, WS.row_sub, h1, h2]
theorem nd_congr {s s' : WS} (h1 : s'.sd = s.sd) (h2 : s'.n = s.n) (a : Int) (i : Nat) : s'.ndF a i = s.ndF a i := by rw [WS.nd_sub, WS.nd_sub, h1, h2]

theorem settle_all : ∀ (l : List Wr) (i : Nat) (b : Bs), settleF (fun _ => true) i l b = l.foldl layO b
  | [], _, _ => rfl
  | x :: r, i, b => by rw [settleF, if_pos rfl, settle_all r]; rfl
/-- Leaves, written: all that the area's next calls need. -/
structure Laid (md : Bool) (s : WS) (a : Int) (lv : List Lf) (top : Pr) : Prop where
  f : s.pw.Free
  l : (lv.length : Int) = s.n
  w : ∀ x ∈ lv, x.Wf
  ok : lvOk lv 0 = true
  r : ∀ i (hi : i < lv.length), s.row a i = leafB lv[i]
  t : ∃ N, Tree md s.S (lv.map leafB) N ∧ nd N 1 = top ∧ ∀ j, 1 ≤ j → j < 2 * lv.length → s.ndF a j = nd N j
theorem Laid.same {md : Bool} {s s' : WS} {a : Int} {lv : List Lf} {top : Pr} (h : Laid md s a lv top) (h1 : s'.sd = s.sd) (h2 : s'.n = s.n) (h3 : s'.pw = s.pw) (h4 : Pre s.S s'.S) : Laid md s' a lv top := by
  obtain ⟨f, l, w, ok, r, N, t1, t2, t3⟩ := h
  exact ⟨h3 ▸ f, h2 ▸ l, w, ok, fun i hi => (row_congr h1 h2 a i).trans (r i hi), N, t1.pre h4, t2, fun j j1 j2 => (nd_congr h1 h2 a j).trans (t3 j j1 j2)⟩
theorem Laid.topOf {md : Bool} {s : WS} {a : Int} {lv : List Lf} {top : Pr} (h : Laid md s a lv top) : TopOf md s.S lv top := by
  obtain ⟨N, t1, t2, _⟩ := h.t
  exact ⟨N, t1, t2⟩
theorem Laid.read {md : Bool} {s : WS} {k : Nat} {a : Int} {lv : List Lf} {top : Pr} (h : Laid md s a lv top) (hs : s.Fit k) : s.readE md a top = 0 ∧ s.readL md a top = lv ∧ Laid md (s.readS md a) a lv top := by
  obtain ⟨h1, h2⟩ := read_well hs h.f.g h.l h.w h.ok h.r h.topOf
  obtain ⟨q1, q2, q3⟩ := readS_sd md s a
  have hg := isG_cases hs.g
  exact ⟨h1, h2, h.same q1 q2 q3 (readS_pre md a (by omega))⟩
theorem Laid.one {md : Bool} {s : WS} {k : Nat} {a : Int} {lv : List Lf} {top : Pr} (h : Laid md s a lv top) (hs : s.Fit k) (i : Nat) (hi : i < lv.length) : s.oneE md a i top = 0 ∧ s.oneL md a i top = lv[i] ∧ s.oneS md a i = s := by
  obtain ⟨N, t1, t2, t3⟩ := h.t
  exact one_well hs h.f.g h.l h.w h.ok t1 t2 t3 i hi (h.r i hi)
theorem Laid.other {md : Bool} {s : WS} {k : Nat} {a b : Int} {lv lw : List Lf} {top : Pr} (h : Laid md s b lw top) (hs : s.Fit k) (ha : 0 ≤ a ∧ a < 2) (hb : 0 ≤ b ∧ b < 2) (hne : b ≠ a) (hl : (lv.length : Int) = s.n) : TopOf md (s.areaW md a lv).S lw top ∧ (∀ i (hi : i < lw.length), (s.areaW md a lv).row b i = leafB lw[i]) := by
  have hg := isG_cases hs.g
  have hll := h.l
  refine ⟨h.topOf.pre (by rw [areaW_S]; exact (buildF_tree md (lv.map leafB) s.S (by rw [List.length_map]; omega)).1), fun i hi => ?_⟩
  rw [areaW_row2 hs h.f.can h.f.spend.can ha hl b hb hne i (by omega)]
  exact h.r i hi
/-- A block of cells that stays. -/
structure BoxAt (h : AHeap) (id : Nat) (x : AObj) : Prop where
  u : h.used id
  g : h.get id = some x
theorem BoxAt.kp {W : Nat → Prop} {h h' : AHeap} {id : Nat} {x : AObj} (hb : BoxAt h id x) (hk : Kp W h h') (hw : ¬ W id) : BoxAt h' id x := ⟨hk.us id hb.u, (hk.get id hb.u hw).trans hb.g⟩
end Go.Proofs.YtafkhpjnihnfpaaGreat


namespace Go.Abs
open Go
section
variable {P : Program} {N : Nat} {e : Env} {h : AHeap} {Φ : AHeap → Prop} {ws fs : List Nat} {K : Env → AHeap → Prop} {l : List CI} {j : Nat}
end
section
variable {P : Program} {f : Nat} {vs : List AV} {h h' h1 h2 : AHeap}
theorem Ext.trans (x1 : Ext h h1) (x2 : Ext h1 h2) : Ext h h2 := by
  have nm : ∀ id, Nm h h1 id → Nm h h2 id := fun id hn => hn.elim (fun hu => .inl (x2.used hu)) .inr
  have nm2 : ∀ id, Nm h1 h2 id → Nm h h2 id := fun id hn => by
    rcases hn with hu | ⟨x, hx⟩
    · exact .inl hu
    · rcases x1.obj id x hx with h5 | ⟨h5, _⟩
      · exact .inr ⟨x, h5⟩
      · exact nm id h5
  refine ⟨Nat.le_trans x1.next x2.next, fun id hg => x1.gap id (x2.gap id hg), fun id x hx => ?_⟩
  rcases x2.obj id x hx with h5 | ⟨h5, h6⟩
  · rcases x1.obj id x h5 with h7 | ⟨h7, h8⟩
    · exact .inl h7
    · exact .inr ⟨nm id h7, h8.mono nm⟩
  · exact .inr ⟨nm2 id h5, h6.mono nm2⟩
end
end Go.Abs


namespace Go.Proofs.YtafkhpjnihnfpaaGreat
open Go Go.Abs

def openP (md : Bool) (L : List Iss) (k : Pr) (n : Nn) (head b : Bs) (tg : Pr) : Option Bs := match md with
  | true => openO L k n head b tg
  | false => gcmO k n head b tg
theorem xorB_back : ∀ (a f : Bs), f.length = a.length → xorB (xorB a f) f = a
  | [], [], _ => rfl
  | x :: a, y :: f, h => by
    have ih := xorB_back a f (by simpa using h)
    simp only [xorB, List.zipWith_cons_cons] at ih ⊢
    rw [ih, UInt8.xor_assoc, UInt8.xor_self, UInt8.xor_zero]
  | [], _ :: _, h => by simp at h
  | _ :: _, [], h => by simp at h
theorem gcmO_back2 (k : Pr) (n : Nn) (head d : Bs) (h1 : head.length ≤ 4000) (h2 : d.length ≤ 4000) : gcmO k n head (gcmB k n d) (gcmT k n head (gcmB k n d)) = some d := by
  rw [gcmO_T h1 (by rw [gcmB_len]; exact h2) rfl]
  congr 1
  rw [gcmB, gcmB_len, gcmB, xorB_back _ _ (flowF_len _ _)]
/-- Where the record of a count stands. -/
def recAt (n c : Int) : Int := n * 160 + (c % 2) * 60
/-- The record that stands there, of a count, opened. -/
def WS.recOf (s : WS) (c : Int) : Bs := sub s.sd.snap (recAt s.n c).toNat 60
def openedR (md : Bool) (s : WS) (r : Rec) : Option Bs :=
  if r.e ∈ s.ks.epochs ∧ r.v / 4294967296 = s.ct.at' then openP md s.L (ofK s.ks.seed r.e) (r.e, 65535, r.v) [] r.b r.tg else none
def rootO (b : Bs) : Option Rt := if rootG b then some (rootD b) else none
/-- What Get tells of a count. -/
def WS.getR (md : Bool) (s : WS) (c : Int) : Option Rt :=
  ((openedR md s (recD (s.recOf c))).bind rootO).bind fun r => if r.c = c ∧ r.n = s.n then some r else none
def WS.getE (md : Bool) (s : WS) (c : Int) : Int := if s.pw.gone then 7 else if (s.getR md c).isSome then 0 else 3
def WS.getT (md : Bool) (s : WS) (c : Int) : Rt := if s.pw.gone then rt0 else (s.getR md c).getD rt0
end Go.Proofs.YtafkhpjnihnfpaaGreat


namespace Go.Proofs.YtafkhpjnihnfpaaGreat
open Go Go.Abs

theorem WG.reL {md : Bool} {h h' : AHeap} {n : WN} {s : WS} (hg : WG md h n s) (L' : List Iss) (hk : Kp (fun id => md = true ∧ (id = n.o ∨ id = n.t)) h h') (h1 : md = true → h'.get n.o = some (.mem 2 [[.app n.t 0 10 (L'.map encI), .map n.q]]) ∧ h'.get n.t = some (.tail 0 L'.length)) (h2 : md = false → L' = s.L) : WG md h' n { s with L := L' } := by
  have hw := hg.w
  have g : ∀ id, n.nm md id → (md = true → id ≠ n.o ∧ id ≠ n.t) → h'.get id = h.get id := fun id hi hne => hk.get id (hg.us id hi) fun ⟨e, h⟩ => h.elim (hne e).1 (hne e).2
  have hoB := hw.oB
  have ga : ∀ i, 0 < i ∧ i < 11 ∧ i ≠ 8 → h'.get (n.a + i) = h.get (n.a + i) := fun i hi => g _ (.inl (.inr (.inr (.inl (by omega))))) fun e => by have := hw.oo e; omega
  have gB : h'.get n.B = h.get n.B := g _ (.inl (.inr (.inr (.inl (by omega))))) fun e => by have := hw.oo e; omega
  have gE : h'.get n.E = h.get n.E := g _ (.inl (.inr (.inr (.inl (by omega))))) fun e => by have := hw.oo e; omega
  have gp : h'.get n.p = h.get n.p := g _ (.inl (.inl rfl)) fun e => by obtain ⟨a, b, _⟩ := hw.nep.2 e; exact ⟨Ne.symm a, Ne.symm b⟩
  have key : ∀ {i j : Nat} {y z : AObj}, h.get i = some y → h.get j = some z → y ≠ z → i ≠ j := fun hi hj hne e => by
    subst e; rw [hi] at hj; exact hne (Option.some.inj hj)
  have gl : h'.get n.l = h.get n.l := g _ (.inl (.inr (.inl rfl))) fun e => by
    obtain ⟨q0, q1, q2, q3⟩ := hw.lk.id e
    exact ⟨key q0 q1 (by simp [idC]), key q0 q2 (by simp)⟩
  have gq : md = true → h'.get n.q = h.get n.q := fun e => g _ (.inr rfl) fun _ => by
    obtain ⟨q0, q1, q2, q3⟩ := hw.lk.id e
    exact ⟨key q3 q1 (by simp), key q3 q2 (by simp)⟩
  have gqf : md = false → h'.get n.q = none := fun e => (g _ (.inr rfl) fun e' => by rw [e] at e'; cases e').trans (hg.qn e)
  refine ⟨⟨hw.sd.same gp (ga 1 (by omega)) gB (ga 2 (by omega)) (ga 3 (by omega)), hw.dk.same gp (ga 4 (by omega)) (ga 5 (by omega)) (ga 6 (by omega)), (ga 7 (by omega)).trans hw.ct, hw.ks.same (ga 9 (by omega)) gE, (ga 10 (by omega)).trans hw.w, ⟨fun e => ?_, fun e => gl.trans (hw.lk.re e)⟩, hw.op, hw.ol, hw.oo, Nat.le_trans hw.nx hk.next, hw.oB, ⟨Nat.lt_of_lt_of_le hw.nB.1 hk.next, Nat.lt_of_lt_of_le hw.nB.2 hk.next⟩⟩, fun id hi => hk.us id (hg.us id hi), gqf⟩
  obtain ⟨q0, q1, q2, q3⟩ := hw.lk.id e
  obtain ⟨e1, e2⟩ := h1 e
  exact ⟨gl.trans q0, ⟨e1, e2, (gq e).trans q3⟩⟩
def WS.logN (s : WS) (boot : Int) (j : Nat) : Nn := (s.ks.cur, 65535, boot * 4294967296 + ((j + 1 : Nat) : Int))
def WS.logP (md : Bool) (s : WS) (boot : Int) (j : Nat) (r : Rt) : Bs × Pr := sealP md s.L s.key (s.logN boot j) [] (rootB r)
def WS.logR (md : Bool) (s : WS) (boot : Int) (j : Nat) (r : Rt) : Wr := (recAt s.n r.c, recB s.ks.cur (boot * 4294967296 + ((j + 1 : Nat) : Int)) (s.logP md boot j r).1 (s.logP md boot j r).2)
def WS.logW (md : Bool) (s : WS) (boot : Int) (j : Nat) (r : Rt) : WS := { s with L := sealL md s.L s.key (s.logN boot j) [] (rootB r), pw := s.pw.spend, sd := s.sd.write (s.logR md boot j r) s.pw.can }
theorem sealP_len (md : Bool) (L : List Iss) (k : Pr) (n : Nn) (head data : Bs) : (sealP md L k n head data).1.length = data.length := by
  cases md with
  | true => simp only [sealP, newI, sealB, rep_len]
  | false => simp only [sealP, gcmB_len]
end Go.Proofs.YtafkhpjnihnfpaaGreat


namespace Go.Proofs.YtafkhpjnihnfpaaGreat
open Go Go.Abs

theorem recD_B (e v : Int) (b : Bs) (tg : Pr) (he : 0 ≤ e ∧ e < 4294967296) (hv : 0 ≤ v ∧ v < 18446744073709551616) (hb : b.length = 32) (ht : Wfp tg) : recD (recB e v b tg) = ⟨e, v, b, tg⟩ := by
  have e1 : (recB e v b tg).take 4 = putB e 4 := List.take_left' (putB_lenN _ 4 (by decide))
  have s4 : (recB e v b tg).drop 4 = putB v 8 ++ (b ++ pairB tg) := List.drop_left' (putB_lenN _ 4 (by decide))
  have s12 : (recB e v b tg).drop 12 = b ++ pairB tg := by
    rw [show 12 = 4 + 8 from rfl, ← List.drop_drop, s4]; exact List.drop_left' (putB_lenN _ 8 (by decide))
  have s44 : (recB e v b tg).drop 44 = pairB tg := by
    rw [show 44 = 12 + 32 from rfl, ← List.drop_drop, s12]; exact List.drop_left' hb
  have p16 : (pairB tg).take 16 = pairB tg := List.take_of_length_le (by simp [pairB])
  rw [recD, e1, s4, s12, s44, List.take_left' (putB_lenN _ 8 (by decide)), List.take_left' hb, p16, get_put4 _ he, get_put8 _ hv, pairF_B _ ht.1 ht.2]
theorem gcmT_wf (key : Pr) (n : Nn) (head b : Bs) : Wfp (gcmT key n head b) := ⟨x64_rng _ _, x64_rng _ _⟩
/-- Each that was sealed has its number for a tag. -/
def Seq (L : List Iss) : Prop := ∀ i (hi : i < L.length), L[i].tag = (ones, ((i + 1 : Nat) : Int))
theorem Seq.nil : Seq [] := fun i hi => by simp at hi
theorem Seq.put {L : List Iss} (h : Seq L) (k : Pr) (n : Nn) (hd d : Bs) : Seq (L ++ [newI (L.length + 1) k n hd d]) := fun i hi => by
  rw [List.getElem_append]
  split
  · exact h i _
  · have : i = L.length := by simp at hi; omega
    subst this
    simp [newI]
theorem Seq.sealL {md : Bool} {L : List Iss} (h : Seq L) (k : Pr) (n : Nn) (hd d : Bs) : Seq (sealL md L k n hd d) := by
  cases md with
  | true => exact h.put k n hd d
  | false => exact h
theorem Seq.found {L : List Iss} (h : Seq L) (i : Nat) (hi : i < L.length) : openO L L[i].key L[i].n L[i].head L[i].out L[i].tag = some L[i].data := by
  have hp : isI L[i].key L[i].n L[i].head L[i].out L[i].tag L[i] = true := by simp [isI]
  cases hf : L.find? (isI L[i].key L[i].n L[i].head L[i].out L[i].tag) with
  | none => exact absurd hp (by have := List.find?_eq_none.1 hf L[i] (List.getElem_mem hi); simpa using this)
  | some y =>
    have hy := List.find?_some hf
    obtain ⟨j, hj, rfl⟩ := List.mem_iff_getElem.1 (List.mem_of_find?_eq_some hf)
    have ht : L[j].tag = L[i].tag := by simp only [isI, Bool.and_eq_true, beq_iff_eq] at hy; exact hy.1.1.2
    rw [h j hj, h i hi] at ht
    have : j = i := by have := congrArg Prod.snd ht; simp at this; exact_mod_cast this
    subst this
    rw [openO, hf]; rfl
theorem openO_app {L M : List Iss} {k : Pr} {n : Nn} {hd b : Bs} {tg : Pr} {d : Bs} (h : openO L k n hd b tg = some d) : openO (L ++ M) k n hd b tg = some d := by
  rw [openO, Option.map_eq_some_iff] at h
  obtain ⟨x, hx, rfl⟩ := h
  rw [openO, List.find?_append, hx]; rfl
theorem openP_seal {md : Bool} {L : List Iss} {k : Pr} {n : Nn} {hd b : Bs} {tg : Pr} {d : Bs} (h : openP md L k n hd b tg = some d) (k2 : Pr) (n2 : Nn) (hd2 d2 : Bs) : openP md (sealL md L k2 n2 hd2 d2) k n hd b tg = some d := by
  cases md with
  | true => exact openO_app h
  | false => exact h
theorem openP_back {md : Bool} {L : List Iss} (hL : md = true → Seq L) (k : Pr) (n : Nn) (hd d : Bs) (h1 : hd.length ≤ 4000) (h2 : d.length ≤ 4000) : openP md (sealL md L k n hd d) k n hd (sealP md L k n hd d).1 (sealP md L k n hd d).2 = some d := by
  cases md with
  | true =>
    have := ((hL rfl).put k n hd d).found L.length (by simp)
    have hx : (L ++ [newI (L.length + 1) k n hd d])[L.length]'(by simp) = newI (L.length + 1) k n hd d := by simp
    rw [hx] at this
    exact this
  | false => exact gcmO_back2 k n hd d h1 h2
theorem sealP_wf {md : Bool} {L : List Iss} (hL : L.length ≤ 1000000) (k : Pr) (n : Nn) (hd d : Bs) : Wfp (sealP md L k n hd d).2 := by
  cases md with
  | true => simp only [sealP, newI, Wfp, ones]; omega
  | false => exact gcmT_wf _ _ _ _
theorem sealL_len (md : Bool) (L : List Iss) (k : Pr) (n : Nn) (hd d : Bs) : (sealL md L k n hd d).length ≤ L.length + 1 := by
  cases md with
  | true => simp [sealL]
  | false => simp [sealL]
theorem sealL_mem {md : Bool} {L : List Iss} {k : Pr} {n : Nn} {hd d : Bs} {P : Iss → Prop} (h : ∀ x ∈ L, P x) (h1 : P (newI (L.length + 1) k n hd d)) : ∀ x ∈ sealL md L k n hd d, P x := by
  cases md with
  | true =>
    intro x hx
    rcases List.mem_append.1 hx with hx | hx
    · exact h x hx
    · obtain rfl := List.mem_singleton.1 hx; exact h1
  | false => exact h
section
variable {md : Bool} {s : WS} {k : Nat} {boot : Int} {j : Nat} {r : Rt}
theorem logR_len : (s.logR md boot j r).2.length = 60 := recB_len _ _ _ _ ((sealP_len _ _ _ _ _ _).trans (rootB_len r))
theorem recAt_fit (hs : s.Fit k) (c : Int) : 0 ≤ recAt s.n c ∧ recAt s.n c + 60 ≤ s.n * 160 + 120 := by
  have hg := isG_cases hs.g
  unfold recAt; omega
theorem fit_logW (hs : s.Fit k) : (s.logW md boot j r).Fit (k + 1) := by
  have hp := recAt_fit hs r.c
  have hl := logR_len (md := md) (s := s) (boot := boot) (j := j) (r := r)
  have hll := hs.ll
  have h2 := sealL_len md s.L s.key (s.logN boot j) [] (rootB r)
  refine ⟨hs.g, hs.pw.spend, hs.sd.write (o := s.logR md boot j r) ⟨hp.1, ?_⟩ s.pw.can, Nat.le_succ_of_le hs.ss, by show (sealL md s.L s.key (s.logN boot j) [] (rootB r)).length ≤ _; omega⟩
  rw [hl, sizeG_pos hs.g]
  have hg := isG_cases hs.g
  show recAt s.n r.c + _ ≤ _
  omega
theorem logW_snap (hc : s.pw.can = true) : (s.logW md boot j r).sd.snap = layO s.sd.snap (s.logR md boot j r) := by
  simp [WS.logW, SdS.write, hc, SdS.snap, List.foldl_append]
theorem logW_rec (hs : s.Fit k) (hc : s.pw.can = true) (c : Int) : (s.logW md boot j r).recOf c = if c % 2 = r.c % 2 then (s.logR md boot j r).2 else s.recOf c := by
  have hp := recAt_fit hs c
  have hp2 := recAt_fit hs r.c
  have hl := logR_len (md := md) (s := s) (boot := boot) (j := j) (r := r)
  have hsl := snap_lenS hs
  have hg := isG_cases hs.g
  have e : (s.logW md boot j r).recOf c = sub (layO s.sd.snap (s.logR md boot j r)) (recAt s.n c).toNat 60 := by rw [WS.recOf, logW_snap hc]; rfl
  have h1 : (s.logR md boot j r).1 = recAt s.n r.c := rfl
  have hfit : (s.logR md boot j r).1.toNat + (s.logR md boot j r).2.length ≤ s.sd.snap.length := by rw [h1, hl]; omega
  rw [e]
  split
  · rename_i hh
    have : recAt s.n c = recAt s.n r.c := by unfold recAt; rw [hh]
    rw [this, sub_in hfit (by rw [h1]; omega) (by rw [h1, hl]; omega), h1, Nat.sub_self, sub, List.drop_zero, List.take_of_length_le (by omega)]
  · rename_i hh
    rw [sub_out hfit (by rw [h1, hl]; unfold recAt at *; omega)]; rfl
/-- The record of a count stands there. -/
structure Filed (md : Bool) (s : WS) (c : Int) (r : Rt) (e v : Int) (b : Bs) (tg : Pr) : Prop where
  rc : s.recOf c = recB e v b tg
  he : 0 ≤ e ∧ e < 4294967296
  hv : 0 ≤ v ∧ v < 18446744073709551616
  hb : b.length = 32
  ht : Wfp tg
  op : openP md s.L (ofK s.ks.seed e) (e, 65535, v) [] b tg = some (rootB r)
  wf : r.Wf
  g : isG r.n = true
  cc : r.c = c
theorem Filed.opened {c e v : Int} {b : Bs} {tg : Pr} (h : Filed md s c r e v b tg) (he : e ∈ s.ks.epochs) (ha : v / 4294967296 = s.ct.at') : (openedR md s (recD (s.recOf c))).bind rootO = some r := by
  rw [h.rc, recD_B e v b tg h.he h.hv h.hb h.ht, openedR, if_pos ⟨he, ha⟩, h.op, Option.bind_some, rootO, (rootG_B r h.wf h.g).1, if_pos rfl, (rootG_B r h.wf h.g).2]
theorem Filed.get {c e v : Int} {b : Bs} {tg : Pr} (h : Filed md s c r e v b tg) (he : e ∈ s.ks.epochs) (ha : v / 4294967296 = s.ct.at') (hn : r.n = s.n) : s.getR md c = some r := by
  rw [WS.getR, h.opened he ha, Option.bind_some, if_pos ⟨h.cc, hn⟩]
theorem filed_logW (hs : s.Fit k) (hk : k ≤ 9000) (hc : s.pw.can = true) (hcur : s.ks.cur ∈ s.ks.epochs ∧ 0 ≤ s.ks.cur ∧ s.ks.cur < 4294967296) (hb : 0 ≤ boot ∧ boot < 4294967296) (hj : j < 100) (hr : r.Wf) (hg : isG r.n = true) (hL : md = true → Seq s.L) :
    Filed md (s.logW md boot j r) r.c r s.ks.cur (boot * 4294967296 + ((j + 1 : Nat) : Int)) (s.logP md boot j r).1 (s.logP md boot j r).2 := by
  have hkey : s.key = ofK s.ks.seed s.ks.cur := by rw [WS.key, if_pos hcur.1]
  have hrb := rootB_len r
  refine ⟨by rw [logW_rec hs hc, if_pos rfl]; rfl, hcur.2, by omega, (sealP_len _ _ _ _ _ _).trans hrb, sealP_wf (Nat.le_trans hs.ll (by omega)) _ _ _ _, ?_, hr, hg, rfl⟩
  have t := openP_back (md := md) hL s.key (s.logN boot j) [] (rootB r) (by simp) (by omega)
  change openP md (sealL md s.L s.key (s.logN boot j) [] (rootB r)) (ofK s.ks.seed s.ks.cur) (s.logN boot j) [] (s.logP md boot j r).1 (s.logP md boot j r).2 = some (rootB r)
  rw [← hkey]
  exact t
theorem Filed.other {c e v : Int} {b : Bs} {tg : Pr} {q : Rt} (h : Filed md s c q e v b tg) (hs : s.Fit k) (hc : s.pw.can = true) (hne : c % 2 ≠ r.c % 2) : Filed md (s.logW md boot j r) c q e v b tg :=
  ⟨by rw [logW_rec hs hc, if_neg hne]; exact h.rc, h.he, h.hv, h.hb, h.ht, openP_seal h.op _ _ _ _, h.wf, h.g, h.cc⟩
end
end Go.Proofs.YtafkhpjnihnfpaaGreat


namespace Go.Proofs.YtafkhpjnihnfpaaGreat
open Go Go.Abs

theorem fit_cur (n : Nat) (seed : Int) : (ws0 n seed).ks.cur = 1 := by simp [ws0, KsS.cur]
/-- A world that records are written in. -/
structure LSt (md : Bool) (s : WS) (k : Nat) : Prop where
  fit : s.Fit k
  free : s.pw.Free
  cur : s.ks.cur ∈ s.ks.epochs ∧ 0 ≤ s.ks.cur ∧ s.ks.cur < 4294967296
  seq : md = true → Seq s.L
  dat : ∀ x ∈ s.L, x.data.length ≤ 4000
  at' : 0 ≤ s.ct.at'
theorem lst0 (md : Bool) {m : Nat} (hG : isG m = true) (seed : Int) : LSt md (ws0 m seed) 0 :=
  ⟨fit_ws0 hG seed, free_ws0 m seed, by rw [fit_cur]; simp [ws0], fun _ => Seq.nil, by simp [ws0], by simp [ws0]⟩
theorem LSt.log {md : Bool} {s : WS} {k : Nat} (h : LSt md s k) (boot : Int) (j : Nat) (r : Rt) : LSt md (s.logW md boot j r) (k + 1) :=
  ⟨fit_logW h.fit, h.free.spend, h.cur, fun e => (h.seq e).sealL _ _ _ _, sealL_mem h.dat (by simp only [newI, rootB_len]; omega), h.at'⟩
end Go.Proofs.YtafkhpjnihnfpaaGreat


namespace Go.Proofs.YtafkhpjnihnfpaaGreat
open Go Go.Abs

def WS.barS (s : WS) : WS := { s with pw := s.pw.spend, sd := s.sd.barrier s.pw.can }
def WS.bmpS (s : WS) : WS := { s with pw := s.pw.spend, ct := s.ct.bump s.pw.can }
def WS.doA (s : WS) : Int := (s.ct.value + 1) % 2
def WS.doR (md : Bool) (s : WS) (lv : List Lf) : Rt := ⟨s.ct.value + 1, s.ks.cur, s.n, (s.nodes md lv).getD 1 (0, 0)⟩
/-- What a commit answers, and what it makes of a world and its maker. -/
def WS.doC (md : Bool) (s : WS) (boot : Int) (j : Nat) (lv : List Lf) : Int × WS × Nat :=
  let s1 := s.areaW md s.doA lv
  if (s.pw.can && s.pw.spend.can) = false then (7, s1, j)
  else if s1.pw.can = false then (7, s1.barS, j)
  else if j = 100 then (6, s1.barS, j)
  else
    let s3 := s1.barS.logW md boot j (s.doR md lv)
    if s1.barS.pw.can = false then (7, s3, j + 1)
    else if s3.pw.can = false then (7, s3.barS, j + 1)
    else if s3.barS.pw.can = false then (7, s3.barS.bmpS, j + 1)
    else (0, s3.barS.bmpS, j + 1)
theorem SdS.Ok.barrier {x : SdS} {n k : Nat} (h : x.Ok n k) (ok : Bool) : (x.barrier ok).Ok n (k + 1) := by
  obtain ⟨h1, h2, h3, h4⟩ := h
  cases ok with
  | false => exact ⟨h1, h2, Nat.le_succ_of_le h3, Nat.le_succ_of_le h4⟩
  | true =>
    refine ⟨?_, fun y hy => by simp [SdS.barrier, SdS.settle] at hy, Nat.zero_le _, by simp [SdS.barrier, SdS.settle]; omega⟩
    exact settle_len _ n x.waits 0 x.lasts (fun y hy => h2 y hy) h1
theorem fit_barS {s : WS} {k : Nat} (hs : s.Fit k) : s.barS.Fit (k + 1) := ⟨hs.g, hs.pw.spend, hs.sd.barrier _, Nat.le_succ_of_le hs.ss, Nat.le_succ_of_le hs.ll⟩
theorem fit_bmpS {s : WS} {k : Nat} (hs : s.Fit k) : s.bmpS.Fit (k + 1) := ⟨hs.g, hs.pw.spend, hs.sd.mono (by omega), Nat.le_succ_of_le hs.ss, Nat.le_succ_of_le hs.ll⟩
theorem areaW1_fit {md : Bool} {s : WS} {k : Nat} (hs : s.Fit k) (a : Int) (ha : 0 ≤ a ∧ a < 2) (lv : List Lf) (hl : (lv.length : Int) = s.n) : (s.areaW md a lv).Fit (k + 40) := by
  have hg := isG_cases hs.g
  have ha' : a = 0 ∨ a = 1 := by omega
  have hbl := (buildF_len md (lv.map leafB) s.S).2
  rw [List.length_map] at hbl
  have hss := hs.ss
  have hll := hs.ll
  have hlb := lvB_len lv
  have hnb := nodesB_len (s.nodes md lv)
  rw [nodes_len] at hnb
  have o1 : 0 ≤ lfAt s.n a 0 ∧ lfAt s.n a 0 + ((lvB lv).length : Nat) ≤ (((sizeG s.n).toNat : Nat) : Int) := by
    rw [sizeG_pos hs.g]; unfold lfAt; rcases ha' with rfl | rfl <;> omega
  have o2 : 0 ≤ ndAt s.n a 0 ∧ ndAt s.n a 0 + ((nodesB (s.nodes md lv)).length : Nat) ≤ (((sizeG s.n).toNat : Nat) : Int) := by
    rw [sizeG_pos hs.g]; unfold ndAt; rcases ha' with rfl | rfl <;> omega
  have hsd := hs.sd.write (o := (lfAt s.n a 0, lvB lv)) o1 s.pw.can
  have hS : (buildF md (lv.map leafB) s.S).2.length ≤ k + 40 := by omega
  rw [WS.areaW]
  split
  · exact ⟨hs.g, hs.pw.spend.spend.mono (by omega), (hsd.write (o := (ndAt s.n a 0, nodesB (s.nodes md lv))) o2 s.pw.spend.can).mono (by omega), hS, by show s.L.length ≤ _; omega⟩
  · exact ⟨hs.g, hs.pw.spend.mono (by omega), hsd.mono (by omega), hS, by show s.L.length ≤ _; omega⟩
end Go.Proofs.YtafkhpjnihnfpaaGreat


namespace Go.Proofs.YtafkhpjnihnfpaaGreat
open Go Go.Abs

/-- A place that lasts, and that nothing that waits touches. -/
structure Kept (x : SdS) (o k : Nat) (X : Bs) : Prop where
  at' : sub x.lasts o k = X
  no : ∀ w ∈ x.waits, w.1.toNat + w.2.length ≤ o ∨ o + k ≤ w.1.toNat
theorem lay_out {N o k : Nat} : ∀ (l : List Wr) (b : Bs), b.length = N → (∀ w ∈ l, (0 ≤ w.1 ∧ w.1 + w.2.length ≤ N) ∧ (w.1.toNat + w.2.length ≤ o ∨ o + k ≤ w.1.toNat)) → sub (l.foldl layO b) o k = sub b o k
  | [], _, _, _ => rfl
  | w :: l, b, hb, h => by
    have hw := h w (by simp)
    rw [List.foldl_cons, lay_out l (layO b w) ((layO_len b w (by omega)).trans hb) fun y hy => h y (by simp [hy]), sub_out (by omega) (by omega)]
theorem settle_out {N o k : Nat} (K : Nat → Bool) : ∀ (l : List Wr) (i : Nat) (b : Bs), b.length = N → (∀ w ∈ l, (0 ≤ w.1 ∧ w.1 + w.2.length ≤ N) ∧ (w.1.toNat + w.2.length ≤ o ∨ o + k ≤ w.1.toNat)) → sub (settleF K i l b) o k = sub b o k
  | [], _, _, _, _ => rfl
  | w :: l, i, b, hb, h => by
    have hw := h w (by simp)
    rw [settleF]
    split
    · rw [settle_out K l (i + 1) (layO b w) ((layO_len b w (by omega)).trans hb) fun y hy => h y (by simp [hy]), sub_out (by omega) (by omega)]
    · exact settle_out K l (i + 1) b hb fun y hy => h y (by simp [hy])
section
variable {x : SdS} {o k N m : Nat} {X : Bs}
theorem Kept.snap (h : Kept x o k X) (hx : x.Ok N m) : sub x.snap o k = X := by
  rw [SdS.snap, lay_out x.waits x.lasts hx.len fun w hw => ⟨hx.w w hw, h.no w hw⟩, h.at']
theorem Kept.settle (h : Kept x o k X) (hx : x.Ok N m) (K : Nat → Bool) : Kept (x.settle K) o k X :=
  ⟨(settle_out K x.waits 0 x.lasts hx.len fun w hw => ⟨hx.w w hw, h.no w hw⟩).trans h.at', fun w hw => by simp [SdS.settle] at hw⟩
theorem Kept.write (h : Kept x o k X) (w : Wr) (hw : w.1.toNat + w.2.length ≤ o ∨ o + k ≤ w.1.toNat) (ok : Bool) : Kept (x.write w ok) o k X := by
  cases ok with
  | false => exact h
  | true =>
    refine ⟨h.at', fun y hy => ?_⟩
    simp only [SdS.write, if_true, List.mem_append, List.mem_singleton] at hy
    rcases hy with hy | rfl
    · exact h.no y hy
    · exact hw
theorem Kept.barrier (h : Kept x o k X) (hx : x.Ok N m) (ok : Bool) : Kept (x.barrier ok) o k X := by
  cases ok with
  | false => exact h
  | true => exact ⟨(h.settle hx fun _ => true).at', fun w hw => by simp [SdS.barrier, SdS.settle] at hw⟩
theorem kept_new (x : SdS) (o k : Nat) : Kept (x.barrier true) o k (sub x.snap o k) := by
  refine ⟨?_, fun w hw => by simp [SdS.barrier, SdS.settle] at hw⟩
  show sub (settleF (fun _ => true) 0 x.waits x.lasts) o k = _
  rw [settle_all]; rfl
end
/-- Leaves as they stand, in one row. -/
theorem row_of {s : WS} {k : Nat} {a : Int} (hs : s.Fit k) (ha : 0 ≤ a ∧ a < 2) {lv : List Lf} (hl : (lv.length : Int) = s.n) (h : sub s.sd.snap (lfAt s.n a 0).toNat (32 * s.n.toNat) = lvB lv) (i : Nat) (hi : i < lv.length) : s.row a i = leafB lv[i] := by
  have hg := isG_cases hs.g
  have ha' : a = 0 ∨ a = 1 := by omega
  have := flat_sub 32 (lv.map leafB) i (by simpa using hi) fun b hb => by obtain ⟨x, _, rfl⟩ := List.mem_map.1 hb; exact leafB_len x
  rw [List.getElem_map] at this
  rw [← this]
  show sub s.sd.snap (lfAt s.n a i).toNat 32 = sub (lvB lv) (32 * i) 32
  rw [← h]
  apply List.ext_getElem?; intro j
  simp only [sub, List.getElem?_take, List.getElem?_drop]
  split
  · rw [if_pos (by omega)]
    congr 1
    unfold lfAt; rcases ha' with rfl | rfl <;> omega
  · rfl
theorem area_leaves {md : Bool} {s : WS} {k : Nat} {a : Int} {lv : List Lf} (hs : s.Fit k) (hc : s.pw.can = true) (hc2 : s.pw.spend.can = true) (ha : 0 ≤ a ∧ a < 2) (hl : (lv.length : Int) = s.n) : sub (s.areaW md a lv).sd.snap (lfAt s.n a 0).toNat (32 * s.n.toNat) = lvB lv := by
  have hg := isG_cases hs.g
  have hsl := snap_lenS hs
  have hlb := lvB_len lv
  have hnb := nodesB_len (s.nodes md lv)
  rw [nodes_len] at hnb
  have ha' : a = 0 ∨ a = 1 := by omega
  rw [areaW_snap md a lv hc hc2]
  have e1 : (lfAt s.n a 0).toNat + (lvB lv).length ≤ s.sd.snap.length := by unfold lfAt; rcases ha' with rfl | rfl <;> omega
  have e2 : (layO s.sd.snap (lfAt s.n a 0, lvB lv)).length = s.sd.snap.length := layO_len _ _ (by dsimp only; omega)
  rw [sub_out (by rw [e2]; dsimp only; unfold ndAt; rcases ha' with rfl | rfl <;> omega) (.inl (by dsimp only; unfold lfAt ndAt; rcases ha' with rfl | rfl <;> omega))]
  rw [sub_in (by dsimp only; exact e1) (Nat.le_refl _) (by dsimp only; omega), Nat.sub_self]
  dsimp only
  rw [sub, List.drop_zero, List.take_of_length_le (by omega)]
/-- The leaves of count c are there for good, and their root. -/
structure Good (md : Bool) (s : WS) (lv : List Lf) (c : Int) (top : Pr) (e v : Int) (b : Bs) (tg : Pr) : Prop where
  c1 : 1 ≤ c ∧ c < 18446744073709551616
  l : (lv.length : Int) = s.n
  w : ∀ x ∈ lv, x.Wf
  ok : lvOk lv 0 = true
  kl : Kept s.sd (lfAt s.n (c % 2) 0).toNat (32 * s.n.toNat) (lvB lv)
  kr : Kept s.sd (recAt s.n c).toNat 60 (recB e v b tg)
  he : 0 ≤ e ∧ e < 4294967296
  hv : 0 ≤ v ∧ v < 18446744073709551616
  hb : b.length = 32
  ht : Wfp tg
  op : openP md s.L (ofK s.ks.seed e) (e, 65535, v) [] b tg = some (rootB ⟨c, e, s.n, top⟩)
  tw : Wfp top
  top : TopOf md s.S lv top
  ep : e ∈ s.ks.epochs
  boot : v / 4294967296 = s.ct.at'
section
variable {md : Bool} {s : WS} {k : Nat} {lv : List Lf} {c : Int} {top : Pr} {e v : Int} {b : Bs} {tg : Pr}
theorem Good.filed (h : Good md s lv c top e v b tg) (hs : s.Fit k) : Filed md s c ⟨c, e, s.n, top⟩ e v b tg :=
  ⟨h.kr.snap hs.sd, h.he, h.hv, h.hb, h.ht, h.op, ⟨⟨by have := h.c1; dsimp only; omega, h.c1.2⟩, h.he, h.tw.1, h.tw.2⟩, hs.g, rfl⟩
theorem Good.get (h : Good md s lv c top e v b tg) (hs : s.Fit k) (hgo : s.pw.gone = false) : s.getE md c = 0 ∧ s.getT md c = ⟨c, e, s.n, top⟩ := by
  have := (h.filed hs).get h.ep h.boot rfl
  exact ⟨by rw [WS.getE, hgo, this]; rfl, by rw [WS.getT, hgo, this]; rfl⟩
theorem Good.read (h : Good md s lv c top e v b tg) (hs : s.Fit k) (hgo : s.pw.gone = false) : s.readE md (c % 2) top = 0 ∧ s.readL md (c % 2) top = lv :=
  read_well hs hgo h.l h.w h.ok (row_of hs (by omega) h.l (h.kl.snap hs.sd)) h.top
end
end Go.Proofs.YtafkhpjnihnfpaaGreat


namespace Go.Proofs.YtafkhpjnihnfpaaGreat
open Go Go.Abs

/-- A world that commits are made in. -/
structure WSt (md : Bool) (s : WS) (k : Nat) : Prop where
  fit : s.Fit k
  cur : s.ks.cur ∈ s.ks.epochs ∧ 0 ≤ s.ks.cur ∧ s.ks.cur < 4294967296
  seq : md = true → Seq s.L
  dat : ∀ x ∈ s.L, x.data.length ≤ 4000
  ct : s.ct.Ok k
theorem CtS.Ok.mono {c : CtS} {k k' : Nat} (h : c.Ok k) (hk : k ≤ k') : c.Ok k' := ⟨⟨h.v.1, by have := h.v.2; omega⟩, ⟨h.b.1, by have := h.b.2; omega⟩, ⟨h.a.1, by have := h.a.2; omega⟩⟩
section
variable {md : Bool} {s : WS} {k : Nat} {boot : Int} {j : Nat} {lv : List Lf} {r : Rt}
theorem WSt.mono {k' : Nat} (h : WSt md s k) (hk : k ≤ k') : WSt md s k' := ⟨h.fit.mono hk, h.cur, h.seq, h.dat, h.ct.mono hk⟩
theorem WSt.area (h : WSt md s k) (a : Int) (ha : 0 ≤ a ∧ a < 2) (hl : (lv.length : Int) = s.n) : WSt md (s.areaW md a lv) (k + 40) := by
  have hf := areaW1_fit (md := md) h.fit a ha lv hl
  have e : (s.areaW md a lv).ks = s.ks ∧ (s.areaW md a lv).L = s.L ∧ (s.areaW md a lv).ct = s.ct := by rw [WS.areaW]; split <;> exact ⟨rfl, rfl, rfl⟩
  exact ⟨hf, by rw [e.1]; exact h.cur, by rw [e.2.1]; exact h.seq, by rw [e.2.1]; exact h.dat, by rw [e.2.2]; exact h.ct.mono (by omega)⟩
theorem WSt.bar (h : WSt md s k) : WSt md s.barS (k + 1) := ⟨fit_barS h.fit, h.cur, h.seq, h.dat, h.ct.mono (by omega)⟩
theorem WSt.bmp (h : WSt md s k) : WSt md s.bmpS (k + 1) := ⟨fit_bmpS h.fit, h.cur, h.seq, h.dat, h.ct.bump _⟩
theorem WSt.log (h : WSt md s k) (boot : Int) (j : Nat) (r : Rt) : WSt md (s.logW md boot j r) (k + 1) :=
  ⟨fit_logW h.fit, h.cur, fun e => (h.seq e).sealL _ _ _ _, sealL_mem h.dat (by simp only [newI, rootB_len]; omega), h.ct.mono (by omega)⟩
theorem doA_rng (s : WS) : 0 ≤ s.doA ∧ s.doA < 2 := by unfold WS.doA; omega
/-- All ways that a commit may go. -/
theorem doC_ind {P : Int × WS × Nat → Prop}
    (h1 : (s.pw.can && s.pw.spend.can) = false → P (7, s.areaW md s.doA lv, j))
    (h2 : (s.pw.can && s.pw.spend.can) = true → (s.areaW md s.doA lv).pw.can = false → P (7, (s.areaW md s.doA lv).barS, j))
    (h3 : (s.pw.can && s.pw.spend.can) = true → (s.areaW md s.doA lv).pw.can = true → j = 100 → P (6, (s.areaW md s.doA lv).barS, j))
    (h4 : (s.pw.can && s.pw.spend.can) = true → (s.areaW md s.doA lv).pw.can = true → j ≠ 100 → (s.areaW md s.doA lv).barS.pw.can = false → P (7, (s.areaW md s.doA lv).barS.logW md boot j (s.doR md lv), j + 1))
    (h5 : (s.pw.can && s.pw.spend.can) = true → (s.areaW md s.doA lv).pw.can = true → j ≠ 100 → (s.areaW md s.doA lv).barS.pw.can = true → ((s.areaW md s.doA lv).barS.logW md boot j (s.doR md lv)).pw.can = false → P (7, ((s.areaW md s.doA lv).barS.logW md boot j (s.doR md lv)).barS, j + 1))
    (h6 : (s.pw.can && s.pw.spend.can) = true → (s.areaW md s.doA lv).pw.can = true → j ≠ 100 → (s.areaW md s.doA lv).barS.pw.can = true → ((s.areaW md s.doA lv).barS.logW md boot j (s.doR md lv)).pw.can = true → ((s.areaW md s.doA lv).barS.logW md boot j (s.doR md lv)).barS.pw.can = false → P (7, ((s.areaW md s.doA lv).barS.logW md boot j (s.doR md lv)).barS.bmpS, j + 1))
    (h7 : (s.pw.can && s.pw.spend.can) = true → (s.areaW md s.doA lv).pw.can = true → j ≠ 100 → (s.areaW md s.doA lv).barS.pw.can = true → ((s.areaW md s.doA lv).barS.logW md boot j (s.doR md lv)).pw.can = true → ((s.areaW md s.doA lv).barS.logW md boot j (s.doR md lv)).barS.pw.can = true → P (0, ((s.areaW md s.doA lv).barS.logW md boot j (s.doR md lv)).barS.bmpS, j + 1)) :
    P (s.doC md boot j lv) := by
  have t : ∀ {b : Bool}, ¬ b = false → b = true := fun h => by simpa using h
  rw [WS.doC]
  dsimp only
  split
  · rename_i a1; exact h1 a1
  · rename_i a1
    split
    · rename_i a2; exact h2 (t a1) a2
    · rename_i a2
      split
      · rename_i a3; exact h3 (t a1) (t a2) a3
      · rename_i a3
        split
        · rename_i a4; exact h4 (t a1) (t a2) a3 a4
        · rename_i a4
          split
          · rename_i a5; exact h5 (t a1) (t a2) a3 (t a4) a5
          · rename_i a5
            split
            · rename_i a6; exact h6 (t a1) (t a2) a3 (t a4) (t a5) a6
            · rename_i a6; exact h7 (t a1) (t a2) a3 (t a4) (t a5) (t a6)
theorem doC_wst (h : WSt md s k) (hl : (lv.length : Int) = s.n) : WSt md (s.doC md boot j lv).2.1 (k + 50) := by
  have a1 := h.area s.doA (doA_rng s) hl
  have a2 := a1.bar
  have a3 := a2.log boot j (s.doR md lv)
  have a4 := a3.bar
  have a5 := a4.bmp
  refine doC_ind (P := fun d => WSt md d.2.1 (k + 50)) (fun _ => a1.mono (by omega)) (fun _ _ => a2.mono (by omega)) (fun _ _ _ => a2.mono (by omega)) (fun _ _ _ _ => a3.mono (by omega)) (fun _ _ _ _ _ => a4.mono (by omega)) (fun _ _ _ _ _ _ => a5.mono (by omega)) (fun _ _ _ _ _ _ => a5.mono (by omega))
theorem areaW_ks (md : Bool) (s : WS) (a : Int) (lv : List Lf) : (s.areaW md a lv).ks = s.ks ∧ (s.areaW md a lv).L = s.L ∧ (s.areaW md a lv).ct = s.ct ∧ (s.areaW md a lv).n = s.n := by rw [WS.areaW]; split <;> exact ⟨rfl, rfl, rfl, rfl⟩
theorem doC_n : (s.doC md boot j lv).2.1.n = s.n ∧ (s.doC md boot j lv).2.1.ks = s.ks := by
  obtain ⟨e1, _, _, e4⟩ := areaW_ks md s s.doA lv
  exact doC_ind (P := fun d => d.2.1.n = s.n ∧ d.2.1.ks = s.ks) (fun _ => ⟨e4, e1⟩) (fun _ _ => ⟨e4, e1⟩) (fun _ _ _ => ⟨e4, e1⟩) (fun _ _ _ _ => ⟨e4, e1⟩) (fun _ _ _ _ _ => ⟨e4, e1⟩) (fun _ _ _ _ _ _ => ⟨e4, e1⟩) (fun _ _ _ _ _ _ => ⟨e4, e1⟩)
theorem doC_j (hj : j ≤ 100) : (s.doC md boot j lv).2.2 ≤ 100 ∧ j ≤ (s.doC md boot j lv).2.2 := by
  exact doC_ind (P := fun d => d.2.2 ≤ 100 ∧ j ≤ d.2.2) (fun _ => ⟨hj, Nat.le_refl _⟩) (fun _ _ => ⟨hj, Nat.le_refl _⟩) (fun _ _ _ => ⟨hj, Nat.le_refl _⟩) (fun _ _ _ _ => by dsimp only; omega) (fun _ _ _ _ _ => by dsimp only; omega) (fun _ _ _ _ _ _ => by dsimp only; omega) (fun _ _ _ _ _ _ => by dsimp only; omega)
/-- A count that is not bumped stays. -/
theorem doC_ct : (s.doC md boot j lv).2.1.ct = if (s.doC md boot j lv).1 = 0 then s.ct.bump true else s.ct := by
  obtain ⟨_, _, e3, _⟩ := areaW_ks md s s.doA lv
  refine doC_ind (P := fun d => d.2.1.ct = if d.1 = 0 then s.ct.bump true else s.ct) (fun _ => e3) (fun _ _ => e3) (fun _ _ _ => e3) (fun _ _ _ _ => e3) (fun _ _ _ _ _ => e3) (fun _ _ _ _ _ hc => ?_) (fun _ _ _ _ _ hc => ?_)
  · show (CtS.bump (s.areaW md s.doA lv).ct _) = _
    rw [hc, e3]; rfl
  · show (CtS.bump (s.areaW md s.doA lv).ct _) = _
    rw [hc, e3]; rfl
end
section
variable {md : Bool} {s s' : WS} {k : Nat} {boot : Int} {j : Nat} {lv lw : List Lf} {c : Int} {top : Pr} {e v : Int} {b : Bs} {tg : Pr} {r : Rt}
theorem Good.to (h : Good md s lv c top e v b tg) (hn : s'.n = s.n) (hks : s'.ks = s.ks) (hat : s'.ct.at' = s.ct.at') (hL : openP md s'.L (ofK s.ks.seed e) (e, 65535, v) [] b tg = some (rootB ⟨c, e, s.n, top⟩)) (hS : Pre s.S s'.S)
    (hl : Kept s'.sd (lfAt s.n (c % 2) 0).toNat (32 * s.n.toNat) (lvB lv)) (hr : Kept s'.sd (recAt s.n c).toNat 60 (recB e v b tg)) : Good md s' lv c top e v b tg :=
  ⟨h.c1, by rw [hn]; exact h.l, h.w, h.ok, by rw [hn]; exact hl, by rw [hn]; exact hr, h.he, h.hv, h.hb, h.ht, by rw [hks, hn]; exact hL, h.tw, h.top.pre hS, by rw [hks]; exact h.ep, by rw [hat]; exact h.boot⟩
theorem Good.bar (h : Good md s lv c top e v b tg) (hs : s.Fit k) : Good md s.barS lv c top e v b tg := h.to rfl rfl rfl h.op (Pre.refl _) (h.kl.barrier hs.sd _) (h.kr.barrier hs.sd _)
theorem Good.settle (h : Good md s lv c top e v b tg) (hs : s.Fit k) (K : Nat → Bool) : Good md (s.crash K) lv c top e v b tg := h.to rfl rfl rfl h.op (Pre.refl _) (h.kl.settle hs.sd K) (h.kr.settle hs.sd K)
theorem Good.area (h : Good md s lv c top e v b tg) (hs : s.Fit k) (a : Int) (ha : 0 ≤ a ∧ a < 2) (hne : a ≠ c % 2) (hl : (lw.length : Int) = s.n) : Good md (s.areaW md a lw) lv c top e v b tg := by
  have hg := isG_cases hs.g
  obtain ⟨e1, e2, e3, e4⟩ := areaW_ks md s a lw
  have hlb := lvB_len lw
  have hnb := nodesB_len (s.nodes md lw)
  rw [nodes_len] at hnb
  have hc : (a = 0 ∧ c % 2 = 1) ∨ (a = 1 ∧ c % 2 = 0) := by omega
  have w1 : ∀ {o m : Nat} {X : Bs} {ok1 ok2 : Bool}, Kept s.sd o m X → ((lfAt s.n a 0).toNat + (lvB lw).length ≤ o ∨ o + m ≤ (lfAt s.n a 0).toNat) → ((ndAt s.n a 0).toNat + (nodesB (s.nodes md lw)).length ≤ o ∨ o + m ≤ (ndAt s.n a 0).toNat) → Kept (s.areaW md a lw).sd o m X := fun hk h1 h2 => by
    rw [WS.areaW]
    split
    · exact (hk.write (lfAt s.n a 0, lvB lw) h1 _).write (ndAt s.n a 0, nodesB (s.nodes md lw)) h2 _
    · exact hk.write (lfAt s.n a 0, lvB lw) h1 _
  refine h.to e4 e1 (by rw [e3]) (by rw [e2]; exact h.op) ?_ (w1 (ok1 := true) (ok2 := true) h.kl ?_ ?_) (w1 (ok1 := true) (ok2 := true) h.kr ?_ ?_)
  · rw [areaW_S]
    exact (buildF_tree md (lw.map leafB) s.S (by rw [List.length_map]; omega)).1
  · rw [hlb]; unfold lfAt; rcases hc with ⟨rfl, e⟩ | ⟨rfl, e⟩ <;> rw [e] <;> omega
  · rw [hnb]; unfold lfAt ndAt; rcases hc with ⟨rfl, e⟩ | ⟨rfl, e⟩ <;> rw [e] <;> omega
  · rw [hlb]; unfold lfAt recAt; rcases hc with ⟨rfl, e⟩ | ⟨rfl, e⟩ <;> rw [e] <;> omega
  · rw [hnb]; unfold ndAt recAt; rcases hc with ⟨rfl, e⟩ | ⟨rfl, e⟩ <;> rw [e] <;> omega
theorem Good.log (h : Good md s lv c top e v b tg) (hs : s.Fit k) (boot : Int) (j : Nat) (hne : r.c % 2 ≠ c % 2) : Good md (s.logW md boot j r) lv c top e v b tg := by
  have hg := isG_cases hs.g
  have hl := logR_len (md := md) (s := s) (boot := boot) (j := j) (r := r)
  have h1 : (s.logR md boot j r).1 = recAt s.n r.c := rfl
  refine h.to rfl rfl rfl (openP_seal h.op _ _ _ _) (Pre.refl _) (h.kl.write (s.logR md boot j r) ?_ _) (h.kr.write (s.logR md boot j r) ?_ _)
  · rw [hl, h1]; unfold recAt lfAt; have : c % 2 = 0 ∨ c % 2 = 1 := by omega
    rcases this with e | e <;> rw [e] <;> omega
  · rw [hl, h1]; unfold recAt; omega
theorem Good.bmpN (h : Good md s lv c top e v b tg) (hc : s.pw.can = false) : Good md s.bmpS lv c top e v b tg := h.to rfl rfl (by show (s.ct.bump s.pw.can).at' = _; rw [hc]; rfl) h.op (Pre.refl _) h.kl h.kr
/-- A commit that is not done leaves what was. -/
theorem Good.undone (h : Good md s lv s.ct.value top e v b tg) (hs : WSt md s k) (hl : (lw.length : Int) = s.n) (hno : (s.doC md boot j lw).1 ≠ 0) : Good md (s.doC md boot j lw).2.1 lv s.ct.value top e v b tg := by
  have hne : s.doA ≠ s.ct.value % 2 := by unfold WS.doA; omega
  have hrc : (s.doR md lw).c % 2 ≠ s.ct.value % 2 := by show (s.ct.value + 1) % 2 ≠ _; omega
  have g1 := h.area (md := md) hs.fit s.doA (doA_rng s) hne hl
  have f1 := hs.area (md := md) s.doA (doA_rng s) hl
  have g2 := g1.bar f1.fit
  have g3 := g2.log (r := s.doR md lw) f1.bar.fit boot j hrc
  have f3 := f1.bar.log boot j (s.doR md lw)
  have g4 := g3.bar f3.fit
  revert hno
  exact doC_ind (P := fun d => d.1 ≠ 0 → Good md d.2.1 lv s.ct.value top e v b tg) (fun _ _ => g1) (fun _ _ _ => g2) (fun _ _ _ _ => g2) (fun _ _ _ _ _ => g3) (fun _ _ _ _ _ _ => g4) (fun _ _ _ _ _ hc _ => g4.bmpN hc) (fun _ _ _ _ _ _ hn => absurd rfl hn)
/-- A commit that is done is there for good. -/
theorem good_done (hs : WSt md s k) (hk : k ≤ 8000) (hl : (lv.length : Int) = s.n) (hw : ∀ x ∈ lv, x.Wf) (hok : lvOk lv 0 = true) (hb : boot = s.ct.boots) (hj : j ≤ 100) (hd : (s.doC md boot j lv).1 = 0) :
    j < 100 ∧ Good md (s.doC md boot j lv).2.1 lv (s.ct.value + 1) ((s.nodes md lv).getD 1 (0, 0)) s.ks.cur (boot * 4294967296 + ((j + 1 : Nat) : Int)) ((s.areaW md s.doA lv).barS.logP md boot j (s.doR md lv)).1 ((s.areaW md s.doA lv).barS.logP md boot j (s.doR md lv)).2 := by
  have hg := isG_cases hs.fit.g
  have hss := hs.fit.ss
  obtain ⟨ct1, ct2, ct3⟩ := hs.ct
  revert hd
  refine doC_ind (P := fun d => d.1 = 0 → j < 100 ∧ Good md d.2.1 lv _ _ _ _ _ _) (fun _ h => by cases h) (fun _ _ h => by cases h) (fun _ _ _ h => by cases h) (fun _ _ _ _ h => by cases h) (fun _ _ _ _ _ h => by cases h) (fun _ _ _ _ _ _ h => by cases h) (fun c12 c3 hjn c4 c5 c6 _ => ⟨by omega, ?_⟩)
  rw [Bool.and_eq_true] at c12
  obtain ⟨e1, e2, e3, e4⟩ := areaW_ks md s s.doA lv
  have f1 := hs.area (md := md) s.doA (doA_rng s) hl
  have f3 := f1.bar.log boot j (s.doR md lv)
  have hT : TopOf md (s.areaW md s.doA lv).S lv ((s.nodes md lv).getD 1 (0, 0)) := by rw [areaW_S]; exact nodes_top md s lv (by omega)
  have hwt : Wfp ((s.nodes md lv).getD 1 (0, 0)) := by
    have ht := (buildF_tree md (lv.map leafB) s.S (by rw [List.length_map]; omega)).2
    have hbl := (buildF_len md (lv.map leafB) s.S).2
    rw [List.length_map] at hbl
    exact ht.wfG (j := 1) (by omega) (by omega) (by rw [List.length_map]; omega)
  have wr : (s.doR md lv).Wf := ⟨by show 0 ≤ s.ct.value + 1 ∧ s.ct.value + 1 < _; omega, hs.cur.2, hwt.1, hwt.2⟩
  have rg : isG (s.doR md lv).n = true := hs.fit.g
  have hb' : 0 ≤ boot ∧ boot < 4294967296 := by omega
  have F := filed_logW (md := md) (s := (s.areaW md s.doA lv).barS) (boot := boot) (j := j) (r := s.doR md lv) f1.bar.fit (by omega) c4 f1.bar.cur hb' (by omega) wr rg f1.bar.seq
  have kl1 : Kept (s.areaW md s.doA lv).barS.sd (lfAt s.n s.doA 0).toNat (32 * s.n.toNat) (lvB lv) := by
    have := kept_new (s.areaW md s.doA lv).sd (lfAt s.n s.doA 0).toNat (32 * s.n.toNat)
    rw [area_leaves hs.fit c12.1 c12.2 (doA_rng s) hl] at this
    show Kept ((s.areaW md s.doA lv).sd.barrier (s.areaW md s.doA lv).pw.can) _ _ _
    rw [c3]; exact this
  have hlen := logR_len (md := md) (s := (s.areaW md s.doA lv).barS) (boot := boot) (j := j) (r := s.doR md lv)
  have h1 : ((s.areaW md s.doA lv).barS.logR md boot j (s.doR md lv)).1 = recAt s.n (s.ct.value + 1) := by show recAt (s.areaW md s.doA lv).n _ = _; rw [e4]; rfl
  have ha := doA_rng s
  have kl2 := kl1.write ((s.areaW md s.doA lv).barS.logR md boot j (s.doR md lv)) (by
    rw [hlen, h1]; unfold recAt lfAt
    have : s.doA = 0 ∨ s.doA = 1 := by omega
    rcases this with e | e <;> rw [e] <;> omega) (s.areaW md s.doA lv).barS.pw.can
  have kl3 : Kept ((s.areaW md s.doA lv).barS.logW md boot j (s.doR md lv)).barS.sd (lfAt s.n s.doA 0).toNat (32 * s.n.toNat) (lvB lv) := Kept.barrier (x := ((s.areaW md s.doA lv).barS.logW md boot j (s.doR md lv)).sd) kl2 f3.fit.sd _
  have kr3 : Kept ((s.areaW md s.doA lv).barS.logW md boot j (s.doR md lv)).barS.sd (recAt s.n (s.ct.value + 1)).toNat 60 (recB s.ks.cur (boot * 4294967296 + ((j + 1 : Nat) : Int)) ((s.areaW md s.doA lv).barS.logP md boot j (s.doR md lv)).1 ((s.areaW md s.doA lv).barS.logP md boot j (s.doR md lv)).2) := by
    have := kept_new ((s.areaW md s.doA lv).barS.logW md boot j (s.doR md lv)).sd (recAt s.n (s.ct.value + 1)).toNat 60
    have hrc := F.rc
    rw [WS.recOf, show ((s.areaW md s.doA lv).barS.logW md boot j (s.doR md lv)).n = s.n from e4] at hrc
    rw [show (s.doR md lv).c = s.ct.value + 1 from rfl, show (s.areaW md s.doA lv).barS.ks = s.ks from e1] at hrc
    rw [hrc] at this
    show Kept (((s.areaW md s.doA lv).barS.logW md boot j (s.doR md lv)).sd.barrier _) _ _ _
    rw [c5]; exact this
  have hop := F.op
  rw [show ((s.areaW md s.doA lv).barS.logW md boot j (s.doR md lv)).ks = s.ks from e1, show (s.areaW md s.doA lv).barS.ks = s.ks from e1] at hop
  have hv := F.hv
  refine ⟨by omega, by show _ = (s.areaW md s.doA lv).n; rw [e4]; exact hl, hw, hok, ?_, ?_, hs.cur.2, by omega, F.hb, F.ht, ?_, hwt, hT, ?_, ?_⟩
  · show Kept _ (lfAt (s.areaW md s.doA lv).n _ 0).toNat (32 * (s.areaW md s.doA lv).n.toNat) _
    rw [e4]; exact kl3
  · show Kept _ (recAt (s.areaW md s.doA lv).n _).toNat _ _
    rw [e4]; exact kr3
  · show openP md _ (ofK (s.areaW md s.doA lv).ks.seed _) _ _ _ _ = some (rootB ⟨_, _, (s.areaW md s.doA lv).n, _⟩)
    rw [e1, e4]; exact hop
  · show _ ∈ (s.areaW md s.doA lv).ks.epochs
    rw [e1]; exact hs.cur.1
  · show _ = (CtS.bump (s.areaW md s.doA lv).ct _).at'
    rw [c6, e3, hb]
    show _ = s.ct.boots
    omega
end
end Go.Proofs.YtafkhpjnihnfpaaGreat


namespace Go.Proofs.YtafkhpjnihnfpaaGreat
open Go Go.Abs

/-- A commit's error, by the power and the maker alone. -/
def doE (p : PwS) (j : Nat) : Int :=
  if (p.can && p.spend.can) = false then 7
  else if p.spend.spend.can = false then 7
  else if j = 100 then 6
  else if p.spend.spend.spend.can = false then 7
  else if p.spend.spend.spend.spend.can = false then 7
  else if p.spend.spend.spend.spend.spend.can = false then 7
  else 0
section
variable {md : Bool} {s : WS} {k : Nat} {boot : Int} {j : Nat} {lv : List Lf} {r : Rt}
theorem areaW_pw2 (a : Int) (h : (s.pw.can && s.pw.spend.can) = true) : (s.areaW md a lv).pw = s.pw.spend.spend := by
  rw [Bool.and_eq_true] at h
  rw [WS.areaW, h.1]; rfl
theorem doC_e : (s.doC md boot j lv).1 = doE s.pw j := by
  refine doC_ind (P := fun d => d.1 = doE s.pw j) (fun a1 => ?_) (fun a1 a2 => ?_) (fun a1 a2 a3 => ?_) (fun a1 a2 a3 a4 => ?_) (fun a1 a2 a3 a4 a5 => ?_) (fun a1 a2 a3 a4 a5 a6 => ?_) (fun a1 a2 a3 a4 a5 a6 => ?_)
  · rw [doE, if_pos a1]
  all_goals
    have e := areaW_pw2 (md := md) (lv := lv) s.doA a1
    rw [doE, if_neg (by rw [a1]; simp)]
  · rw [e] at a2; rw [if_pos a2]
  · rw [e] at a2; rw [if_neg (by rw [a2]; simp), if_pos a3]
  · rw [e] at a2; have b4 : s.pw.spend.spend.spend.can = false := by rw [← e]; exact a4
    rw [if_neg (by rw [a2]; simp), if_neg a3, if_pos b4]
  · rw [e] at a2; have b4 : s.pw.spend.spend.spend.can = true := by rw [← e]; exact a4
    have b5 : s.pw.spend.spend.spend.spend.can = false := by rw [← e]; exact a5
    rw [if_neg (by rw [a2]; simp), if_neg a3, if_neg (by rw [b4]; simp), if_pos b5]
  · rw [e] at a2; have b4 : s.pw.spend.spend.spend.can = true := by rw [← e]; exact a4
    have b5 : s.pw.spend.spend.spend.spend.can = true := by rw [← e]; exact a5
    have b6 : s.pw.spend.spend.spend.spend.spend.can = false := by rw [← e]; exact a6
    rw [if_neg (by rw [a2]; simp), if_neg a3, if_neg (by rw [b4]; simp), if_neg (by rw [b5]; simp), if_pos b6]
  · rw [e] at a2; have b4 : s.pw.spend.spend.spend.can = true := by rw [← e]; exact a4
    have b5 : s.pw.spend.spend.spend.spend.can = true := by rw [← e]; exact a5
    have b6 : s.pw.spend.spend.spend.spend.spend.can = true := by rw [← e]; exact a6
    rw [if_neg (by rw [a2]; simp), if_neg a3, if_neg (by rw [b4]; simp), if_neg (by rw [b5]; simp), if_neg (by rw [b6]; simp)]
theorem doE_free {p : PwS} (h : p.Free) (j : Nat) : doE p j = if j = 100 then 6 else 0 := by
  have h0 := h.can
  have h1 := h.spend
  have h2 := h1.spend
  have h3 := h2.spend
  have h4 := h3.spend
  have h5 := h4.spend
  rw [doE, h0, h1.can, h2.can, h3.can, h4.can, h5.can]
  simp
theorem doC_free (h : s.pw.Free) : (s.doC md boot j lv).2.1.pw.Free := by
  have h1 := areaW_free (md := md) s.doA lv h
  have h2 := h1.spend
  exact doC_ind (P := fun d => d.2.1.pw.Free) (fun _ => h1) (fun _ _ => h2) (fun _ _ _ => h2) (fun _ _ _ _ => h2.spend) (fun _ _ _ _ _ => h2.spend.spend) (fun _ _ _ _ _ _ => h2.spend.spend.spend) (fun _ _ _ _ _ _ => h2.spend.spend.spend)
end
/-- What is loaded. -/
def WS.loadE (md : Bool) (s : WS) : Int := if s.pw.gone then 7 else if s.ct.value = 0 then 0 else if s.getE md s.ct.value ≠ 0 then s.getE md s.ct.value else s.readE md (s.ct.value % 2) (s.getT md s.ct.value).g
def WS.loadL (md : Bool) (s : WS) : List Lf := if s.pw.gone then [] else if s.ct.value = 0 then List.replicate s.n.toNat lf0 else if s.getE md s.ct.value ≠ 0 then [] else s.readL md (s.ct.value % 2) (s.getT md s.ct.value).g
def WS.loadS (md : Bool) (s : WS) : WS := if s.pw.gone then s else if s.ct.value = 0 then s else if s.getE md s.ct.value ≠ 0 then s else s.readS md (s.ct.value % 2)
section
variable {md : Bool} {s : WS} {k : Nat} {lv : List Lf} {top : Pr} {e v : Int} {b : Bs} {tg : Pr}
theorem Good.load (h : Good md s lv s.ct.value top e v b tg) (hs : s.Fit k) (hgo : s.pw.gone = false) : s.loadE md = 0 ∧ s.loadL md = lv := by
  obtain ⟨g1, g2⟩ := h.get hs hgo
  obtain ⟨r1, r2⟩ := h.read hs hgo
  have hc := h.c1.1
  have hv : s.ct.value ≠ 0 := by omega
  exact ⟨by rw [WS.loadE, hgo, g1, g2]; simp [hv, r1], by rw [WS.loadL, hgo, g1, g2]; simp [hv, r2]⟩
theorem load_zero (hgo : s.pw.gone = false) (hv : s.ct.value = 0) : s.loadE md = 0 ∧ s.loadL md = List.replicate s.n.toNat lf0 ∧ s.loadS md = s :=
  ⟨by rw [WS.loadE, hgo, hv]; simp, by rw [WS.loadL, hgo, hv]; simp, by rw [WS.loadS, hgo, hv]; simp⟩
theorem loadS_sd (md : Bool) (s : WS) : (s.loadS md).sd = s.sd ∧ (s.loadS md).n = s.n ∧ (s.loadS md).pw = s.pw ∧ (s.loadS md).ct = s.ct ∧ (s.loadS md).ks = s.ks ∧ (s.loadS md).L = s.L := by
  have hr : ∀ a, (s.readS md a).sd = s.sd ∧ (s.readS md a).n = s.n ∧ (s.readS md a).pw = s.pw ∧ (s.readS md a).ct = s.ct ∧ (s.readS md a).ks = s.ks ∧ (s.readS md a).L = s.L := fun a => by
    rw [WS.readS]; split <;> exact ⟨rfl, rfl, rfl, rfl, rfl, rfl⟩
  rw [WS.loadS]
  repeat' split
  · exact ⟨rfl, rfl, rfl, rfl, rfl, rfl⟩
  · exact ⟨rfl, rfl, rfl, rfl, rfl, rfl⟩
  · exact ⟨rfl, rfl, rfl, rfl, rfl, rfl⟩
  · exact hr _
theorem WSt.load (h : WSt md s k) : WSt md (s.loadS md) (k + 40) := by
  obtain ⟨e1, e2, e3, e4, e5, e6⟩ := loadS_sd md s
  refine ⟨?_, by rw [e5]; exact h.cur, by rw [e6]; exact h.seq, by rw [e6]; exact h.dat, by rw [e4]; exact h.ct.mono (by omega)⟩
  rw [WS.loadS]
  repeat' split
  · exact h.fit.mono (by omega)
  · exact h.fit.mono (by omega)
  · exact h.fit.mono (by omega)
  · exact fit_readS h.fit _
end
end Go.Proofs.YtafkhpjnihnfpaaGreat


set_option maxRecDepth 100000
namespace Go.Proofs.YtafkhpjnihnfpaaGreat
open Go Go.Abs

def c_commit_Load : CC := .seq (.reg [⟨some 2, .mov (.c .nils), none⟩, ⟨some 3, .mov (.c (.int .i64 0)), none⟩]) (.seq (.block 0 (.seq (.reg [⟨some 8, .mov (.t 0), none⟩, ⟨some 9, .eqv .p false (.t 8) (.c .nilp), none⟩, ⟨some 7, .mov (.t 9), none⟩]) (.cond (.t 7) (.seq (.reg [⟨some 2, .mov (.c .nils), none⟩, ⟨some 3, .mov (.c (.int .i64 1)), none⟩]) .ret) (.seq (.reg [⟨some 11, .mov (.t 0), none⟩, ⟨some 12, .nilck (.t 11), none⟩, ⟨some 13, .faddr 1 (.t 12), none⟩, ⟨some 14, .load 1 false (.t 13), none⟩, ⟨some 15, .call 48 [.t 14], none⟩, ⟨some 16, .not (.t 15), none⟩, ⟨some 10, .mov (.t 16), none⟩]) (.cond (.t 10) (.seq (.reg [⟨some 2, .mov (.c .nils), none⟩, ⟨some 3, .mov (.c (.int .i64 7)), none⟩]) .ret) .skip))))) (.seq (.reg [⟨some 17, .mov (.t 0), none⟩, ⟨some 18, .nilck (.t 17), none⟩, ⟨some 19, .faddr 4 (.t 18), none⟩, ⟨some 20, .load 1 false (.t 19), none⟩, ⟨some 21, .call 78 [.t 20], none⟩, ⟨some 4, .mov (.t 21), none⟩]) (.seq (.seq (.reg [⟨some 22, .mov (.t 4), none⟩, ⟨some 23, .bin .eql (.t 22) (.c (.int .u64 0)), none⟩]) (.cond (.t 23) (.seq (.reg [⟨some 24, .mov (.t 0), none⟩, ⟨some 25, .nilck (.t 24), none⟩, ⟨some 26, .faddr 0 (.t 25), none⟩, ⟨some 27, .faddr 0 (.t 26), none⟩, ⟨some 28, .load 1 false (.t 27), none⟩, ⟨some 29, .mksl 8 [.int .i64 0, .bool false, .int .i64 0, .int .u32 0, .int .u32 0, .int .u64 0, .int .u64 0, .int .u64 0] 56 (.t 28) (.t 28), none⟩, ⟨some 2, .mov (.t 29), none⟩, ⟨some 3, .mov (.c (.int .i64 0)), none⟩]) .ret) .skip)) (.seq (.reg [⟨some 31, .mov (.t 0), none⟩, ⟨some 32, .mov (.t 4), none⟩, ⟨some 33, .call 79 [.t 31, .t 32], none⟩, ⟨some 30, .mov (.t 33), none⟩, ⟨some 34, .ext 0 (.t 30), none⟩, ⟨some 35, .ext 1 (.t 30), none⟩, ⟨some 5, .alloc [.int .u64 0, .int .u32 0, .int .i64 0, .int .u64 0, .int .u64 0], none⟩, ⟨none, .store 5 (.t 5) (.t 34), none⟩, ⟨some 6, .mov (.t 35), none⟩]) (.seq (.seq (.reg [⟨some 36, .mov (.t 6), none⟩, ⟨some 37, .bin .neq (.t 36) (.c (.int .i64 0)), none⟩]) (.cond (.t 37) (.seq (.reg [⟨some 38, .mov (.t 6), none⟩, ⟨some 2, .mov (.c .nils), none⟩, ⟨some 3, .mov (.t 38), none⟩]) .ret) .skip)) (.seq (.reg [⟨some 39, .mov (.t 0), none⟩, ⟨some 40, .mov (.t 4), none⟩, ⟨some 41, .bin .rem (.t 40) (.c (.int .u64 2)), none⟩, ⟨some 42, .conv .i64 (.t 41), none⟩, ⟨some 43, .faddr 3 (.t 5), none⟩, ⟨some 44, .load 2 true (.t 43), none⟩, ⟨some 45, .call 80 [.t 39, .t 42, .t 44], none⟩, ⟨some 46, .ext 0 (.t 45), none⟩, ⟨some 47, .ext 1 (.t 45), none⟩, ⟨some 2, .mov (.t 46), none⟩, ⟨some 3, .mov (.t 47), none⟩]) .ret))))))
theorem is_commit_Load : FnIs Tryz.prog 50 48 c_commit_Load [.t 2, .t 3] := ⟨Tryz.f50, _, Tryz.func50, rfl, rfl, by kernel_rfl, by kernel_rfl⟩

end Go.Proofs.YtafkhpjnihnfpaaGreat


namespace Go.Proofs.YtafkhpjnihnfpaaGreat
open Go Go.Abs

theorem wst0 (md : Bool) {m : Nat} (hG : isG m = true) (seed : Int) : WSt md (ws0 m seed) 0 := by
  have h := lst0 md hG seed
  exact ⟨h.fit, h.cur, h.seq, h.dat, ⟨by simp [ws0], by simp [ws0], by simp [ws0]⟩⟩
theorem wf0 : ∀ x ∈ List.replicate 4 lf0, x.Wf := by intro x hx; obtain ⟨_, rfl⟩ := List.mem_replicate.1 hx; constructor <;> decide
end Go.Proofs.YtafkhpjnihnfpaaGreat


namespace Go.Proofs.YtafkhpjnihnfpaaGreat
open Go Go.Abs

section
variable {md : Bool} {s : WS} {boot : Int} {j : Nat} {lv : List Lf}
theorem doC_j1 (hd : (s.doC md boot j lv).1 = 0) : (s.doC md boot j lv).2.2 = j + 1 := by
  revert hd
  exact doC_ind (P := fun d => d.1 = 0 → d.2.2 = j + 1) (fun _ h => by cases h) (fun _ _ h => by cases h) (fun _ _ _ h => by cases h) (fun _ _ _ _ _ => rfl) (fun _ _ _ _ _ _ => rfl) (fun _ _ _ _ _ _ _ => rfl) (fun _ _ _ _ _ _ _ => rfl)
end
/-- A world behind i commits of leaves. -/
structure EndI (lv : List Lf) (i : Nat) (s : WS) (j : Nat) : Prop where
  st : WSt true s (50 * i)
  fr : s.pw.Free
  n : s.n = 4
  jj : j = min i 100
  v : s.ct.value = ((min i 100 : Nat) : Int)
  b : s.ct.boots = 0
  g : 0 < i → ∃ top e v b tg, Good true s lv s.ct.value top e v b tg
theorem EndI.step {lv : List Lf} {i : Nat} {s : WS} {j : Nat} (h : EndI lv i s j) (hi : i < 120) (hl : lv.length = 4) (hw : ∀ x ∈ lv, x.Wf) (hok : lvOk lv 0 = true) :
    (s.doC true 0 j lv).1 = (if i < 100 then 0 else 6) ∧ EndI lv (i + 1) (s.doC true 0 j lv).2.1 (s.doC true 0 j lv).2.2 := by
  have hjj := h.jj
  have hln : (lv.length : Int) = s.n := by rw [hl, h.n]; rfl
  have he := doC_e (md := true) (s := s) (boot := 0) (j := j) (lv := lv)
  rw [doE_free h.fr] at he
  have hct := doC_ct (md := true) (s := s) (boot := 0) (j := j) (lv := lv)
  have hst := (doC_wst (md := true) (boot := 0) (j := j) h.st hln).mono (k' := 50 * (i + 1)) (by omega)
  have hfr := doC_free (md := true) (boot := 0) (j := j) (lv := lv) h.fr
  have hn := (doC_n (md := true) (s := s) (boot := 0) (j := j) (lv := lv)).1.trans h.n
  by_cases h100 : i < 100
  · rw [if_neg (by omega)] at he
    rw [he, if_pos rfl] at hct
    obtain ⟨_, G⟩ := good_done (md := true) h.st (by omega) hln hw hok h.b.symm (by omega) he
    have hv : (s.doC true 0 j lv).2.1.ct.value = s.ct.value + 1 := by rw [hct]; rfl
    have hhv := h.v
    refine ⟨by rw [if_pos h100, he], hst, hfr, hn, by rw [doC_j1 he]; omega, by rw [hv]; omega, by rw [hct]; exact h.b, fun _ => ?_⟩
    rw [hv]
    exact ⟨_, _, _, _, _, G⟩
  · have hj : j = 100 := by omega
    rw [if_pos hj] at he
    have hj2 := doC_j (md := true) (s := s) (boot := 0) (j := j) (lv := lv) (by omega)
    rw [he, if_neg (by decide)] at hct
    obtain ⟨top, e, v, b, tg, G⟩ := h.g (by omega)
    have G2 := G.undone (lw := lv) (boot := 0) (j := j) h.st hln (by rw [he]; decide)
    have hhv := h.v
    refine ⟨by rw [if_neg h100, he], hst, hfr, hn, by omega, by rw [hct]; omega, by rw [hct]; exact h.b, fun _ => ?_⟩
    rw [hct]
    exact ⟨_, _, _, _, _, G2⟩
end Go.Proofs.YtafkhpjnihnfpaaGreat


namespace Go.Proofs.YtafkhpjnihnfpaaGreat
open Go Go.Abs

theorem WSt.crash {md : Bool} {s : WS} {k : Nat} (h : WSt md s k) (K : Nat → Bool) : WSt md (s.crash K) k := by
  have hl := settle_len K s.sd.lasts.length s.sd.waits 0 s.sd.lasts (fun y hy => by have := h.fit.sd.w y hy; rw [h.fit.sd.len]; exact this) rfl
  obtain ⟨p1, p2, p3, p4⟩ := h.fit.pw
  refine ⟨⟨h.fit.g, ⟨fun hh => by simp [WS.crash] at hh, p2, p3, p4⟩, ⟨?_, fun y hy => by simp [WS.crash, SdS.settle] at hy, Nat.zero_le _, h.fit.sd.kt⟩, h.fit.ss, h.fit.ll⟩, h.cur, h.seq, h.dat, h.ct⟩
  show (settleF K 0 s.sd.waits s.sd.lasts).length = _
  rw [hl, h.fit.sd.len]; rfl
theorem doC_dk {md : Bool} {s : WS} {boot : Int} {j : Nat} {lv : List Lf} : (s.doC md boot j lv).2.1.dk = s.dk := by
  have e : (s.areaW md s.doA lv).dk = s.dk := by rw [WS.areaW]; split <;> rfl
  exact doC_ind (P := fun d => d.2.1.dk = s.dk) (fun _ => e) (fun _ _ => e) (fun _ _ _ => e) (fun _ _ _ _ => e) (fun _ _ _ _ _ => e) (fun _ _ _ _ _ _ => e) (fun _ _ _ _ _ _ => e)
def WS.fused (s : WS) (m : Int) : WS := { s with pw := { s.pw with fuse := decide (0 ≤ m), left := m } }
theorem WSt.fused {md : Bool} {s : WS} {k : Nat} (h : WSt md s k) (m : Int) (hm : -9223372036854775808 ≤ m ∧ m ≤ 9223372036854775807) : WSt md (s.fused m) k := by
  obtain ⟨p1, p2, p3, p4⟩ := h.fit.pw
  exact ⟨⟨h.fit.g, ⟨fun hh => by simpa [WS.fused] using hh, hm, p3, p4⟩, h.fit.sd, h.fit.ss, h.fit.ll⟩, h.cur, h.seq, h.dat, h.ct⟩
end Go.Proofs.YtafkhpjnihnfpaaGreat


namespace Go.Proofs.YtafkhpjnihnfpaaGreat
open Go Go.Abs

def WS.bootS (s : WS) : WS := { s with pw := s.pw.spend, ct := s.ct.boot s.pw.can }
theorem WSt.boot {md : Bool} {s : WS} {k : Nat} (h : WSt md s k) : WSt md s.bootS (k + 1) :=
  ⟨⟨h.fit.g, h.fit.pw.spend, h.fit.sd.mono (by omega), Nat.le_succ_of_le h.fit.ss, Nat.le_succ_of_le h.fit.ll⟩, h.cur, h.seq, h.dat, h.ct.boot _⟩
theorem boot_ct {s : WS} (h : s.pw.Free) : s.bootS.ct = ⟨s.ct.value, s.ct.boots + 1, s.ct.at'⟩ := by rw [WS.bootS, h.can]; rfl
theorem crash_free (s : WS) (K : Nat → Bool) : (s.crash K).pw.Free := ⟨rfl, rfl⟩
end Go.Proofs.YtafkhpjnihnfpaaGreat


namespace Go.Proofs.YtafkhpjnihnfpaaGreat
open Go Go.Abs

theorem boot_ae {md : Bool} {h : AHeap} {n : WN} {s : WS} {k : Nat} (hg : WG md h n s) (hs : WSt md s k) (hk : k ≤ 9000) : AE Tryz.prog 49 [.ptr (n.a + 7) 0 0] h (.bool s.pw.can) ((h.set n.p (some (.mem 4 [s.pw.spend.row]))).set (n.a + 7) (some ((s.ct.boot s.pw.can).obj n.p))) :=
  count_Boot_ae (p := n.p) hg.w.sd.pw hg.w.ct hs.fit.pw hs.ct (by omega)
theorem WG.boot {md : Bool} {h : AHeap} {n : WN} {s : WS} (hg : WG md h n s) : WG md ((h.set n.p (some (.mem 4 [s.pw.spend.row]))).set (n.a + 7) (some ((s.ct.boot s.pw.can).obj n.p))) n s.bootS := hg.step (hg.w.putCt _ _) (kp_ct n _ _)
end Go.Proofs.YtafkhpjnihnfpaaGreat


