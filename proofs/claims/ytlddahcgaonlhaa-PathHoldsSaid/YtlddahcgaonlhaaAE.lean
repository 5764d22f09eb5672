/- The abstract layer: ranges over functions. -/
import Derived.Test.YtlddahcgaonlhaaAD
import Derived.RangeFuncLeaves
import Derived.RangeFuncCalls
set_option linter.all false
namespace Go.Abs
open Go

def FW : Option Nat → Fence
  | none => Fence.wide
  | some l => Fence.wide.inRound l
theorem FW.fn {ro : Option Nat} {f : FuncId} : (FW ro).fn f := by cases ro <;> trivial
theorem FW.depth {ro : Option Nat} {p : Prop} : (FW ro).depth.isSome = true → p := by cases ro <;> simp [FW, Fence.wide, Fence.inRound]
section
variable {P : Program} {N : Nat} {e : Env} {h : AHeap} {m : Inj} {w : World}
theorem calls_in {ro : Option Nat} {n : Nat} {f : FuncId} {args : Array Value} {R : Ending → World → Prop} (hc : Calls P f args w R) : CallsIn (FW ro) n P f args w R := by
  cases ro with
  | none => exact callsIn_wide.2 hc
  | some l => exact CallsIn.inRound l (callsIn_wide.2 hc)
theorem rows_in {ro : Option Nat} {n : Nat} {row : String} {args : Array Value} {R : Value → World → Prop} (hc : Rows P row args w R) : RowsIn (FW ro) n P row args w R := by
  intro c cs _
  obtain ⟨v, w', r, s⟩ := hc c cs
  refine ⟨v, w', r, ?_⟩
  cases ro with
  | none => exact stepsIn_wide.2 s
  | some l => exact stepsIn_wide.2 s
theorem compI_nodefer {ops : Array Oper} {o : Oper} {c : CI} (hc : compI P N ops o = c) (hb : c.i ≠ .bad) : ∀ d, o.op ≠ .defer d := by
  intro d hd
  apply hb
  have hr : rawI P N o = .bad := by
    unfold rawI
    have h1 : compileOp P N o = none := by simp [compileOp, hd]
    have h2 : compileX P N o = none := by simp [compileX, hd]
    simp [h1, h2]
  subst hc
  unfold compI
  split
  · split
    · simp [hr]
    · split
      · split
        · simp [hr]
        · rfl
      · rfl
  · rfl
/-- What a list of operations does, it does in a round, too. -/
theorem wpOps_in {ro : Option Nat} {n : Nat} {ops : Array Oper} {Q Q' : Exit → Go.Act → World → Prop} (hq : ∀ ex a w, Q ex a w → Q' ex a w) (hl : ¬ LetsOut Q) : ∀ (idx : List Nat), (∀ i ∈ idx, ∀ o, ops[i]? = some o → ∀ d, o.op ≠ .defer d) →
    ∀ (a : Go.Act) (w : World), wpOps P ops Q idx a w → wpOpsIn (FW ro) n P ops Q' idx a w
  | [], _, a, w, hw => hq _ _ _ hw
  | i :: idx, hd, a, w, hw => by
    have ih := wpOps_in (ro := ro) (n := n) hq hl idx fun j hj => hd j (by simp [hj])
    simp only [wpOps] at hw
    simp only [wpOpsIn]
    cases ho : ops[i]? with
    | none => simp only [ho] at hw; exact ih _ _ hw
    | some o =>
      simp only [ho] at hw ⊢
      by_cases hwant : Region.wanted o (yielded ops a.tmps) = true
      · rw [if_pos hwant] at hw ⊢
        rcases hw with hw | ⟨_, hx⟩
        · refine ⟨fun _ _ => FW.fn, ?_⟩
          rw [Oper.semAt_eq _ _ _ (hd i (by simp) o ho)]
          unfold Oper.wp at hw
          generalize (execOp a.eval o).run P w = r at hw ⊢
          cases r with
          | ok nx w' =>
            cases nx <;> simp only [Oper.upon, Oper.uponIn] at hw ⊢ <;> first
              | exact ih _ _ hw
              | exact ⟨FW.depth, calls_in (Calls.mono hw fun ex w'' he => by
                  cases ex with
                  | returned v => exact ih _ _ he
                  | panicked ch => exact hq _ _ _ he
                  | outgrown => exact absurd he hl)⟩
              | exact ⟨FW.depth, rows_in (Rows.mono hw fun _ _ he => ih _ _ he)⟩
          | halt x w' => cases x <;> simp only [Oper.upon, Oper.uponIn] at hw ⊢ <;> exact hq _ _ _ hw
        · exact absurd hx hl
      · rw [if_neg hwant] at hw ⊢
        exact ⟨fun _ _ => FW.fn, ih _ _ hw⟩

theorem loop_turn {id l N0 d : Nat} {st : LoopState} {es : List (Nat × AV)} {fn : FuncId} {ps : Array Tmp} {asg bdy : Code} (hr : HR m h w) (hg : h.get id = some (.loop l st N0 es fn ps asg bdy d)) (st' : LoopState) :
    ∃ T : Array Value, w.heap[l]? = some (.loop ⟨st, none, fn, T, ps, asg, bdy, d⟩) ∧ T.size = N0 ∧ (∀ (s : Nat) (v : AV), (s, v) ∈ es → VR m h w v (T.getD s undef)) ∧
      HR m (h.set id (some (.loop l st' N0 es fn ps asg bdy d))) (w.putObj l (.loop ⟨st', none, fn, T, ps, asg, bdy, d⟩)) ∧ Step m h w m (h.set id (some (.loop l st' N0 es fn ps asg bdy d))) (w.putObj l (.loop ⟨st', none, fn, T, ps, asg, bdy, d⟩)) := by
  obtain ⟨q1, T, q2, q3, q4⟩ := hr.obj _ _ hg
  have hlt : l < w.heap.size := (Array.getElem?_eq_some_iff.1 q2).1
  have wu : WUpd w (w.putObj l (.loop ⟨st', none, fn, T, ps, asg, bdy, d⟩)) l := ⟨rfl, rfl, rfl, World.putObj_size, fun k hk => World.putObj_heap_other hk, fun cc T' fz hc => by rw [q2] at hc; cases hc⟩
  have hcm : Compat (.loop l st N0 es fn ps asg bdy d) (.loop l st' N0 es fn ps asg bdy d) := ⟨rfl, rfl, rfl, rfl, rfl, rfl, rfl, rfl⟩
  have stp := step_set hr hg q1 hcm wu
  exact ⟨T, q2, q3, q4, hr.set hg q1 hcm wu ⟨q1, T, World.putObj_heap_same hlt, q3, fun s v hi => (q4 s v hi).step stp⟩, stp⟩

/-- Code in a round of record l. -/
def RW (P : Program) (l N : Nat) (c : CC) (Q : Exit → Env → AHeap → Prop) (e : Env) (h : AHeap) : Prop :=
  ∀ code, compC P N code = c → ∀ (n : Nat) (m : Inj) (w : World) (a : Go.Act), HR m h w → ER N m h w e a → code.wpIn (FW (some l)) n P (PA N Q m h w) a w
def Ins.isBad : Ins → Bool
  | .bad => true
  | _ => false
theorem noOut {K : Env → AHeap → Prop} : ¬ LetsOut (PA N (fun ex e h => ex = .normal ∧ K e h) m h w) := by
  rintro ⟨a, w0, m', e', h', _, _, _, hq, _⟩
  cases hq
theorem nodefers {ops : Array Oper} {l : List CI} (hl : compR P N ops = l) (hb : l.all (fun c => !c.i.isBad) = true) : ∀ i ∈ List.range ops.size, ∀ o, ops[i]? = some o → ∀ d, o.op ≠ .defer d := by
  intro i _ o ho
  refine compI_nodefer (P := P) (N := N) (ops := ops) rfl fun hbad => ?_
  have hm : compI P N ops o ∈ l := by
    rw [← hl, compR]
    refine List.mem_map.2 ⟨o, ?_, rfl⟩
    exact Array.mem_toList_iff.2 (Array.mem_of_getElem? ho)
  have := List.all_eq_true.1 hb _ hm
  rw [hbad] at this
  cases this
theorem compR_range {ops : Array Oper} : (List.range ops.size).map (fun i => compI P N ops (ops.getD i default)) = compR P N ops := by
  simp only [compR]
  apply List.ext_getElem
  · simp
  · intro i h1 h2
    simp at h1 h2
    simp [h1]
theorem RW.reg {lr : Nat} {l : List CI} {K : Env → AHeap → Prop} (hb : l.all (fun c => !c.i.isBad) = true) (hw : WL P N l (fun ex e h => ex = .normal ∧ K e h) e h) : RW P lr N (.reg l) (fun ex e h => ex = .normal ∧ K e h) e h := by
  intro code hc n m w a hr he
  cases code <;> simp only [compC] at hc <;> try (cases hc; done)
  · rename_i id ops d
    split at hc
    · cases hc
    · rename_i hd
      injection hc with hc
      have hd' : d = false := by simpa using hd
      subst hd'
      exact wpIn_region (wpOps_in (fun _ _ _ h => h) noOut _ (nodefers hc hb) a w (hw.out ops (List.range ops.size) (fun i hi => by simpa using hi) (compR_range.trans hc) m w a hr he))
  · split at hc <;> cases hc
  · split at hc <;> cases hc
theorem RW.seq {lr : Nat} {x y : CC} {Q : Exit → Env → AHeap → Prop} (hw : RW P lr N x (fun ex e h => ex = .normal ∧ RW P lr N y Q e h) e h) : RW P lr N (.seq x y) Q e h := by
  intro code hc n m w a hr he
  cases code <;> simp only [compC] at hc <;> try (cases hc; done)
  · split at hc <;> cases hc
  · rename_i cx cy
    cases hc
    refine wpIn_seq (wpIn_mono (hw cx rfl n m w a hr he) fun ex a' w' hp => ?_)
    obtain ⟨m', e', h', h1, h2, h3, rfl, h4⟩ := hp
    exact wpIn_mono (h4 cy rfl n m' w' a' h1 h2) fun _ _ _ hp => PA.from h3 hp
  · split at hc <;> cases hc
  · split at hc <;> cases hc
theorem RW.block {lr id : Nat} {x : CC} {Q : Exit → Env → AHeap → Prop} (hw : RW P lr N x (fun ex e h => ex = .normal ∧ Q .normal e h) e h) : RW P lr N (.block id x) Q e h := by
  intro code hc n m w a hr he
  cases code <;> simp only [compC] at hc <;> try (cases hc; done)
  · split at hc <;> cases hc
  · split at hc <;> cases hc
  · cases hc
    refine wpIn_block (wpIn_mono (hw _ rfl n m w a hr he) fun ex a' w' hp => ?_)
    obtain ⟨m', e', h', h1, h2, h3, rfl, h4⟩ := hp
    exact ⟨m', e', h', h1, h2, h3, h4⟩
  · split at hc <;> cases hc
def opt (es : List (Nat × AV)) : Env := es.map fun sv => (sv.1, some sv.2)
theorem lk_opt {s : Nat} {v : AV} : ∀ {es : List (Nat × AV)}, lk s (opt es) = some v → (s, v) ∈ es
  | [], hl => by simp [opt, lk_nil] at hl
  | sv :: es, hl => by
    simp only [opt, List.map_cons, lk_cons] at hl
    split at hl
    · rename_i e; subst e; cases hl; exact List.mem_cons_self ..
    · exact List.mem_cons_of_mem _ (lk_opt hl)

/-- A round of the loop of record l, asked for by a call of yield. -/
theorem yield_in {o : Oper} {a : Go.Act} {x y : Opd} {v0 : AV} {l rid N0 d p n : Nat} {es : List (Nat × AV)} {fn : FuncId} {asg bdy : Code} {cA cB : CC} {K : AHeap → Prop} {next : Go.Act → World → Prop} {Q : Exit → Go.Act → World → Prop}
    (hr : HR m h w) (he : ER N m h w e a) (hco : compileOp P N o = some (.callv x [y])) (hx : ev e x = some (.func (.yield l) [] [])) (hy : ev e y = some v0)
    (hg : h.get rid = some (.loop l .ready N0 es fn #[p] asg bdy d)) (hp : p < N0) (hcA : compC P N0 asg = cA) (hcB : compC P N0 bdy = cB)
    (hA : RW P l N0 cA (fun ex e1 h1 => ex = .normal ∧ (h1.get rid = some (.loop l .ready N0 es fn #[p] asg bdy d) ∧ RW P l N0 cB (fun ex e2 h2 => ex = .normal ∧ (h2.get rid = some (.loop l .busy N0 es fn #[p] asg bdy d) ∧ K (h2.set rid (some (.loop l .ready N0 es fn #[p] asg bdy d))))) e1 (h1.set rid (some (.loop l .busy N0 es fn #[p] asg bdy d))))) ((p, some v0) :: opt es) h)
    (hK : ∀ m' h' w', HR m' h' w' → Step m h w m' h' w' → K h' → next (a.put o.dst (.bool true)) w') : o.wpIn Fence.wide n P a w next Q := by
  refine ⟨fun _ _ => trivial, ?_⟩
  obtain ⟨c, yy, hop, hcal, hyy, hxs⟩ := compile_callv hco
  have hnd : ∀ d, o.op ≠ .defer d := fun d hd => by rw [hop] at hd; cases hd
  rw [Oper.semAt_eq _ _ _ hnd]
  obtain ⟨hl1, hl2⟩ := he.evalL hxs (show evL e [y] = some [v0] by simp [evL, hy])
  have hfv := he.eval hyy hx
  generalize hcx : a.eval (.tmp yy) = cx at hfv
  obtain ⟨T, hT, hTs, hTv, _, _⟩ := loop_turn hr hg .ready
  cases hfv with
  | func _ _ _ cs ds q1 q2 q3 q4 =>
    have hc0 : cs = #[] := Array.size_eq_zero_iff.1 (by simpa using q1.symm)
    have hd0 : ds = #[] := Array.size_eq_zero_iff.1 (by simpa using q2.symm)
    subst hc0 hd0
    have hsz : c.args.size = 1 := by simpa using hl1.symm
    obtain ⟨y0, hy0⟩ : ∃ y0, c.args = #[y0] := Array.size_eq_one_iff.1 hsz
    have hv0 : VR m h w v0 (a.eval y0) := by
      have := hl2 0 v0 rfl
      simpa [hy0] using this
    have hrun : (execOp a.eval o).run P w = .ok (.round l fn (T.setIfInBounds p (a.eval y0)) asg bdy) w := by
      have hyl := run_yield (P := P) (args := #[a.eval y0]) hT (by simp)
      have hz : ((#[p].zip #[a.eval y0]).foldl (fun tmps (t, a) => tmps.setIfInBounds t a) T) = T.setIfInBounds p (a.eval y0) := by simp
      rw [hz] at hyl
      simp [execOp, hop, resolve, hcal, hcx, Deferred.ofValue, invoke, hy0]
      exact hyl
    rw [hrun]
    refine ⟨fun hh => by simp [Fence.wide] at hh, ?_⟩
    refine roundIn_of_wpIn trivial ?_
    have he0 : ER N0 m h w ((p, some v0) :: opt es) { tmps := T.setIfInBounds p (a.eval y0), defers := [] } := by
      have h1 : ER N0 m h w (opt es) { tmps := T, defers := [] } := ⟨hTs, rfl, fun s v hs => hTv s v (lk_opt hs)⟩
      exact h1.put hp hv0
    refine wpIn_mono (hA asg hcA (n - 1) m w _ hr he0) fun ex a1 w1 hp1 => ?_
    obtain ⟨m1, e1, h1, hr1, he1, st1, rfl, hg1, hB⟩ := hp1
    obtain ⟨T1, hT1, _, _, hr2, st2⟩ := loop_turn hr1 hg1 .busy
    refine ⟨_, run_beginRound hT1 rfl, ?_⟩
    refine wpIn_mono (hB bdy hcB (n - 1) m1 _ a1 hr2 (he1.step st2)) fun ex a2 w2 hp2 => ?_
    obtain ⟨m3, e3, h3, hr3, he3, st3, rfl, hg3, hK3⟩ := hp2
    obtain ⟨T3, hT3, _, _, hr4, st4⟩ := loop_turn hr3 hg3 .ready
    refine ⟨_, _, run_endRound none hT3, ?_⟩
    exact hK m3 _ _ hr4 (((st1.trans st2).trans st3).trans st4) hK3

theorem wpOps_in_app {ro : Option Nat} {n : Nat} {ops : Array Oper} {Q Q' : Exit → Go.Act → World → Prop} {idx2 : List Nat} (hq : ∀ ex a w, Q ex a w → ex = .normal ∧ wpOpsIn (FW ro) n P ops Q' idx2 a w) (hl : ¬ LetsOut Q) : ∀ (idx : List Nat), (∀ i ∈ idx, ∀ o, ops[i]? = some o → ∀ d, o.op ≠ .defer d) →
    ∀ (a : Go.Act) (w : World), wpOps P ops Q idx a w → wpOpsIn (FW ro) n P ops Q' (idx ++ idx2) a w
  | [], _, a, w, hw => (hq _ _ _ hw).2
  | i :: idx, hd, a, w, hw => by
    have ih := wpOps_in_app (ro := ro) (n := n) hq hl idx fun j hj => hd j (by simp [hj])
    simp only [wpOps] at hw
    simp only [List.cons_append, wpOpsIn]
    cases ho : ops[i]? with
    | none => simp only [ho] at hw; exact ih _ _ hw
    | some o =>
      simp only [ho] at hw ⊢
      by_cases hwant : Region.wanted o (yielded ops a.tmps) = true
      · rw [if_pos hwant] at hw ⊢
        rcases hw with hw | ⟨_, hx⟩
        · refine ⟨fun _ _ => FW.fn, ?_⟩
          rw [Oper.semAt_eq _ _ _ (hd i (by simp) o ho)]
          unfold Oper.wp at hw
          generalize (execOp a.eval o).run P w = r at hw ⊢
          cases r with
          | ok nx w' =>
            cases nx <;> simp only [Oper.upon, Oper.uponIn] at hw ⊢ <;> first
              | exact ih _ _ hw
              | exact ⟨FW.depth, calls_in (Calls.mono hw fun ex w'' he => by
                  cases ex with
                  | returned v => exact ih _ _ he
                  | panicked ch => exact absurd (hq _ _ _ he).1 (by simp)
                  | outgrown => exact absurd he hl)⟩
              | exact ⟨FW.depth, rows_in (Rows.mono hw fun _ _ he => ih _ _ he)⟩
          | halt x w' => cases x <;> simp only [Oper.upon, Oper.uponIn] at hw ⊢ <;> first | exact absurd (hq _ _ _ hw).1 (by simp) | exact hw
        · exact absurd hx hl
      · rw [if_neg hwant] at hw ⊢
        exact ⟨fun _ _ => FW.fn, ih _ _ hw⟩
/-- Ahead of a call of yield: what is known; behind it. -/
structure YO (P : Program) (N : Nat) (x y : Opd) (k : AHeap → Prop) (e : Env) (h : AHeap) : Prop where
  ok : ∃ (rid l N0 d p : Nat) (es : List (Nat × AV)) (fn : FuncId) (asg bdy : Code) (v0 : AV), ev e x = some (.func (.yield l) [] []) ∧ ev e y = some v0 ∧ h.get rid = some (.loop l .ready N0 es fn #[p] asg bdy d) ∧ p < N0 ∧
    RW P l N0 (compC P N0 asg) (fun ex e1 h1 => ex = .normal ∧ (h1.get rid = some (.loop l .ready N0 es fn #[p] asg bdy d) ∧ RW P l N0 (compC P N0 bdy) (fun ex e2 h2 => ex = .normal ∧ (h2.get rid = some (.loop l .busy N0 es fn #[p] asg bdy d) ∧ k (h2.set rid (some (.loop l .ready N0 es fn #[p] asg bdy d))))) e1 (h1.set rid (some (.loop l .busy N0 es fn #[p] asg bdy d))))) ((p, some v0) :: opt es) h
theorem AW.regY {l1 l2 : List CI} {d : Nat} {x y : Opd} {Q : Exit → Env → AHeap → Prop} (hb : (l1 ++ ⟨some d, .callv x [y], none⟩ :: l2).all (fun c => !c.i.isBad) = true)
    (hw : WL P N l1 (fun ex e1 h1 => ex = .normal ∧ YO P N x y (fun h2 => WL P N l2 (fun ex e h => ex = .normal ∧ Q .normal e h) ((d, some (.bool true)) :: e1) h2) e1 h1) e h) : AW P N (.reg (l1 ++ ⟨some d, .callv x [y], none⟩ :: l2)) Q e h := by
  intro code hc m w a hr he
  cases code <;> simp only [compC] at hc <;> try (cases hc; done)
  · rename_i id ops dr
    split at hc
    · cases hc
    · rename_i hd
      injection hc with hc
      have hd' : dr = false := by simpa using hd
      subst hd'
      refine (wpIn_wide (n := 0)).1 (wpIn_region ?_)
      have hlen : ops.size = l1.length + (l2.length + 1) := by
        have := congrArg List.length hc
        simpa [compR] using this
      have hnd := nodefers hc hb
      have hrange : List.range ops.size = List.range l1.length ++ (l1.length :: (List.range l2.length).map (fun i => l1.length + 1 + i)) := by
        rw [hlen, List.range_add, List.range_succ_eq_map]
        simp only [List.map_cons, Nat.add_zero, List.map_map]
        congr 2
        refine List.map_congr_left fun i _ => ?_
        simp only [Function.comp_apply]; omega
      have hcomp : ∀ i (hi : i < ops.size), compI P N ops ops[i] = (l1 ++ ⟨some d, .callv x [y], none⟩ :: l2)[i]'(by rw [← hc]; simpa [compR] using hi) := fun i hi => by
        simp only [← hc, compR]; simp
      have hgd : ∀ i (hi : i < ops.size), ops.getD i default = ops[i] := fun i hi => by simp [hi]
      have hpre : wpOps P ops (PA N (fun ex e1 h1 => ex = .normal ∧ YO P N x y (fun h2 => WL P N l2 (fun ex e h => ex = .normal ∧ Q .normal e h) ((d, some (.bool true)) :: e1) h2) e1 h1) m h w) (List.range l1.length) a w := by
        refine hw.out ops (List.range l1.length) (fun i hi => by have := List.mem_range.1 hi; omega) ?_ m w a hr he
        refine List.ext_getElem (by simp) fun i h1 h2 => ?_
        simp only [List.length_map, List.length_range] at h1
        simp only [List.getElem_map, List.getElem_range]
        rw [hgd i (by omega), hcomp i (by omega), List.getElem_append_left (by omega)]
      rw [hrange]
      refine wpOps_in_app (ro := none) (n := 0) (fun ex a1 w1 hp => ?_) noOut (List.range l1.length) (fun i hi => hnd i (by have := List.mem_range.1 hi; exact List.mem_range.2 (by omega))) a w hpre
      obtain ⟨m1, e1, h1, hr1, he1, st1, rfl, hY⟩ := hp
      refine ⟨rfl, ?_⟩
      obtain ⟨rid, l, N0, dd, p, es, fn, asg, bdy, v0, y1, y2, y3, y4, y5⟩ := hY.ok
      have hk : l1.length < ops.size := by omega
      have ho : ops[l1.length]? = some ops[l1.length] := Array.getElem?_eq_getElem hk
      have hci := hcomp l1.length hk
      rw [List.getElem_append_right (Nat.le_refl _)] at hci
      simp only [Nat.sub_self, List.getElem_cons_zero] at hci
      simp only [wpOpsIn, ho]
      rcases compI_ok hci with ⟨hb1, _⟩ | ⟨hd1, hdst, hcmp, hgd1⟩
      · cases hb1
      · obtain ⟨w1', _⟩ := wanted_of he1 hgd1
        rw [w1' rfl, if_pos rfl]
        refine yield_in hr1 he1 (hcmp rfl) y1 y2 y3 y4 rfl rfl y5 fun m2 h2 w2 hr2 st2 hK2 => ?_
        have hdd : some d = ops[l1.length].dst := hd1
        have he2 : ER N m2 h2 w2 ((d, some (.bool true)) :: e1) (a1.put ops[l1.length].dst (.bool true)) := by
          rw [← hdd]
          exact (he1.step st2).put (hdst d hdd.symm) (.bool true)
        refine wpOps_in (ro := none) (n := 0) (fun ex a3 w3 hp3 => ?_) (noOut (m := m2) (h := h2) (w := w2)) _ (fun i hi => hnd i ?_) _ w2 (hK2.out ops _ (fun i hi => ?_) ?_ m2 w2 _ hr2 he2)
        · obtain ⟨m3, e3, h3, hr3, he3, st3, rfl, hq3⟩ := hp3
          exact ⟨m3, e3, h3, hr3, he3, (st1.trans st2).trans st3, hq3⟩
        · obtain ⟨j, hj, rfl⟩ := List.mem_map.1 hi
          have := List.mem_range.1 hj
          exact List.mem_range.2 (by omega)
        · obtain ⟨j, hj, rfl⟩ := List.mem_map.1 hi
          have := List.mem_range.1 hj
          omega
        · refine List.ext_getElem (by simp) fun i h1 h2 => ?_
          simp only [List.length_map, List.length_range] at h1
          simp only [List.getElem_map, List.getElem_range]
          rw [hgd _ (by omega), hcomp _ (by omega), List.getElem_append_right (by omega)]
          simp only [show l1.length + 1 + i - l1.length = i + 1 by omega, List.getElem_cons_succ]
  · split at hc <;> cases hc
  · split at hc <;> cases hc
theorem WW.regY {l1 l2 : List CI} {d : Nat} {x y : Opd} {Q : Exit → Env → AHeap → Prop} (hb : (l1 ++ ⟨some d, .callv x [y], none⟩ :: l2).all (fun c => !c.i.isBad) = true)
    (hw : WL P N l1 (fun ex e1 h1 => ex = .normal ∧ YO P N x y (fun h2 => WL P N l2 (fun ex e h => ex = .normal ∧ Q .normal e h) ((d, some (.bool true)) :: e1) h2) e1 h1) e h) : WW P N (.reg (l1 ++ ⟨some d, .callv x [y], none⟩ :: l2)) Q e h := ⟨AW.regY hb hw⟩
end
end Go.Abs
