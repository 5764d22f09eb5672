/- The abstract layer, part 12: rules for code; contracts of functions. -/
import Derived.Test.YtlddahcgaonlhaaA11
set_option linter.all false
namespace Go.Abs
open Go

def thenQ (K : Env → AHeap → Prop) (Q : Exit → Env → AHeap → Prop) : Exit → Env → AHeap → Prop
  | .normal, e, h => K e h
  | ex, e, h => Q ex e h
def blockQ (id : Nat) (Q : Exit → Env → AHeap → Prop) : Exit → Env → AHeap → Prop
  | .exit id', e, h => if id' = id then Q .normal e h else Q (.exit id') e h
  | ex, e, h => Q ex e h

/-- A function that may be called: it has a body. -/
def bodied (P : Program) (f : Nat) : Bool :=
  match P.funcs[f]? with
  | some fn => fn.body.isSome && fn.name != "runtime.NumGoroutine"
  | none => false

section
variable {P : Program} {N : Nat} {Q : Exit → Env → AHeap → Prop} {e : Env} {h : AHeap}

theorem AL.mono {l : List CI} {Q' : Exit → Env → AHeap → Prop} (hw : AL P N l Q e h) (hq : ∀ ex e h, Q ex e h → Q' ex e h) : AL P N l Q' e h :=
  fun ops idx h1 h2 m w a hr he => wpOps_mono (fun _ _ _ hp => PA.mono hq hp) idx _ _ (hw ops idx h1 h2 m w a hr he)
theorem AW.mono {c : CC} {Q' : Exit → Env → AHeap → Prop} (hw : AW P N c Q e h) (hq : ∀ ex e h, Q ex e h → Q' ex e h) : AW P N c Q' e h :=
  fun code hc m w a hr he => wp_mono (hw code hc m w a hr he) fun _ _ _ hp => PA.mono hq hp

theorem AL.run : ∀ {l : List CI} {e : Env} {h : AHeap} {l' : List CI} {e' : Env} {h' : AHeap}, runL l e h = (l', e', h') → AL P N l' Q e' h' → AL P N l Q e h
  | [], e, h, l', e', h', hx, hw => by simp [runL] at hx; obtain ⟨rfl, rfl, rfl⟩ := hx; exact hw
  | c :: l, e, h, l', e', h', hx, hw => by
    simp only [runL] at hx
    split at hx
    · rename_i e1 h1 hs; exact AL.step hs (AL.run hx hw)
    · simp only [Prod.mk.injEq] at hx; obtain ⟨rfl, rfl, rfl⟩ := hx; exact hw

/-! ### code -/
theorem AW.skip (hq : Q .normal e h) : AW P N .skip Q e h := by
  intro code hc m w a hr he
  cases code <;> simp only [compC] at hc <;> try (cases hc; done)
  · exact wp_skip ⟨m, e, h, hr, he, Step.refl _ _ _, hq⟩
  · split at hc <;> cases hc
  · split at hc <;> cases hc
theorem AW.exit {id : Nat} (hq : Q (.exit id) e h) : AW P N (.exit id) Q e h := by
  intro code hc m w a hr he
  cases code <;> simp only [compC] at hc <;> try (cases hc; done)
  · split at hc <;> cases hc
  · split at hc <;> cases hc
  · cases hc; exact wp_exit ⟨m, e, h, hr, he, Step.refl _ _ _, hq⟩
theorem AW.ret (hq : Q .ret e h) : AW P N .ret Q e h := by
  intro code hc m w a hr he
  cases code <;> simp only [compC] at hc <;> try (cases hc; done)
  · split at hc <;> cases hc
  · split at hc <;> cases hc
  · exact wp_ret ⟨m, e, h, hr, he, Step.refl _ _ _, hq⟩
theorem AW.seq {x y : CC} (hw : AW P N x (thenQ (fun e h => AW P N y Q e h) Q) e h) : AW P N (.seq x y) Q e h := by
  intro code hc m w a hr he
  cases code <;> simp only [compC] at hc <;> try (cases hc; done)
  · split at hc <;> cases hc
  · rename_i cx cy
    cases hc
    refine wp_seq (wp_mono (hw cx rfl m w a hr he) fun ex a' w' hp => ?_)
    obtain ⟨m', e', h', h1, h2, h3, h4⟩ := hp
    cases ex <;> first
      | exact ⟨m', e', h', h1, h2, h3, h4⟩
      | exact wp_mono (h4 cy rfl m' w' a' h1 h2) fun _ _ _ hp => PA.from h3 hp
  · split at hc <;> cases hc
theorem AW.cond {c : Opd} {x y : CC} {t : Bool} (hc : ev e c = some (.bool t)) (hw : AW P N (if t then x else y) Q e h) : AW P N (.cond c x y) Q e h := by
  intro code hcc m w a hr he
  cases code <;> simp only [compC] at hcc <;> try (cases hcc; done)
  · split at hcc <;> cases hcc
  · split at hcc
    · rename_i c0 hc0
      cases hcc
      refine wp_cond (t := t) (vr_bool (he.eval hc0 hc)) ?_
      cases t
      · exact hw _ rfl m w a hr he
      · exact hw _ rfl m w a hr he
    · cases hcc
theorem AW.block {id : Nat} {x : CC} (hw : AW P N x (blockQ id Q) e h) : AW P N (.block id x) Q e h := by
  intro code hc m w a hr he
  cases code <;> simp only [compC] at hc <;> try (cases hc; done)
  · split at hc <;> cases hc
  · split at hc <;> cases hc
  · cases hc
    refine wp_block (wp_mono (hw _ rfl m w a hr he) fun ex a' w' hp => ?_)
    obtain ⟨m', e', h', h1, h2, h3, h4⟩ := hp
    cases ex <;> first
      | exact ⟨m', e', h', h1, h2, h3, h4⟩
      | (simp only [Exit.inBlock, blockQ] at h4 ⊢
         split at h4
         · rename_i e; rw [if_pos e]; exact ⟨m', e', h', h1, h2, h3, h4⟩
         · rename_i e; rw [if_neg e]; exact ⟨m', e', h', h1, h2, h3, h4⟩)
theorem AW.reg {l : List CI} (hw : AL P N l Q e h) : AW P N (.reg l) Q e h := by
  intro code hc m w a hr he
  cases code <;> simp only [compC] at hc <;> try (cases hc; done)
  · rename_i id ops d
    split at hc
    · cases hc
    · rename_i hd
      cases hc
      have hd' : d = false := by simpa using hd
      subst hd'
      refine wp_region (hw ops (List.range ops.size) (fun i hi => by simpa using hi) ?_ m w a hr he)
      simp only [compR]
      apply List.ext_getElem
      · simp
      · intro i h1 h2
        simp at h1 h2
        simp [h1]
  · split at hc <;> cases hc

theorem wp_loop_ix {P : Program} {σ : Type} {c : Code} {Q : Exit → Act → World → Prop} (I : σ → Act → World → Prop) (μ : σ → Nat) (s₀ : σ) {a : Act} {w : World} (h₀ : I s₀ a w)
    (round : ∀ s a w, I s a w → c.wp P (Exit.then (fun a' w' => ∃ s', I s' a' w' ∧ μ s' < μ s) Q) a w) : (Code.loop c).wp P Q a w := by
  intro b k cs
  have key : ∀ n s a w, μ s = n → I s a w → ∃ e a' w', Q e a' w' ∧ Arrives P (lone (b.at a (.code c :: .inLoop c :: k)) cs w) b k cs e a' w' := by
    intro n
    induction n using Nat.strongRecOn with
    | _ n ih =>
      intro s a w hn hI
      obtain ⟨e, a₁, w₁, hq, harr⟩ := round s a w hI b (.inLoop c :: k) cs
      cases e with
      | normal =>
        obtain ⟨s', hI₁, hlt⟩ := hq
        obtain ⟨e₂, a₂, w₂, hq₂, harr₂⟩ := ih (μ s') (hn ▸ hlt) s' a₁ w₁ rfl hI₁
        exact ⟨e₂, a₂, w₂, hq₂, .of_steps (Steps.trans harr (.one step_inLoop)) harr₂⟩
      | exit id => exact ⟨_, a₁, w₁, hq, .pass (x := .inLoop c) rfl (fun _ _ => .inl (by simp)) harr⟩
      | goto l => exact ⟨_, a₁, w₁, hq, .pass (x := .inLoop c) rfl (fun _ _ => .inl (by simp)) harr⟩
      | ret => exact ⟨_, a₁, w₁, hq, .pass (x := .inLoop c) rfl (fun _ _ => .inl (by simp)) harr⟩
      | panic ch => exact ⟨_, a₁, w₁, hq, .pass (x := .inLoop c) rfl (fun _ _ => .inl (by simp)) harr⟩
      | outgrown => exact ⟨_, a₁, w₁, hq, .pass (x := .inLoop c) rfl (fun _ _ => .inl (by simp)) harr⟩
  obtain ⟨e, a', w', hq, harr⟩ := key _ s₀ a w rfl h₀
  exact ⟨e, a', w', hq, .of_steps (.one step_loop) harr⟩

/-- A loop: I holds at each round's head, the measure falls. -/
theorem AW.loop {σ : Type} {x : CC} (I : σ → Env → AHeap → Prop) (μ : σ → Nat) (s₀ : σ) (h₀ : I s₀ e h)
    (round : ∀ s e h, I s e h → AW P N x (thenQ (fun e' h' => ∃ s', I s' e' h' ∧ μ s' < μ s) Q) e h) : AW P N (.loop x) Q e h := by
  intro code hc m w a hr he
  cases code <;> simp only [compC] at hc <;> try (cases hc; done)
  · split at hc <;> cases hc
  · split at hc <;> cases hc
  · rename_i cx
    cases hc
    refine wp_loop_ix (fun s a' w' => ∃ m' e' h', HR m' h' w' ∧ ER N m' h' w' e' a' ∧ Step m h w m' h' w' ∧ I s e' h') μ s₀ ⟨m, e, h, hr, he, Step.refl _ _ _, h₀⟩ fun s a1 w1 hI => ?_
    obtain ⟨m1, e1, h1, hr1, he1, st1, hI1⟩ := hI
    refine wp_mono (round s e1 h1 hI1 cx rfl m1 w1 a1 hr1 he1) fun ex a2 w2 hp => ?_
    obtain ⟨m2, e2, h2, hr2, he2, st2, h4⟩ := hp
    cases ex <;> first
      | exact ⟨m2, e2, h2, hr2, he2, st1.trans st2, h4⟩
      | (obtain ⟨s', hs', hlt⟩ := h4
         exact ⟨s', ⟨m2, e2, h2, hr2, he2, st1.trans st2, hs'⟩, hlt⟩)

/-- Forget slots; names that are given up. -/
theorem AW.env {c : CC} {e' : Env} (hs : ∀ i v, lk i e' = some v → lk i e = some v) (hw : AW P N c Q e' h) : AW P N c Q e h :=
  fun code hc m w a hr he => hw code hc m w a hr ⟨he.size, he.defers, fun i v hi => he.val i v (hs i v hi)⟩
theorem AL.env {l : List CI} {e' : Env} (hs : ∀ i v, lk i e' = some v → lk i e = some v) (hw : AL P N l Q e' h) : AL P N l Q e h :=
  fun ops idx h1 h2 m w a hr he => hw ops idx h1 h2 m w a hr ⟨he.size, he.defers, fun i v hi => he.val i v (hs i v hi)⟩

/-- h' is h, with fewer names. -/
structure HSub (h' h : AHeap) : Prop where
  get : ∀ id x, h'.get id = some x → h.get id = some x
  used : ∀ id, h.used id → h'.used id
  gap : ∀ id, h'.gap id = true → id < h'.next
theorem HSub.step {h' h : AHeap} (s : HSub h' h) (m : Inj) (w : World) : Step m h w m h' w where
  os := rfl
  tape := rfl
  output := rfl
  size := Nat.le_refl _
  kind := fun b cc T fz hb _ => ⟨cc, hb, rfl⟩
  free := fun b hb hfr => ⟨rfl, fun j t y hg hm => hfr j t y (s.get j y hg) hm⟩
  cell := fun b k v hc hn => ⟨hc, fun ⟨j, t, ⟨y, hg⟩, hm, hle⟩ => hn ⟨j, t, ⟨y, s.get j y hg⟩, hm, hle⟩⟩
  used := s.used
  live := fun j x' _ hg => ⟨x', s.get j x' hg, fun _ => rfl, Compat.refl _⟩
theorem HSub.hr {h' h : AHeap} (s : HSub h' h) {m : Inj} {w : World} (hr : HR m h w) : HR m h' w :=
  ⟨s.gap, fun id x hg => s.used id (hr.live id x (s.get id x hg)), fun i j x y b t u hi hj => hr.inj i j x y b t u (s.get i x hi) (s.get j y hj),
    fun id x hg => (hr.obj id x (s.get id x hg)).step (s.step m w) rfl fun _ _ _ => rfl⟩
theorem AW.heap {c : CC} {h' : AHeap} (s : HSub h' h) (hw : AW P N c Q e h') : AW P N c Q e h :=
  fun code hc m w a hr he => wp_mono (hw code hc m w a (s.hr hr) (he.step (s.step m w))) fun _ _ _ hp => PA.from (s.step m w) hp
theorem AL.heap {l : List CI} {h' : AHeap} (s : HSub h' h) (hw : AL P N l Q e h') : AL P N l Q e h :=
  fun ops idx h1 h2 m w a hr he => wpOps_mono (fun _ _ _ hp => PA.from (s.step m w) hp) idx _ _ (hw ops idx h1 h2 m w a (s.hr hr) (he.step (s.step m w)))

/-! ### calls -/
theorem run_callFunc {f : Nat} (hb : bodied P f = true) (args : Array Value) (w : World) : (callFunc f args).run P w = .ok (.enter f args) w := by
  unfold bodied at hb
  split at hb
  · rename_i fn hfn
    simp only [Bool.and_eq_true, bne_iff_ne, ne_eq] at hb
    have hnone : fn.body.isNone = false := by cases hx : fn.body <;> simp [hx] at hb ⊢
    simp only [callFunc, Sem.run_bind, run_program, Result.andThen_ok, hfn, beq_iff_eq, hb.2, if_false, hnone, Bool.false_eq_true, Sem.run_pure]
  · cases hb

theorem call_wp {o : Oper} {f : Nat} {cargs : Array Value} {vs : List AV} {m : Inj} {w : World} {a : Act} {K : Act → World → Prop} {R : AV → AHeap → Prop} {QQ : Exit → Act → World → Prop}
    (hrun : (execOp a.eval o).run P w = .ok (.enter f cargs) w) (hr : HR m h w) (hl : vs.length = cargs.size) (hv : ∀ i v, vs[i]? = some v → VR m h w v (cargs.getD i undef)) (hac : AC P f vs h R)
    (hK : ∀ v w' m' r h', HR m' h' w' → VR m' h' w' r v → Step m h w m' h' w' → R r h' → K (a.put o.dst v) w') : o.wp P a w K QQ := by
  unfold Oper.wp
  rw [hrun, Oper.upon_enter]
  refine (hac m w cargs hr hl hv).mono fun ex w' hx => ?_
  obtain ⟨v, m', r, h', rfl, h1, h2, h3, h4⟩ := hx
  exact hK v w' m' r h' h1 h2 h3 h4

theorem compile_call {o : Oper} {f : Nat} {xs : List Opd} (hco : compileOp P N o = some (.call f xs)) :
    ∃ c : Call, o.op = .call c ∧ c.callee = .value (.func f) ∧ bodied P f = true ∧ ofL (ofOpd N) c.args.toList = some xs := by
  cases hop : o.op <;> simp only [compileOp, hop] at hco
  case unOp op t x => cases op <;> simp [Option.map_eq_some_iff] at hco
  case slice t x lo hi mx => cases mx <;> simp only at hco <;> (repeat' (split at hco)) <;> first | cases hco | (simp [Option.map_eq_some_iff] at hco)
  case call c =>
    refine ⟨c, rfl, ?_⟩
    split at hco
    case h_5 hcal =>
      split at hco
      · rename_i fn xs' h1 h2
        split at hco
        · rename_i hb
          simp only [Option.some.injEq, Ins.call.injEq] at hco
          obtain ⟨rfl, rfl⟩ := hco
          exact ⟨hcal, by simpa [bodied, h1] using hb, h2⟩
        · cases hco
      · cases hco
    all_goals (repeat' (split at hco)) <;> cases hco
  all_goals (try (repeat' (split at hco))) <;> first | cases hco | (simp [Option.map_eq_some_iff] at hco)
theorem compile_callv {o : Oper} {x : Opd} {xs : List Opd} (hco : compileOp P N o = some (.callv x xs)) :
    ∃ (c : Call) (y : Nat), o.op = .call c ∧ c.callee = .value (.tmp y) ∧ ofOpd N (.tmp y) = some x ∧ ofL (ofOpd N) c.args.toList = some xs := by
  cases hop : o.op <;> simp only [compileOp, hop] at hco
  case unOp op t x => cases op <;> simp [Option.map_eq_some_iff] at hco
  case slice t x lo hi mx => cases mx <;> simp only at hco <;> (repeat' (split at hco)) <;> first | cases hco | (simp [Option.map_eq_some_iff] at hco)
  case call c =>
    refine ⟨c, ?_⟩
    split at hco
    case h_6 y hcal =>
      split at hco
      · rename_i x' xs' h1 h2
        simp only [Option.some.injEq, Ins.callv.injEq] at hco
        obtain ⟨rfl, rfl⟩ := hco
        exact ⟨y, rfl, hcal, h1, h2⟩
      · cases hco
    all_goals (repeat' (split at hco)) <;> cases hco
  all_goals (try (repeat' (split at hco))) <;> first | cases hco | (simp [Option.map_eq_some_iff] at hco)

theorem AL.call {d : Option Nat} {f : Nat} {xs : List Opd} {l : List CI} {vs : List AV} (hv : evL e xs = some vs) (hac : AC P f vs h (fun r h' => AL P N l Q (putR d (some r) e) h')) : AL P N (⟨d, .call f xs, none⟩ :: l) Q e h := by
  intro ops idx hlt hl m w a hr he
  cases idx with
  | nil => simp at hl
  | cons i idx =>
    simp only [List.map_cons, List.cons.injEq] at hl
    obtain ⟨hc, hl⟩ := hl
    have hilt := hlt i (by simp)
    have ho : ops[i]? = some ops[i] := Array.getElem?_eq_getElem hilt
    have hget : ops.getD i default = ops[i] := by simp [hilt]
    rw [hget] at hc
    have hlt' : ∀ j ∈ idx, j < ops.size := fun j hj => hlt j (by simp [hj])
    rcases compI_ok hc with ⟨hb1, hb2⟩ | ⟨hd, hdst, hcomp, hg⟩
    · simp at hb1
    · obtain ⟨w1, _⟩ := wanted_of he hg
      simp only [wpOps, ho]
      rw [w1 rfl, if_pos rfl]
      left
      have hco := hcomp rfl
      obtain ⟨c, hop, hcal, hfn, hxs⟩ := compile_call hco
      obtain ⟨hl1, hl2⟩ := he.evalL hxs hv
      have hrun : (execOp a.eval (ops[i])).run P w = .ok (.enter f (c.args.map a.eval)) w := by
        simp [execOp, hop, resolve, hcal, Act.eval, Deferred.ofValue, invoke, run_callFunc hfn]
      refine call_wp hrun hr (by simpa using hl1) (fun j v hj => by
        have := hl2 j v hj
        simpa [Array.getD_eq_getD_getElem?, List.getD_eq_getElem?_getD] using this) hac fun v w' m' r h' g1 g2 g3 g4 => ?_
      refine wpOps_mono (fun _ _ _ hp => PA.from g3 hp) idx _ _ (g4 ops idx hlt' hl m' w' _ g1 ?_)
      have hd' : d = (ops[i]).dst := hd
      rw [hd']
      exact (he.step g3).putR hdst g2

theorem AL.callv {d : Option Nat} {f : Nat} {x : Opd} {xs : List Opd} {l : List CI} {vs us ts : List AV} (hx : ev e x = some (.func (.func f) us ts)) (hv : evL e xs = some vs) (hb : bodied P f = true) (hac : AC P f (us ++ vs ++ ts) h (fun r h' => AL P N l Q (putR d (some r) e) h')) :
    AL P N (⟨d, .callv x xs, none⟩ :: l) Q e h := by
  intro ops idx hlt hl m w a hr he
  cases idx with
  | nil => simp at hl
  | cons i idx =>
    simp only [List.map_cons, List.cons.injEq] at hl
    obtain ⟨hc, hl⟩ := hl
    have hilt := hlt i (by simp)
    have ho : ops[i]? = some ops[i] := Array.getElem?_eq_getElem hilt
    have hget : ops.getD i default = ops[i] := by simp [hilt]
    rw [hget] at hc
    have hlt' : ∀ j ∈ idx, j < ops.size := fun j hj => hlt j (by simp [hj])
    rcases compI_ok hc with ⟨hb1, hb2⟩ | ⟨hd, hdst, hcomp, hg⟩
    · simp at hb1
    · obtain ⟨w1, _⟩ := wanted_of he hg
      simp only [wpOps, ho]
      rw [w1 rfl, if_pos rfl]
      left
      have hco := hcomp rfl
      obtain ⟨c, y, hop, hcal, hy, hxs⟩ := compile_callv hco
      obtain ⟨hl1, hl2⟩ := he.evalL hxs hv
      have hfv := he.eval hy hx
      generalize hcx : a.eval (.tmp y) = cx at hfv
      cases hfv with
      | func _ _ _ cs ds q1 q2 q3 q4 =>
        have hrun : (execOp a.eval (ops[i])).run P w = .ok (.enter f (cs ++ c.args.map a.eval ++ ds)) w := by
          simp [execOp, hop, resolve, hcal, hcx, Deferred.ofValue, invoke, run_callFunc hb]
        refine call_wp hrun hr (by simp [q1, q2, hl1]) (fun j v hj => ?_) hac fun v w' m' r h' g1 g2 g3 g4 => ?_
        · rw [List.append_assoc] at hj
          simp only [Array.getD_eq_getD_getElem?]
          by_cases j1 : j < us.length
          · rw [List.getElem?_append_left j1] at hj
            have := q3 j v hj
            rw [Array.append_assoc, Array.getElem?_append_left (by omega)]
            simpa [Array.getD_eq_getD_getElem?] using this
          · rw [List.getElem?_append_right (by omega)] at hj
            rw [Array.append_assoc, Array.getElem?_append_right (by omega), ← q1]
            by_cases j2 : j - us.length < vs.length
            · rw [List.getElem?_append_left j2] at hj
              have := hl2 _ v hj
              rw [Array.getElem?_append_left (by simp at hl1 ⊢; omega)]
              simpa [List.getD_eq_getElem?_getD] using this
            · rw [List.getElem?_append_right (by omega)] at hj
              have := q4 _ v hj
              have hl1' : vs.length = c.args.size := by simpa using hl1
              rw [Array.getElem?_append_right (by simp; omega)]
              simpa [Array.getD_eq_getD_getElem?, hl1'] using this
        · refine wpOps_mono (fun _ _ _ hp => PA.from g3 hp) idx _ _ (g4 ops idx hlt' hl m' w' _ g1 ?_)
          have hd' : d = (ops[i]).dst := hd
          rw [hd']
          exact (he.step g3).putR hdst g2

/-- A call that isn't made: its guard says no. -/
theorem AC.mono {f : Nat} {vs : List AV} {R R' : AV → AHeap → Prop} (hac : AC P f vs h R) (hR : ∀ r h', R r h' → R' r h') : AC P f vs h R' :=
  fun m w cargs hr hl hv => (hac m w cargs hr hl hv).mono fun _ _ ⟨v, m', r, h', e, g1, g2, g3, g4⟩ => ⟨v, m', r, h', e, g1, g2, g3, hR _ _ g4⟩
end
end Go.Abs
