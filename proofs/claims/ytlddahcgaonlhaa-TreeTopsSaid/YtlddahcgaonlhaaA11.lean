/- The abstract layer, part 11: code: regions in the text's order, branches, loops, calls. -/
import Derived.Test.YtlddahcgaonlhaaA10
set_option linter.all false
namespace Go.Abs
open Go

structure CI where
  d : Option Nat
  i : Ins
  g : Option (Nat × Bool)
  deriving Inhabited
inductive CC where
  | skip
  | reg (l : List CI)
  | dreg (l : List CI) (es : List (List Nat))
  | seq (a b : CC)
  | cond (c : Opd) (a b : CC)
  | block (id : Nat) (b : CC)
  | loop (b : CC)
  | exit (id : Nat)
  | ret
  | bad
  deriving Inhabited

def Ins.plain : Ins → Bool
  | .bad | .raw _ => false
  | _ => true
def rawI (P : Program) (N : Nat) (o : Oper) : Ins :=
  match compileOp P N o with
  | some (.raw _) => .bad
  | some i => i
  | none => match compileX P N o with
    | some x => .raw x
    | none => .bad
def compI (P : Program) (N : Nat) (ops : Array Oper) (o : Oper) : CI :=
  if o.dst.all (· < N) then
    match o.guard with
    | none => ⟨o.dst, rawI P N o, none⟩
    | some (j, b) => match (ops[j]?).bind (·.dst) with
      | some s => if s < N then ⟨o.dst, rawI P N o, some (s, b)⟩ else ⟨none, .bad, none⟩
      | none => ⟨none, .bad, none⟩
  else ⟨none, .bad, none⟩
def compR (P : Program) (N : Nat) (ops : Array Oper) : List CI := ops.toList.map (compI P N ops)
def edgesR (ops : Array Oper) : List (List Nat) := ops.toList.map fun o => (o.after.toList.filter (Region.binds .any)).map (·.on)
def compC (P : Program) (N : Nat) : Code → CC
  | .skip => .skip
  | .region _ ops d => if d then .dreg (compR P N ops) (edgesR ops) else .reg (compR P N ops)
  | .seq a b => .seq (compC P N a) (compC P N b)
  | .cond c a b => match ofOpd N c with
    | some c => .cond c (compC P N a) (compC P N b)
    | none => .bad
  | .block id b => .block id (compC P N b)
  | .loop b => .loop (compC P N b)
  | .exit id => .exit id
  | .ret => .ret
  | _ => .bad

def PA (N : Nat) (Q : Exit → Env → AHeap → Prop) (m : Inj) (h : AHeap) (w : World) : Exit → Act → World → Prop :=
  fun ex a' w' => ∃ m' e' h', HR m' h' w' ∧ ER N m' h' w' e' a' ∧ Step m h w m' h' w' ∧ Q ex e' h'
def AW (P : Program) (N : Nat) (c : CC) (Q : Exit → Env → AHeap → Prop) (e : Env) (h : AHeap) : Prop :=
  ∀ code, compC P N code = c → ∀ m w a, HR m h w → ER N m h w e a → code.wp P (PA N Q m h w) a w
def AL (P : Program) (N : Nat) (l : List CI) (Q : Exit → Env → AHeap → Prop) (e : Env) (h : AHeap) : Prop :=
  ∀ (ops : Array Oper) (idx : List Nat), (∀ i ∈ idx, i < ops.size) → idx.map (fun i => compI P N ops (ops.getD i default)) = l → ∀ m w a, HR m h w → ER N m h w e a → wpOps P ops (PA N Q m h w) idx a w
/-- The contract of function f. -/
def AC (P : Program) (f : Nat) (vs : List AV) (h : AHeap) (R : AV → AHeap → Prop) : Prop :=
  ∀ m w (cargs : Array Value), HR m h w → vs.length = cargs.size → (∀ i v, vs[i]? = some v → VR m h w v (cargs.getD i undef)) →
    Calls P f cargs w fun ex w' => ∃ v m' r h', ex = .returned v ∧ HR m' h' w' ∧ VR m' h' w' r v ∧ Step m h w m' h' w' ∧ R r h'

def putR (d : Option Nat) (r : Option AV) (e : Env) : Env :=
  match d with
  | some d => (d, r) :: e
  | none => e
def execCI (c : CI) (e : Env) (h : AHeap) : Option (Env × AHeap) :=
  match evalI h.next c.i e h.get with
  | some (r, f) => some (putR c.d r e, f.on h.next h)
  | none => none
def stepCI (c : CI) (e : Env) (h : AHeap) : Option (Env × AHeap) :=
  match c.g with
  | none => execCI c e h
  | some (s, b) => match lk s e with
    | some (.bool t) => if t = b then execCI c e h else some (putR c.d none e, h)
    | _ => none
/-- Run as far as it goes. -/
def runL : List CI → Env → AHeap → List CI × Env × AHeap
  | [], e, h => ([], e, h)
  | c :: l, e, h => match stepCI c e h with
    | some (e', h') => runL l e' h'
    | none => (c :: l, e, h)

section
variable {P : Program} {N : Nat} {Q : Exit → Env → AHeap → Prop} {e : Env} {h : AHeap}

theorem PA.mono {Q' : Exit → Env → AHeap → Prop} {m : Inj} {w : World} (hq : ∀ ex e h, Q ex e h → Q' ex e h) {ex : Exit} {a : Act} {w' : World} (hp : PA N Q m h w ex a w') : PA N Q' m h w ex a w' := by
  obtain ⟨m', e', h', h1, h2, h3, h4⟩ := hp
  exact ⟨m', e', h', h1, h2, h3, hq _ _ _ h4⟩
theorem PA.from {m m₁ : Inj} {h h₁ : AHeap} {w w₁ : World} (s : Step m h w m₁ h₁ w₁) {ex : Exit} {a : Act} {w' : World} (hp : PA N Q m₁ h₁ w₁ ex a w') : PA N Q m h w ex a w' := by
  obtain ⟨m', e', h', h1, h2, h3, h4⟩ := hp
  exact ⟨m', e', h', h1, h2, s.trans h3, h4⟩
theorem wpOps_mono {ops : Array Oper} {Q Q' : Exit → Act → World → Prop} (hq : ∀ ex a w, Q ex a w → Q' ex a w) : ∀ (l : List Nat) (a : Act) (w : World), wpOps P ops Q l a w → wpOps P ops Q' l a w
  | [], a, w, hw => hq _ _ _ hw
  | i :: l, a, w, hw => by
    simp only [wpOps] at hw ⊢
    split
    · rename_i ho; simp only [ho] at hw; exact wpOps_mono hq l _ _ hw
    · rename_i o ho
      simp only [ho] at hw
      split
      · rename_i hwant
        simp only [hwant, if_true] at hw
        rcases hw with hw | ⟨h1, a0, w0, h2⟩
        · left
          unfold Oper.wp at hw ⊢
          generalize (execOp a.eval o).run P w = r at hw ⊢
          cases r with
          | ok n w' =>
            cases n <;> simp only [Oper.upon] at hw ⊢ <;> first
              | exact wpOps_mono hq l _ _ hw
              | (refine Calls.mono hw fun ex w'' he => ?_
                 cases ex with
                 | returned v => exact wpOps_mono hq l _ _ he
                 | panicked ch => exact hq _ _ _ he
                 | outgrown => obtain ⟨a0, w0, h2⟩ := he; exact ⟨a0, w0, hq _ _ _ h2⟩)
              | exact Rows.mono hw fun _ _ he => wpOps_mono hq l _ _ he
              | exact hw
          | halt x w' => cases x <;> simp only [Oper.upon] at hw ⊢ <;> first | exact hq _ _ _ hw | exact hw
        · exact .inr ⟨h1, a0, w0, hq _ _ _ h2⟩
      · rename_i hwant
        simp only [hwant] at hw
        exact wpOps_mono hq l _ _ hw

theorem AL.nil (hq : Q .normal e h) : AL P N [] Q e h := by
  intro ops idx _ hl m w a hr he
  cases idx with
  | nil => exact ⟨m, e, h, hr, he, Step.refl _ _ _, hq⟩
  | cons i idx => simp at hl

theorem next_fresh {m : Inj} {w : World} (hr : HR m h w) : ¬ h.used h.next := fun hu => by
  have := hu.1
  omega

theorem evalI_plain {nm : Nat} {i : Ins} {g : Nat → Option AObj} {x : Option AV × Eff} (hx : evalI nm i e g = some x) : i.plain = true := by
  cases i <;> first
    | rfl
    | (simp [evalI] at hx; done)
theorem compI_raw {ops : Array Oper} {o : Oper} {c : CI} (hc : compI P N ops o = c) {x : Ex} (hr : c.i = .raw x) : compileX P N o = some x := by
  have key : rawI P N o = .raw x → compileX P N o = some x := fun h => by
    unfold rawI at h
    split at h
    · cases h
    · rename_i hne _; exact absurd h (hne _)
    · split at h
      · rename_i hx; rw [hx]; injection h with h; rw [h]
      · cases h
  unfold compI at hc
  split at hc
  · split at hc
    · subst hc; exact key hr
    · split at hc
      · split at hc
        · subst hc; exact key hr
        · subst hc; cases hr
      · subst hc; cases hr
  · subst hc; cases hr
theorem compI_ok {ops : Array Oper} {o : Oper} {c : CI} (hc : compI P N ops o = c) :
    (c.i = .bad ∧ c.g = none) ∨ (c.d = o.dst ∧ (∀ d, o.dst = some d → d < N) ∧ (c.i.plain = true → compileOp P N o = some c.i) ∧ (match o.guard with | none => c.g = none | some (j, b) => ∃ s, (ops[j]?).bind (·.dst) = some s ∧ c.g = some (s, b))) := by
  unfold compI at hc
  split at hc
  · rename_i hd
    have hd' : ∀ d, o.dst = some d → d < N := by
      intro d e; simpa [e] using hd
    have hco : ∀ g, (⟨o.dst, rawI P N o, g⟩ : CI) = c → c.d = o.dst ∧ (c.i.plain = true → compileOp P N o = some c.i) ∧ c.g = g := by
      intro g e
      subst e
      refine ⟨rfl, fun hb => ?_, rfl⟩
      simp only [rawI] at hb ⊢
      split at hb
      · cases hb
      · rename_i i hne hx
        simp only [hx]
      · split at hb <;> cases hb
    split at hc
    · obtain ⟨h1, h2, h3⟩ := hco _ hc
      exact .inr ⟨h1, hd', h2, h3⟩
    · split at hc
      · rename_i s hs
        split at hc
        · obtain ⟨h1, h2, h3⟩ := hco _ hc
          exact .inr ⟨h1, hd', h2, s, hs, h3⟩
        · subst hc; exact .inl ⟨rfl, rfl⟩
      · subst hc; exact .inl ⟨rfl, rfl⟩
  · subst hc; exact .inl ⟨rfl, rfl⟩

theorem ER.putR {m : Inj} {w : World} {a : Act} (he : ER N m h w e a) {dst : Option Nat} (hd : ∀ d, dst = some d → d < N) {v : AV} {c : Value} (hv : VR m h w v c) : ER N m h w (putR dst (some v) e) (a.put dst c) := by
  cases dst with
  | none => exact he
  | some d => exact he.put (hd d rfl) hv
theorem ER.skipR {m : Inj} {w : World} {a : Act} (he : ER N m h w e a) (dst : Option Nat) (c : Value) : ER N m h w (Go.Abs.putR dst none e) (a.put dst c) := by
  cases dst with
  | none => exact he
  | some d => exact he.skip d c

/-- Is the guard met? -/
theorem wanted_of {ops : Array Oper} {o : Oper} {c : CI} {m : Inj} {w : World} {a : Act} (he : ER N m h w e a) (hg : match o.guard with | none => c.g = none | some (j, b) => ∃ s, (ops[j]?).bind (·.dst) = some s ∧ c.g = some (s, b)) :
    (c.g = none → Region.wanted o (yielded ops a.tmps) = true) ∧ (∀ s b t, c.g = some (s, b) → lk s e = some (.bool t) → Region.wanted o (yielded ops a.tmps) = decide (t = b)) := by
  cases hgo : o.guard with
  | none =>
    simp only [hgo] at hg
    exact ⟨fun _ => by simp [Region.wanted, hgo], fun s b t h1 => by rw [hg] at h1; cases h1⟩
  | some jb =>
    obtain ⟨j, b0⟩ := jb
    simp only [hgo] at hg
    obtain ⟨s0, hs0, hg0⟩ := hg
    refine ⟨fun h1 => (by rw [hg0] at h1; cases h1), fun s b t h1 h2 => ?_⟩
    rw [hg0] at h1
    cases h1
    have hv := vr_bool (he.val s0 _ h2)
    have hy : yielded ops a.tmps j = some t := by
      unfold yielded
      rw [hs0]
      simp only [Option.bind_some]
      cases hx : a.tmps[s0]? with
      | none => simp [hx, undef] at hv
      | some x => simp [hx] at hv; subst hv; rfl
    simp only [Region.wanted, hgo, hy]
    cases t <;> cases b0 <;> rfl

theorem execCI_ok {ops : Array Oper} {idx : List Nat} {i : Nat} {o : Oper} {c : CI} {l : List CI} (ho : ops[i]? = some o) (hco : c.d = o.dst) (hdst : ∀ d, o.dst = some d → d < N) (hcomp : c.i.plain = true → compileOp P N o = some c.i) {e' : Env} {h' : AHeap} (hx : execCI c e h = some (e', h'))
    (hlt : ∀ j ∈ idx, j < ops.size) (hl : idx.map (fun i => compI P N ops (ops.getD i default)) = l) (hrest : AL P N l Q e' h') {m : Inj} {w : World} {a : Act} (hr : HR m h w) (he : ER N m h w e a) :
    o.wp P a w (wpOps P ops (PA N Q m h w) idx) (PA N Q m h w) := by
  unfold execCI at hx
  split at hx
  · rename_i r f hev
    cases hx
    obtain ⟨m', w', hr', st, hres⟩ := evalI_ok hr (next_fresh hr) he (hcomp (evalI_plain hev)) hev
    have hrest' : ∀ a', ER N m' (f.on h.next h) w' (putR c.d r e) a' → wpOps P ops (PA N Q m h w) idx a' w' := fun a' he' =>
      wpOps_mono (fun _ _ _ hp => PA.from st hp) idx _ _ (hrest ops idx hlt hl m' w' a' hr' he')
    unfold Oper.wp
    cases r with
    | some v =>
      obtain ⟨cv, hrun, hv⟩ := hres
      rw [hrun, Oper.upon_value]
      refine hrest' _ ?_
      rw [hco]
      exact (he.step st).putR hdst hv
    | none =>
      rw [hres, Oper.upon_skip]
      refine hrest' _ ?_
      rw [hco]
      exact (he.step st).skipR _ _
  · cases hx

theorem AL.step {c : CI} {l : List CI} {e' : Env} {h' : AHeap} (hx : stepCI c e h = some (e', h')) (hrest : AL P N l Q e' h') : AL P N (c :: l) Q e h := by
  intro ops idx hlt hl m w a hr he
  cases idx with
  | nil => simp at hl
  | cons i idx =>
    simp only [List.map_cons, List.cons.injEq] at hl
    obtain ⟨hc, hl⟩ := hl
    have hilt := hlt i (by simp)
    have ho : ops[i]? = some ops[i] := Array.getElem?_eq_getElem hilt
    have hget : ops.getD i default = ops[i] := by simp [hilt]
    rw [hget] at hc
    have hlt' : ∀ j ∈ idx, j < ops.size := fun j hj => hlt j (by simp [hj])
    rcases compI_ok hc with ⟨hb1, hb2⟩ | ⟨hd, hdst, hcomp, hg⟩
    · simp [stepCI, hb2, execCI, hb1, evalI] at hx
    · obtain ⟨w1, w2⟩ := wanted_of he hg
      simp only [wpOps, ho]
      unfold stepCI at hx
      split at hx
      · rename_i hgn
        rw [w1 hgn, if_pos rfl]
        exact .inl (execCI_ok ho hd hdst hcomp hx hlt' hl hrest hr he)
      · rename_i s b hgs
        split at hx
        · rename_i t hlk
          rw [w2 s b t hgs hlk]
          split at hx
          · rename_i htb
            simp only [htb, decide_true, if_true]
            exact .inl (execCI_ok ho hd hdst hcomp hx hlt' hl hrest hr he)
          · rename_i htb
            cases hx
            simp only [htb, decide_false, Bool.false_eq_true, if_false]
            refine hrest ops idx hlt' hl m w _ hr ?_
            rw [hd]
            exact he.skipR _ _
        · cases hx
end
end Go.Abs
