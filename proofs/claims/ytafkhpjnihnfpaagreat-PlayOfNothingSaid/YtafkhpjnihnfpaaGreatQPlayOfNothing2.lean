/- What the statement's proof needs, part 2. -/
import Derived.Test.YtafkhpjnihnfpaaGreatQPlayOfNothing1
set_option linter.all false
namespace Go.Abs
open Go

section
variable {P : Program} {N : Nat} {m : Inj} {h : AHeap} {w : World} {e : Env} {a : Act} {nm : Nat} {o : Oper}

theorem evalI_ok (hr : HR m h w) (hf : ¬ h.used nm) (he : ER N m h w e a) {i : Ins} (hc : compileOp P N o = some i) {r : Option AV} {f : Eff} (hv : evalI nm i e h.get = some (r, f)) : OpOK P o a m h w nm r f := by
  cases hop : o.op <;> simp only [compileOp, hop] at hc <;> try (cases hc; done)
  case move x => obtain ⟨y, hy, rfl⟩ := mapOpd hc; exact ok_mov hr he (.inl hop) hy hv
  case assign x => obtain ⟨y, hy, rfl⟩ := mapOpd hc; exact ok_mov hr he (.inr hop) hy hv
  case pick c x y =>
    split at hc
    · rename_i h1 h2 h3; cases hc; exact ok_pick hr he hop h1 h2 h3 hv
    · cases hc
  case alloc t =>
    split at hc
    · rename_i z hz
      cases hi : P.info? t with
      | none => simp [hi] at hz
      | some i =>
        simp [hi] at hz
        split at hc
        · cases hc
        · cases hzs : ofL ofV z.cells.toList with
          | none => simp [hzs] at hc
          | some zs => simp [hzs] at hc; subst hc; exact ok_alloc hr hf hi hz hzs hop hv
    · cases hc
  case box t x =>
    split at hc
    · rename_i i y h1 h2; cases hc; exact ok_box hr hf he h1 hop h2 hv
    · cases hc
  case build t ps =>
    split at hc
    · rename_i fs z hu hz
      cases hi : P.info? t with
      | none => simp [hi] at hz
      | some it =>
        simp [hi] at hz
        split at hc
        · rename_i zs q hzs hq
          split at hc
          · rename_i hall; cases hc; exact ok_build_struct hr he hu hi hz hzs hall hq hop hv
          · cases hc
        · cases hc
    · rename_i n el z hu hz
      cases hi : P.info? t with
      | none => simp [hi] at hz
      | some it =>
        simp [hi] at hz
        split at hc
        · rename_i ie hie
          split at hc
          · rename_i zs q hzs hq; cases hc; exact ok_build_array hr he hu hi hie hz hzs hq hop hv
          · cases hc
        · cases hc
    · cases hc
  case buildSlice t n ps =>
    split at hc
    · rename_i el hu
      split at hc
      · rename_i i hi
        split at hc
        · rename_i h0
          cases hc
          obtain ⟨rfl, hps⟩ := h0
          have : ps = #[] := by simpa using hps
          subst this
          exact ok_bsl0 hr hu hi hop hv
        · split at hc
          · rename_i xs z hxs hz
            split at hc
            · rename_i hcond; cases hc; exact ok_bsl hr he hu hi hz hxs hcond.1 hcond.2.1 hcond.2.2.1 hcond.2.2.2.1 hcond.2.2.2.2 hop hv
            · cases hc
          · cases hc
      · cases hc
    · cases hc
  case load t x =>
    split at hc
    · rename_i sz ag y h1 h2
      split at hc
      · rename_i hag; cases hc; exact ok_load hr he h1 hag hop h2 hv
      · cases hc
    · cases hc
  case store t x y =>
    split at hc
    · rename_i i x' y' h1 h2 h3; cases hc; exact ok_store hr he h1 hop h2 h3 hv
    · cases hc
  case nilCheck x => obtain ⟨y, hy, rfl⟩ := mapOpd hc; exact ok_nilck hr he hop hy hv
  case binOp op t x y u =>
    split at hc
    · rename_i x' y' h1 h2
      have eqc : ∀ {neg : Bool}, op = .eql ∧ neg = false ∨ op = .neq ∧ neg = true → (match (generalizing := false) P.underlying t with
          | some (.int _) => some (.bin op x' y')
          | some (.slice _) => match (generalizing := false) y with
            | .const (.slice none 0 0) => some (.isnil neg x')
            | _ => none
          | _ => (eqKind P t y).map fun k => .eqv k neg x' y') = some i → OpOK P o a m h w nm r f := by
        intro neg hn hc
        split at hc
        · cases hc; exact ok_bin hr he hop h1 h2 hv
        · rename_i el hu
          split at hc
          · cases hc; exact ok_isnil hr he hn hu hop h1 hv
          · cases hc
        · cases hk : eqKind P t y with
          | none => simp [hk] at hc
          | some k => simp [hk] at hc; subst hc; exact ok_eqv hr he hn hk hop h1 h2 hv
      cases op <;> simp only at hc
      case shl => cases hc; exact ok_sh hr he hop h1 h2 hv
      case shr => cases hc; exact ok_sh hr he hop h1 h2 hv
      case eql => exact eqc (.inl ⟨rfl, rfl⟩) hc
      case neq => exact eqc (.inr ⟨rfl, rfl⟩) hc
      all_goals (cases hc; exact ok_bin hr he hop h1 h2 hv)
    · cases hc
  case unOp op t x =>
    cases op <;> simp only at hc <;> try (cases hc; done)
    obtain ⟨y, hy, rfl⟩ := mapOpd hc; exact ok_not hr he hop hy hv
  case convert s d x =>
    split at hc
    · rename_i k0 k x' h1 h2 h3; cases hc; exact ok_conv hr he h1 h2 hop h3 hv
    · rename_i el x' h1 h2 h3
      split at hc
      · rename_i hel; cases hc; exact ok_b2s hr he h1 h2 hel hop h3 hv
      · cases hc
    · cases hc
  case makeFunc fn xs ys =>
    split at hc
    · rename_i xs' ys' h1 h2; cases hc; exact ok_mkf hr he hop h1 h2 hv
    · cases hc
  case makeSlice t l c =>
    split at hc
    · rename_i el l' c' hu h1 h2
      split at hc
      · rename_i i hi
        split at hc
        · rename_i z hz
          split at hc
          · rename_i zs hzs
            split at hc
            · rename_i hcond; cases hc; exact ok_mksl hr hf he hu hi hz hzs hcond.1 hcond.2.1 hcond.2.2 hop h1 h2 hv
            · cases hc
          · cases hc
        · cases hc
      · cases hc
    · cases hc
  case slice t x lo hi mx =>
    cases mx <;> simp only at hc <;> try (cases hc; done)
    split at hc
    · rename_i el x' hu h1
      split at hc
      · rename_i inf hi'
        cases lo <;> cases hi <;> simp only at hc
        · cases hc; exact ok_slc (lo := none) (hi' := none) (lo' := none) (hj' := none) hr he hu hi' hop h1 trivial trivial hv
        · rename_i rr
          cases hr' : ofOpd N rr with
          | none => simp [hr'] at hc
          | some r' => simp [hr'] at hc; subst hc; exact ok_slc (lo := none) (hi' := some rr) (lo' := none) (hj' := some r') hr he hu hi' hop h1 trivial hr' hv
        · rename_i ll
          cases hl' : ofOpd N ll with
          | none => simp [hl'] at hc
          | some l' => simp [hl'] at hc; subst hc; exact ok_slc (lo := some ll) (hi' := none) (lo' := some l') (hj' := none) hr he hu hi' hop h1 hl' trivial hv
        · rename_i ll rr
          split at hc
          · rename_i l' r' hl' hr'; cases hc; exact ok_slc (lo := some ll) (hi' := some rr) (lo' := some l') (hj' := some r') hr he hu hi' hop h1 hl' hr' hv
          · cases hc
      · cases hc
    · cases hc
  case fieldAddr s x fi =>
    split at hc
    · rename_i fs x' hu h1
      split at hc
      · rename_i fd hfd
        split at hc
        · rename_i i hi
          split at hc
          · rename_i hz; cases hc; exact ok_faddr hr he hu hfd hi hz hop h1 hv
          · cases hc
        · cases hc
      · cases hc
    · cases hc
  case field s x fi =>
    split at hc
    · rename_i fs x' hu h1
      split at hc
      · rename_i fd hfd
        split at hc
        · rename_i sz ag ht
          split at hc
          · rename_i hag; cases hc; exact ok_fld hr he hu hfd ht hag hop h1 hv
          · cases hc
        · cases hc
      · cases hc
    · cases hc
  case indexAddr t x y =>
    split at hc
    · rename_i el x' y' hu h1 h2
      split at hc
      · rename_i inf hi; cases hc; exact ok_iaddr hr he hu hi hop h1 h2 hv
      · cases hc
    · rename_i n el x' y' hu h1 h2
      split at hc
      · rename_i inf hi; cases hc; exact ok_iaddrA hr he hu hi hop h1 h2 hv
      · cases hc
    · cases hc
  case extract x n => obtain ⟨y, hy, rfl⟩ := mapOpd hc; exact ok_ext hr he hop hy hv
  case call c =>
    split at hc
    · rename_i hcal
      split at hc
      · rename_i x t ha hat
        split at hc
        · rename_i el x' hu h1; cases hc; exact ok_len hr he hop hcal ha hat hu h1 hv
        · cases hc
      · cases hc
    · rename_i hcal
      split at hc
      · rename_i s x t u ha hat
        split at hc
        · rename_i el el' s' x' hu hu' h1 h2
          split at hc
          · rename_i inf hi
            split at hc
            · rename_i z hz
              split at hc
              · rename_i hcond
                cases hc
                obtain ⟨_, rfl, c1, c2, c3⟩ := hcond
                exact ok_app hr hf he hop hcal ha hat hu hi hz c1 c2 c3 h1 h2 hv
              · cases hc
            · cases hc
          · cases hc
        · cases hc
      · cases hc
    · rename_i hcal
      split at hc
      · rename_i d s t ha hat
        split at hc
        · rename_i el d' s' hu h1 h2
          split at hc
          · rename_i inf hi; cases hc; exact ok_cpy hr he hop hcal ha hat hu hi h1 h2 hv
          · cases hc
        · cases hc
      · cases hc
    · rename_i hcal
      split at hc
      · rename_i x y ha
        split at hc
        · rename_i x' y' h1 h2; cases hc; exact ok_mn hr he hop hcal ha h1 h2 hv
        · cases hc
      · cases hc
    · split at hc
      · split at hc
        · cases hc; simp [evalI] at hv
        · cases hc
      · cases hc
    · split at hc
      · cases hc; simp [evalI] at hv
      · cases hc
    · cases hc
end
end Go.Abs

namespace Go.Abs
open Go

structure CI where
  d : Option Nat
  i : Ins
  g : Option (Nat × Bool)
  deriving Inhabited
inductive CC where
  | skip
  | reg (l : List CI)
  | dreg (l : List CI) (es : List (List Nat))
  | seq (a b : CC)
  | cond (c : Opd) (a b : CC)
  | block (id : Nat) (b : CC)
  | loop (b : CC)
  | exit (id : Nat)
  | ret
  | rangeF (g : Opd) (ps : List Nat) (a b : CC)
  | bad
  deriving Inhabited

def Ins.plain : Ins → Bool
  | .bad | .raw _ => false
  | _ => true
def rawI (P : Program) (N : Nat) (o : Oper) : Ins :=
  match compileOp P N o with
  | some (.raw _) => .bad
  | some i => i
  | none => match compileX P N o with
    | some x => .raw x
    | none => .bad
def compI (P : Program) (N : Nat) (ops : Array Oper) (o : Oper) : CI :=
  if o.dst.all (· < N) then
    match o.guard with
    | none => ⟨o.dst, rawI P N o, none⟩
    | some (j, b) => match (ops[j]?).bind (·.dst) with
      | some s => if s < N then ⟨o.dst, rawI P N o, some (s, b)⟩ else ⟨none, .bad, none⟩
      | none => ⟨none, .bad, none⟩
  else ⟨none, .bad, none⟩
def compR (P : Program) (N : Nat) (ops : Array Oper) : List CI := ops.toList.map (compI P N ops)
def edgesR (ops : Array Oper) : List (List Nat) := ops.toList.map fun o => (o.after.toList.filter (Region.binds .any)).map (·.on)
def compC (P : Program) (N : Nat) : Code → CC
  | .skip => .skip
  | .region _ ops d => if d then .dreg (compR P N ops) (edgesR ops) else .reg (compR P N ops)
  | .seq a b => .seq (compC P N a) (compC P N b)
  | .cond c a b => match ofOpd N c with
    | some c => .cond c (compC P N a) (compC P N b)
    | none => .bad
  | .block id b => .block id (compC P N b)
  | .loop b => .loop (compC P N b)
  | .exit id => .exit id
  | .ret => .ret
  | .rangeFunc g ps a b => match ofOpd N g with
    | some g => .rangeF g ps.toList (compC P N a) (compC P N b)
    | none => .bad
  | _ => .bad

def PA (N : Nat) (Q : Exit → Env → AHeap → Prop) (m : Inj) (h : AHeap) (w : World) : Exit → Act → World → Prop :=
  fun ex a' w' => ∃ m' e' h', HR m' h' w' ∧ ER N m' h' w' e' a' ∧ Step m h w m' h' w' ∧ Q ex e' h'
def AW (P : Program) (N : Nat) (c : CC) (Q : Exit → Env → AHeap → Prop) (e : Env) (h : AHeap) : Prop :=
  ∀ code, compC P N code = c → ∀ m w a, HR m h w → ER N m h w e a → code.wp P (PA N Q m h w) a w
def AL (P : Program) (N : Nat) (l : List CI) (Q : Exit → Env → AHeap → Prop) (e : Env) (h : AHeap) : Prop :=
  ∀ (ops : Array Oper) (idx : List Nat), (∀ i ∈ idx, i < ops.size) → idx.map (fun i => compI P N ops (ops.getD i default)) = l → ∀ m w a, HR m h w → ER N m h w e a → wpOps P ops (PA N Q m h w) idx a w
/-- The contract of function f. -/
def AC (P : Program) (f : Nat) (vs : List AV) (h : AHeap) (R : AV → AHeap → Prop) : Prop :=
  ∀ m w (cargs : Array Value), HR m h w → vs.length = cargs.size → (∀ i v, vs[i]? = some v → VR m h w v (cargs.getD i undef)) →
    Calls P f cargs w fun ex w' => ∃ v m' r h', ex = .returned v ∧ HR m' h' w' ∧ VR m' h' w' r v ∧ Step m h w m' h' w' ∧ R r h'

def putR (d : Option Nat) (r : Option AV) (e : Env) : Env :=
  match d with
  | some d => (d, r) :: e
  | none => e
def execCI (c : CI) (e : Env) (h : AHeap) : Option (Env × AHeap) :=
  match evalI h.next c.i e h.get with
  | some (r, f) => some (putR c.d r e, f.on h.next h)
  | none => none
def stepCI (c : CI) (e : Env) (h : AHeap) : Option (Env × AHeap) :=
  match c.g with
  | none => execCI c e h
  | some (s, b) => match lk s e with
    | some (.bool t) => if t = b then execCI c e h else some (putR c.d none e, h)
    | _ => none
/-- Run as far as it goes. -/
def runL : List CI → Env → AHeap → List CI × Env × AHeap
  | [], e, h => ([], e, h)
  | c :: l, e, h => match stepCI c e h with
    | some (e', h') => runL l e' h'
    | none => (c :: l, e, h)

section
variable {P : Program} {N : Nat} {Q : Exit → Env → AHeap → Prop} {e : Env} {h : AHeap}

theorem PA.mono {Q' : Exit → Env → AHeap → Prop} {m : Inj} {w : World} (hq : ∀ ex e h, Q ex e h → Q' ex e h) {ex : Exit} {a : Act} {w' : World} (hp : PA N Q m h w ex a w') : PA N Q' m h w ex a w' := by
  obtain ⟨m', e', h', h1, h2, h3, h4⟩ := hp
  exact ⟨m', e', h', h1, h2, h3, hq _ _ _ h4⟩
theorem PA.from {m m₁ : Inj} {h h₁ : AHeap} {w w₁ : World} (s : Step m h w m₁ h₁ w₁) {ex : Exit} {a : Act} {w' : World} (hp : PA N Q m₁ h₁ w₁ ex a w') : PA N Q m h w ex a w' := by
  obtain ⟨m', e', h', h1, h2, h3, h4⟩ := hp
  exact ⟨m', e', h', h1, h2, s.trans h3, h4⟩
theorem wpOps_mono {ops : Array Oper} {Q Q' : Exit → Act → World → Prop} (hq : ∀ ex a w, Q ex a w → Q' ex a w) : ∀ (l : List Nat) (a : Act) (w : World), wpOps P ops Q l a w → wpOps P ops Q' l a w
  | [], a, w, hw => hq _ _ _ hw
  | i :: l, a, w, hw => by
    simp only [wpOps] at hw ⊢
    split
    · rename_i ho; simp only [ho] at hw; exact wpOps_mono hq l _ _ hw
    · rename_i o ho
      simp only [ho] at hw
      split
      · rename_i hwant
        simp only [hwant, if_true] at hw
        rcases hw with hw | ⟨h1, a0, w0, h2⟩
        · left
          unfold Oper.wp at hw ⊢
          generalize (execOp a.eval o).run P w = r at hw ⊢
          cases r with
          | ok n w' =>
            cases n <;> simp only [Oper.upon] at hw ⊢ <;> first
              | exact wpOps_mono hq l _ _ hw
              | (refine Calls.mono hw fun ex w'' he => ?_
                 cases ex with
                 | returned v => exact wpOps_mono hq l _ _ he
                 | panicked ch => exact hq _ _ _ he
                 | outgrown => obtain ⟨a0, w0, h2⟩ := he; exact ⟨a0, w0, hq _ _ _ h2⟩)
              | exact Rows.mono hw fun _ _ he => wpOps_mono hq l _ _ he
              | exact hw
          | halt x w' => cases x <;> simp only [Oper.upon] at hw ⊢ <;> first | exact hq _ _ _ hw | exact hw
        · exact .inr ⟨h1, a0, w0, hq _ _ _ h2⟩
      · rename_i hwant
        simp only [hwant] at hw
        exact wpOps_mono hq l _ _ hw

theorem AL.nil (hq : Q .normal e h) : AL P N [] Q e h := by
  intro ops idx _ hl m w a hr he
  cases idx with
  | nil => exact ⟨m, e, h, hr, he, Step.refl _ _ _, hq⟩
  | cons i idx => simp at hl

theorem next_fresh {m : Inj} {w : World} (hr : HR m h w) : ¬ h.used h.next := fun hu => by
  have := hu.1
  omega

theorem evalI_plain {nm : Nat} {i : Ins} {g : Nat → Option AObj} {x : Option AV × Eff} (hx : evalI nm i e g = some x) : i.plain = true := by
  cases i <;> first
    | rfl
    | (simp [evalI] at hx; done)
theorem compI_raw {ops : Array Oper} {o : Oper} {c : CI} (hc : compI P N ops o = c) {x : Ex} (hr : c.i = .raw x) : compileX P N o = some x := by
  have key : rawI P N o = .raw x → compileX P N o = some x := fun h => by
    unfold rawI at h
    split at h
    · cases h
    · rename_i hne _; exact absurd h (hne _)
    · split at h
      · rename_i hx; rw [hx]; injection h with h; rw [h]
      · cases h
  unfold compI at hc
  split at hc
  · split at hc
    · subst hc; exact key hr
    · split at hc
      · split at hc
        · subst hc; exact key hr
        · subst hc; cases hr
      · subst hc; cases hr
  · subst hc; cases hr
theorem compI_ok {ops : Array Oper} {o : Oper} {c : CI} (hc : compI P N ops o = c) :
    (c.i = .bad ∧ c.g = none) ∨ (c.d = o.dst ∧ (∀ d, o.dst = some d → d < N) ∧ (c.i.plain = true → compileOp P N o = some c.i) ∧ (match o.guard with | none => c.g = none | some (j, b) => ∃ s, (ops[j]?).bind (·.dst) = some s ∧ c.g = some (s, b))) := by
  unfold compI at hc
  split at hc
  · rename_i hd
    have hd' : ∀ d, o.dst = some d → d < N := by
      intro d e; simpa [e] using hd
    have hco : ∀ g, (⟨o.dst, rawI P N o, g⟩ : CI) = c → c.d = o.dst ∧ (c.i.plain = true → compileOp P N o = some c.i) ∧ c.g = g := by
      intro g e
      subst e
      refine ⟨rfl, fun hb => ?_, rfl⟩
      simp only [rawI] at hb ⊢
      split at hb
      · cases hb
      · rename_i i hne hx
        simp only [hx]
      · split at hb <;> cases hb
    split at hc
    · obtain ⟨h1, h2, h3⟩ := hco _ hc
      exact .inr ⟨h1, hd', h2, h3⟩
    · split at hc
      · rename_i s hs
        split at hc
        · obtain ⟨h1, h2, h3⟩ := hco _ hc
          exact .inr ⟨h1, hd', h2, s, hs, h3⟩
        · subst hc; exact .inl ⟨rfl, rfl⟩
      · subst hc; exact .inl ⟨rfl, rfl⟩
  · subst hc; exact .inl ⟨rfl, rfl⟩

theorem ER.putR {m : Inj} {w : World} {a : Act} (he : ER N m h w e a) {dst : Option Nat} (hd : ∀ d, dst = some d → d < N) {v : AV} {c : Value} (hv : VR m h w v c) : ER N m h w (putR dst (some v) e) (a.put dst c) := by
  cases dst with
  | none => exact he
  | some d => exact he.put (hd d rfl) hv
theorem ER.skipR {m : Inj} {w : World} {a : Act} (he : ER N m h w e a) (dst : Option Nat) (c : Value) : ER N m h w (Go.Abs.putR dst none e) (a.put dst c) := by
  cases dst with
  | none => exact he
  | some d => exact he.skip d c

/-- Is the guard met? -/
theorem wanted_of {ops : Array Oper} {o : Oper} {c : CI} {m : Inj} {w : World} {a : Act} (he : ER N m h w e a) (hg : match o.guard with | none => c.g = none | some (j, b) => ∃ s, (ops[j]?).bind (·.dst) = some s ∧ c.g = some (s, b)) :
    (c.g = none → Region.wanted o (yielded ops a.tmps) = true) ∧ (∀ s b t, c.g = some (s, b) → lk s e = some (.bool t) → Region.wanted o (yielded ops a.tmps) = decide (t = b)) := by
  cases hgo : o.guard with
  | none =>
    simp only [hgo] at hg
    exact ⟨fun _ => by simp [Region.wanted, hgo], fun s b t h1 => by rw [hg] at h1; cases h1⟩
  | some jb =>
    obtain ⟨j, b0⟩ := jb
    simp only [hgo] at hg
    obtain ⟨s0, hs0, hg0⟩ := hg
    refine ⟨fun h1 => (by rw [hg0] at h1; cases h1), fun s b t h1 h2 => ?_⟩
    rw [hg0] at h1
    cases h1
    have hv := vr_bool (he.val s0 _ h2)
    have hy : yielded ops a.tmps j = some t := by
      unfold yielded
      rw [hs0]
      simp only [Option.bind_some]
      cases hx : a.tmps[s0]? with
      | none => simp [hx, undef] at hv
      | some x => simp [hx] at hv; subst hv; rfl
    simp only [Region.wanted, hgo, hy]
    cases t <;> cases b0 <;> rfl

theorem execCI_ok {ops : Array Oper} {idx : List Nat} {i : Nat} {o : Oper} {c : CI} {l : List CI} (ho : ops[i]? = some o) (hco : c.d = o.dst) (hdst : ∀ d, o.dst = some d → d < N) (hcomp : c.i.plain = true → compileOp P N o = some c.i) {e' : Env} {h' : AHeap} (hx : execCI c e h = some (e', h'))
    (hlt : ∀ j ∈ idx, j < ops.size) (hl : idx.map (fun i => compI P N ops (ops.getD i default)) = l) (hrest : AL P N l Q e' h') {m : Inj} {w : World} {a : Act} (hr : HR m h w) (he : ER N m h w e a) :
    o.wp P a w (wpOps P ops (PA N Q m h w) idx) (PA N Q m h w) := by
  unfold execCI at hx
  split at hx
  · rename_i r f hev
    cases hx
    obtain ⟨m', w', hr', st, hres⟩ := evalI_ok hr (next_fresh hr) he (hcomp (evalI_plain hev)) hev
    have hrest' : ∀ a', ER N m' (f.on h.next h) w' (putR c.d r e) a' → wpOps P ops (PA N Q m h w) idx a' w' := fun a' he' =>
      wpOps_mono (fun _ _ _ hp => PA.from st hp) idx _ _ (hrest ops idx hlt hl m' w' a' hr' he')
    unfold Oper.wp
    cases r with
    | some v =>
      obtain ⟨cv, hrun, hv⟩ := hres
      rw [hrun, Oper.upon_value]
      refine hrest' _ ?_
      rw [hco]
      exact (he.step st).putR hdst hv
    | none =>
      rw [hres, Oper.upon_skip]
      refine hrest' _ ?_
      rw [hco]
      exact (he.step st).skipR _ _
  · cases hx

theorem AL.step {c : CI} {l : List CI} {e' : Env} {h' : AHeap} (hx : stepCI c e h = some (e', h')) (hrest : AL P N l Q e' h') : AL P N (c :: l) Q e h := by
  intro ops idx hlt hl m w a hr he
  cases idx with
  | nil => simp at hl
  | cons i idx =>
    simp only [List.map_cons, List.cons.injEq] at hl
    obtain ⟨hc, hl⟩ := hl
    have hilt := hlt i (by simp)
    have ho : ops[i]? = some ops[i] := Array.getElem?_eq_getElem hilt
    have hget : ops.getD i default = ops[i] := by simp [hilt]
    rw [hget] at hc
    have hlt' : ∀ j ∈ idx, j < ops.size := fun j hj => hlt j (by simp [hj])
    rcases compI_ok hc with ⟨hb1, hb2⟩ | ⟨hd, hdst, hcomp, hg⟩
    · simp [stepCI, hb2, execCI, hb1, evalI] at hx
    · obtain ⟨w1, w2⟩ := wanted_of he hg
      simp only [wpOps, ho]
      unfold stepCI at hx
      split at hx
      · rename_i hgn
        rw [w1 hgn, if_pos rfl]
        exact .inl (execCI_ok ho hd hdst hcomp hx hlt' hl hrest hr he)
      · rename_i s b hgs
        split at hx
        · rename_i t hlk
          rw [w2 s b t hgs hlk]
          split at hx
          · rename_i htb
            simp only [htb, decide_true, if_true]
            exact .inl (execCI_ok ho hd hdst hcomp hx hlt' hl hrest hr he)
          · rename_i htb
            cases hx
            simp only [htb, decide_false, Bool.false_eq_true, if_false]
            refine hrest ops idx hlt' hl m w _ hr ?_
            rw [hd]
            exact he.skipR _ _
        · cases hx
end
end Go.Abs

namespace Go.Abs
open Go

def thenQ (K : Env → AHeap → Prop) (Q : Exit → Env → AHeap → Prop) : Exit → Env → AHeap → Prop
  | .normal, e, h => K e h
  | ex, e, h => Q ex e h
def blockQ (id : Nat) (Q : Exit → Env → AHeap → Prop) : Exit → Env → AHeap → Prop
  | .exit id', e, h => if id' = id then Q .normal e h else Q (.exit id') e h
  | ex, e, h => Q ex e h

/-- A function that may be called: it has a body. -/
def bodied (P : Program) (f : Nat) : Bool :=
  match P.funcs[f]? with
  | some fn => fn.body.isSome && fn.name != "runtime.NumGoroutine"
  | none => false

section
variable {P : Program} {N : Nat} {Q : Exit → Env → AHeap → Prop} {e : Env} {h : AHeap}

theorem AL.mono {l : List CI} {Q' : Exit → Env → AHeap → Prop} (hw : AL P N l Q e h) (hq : ∀ ex e h, Q ex e h → Q' ex e h) : AL P N l Q' e h :=
  fun ops idx h1 h2 m w a hr he => wpOps_mono (fun _ _ _ hp => PA.mono hq hp) idx _ _ (hw ops idx h1 h2 m w a hr he)
theorem AW.mono {c : CC} {Q' : Exit → Env → AHeap → Prop} (hw : AW P N c Q e h) (hq : ∀ ex e h, Q ex e h → Q' ex e h) : AW P N c Q' e h :=
  fun code hc m w a hr he => wp_mono (hw code hc m w a hr he) fun _ _ _ hp => PA.mono hq hp

theorem AL.run : ∀ {l : List CI} {e : Env} {h : AHeap} {l' : List CI} {e' : Env} {h' : AHeap}, runL l e h = (l', e', h') → AL P N l' Q e' h' → AL P N l Q e h
  | [], e, h, l', e', h', hx, hw => by simp [runL] at hx; obtain ⟨rfl, rfl, rfl⟩ := hx; exact hw
  | c :: l, e, h, l', e', h', hx, hw => by
    simp only [runL] at hx
    split at hx
    · rename_i e1 h1 hs; exact AL.step hs (AL.run hx hw)
    · simp only [Prod.mk.injEq] at hx; obtain ⟨rfl, rfl, rfl⟩ := hx; exact hw

theorem AW.skip (hq : Q .normal e h) : AW P N .skip Q e h := by
  intro code hc m w a hr he
  cases code <;> simp only [compC] at hc <;> try (cases hc; done)
  · exact wp_skip ⟨m, e, h, hr, he, Step.refl _ _ _, hq⟩
  · split at hc <;> cases hc
  · split at hc <;> cases hc
  · split at hc <;> cases hc
theorem AW.exit {id : Nat} (hq : Q (.exit id) e h) : AW P N (.exit id) Q e h := by
  intro code hc m w a hr he
  cases code <;> simp only [compC] at hc <;> try (cases hc; done)
  · split at hc <;> cases hc
  · split at hc <;> cases hc
  · split at hc <;> cases hc
  · cases hc; exact wp_exit ⟨m, e, h, hr, he, Step.refl _ _ _, hq⟩
theorem AW.ret (hq : Q .ret e h) : AW P N .ret Q e h := by
  intro code hc m w a hr he
  cases code <;> simp only [compC] at hc <;> try (cases hc; done)
  · split at hc <;> cases hc
  · split at hc <;> cases hc
  · split at hc <;> cases hc
  · exact wp_ret ⟨m, e, h, hr, he, Step.refl _ _ _, hq⟩
theorem AW.seq {x y : CC} (hw : AW P N x (thenQ (fun e h => AW P N y Q e h) Q) e h) : AW P N (.seq x y) Q e h := by
  intro code hc m w a hr he
  cases code <;> simp only [compC] at hc <;> try (cases hc; done)
  · split at hc <;> cases hc
  · rename_i cx cy
    cases hc
    refine wp_seq (wp_mono (hw cx rfl m w a hr he) fun ex a' w' hp => ?_)
    obtain ⟨m', e', h', h1, h2, h3, h4⟩ := hp
    cases ex <;> first
      | exact ⟨m', e', h', h1, h2, h3, h4⟩
      | exact wp_mono (h4 cy rfl m' w' a' h1 h2) fun _ _ _ hp => PA.from h3 hp
  · split at hc <;> cases hc
  · split at hc <;> cases hc
theorem AW.cond {c : Opd} {x y : CC} {t : Bool} (hc : ev e c = some (.bool t)) (hw : AW P N (if t then x else y) Q e h) : AW P N (.cond c x y) Q e h := by
  intro code hcc m w a hr he
  cases code <;> simp only [compC] at hcc <;> try (cases hcc; done)
  · split at hcc <;> cases hcc
  · split at hcc
    · rename_i c0 hc0
      cases hcc
      refine wp_cond (t := t) (vr_bool (he.eval hc0 hc)) ?_
      cases t
      · exact hw _ rfl m w a hr he
      · exact hw _ rfl m w a hr he
    · cases hcc
  · split at hcc <;> cases hcc
theorem AW.block {id : Nat} {x : CC} (hw : AW P N x (blockQ id Q) e h) : AW P N (.block id x) Q e h := by
  intro code hc m w a hr he
  cases code <;> simp only [compC] at hc <;> try (cases hc; done)
  · split at hc <;> cases hc
  · split at hc <;> cases hc
  · cases hc
    refine wp_block (wp_mono (hw _ rfl m w a hr he) fun ex a' w' hp => ?_)
    obtain ⟨m', e', h', h1, h2, h3, h4⟩ := hp
    cases ex <;> first
      | exact ⟨m', e', h', h1, h2, h3, h4⟩
      | (simp only [Exit.inBlock, blockQ] at h4 ⊢
         split at h4
         · rename_i e; rw [if_pos e]; exact ⟨m', e', h', h1, h2, h3, h4⟩
         · rename_i e; rw [if_neg e]; exact ⟨m', e', h', h1, h2, h3, h4⟩)
  · split at hc <;> cases hc
theorem AW.reg {l : List CI} (hw : AL P N l Q e h) : AW P N (.reg l) Q e h := by
  intro code hc m w a hr he
  cases code <;> simp only [compC] at hc <;> try (cases hc; done)
  · rename_i id ops d
    split at hc
    · cases hc
    · rename_i hd
      cases hc
      have hd' : d = false := by simpa using hd
      subst hd'
      refine wp_region (hw ops (List.range ops.size) (fun i hi => by simpa using hi) ?_ m w a hr he)
      simp only [compR]
      apply List.ext_getElem
      · simp
      · intro i h1 h2
        simp at h1 h2
        simp [h1]
  · split at hc <;> cases hc
  · split at hc <;> cases hc

theorem wp_loop_ix {P : Program} {σ : Type} {c : Code} {Q : Exit → Act → World → Prop} (I : σ → Act → World → Prop) (μ : σ → Nat) (s₀ : σ) {a : Act} {w : World} (h₀ : I s₀ a w)
    (round : ∀ s a w, I s a w → c.wp P (Exit.then (fun a' w' => ∃ s', I s' a' w' ∧ μ s' < μ s) Q) a w) : (Code.loop c).wp P Q a w := by
  intro b k cs
  have key : ∀ n s a w, μ s = n → I s a w → ∃ e a' w', Q e a' w' ∧ Arrives P (lone (b.at a (.code c :: .inLoop c :: k)) cs w) b k cs e a' w' := by
    intro n
    induction n using Nat.strongRecOn with
    | _ n ih =>
      intro s a w hn hI
      obtain ⟨e, a₁, w₁, hq, harr⟩ := round s a w hI b (.inLoop c :: k) cs
      cases e with
      | normal =>
        obtain ⟨s', hI₁, hlt⟩ := hq
        obtain ⟨e₂, a₂, w₂, hq₂, harr₂⟩ := ih (μ s') (hn ▸ hlt) s' a₁ w₁ rfl hI₁
        exact ⟨e₂, a₂, w₂, hq₂, .of_steps (Steps.trans harr (.one step_inLoop)) harr₂⟩
      | exit id => exact ⟨_, a₁, w₁, hq, .pass (x := .inLoop c) rfl (fun _ _ => .inl (by simp)) harr⟩
      | goto l => exact ⟨_, a₁, w₁, hq, .pass (x := .inLoop c) rfl (fun _ _ => .inl (by simp)) harr⟩
      | ret => exact ⟨_, a₁, w₁, hq, .pass (x := .inLoop c) rfl (fun _ _ => .inl (by simp)) harr⟩
      | panic ch => exact ⟨_, a₁, w₁, hq, .pass (x := .inLoop c) rfl (fun _ _ => .inl (by simp)) harr⟩
      | outgrown => exact ⟨_, a₁, w₁, hq, .pass (x := .inLoop c) rfl (fun _ _ => .inl (by simp)) harr⟩
  obtain ⟨e, a', w', hq, harr⟩ := key _ s₀ a w rfl h₀
  exact ⟨e, a', w', hq, .of_steps (.one step_loop) harr⟩

/-- A loop: I holds at each round's head, the measure falls. -/
theorem AW.loop {σ : Type} {x : CC} (I : σ → Env → AHeap → Prop) (μ : σ → Nat) (s₀ : σ) (h₀ : I s₀ e h)
    (round : ∀ s e h, I s e h → AW P N x (thenQ (fun e' h' => ∃ s', I s' e' h' ∧ μ s' < μ s) Q) e h) : AW P N (.loop x) Q e h := by
  intro code hc m w a hr he
  cases code <;> simp only [compC] at hc <;> try (cases hc; done)
  · split at hc <;> cases hc
  · split at hc <;> cases hc
  · rename_i cx
    cases hc
    refine wp_loop_ix (fun s a' w' => ∃ m' e' h', HR m' h' w' ∧ ER N m' h' w' e' a' ∧ Step m h w m' h' w' ∧ I s e' h') μ s₀ ⟨m, e, h, hr, he, Step.refl _ _ _, h₀⟩ fun s a1 w1 hI => ?_
    obtain ⟨m1, e1, h1, hr1, he1, st1, hI1⟩ := hI
    refine wp_mono (round s e1 h1 hI1 cx rfl m1 w1 a1 hr1 he1) fun ex a2 w2 hp => ?_
    obtain ⟨m2, e2, h2, hr2, he2, st2, h4⟩ := hp
    cases ex <;> first
      | exact ⟨m2, e2, h2, hr2, he2, st1.trans st2, h4⟩
      | (obtain ⟨s', hs', hlt⟩ := h4
         exact ⟨s', ⟨m2, e2, h2, hr2, he2, st1.trans st2, hs'⟩, hlt⟩)
  · split at hc <;> cases hc

/-- Forget slots; names that are given up. -/
theorem AW.env {c : CC} {e' : Env} (hs : ∀ i v, lk i e' = some v → lk i e = some v) (hw : AW P N c Q e' h) : AW P N c Q e h :=
  fun code hc m w a hr he => hw code hc m w a hr ⟨he.size, he.defers, fun i v hi => he.val i v (hs i v hi)⟩
theorem AL.env {l : List CI} {e' : Env} (hs : ∀ i v, lk i e' = some v → lk i e = some v) (hw : AL P N l Q e' h) : AL P N l Q e h :=
  fun ops idx h1 h2 m w a hr he => hw ops idx h1 h2 m w a hr ⟨he.size, he.defers, fun i v hi => he.val i v (hs i v hi)⟩

/-- h' is h, with fewer names. -/
structure HSub (h' h : AHeap) : Prop where
  get : ∀ id x, h'.get id = some x → h.get id = some x
  used : ∀ id, h.used id → h'.used id
  gap : ∀ id, h'.gap id = true → id < h'.next
theorem HSub.step {h' h : AHeap} (s : HSub h' h) (m : Inj) (w : World) : Step m h w m h' w where
  os := rfl
  tape := rfl
  output := rfl
  size := Nat.le_refl _
  kind := fun b cc T fz hb _ => ⟨cc, hb, rfl⟩
  free := fun b hb hfr => ⟨rfl, fun j t y hg hm => hfr j t y (s.get j y hg) hm⟩
  cell := fun b k v hc hn => ⟨hc, fun ⟨j, t, ⟨y, hg⟩, hm, hle⟩ => hn ⟨j, t, ⟨y, s.get j y hg⟩, hm, hle⟩⟩
  used := s.used
  live := fun j x' _ hg => ⟨x', s.get j x' hg, fun _ => rfl, Compat.refl _⟩
theorem HSub.hr {h' h : AHeap} (s : HSub h' h) {m : Inj} {w : World} (hr : HR m h w) : HR m h' w :=
  ⟨s.gap, fun id x hg => s.used id (hr.live id x (s.get id x hg)), fun i j x y b t u hi hj => hr.inj i j x y b t u (s.get i x hi) (s.get j y hj),
    fun id x hg => (hr.obj id x (s.get id x hg)).step (s.step m w) rfl fun _ _ _ => rfl⟩
theorem AW.heap {c : CC} {h' : AHeap} (s : HSub h' h) (hw : AW P N c Q e h') : AW P N c Q e h :=
  fun code hc m w a hr he => wp_mono (hw code hc m w a (s.hr hr) (he.step (s.step m w))) fun _ _ _ hp => PA.from (s.step m w) hp
theorem AL.heap {l : List CI} {h' : AHeap} (s : HSub h' h) (hw : AL P N l Q e h') : AL P N l Q e h :=
  fun ops idx h1 h2 m w a hr he => wpOps_mono (fun _ _ _ hp => PA.from (s.step m w) hp) idx _ _ (hw ops idx h1 h2 m w a (s.hr hr) (he.step (s.step m w)))

theorem run_callFunc {f : Nat} (hb : bodied P f = true) (args : Array Value) (w : World) : (callFunc f args).run P w = .ok (.enter f args) w := by
  unfold bodied at hb
  split at hb
  · rename_i fn hfn
    simp only [Bool.and_eq_true, bne_iff_ne, ne_eq] at hb
    have hnone : fn.body.isNone = false := by cases hx : fn.body <;> simp [hx] at hb ⊢
    simp only [callFunc, Sem.run_bind, run_program, Result.andThen_ok, hfn, beq_iff_eq, hb.2, if_false, hnone, Bool.false_eq_true, Sem.run_pure]
  · cases hb

theorem call_wp {o : Oper} {f : Nat} {cargs : Array Value} {vs : List AV} {m : Inj} {w : World} {a : Act} {K : Act → World → Prop} {R : AV → AHeap → Prop} {QQ : Exit → Act → World → Prop}
    (hrun : (execOp a.eval o).run P w = .ok (.enter f cargs) w) (hr : HR m h w) (hl : vs.length = cargs.size) (hv : ∀ i v, vs[i]? = some v → VR m h w v (cargs.getD i undef)) (hac : AC P f vs h R)
    (hK : ∀ v w' m' r h', HR m' h' w' → VR m' h' w' r v → Step m h w m' h' w' → R r h' → K (a.put o.dst v) w') : o.wp P a w K QQ := by
  unfold Oper.wp
  rw [hrun, Oper.upon_enter]
  refine (hac m w cargs hr hl hv).mono fun ex w' hx => ?_
  obtain ⟨v, m', r, h', rfl, h1, h2, h3, h4⟩ := hx
  exact hK v w' m' r h' h1 h2 h3 h4

theorem compile_call {o : Oper} {f : Nat} {xs : List Opd} (hco : compileOp P N o = some (.call f xs)) :
    ∃ c : Call, o.op = .call c ∧ c.callee = .value (.func f) ∧ bodied P f = true ∧ ofL (ofOpd N) c.args.toList = some xs := by
  cases hop : o.op <;> simp only [compileOp, hop] at hco
  case unOp op t x => cases op <;> simp [Option.map_eq_some_iff] at hco
  case slice t x lo hi mx => cases mx <;> simp only at hco <;> (repeat' (split at hco)) <;> first | cases hco | (simp [Option.map_eq_some_iff] at hco)
  case call c =>
    refine ⟨c, rfl, ?_⟩
    split at hco
    case h_5 hcal =>
      split at hco
      · rename_i fn xs' h1 h2
        split at hco
        · rename_i hb
          simp only [Option.some.injEq, Ins.call.injEq] at hco
          obtain ⟨rfl, rfl⟩ := hco
          exact ⟨hcal, by simpa [bodied, h1] using hb, h2⟩
        · cases hco
      · cases hco
    all_goals (repeat' (split at hco)) <;> cases hco
  all_goals (try (repeat' (split at hco))) <;> first | cases hco | (simp [Option.map_eq_some_iff] at hco)
theorem compile_callv {o : Oper} {x : Opd} {xs : List Opd} (hco : compileOp P N o = some (.callv x xs)) :
    ∃ (c : Call) (y : Nat), o.op = .call c ∧ c.callee = .value (.tmp y) ∧ ofOpd N (.tmp y) = some x ∧ ofL (ofOpd N) c.args.toList = some xs := by
  cases hop : o.op <;> simp only [compileOp, hop] at hco
  case unOp op t x => cases op <;> simp [Option.map_eq_some_iff] at hco
  case slice t x lo hi mx => cases mx <;> simp only at hco <;> (repeat' (split at hco)) <;> first | cases hco | (simp [Option.map_eq_some_iff] at hco)
  case call c =>
    refine ⟨c, ?_⟩
    split at hco
    case h_6 y hcal =>
      split at hco
      · rename_i x' xs' h1 h2
        simp only [Option.some.injEq, Ins.callv.injEq] at hco
        obtain ⟨rfl, rfl⟩ := hco
        exact ⟨y, rfl, hcal, h1, h2⟩
      · cases hco
    all_goals (repeat' (split at hco)) <;> cases hco
  all_goals (try (repeat' (split at hco))) <;> first | cases hco | (simp [Option.map_eq_some_iff] at hco)

theorem AL.call {d : Option Nat} {f : Nat} {xs : List Opd} {l : List CI} {vs : List AV} (hv : evL e xs = some vs) (hac : AC P f vs h (fun r h' => AL P N l Q (putR d (some r) e) h')) : AL P N (⟨d, .call f xs, none⟩ :: l) Q e h := by
  intro ops idx hlt hl m w a hr he
  cases idx with
  | nil => simp at hl
  | cons i idx =>
    simp only [List.map_cons, List.cons.injEq] at hl
    obtain ⟨hc, hl⟩ := hl
    have hilt := hlt i (by simp)
    have ho : ops[i]? = some ops[i] := Array.getElem?_eq_getElem hilt
    have hget : ops.getD i default = ops[i] := by simp [hilt]
    rw [hget] at hc
    have hlt' : ∀ j ∈ idx, j < ops.size := fun j hj => hlt j (by simp [hj])
    rcases compI_ok hc with ⟨hb1, hb2⟩ | ⟨hd, hdst, hcomp, hg⟩
    · simp at hb1
    · obtain ⟨w1, _⟩ := wanted_of he hg
      simp only [wpOps, ho]
      rw [w1 rfl, if_pos rfl]
      left
      have hco := hcomp rfl
      obtain ⟨c, hop, hcal, hfn, hxs⟩ := compile_call hco
      obtain ⟨hl1, hl2⟩ := he.evalL hxs hv
      have hrun : (execOp a.eval (ops[i])).run P w = .ok (.enter f (c.args.map a.eval)) w := by
        simp [execOp, hop, resolve, hcal, Act.eval, Deferred.ofValue, invoke, run_callFunc hfn]
      refine call_wp hrun hr (by simpa using hl1) (fun j v hj => by
        have := hl2 j v hj
        simpa [Array.getD_eq_getD_getElem?, List.getD_eq_getElem?_getD] using this) hac fun v w' m' r h' g1 g2 g3 g4 => ?_
      refine wpOps_mono (fun _ _ _ hp => PA.from g3 hp) idx _ _ (g4 ops idx hlt' hl m' w' _ g1 ?_)
      have hd' : d = (ops[i]).dst := hd
      rw [hd']
      exact (he.step g3).putR hdst g2

theorem AL.callv {d : Option Nat} {f : Nat} {x : Opd} {xs : List Opd} {l : List CI} {vs us ts : List AV} (hx : ev e x = some (.func (.func f) us ts)) (hv : evL e xs = some vs) (hb : bodied P f = true) (hac : AC P f (us ++ vs ++ ts) h (fun r h' => AL P N l Q (putR d (some r) e) h')) :
    AL P N (⟨d, .callv x xs, none⟩ :: l) Q e h := by
  intro ops idx hlt hl m w a hr he
  cases idx with
  | nil => simp at hl
  | cons i idx =>
    simp only [List.map_cons, List.cons.injEq] at hl
    obtain ⟨hc, hl⟩ := hl
    have hilt := hlt i (by simp)
    have ho : ops[i]? = some ops[i] := Array.getElem?_eq_getElem hilt
    have hget : ops.getD i default = ops[i] := by simp [hilt]
    rw [hget] at hc
    have hlt' : ∀ j ∈ idx, j < ops.size := fun j hj => hlt j (by simp [hj])
    rcases compI_ok hc with ⟨hb1, hb2⟩ | ⟨hd, hdst, hcomp, hg⟩
    · simp at hb1
    · obtain ⟨w1, _⟩ := wanted_of he hg
      simp only [wpOps, ho]
      rw [w1 rfl, if_pos rfl]
      left
      have hco := hcomp rfl
      obtain ⟨c, y, hop, hcal, hy, hxs⟩ := compile_callv hco
      obtain ⟨hl1, hl2⟩ := he.evalL hxs hv
      have hfv := he.eval hy hx
      generalize hcx : a.eval (.tmp y) = cx at hfv
      cases hfv with
      | func _ _ _ cs ds q1 q2 q3 q4 =>
        have hrun : (execOp a.eval (ops[i])).run P w = .ok (.enter f (cs ++ c.args.map a.eval ++ ds)) w := by
          simp [execOp, hop, resolve, hcal, hcx, Deferred.ofValue, invoke, run_callFunc hb]
        refine call_wp hrun hr (by simp [q1, q2, hl1]) (fun j v hj => ?_) hac fun v w' m' r h' g1 g2 g3 g4 => ?_
        · rw [List.append_assoc] at hj
          simp only [Array.getD_eq_getD_getElem?]
          by_cases j1 : j < us.length
          · rw [List.getElem?_append_left j1] at hj
            have := q3 j v hj
            rw [Array.append_assoc, Array.getElem?_append_left (by omega)]
            simpa [Array.getD_eq_getD_getElem?] using this
          · rw [List.getElem?_append_right (by omega)] at hj
            rw [Array.append_assoc, Array.getElem?_append_right (by omega), ← q1]
            by_cases j2 : j - us.length < vs.length
            · rw [List.getElem?_append_left j2] at hj
              have := hl2 _ v hj
              rw [Array.getElem?_append_left (by simp at hl1 ⊢; omega)]
              simpa [List.getD_eq_getElem?_getD] using this
            · rw [List.getElem?_append_right (by omega)] at hj
              have := q4 _ v hj
              have hl1' : vs.length = c.args.size := by simpa using hl1
              rw [Array.getElem?_append_right (by simp; omega)]
              simpa [Array.getD_eq_getD_getElem?, hl1'] using this
        · refine wpOps_mono (fun _ _ _ hp => PA.from g3 hp) idx _ _ (g4 ops idx hlt' hl m' w' _ g1 ?_)
          have hd' : d = (ops[i]).dst := hd
          rw [hd']
          exact (he.step g3).putR hdst g2

/-- A call that isn't made: its guard says no. -/
theorem AC.mono {f : Nat} {vs : List AV} {R R' : AV → AHeap → Prop} (hac : AC P f vs h R) (hR : ∀ r h', R r h' → R' r h') : AC P f vs h R' :=
  fun m w cargs hr hl hv => (hac m w cargs hr hl hv).mono fun _ _ ⟨v, m', r, h', e, g1, g2, g3, g4⟩ => ⟨v, m', r, h', e, g1, g2, g3, hR _ _ g4⟩
end
end Go.Abs

namespace Go.Abs
open Go

inductive RC where
  | t (n : Nat)
  | cell (n sz : Nat) (ag : Bool)
  deriving Inhabited
def compRes (P : Program) (N : Nat) : ResultVar → Option RC
  | .tmp t => if t < N then some (.t t) else none
  | .cell a ty => match tyI P ty with
    | some (sz, ag) => if ag = true ∨ sz = 1 then some (.cell a sz ag) else none
    | none => none
def resOne (g : Nat → Option AObj) (e : Env) : RC → Option AV
  | .t n => lk n e
  | .cell n sz ag => match lk n e with
    | some p => match rdP g p with
      | some (_, c, i, off) => match c[i]? with
        | some cells => getC sz ag cells off
        | none => none
      | none => none
    | none => none
def resA (g : Nat → Option AObj) (e : Env) : List RC → Option (List AV)
  | [] => some []
  | r :: rs => match resOne g e r, resA g e rs with
    | some v, some vs => some (v :: vs)
    | _, _ => none
def fin : List AV → AV
  | [v] => v
  | vs => .tup vs
def argE : Nat → List AV → Env
  | _, [] => []
  | i, v :: vs => (i, some v) :: argE (i + 1) vs

/-- What function f is, compiled. -/
def FnIs (P : Program) (f N : Nat) (cc : CC) (rcs : List RC) : Prop :=
  ∃ fn code, P.funcs[f]? = some fn ∧ fn.body = some code ∧ fn.ntmps = N ∧ compC P N code = cc ∧ ofL (compRes P N) fn.results.toList = some rcs

section
variable {P : Program} {N f : Nat} {cc : CC} {rcs : List RC} {vs : List AV} {h : AHeap}

theorem lk_argE : ∀ (vs : List AV) (i k : Nat), lk k (argE i vs) = if i ≤ k then vs[k - i]? else none
  | [], i, k => by simp [argE, lk_cons, lk_nil]
  | v :: vs, i, k => by
    simp only [argE, lk_cons, lk_nil]
    by_cases e : k = i
    · subst e; simp
    · rw [if_neg e, lk_argE vs (i + 1) k]
      by_cases h1 : i ≤ k
      · rw [if_pos h1, if_pos (by omega), show k - i = (k - (i + 1)) + 1 by omega]
        simp
      · rw [if_neg h1, if_neg (by omega)]

theorem resOne_ok {m : Inj} {w : World} {e : Env} {a : Act} (hr : HR m h w) (he : ER N m h w e a) {rv : ResultVar} {rc : RC} (hc : compRes P N rv = some rc) {v : AV} (hv : resOne h.get e rc = some v) :
    ∃ cv, (match rv with
      | .tmp t => pure (a.tmps.getD t undef)
      | .cell p t => do loadVar t (← asAddr (a.tmps.getD p undef)) : Sem Value).run P w = .ok cv w ∧ VR m h w v cv := by
  cases rv with
  | tmp t =>
    simp only [compRes] at hc
    split at hc
    · cases hc; exact ⟨_, rfl, he.val t v hv⟩
    · cases hc
  | cell p ty =>
    simp only [compRes] at hc
    split at hc
    · rename_i sz ag ht
      split at hc
      · rename_i hag
        cases hc
        obtain ⟨hsz, hagg⟩ := tyI_some ht
        simp only [resOne] at hv
        split at hv
        · rename_i q g1
          split at hv
          · rename_i s c i off g2
            split at hv
            · rename_i cells g3
              obtain ⟨ad, hp, hlen, hcell⟩ := rdP_vr hr (he.val p q g1) g2
              obtain ⟨G, hG1, hG2, hsc⟩ := hcell cells g3
              have hl := hlen cells (List.mem_of_getElem? g3)
              obtain ⟨hle, hA, hB⟩ := getC_vr hv hag hl hsc hG2
              cases ag with
              | true =>
                refine ⟨_, ?_, hA rfl⟩
                have := run_loadCells (P := P) w ad sz G (fun j hj => hG1 j (by omega))
                simp only [Sem.run_bind, hp, asAddr, Sem.run_pure, Result.andThen_ok, loadVar, hagg, if_true, hsz, this]
              | false =>
                refine ⟨_, ?_, hB rfl⟩
                have h10 : sz = 1 := by simpa using hag
                have := hG1 0 (by omega)
                rw [Addr.add_zero'] at this
                simp [hp, asAddr, loadVar, hagg, this]
            · cases hv
          · cases hv
        · cases hv
      · cases hc
    · cases hc

theorem results_ok {m : Inj} {w : World} {e : Env} {a : Act} (hr : HR m h w) (he : ER N m h w e a) {fn : Func} (hc : ofL (compRes P N) fn.results.toList = some rcs) {rs : List AV} (hv : resA h.get e rcs = some rs) :
    ∃ v, (results fn a.tmps).run P w = .ok v w ∧ VR m h w (fin rs) v := by
  have key : ∀ (l : List ResultVar) (rcs : List RC) (rs : List AV), ofL (compRes P N) l = some rcs → resA h.get e rcs = some rs →
      ∃ cvs : List Value, (l.mapM (fun
        | .tmp t => pure (a.tmps.getD t undef)
        | .cell p t => do loadVar t (← asAddr (a.tmps.getD p undef))) : Sem (List Value)).run P w = .ok cvs w ∧ rs.length = cvs.length ∧ ∀ (i : Nat) (v : AV), rs[i]? = some v → VR m h w v (cvs.getD i undef) := by
    intro l
    induction l with
    | nil => intro rcs rs h1 h2; simp [ofL] at h1; subst h1; simp [resA] at h2; subst h2; exact ⟨[], by simp, rfl, by simp⟩
    | cons rv l ih =>
      intro rcs rs h1 h2
      simp only [ofL] at h1
      split at h1
      · rename_i rc rcs' g1 g2
        cases h1
        simp only [resA] at h2
        split at h2
        · rename_i v vs' g3 g4
          cases h2
          obtain ⟨cvs, q1, q2, q3⟩ := ih rcs' vs' g2 g4
          obtain ⟨cv, p1, p2⟩ := resOne_ok hr he g1 g3
          refine ⟨cv :: cvs, ?_, by simp [q2], fun i u hu => ?_⟩
          · simp only [List.mapM_cons, Sem.run_bind]
            rw [p1]
            simp only [Result.andThen_ok]
            rw [q1]
            simp
          · cases i with
            | zero => simp at hu; subst hu; simpa using p2
            | succ i => simp at hu; simpa using q3 i u hu
        · cases h2
      · cases h1
  obtain ⟨cvs, q1, q2, q3⟩ := key _ rcs rs hc hv
  have hrun : (results fn a.tmps).run P w = .ok (if h : cvs.toArray.size = 1 then cvs.toArray[0] else .tuple cvs.toArray) w := by
    unfold results
    rw [Array.mapM_eq_mapM_toList]
    simp only [Sem.run_bind, Sem.run_map, Sem.run_pure]
    erw [q1]
    rfl
  by_cases h1 : cvs.length = 1
  · obtain ⟨cv, rfl⟩ := List.length_eq_one_iff.1 h1
    rw [List.length_singleton] at q2
    obtain ⟨v, rfl⟩ := List.length_eq_one_iff.1 q2
    refine ⟨cv, by rw [hrun]; simp, ?_⟩
    have := q3 0 v rfl
    simpa [fin] using this
  · refine ⟨.tuple cvs.toArray, by rw [hrun]; simp [h1], ?_⟩
    have hf : fin rs = .tup rs := by
      cases rs with
      | nil => rfl
      | cons v rs =>
        cases rs with
        | nil => simp at q2; omega
        | cons u rs => rfl
    rw [hf]
    exact .tup _ _ (by simp [q2]) fun i v hi => by
      have := q3 i v hi
      simpa [Array.getD_eq_getD_getElem?, List.getD_eq_getElem?_getD] using this

/-- A contract out of a walk over the compiled body. -/
theorem AC.intro {R : AV → AHeap → Prop} (hfn : FnIs P f N cc rcs) (hn : vs.length ≤ N)
    (hw : AW P N cc (fun ex e h1 => (ex = .ret ∨ ex = .normal) ∧ ∃ rs, resA h1.get e rcs = some rs ∧ R (fin rs) h1) (argE 0 vs) h) : AC P f vs h R := by
  obtain ⟨fn, code, h1, h2, h3, h4, h5⟩ := hfn
  intro m w cargs hr hl hv
  refine calls_of_wp h1 h2 (wp_mono (hw code h4 m w _ hr ⟨by simp [h3, ← hl]; omega, rfl, fun i v hi => ?_⟩) fun ex a' w' hp => ?_)
  · rw [lk_argE] at hi
    simp at hi
    have hlt : i < cargs.size := by rw [← hl]; exact (List.getElem?_eq_some_iff.1 hi).1
    have := hv i v hi
    simpa [Array.getD_eq_getD_getElem?, Array.getElem?_append_left hlt] using this
  · obtain ⟨m', e', h', g1, g2, g3, hex, rs, g4, g5⟩ := hp
    obtain ⟨v, hrun, hvr⟩ := results_ok g1 g2 h5 g4
    rcases hex with rfl | rfl
    · exact ⟨g2.defers, v, hrun, v, m', fin rs, h', rfl, g1, hvr, g3, g5⟩
    · exact ⟨g2.defers, v, hrun, v, m', fin rs, h', rfl, g1, hvr, g3, g5⟩

inductive Clo (u : Nat → Prop) : AV → Prop
  | bool (b : Bool) : Clo u (.bool b)
  | int (k : IntKind) (n : Int) : Clo u (.int k n)
  | str (s : List UInt8) : Clo u (.str s)
  | nilp : Clo u .nilp
  | ptr (id i off : Nat) (hu : u id) : Clo u (.ptr id i off)
  | iptr (sz : Nat) (c : List (List AV)) (i off : Nat) (hc : ∀ x ∈ c, ∀ v ∈ x, Clo u v) : Clo u (.iptr sz c i off)
  | nils : Clo u .nils
  | imm (sz : Nat) (c : List (List AV)) (hc : ∀ x ∈ c, ∀ v ∈ x, Clo u v) : Clo u (.imm sz c)
  | app (id g sz : Nat) (c : List (List AV)) (hu : u id) (hc : ∀ x ∈ c, ∀ v ∈ x, Clo u v) : Clo u (.app id g sz c)
  | ref (id off len : Nat) (hu : u id) : Clo u (.ref id off len)
  | nilm : Clo u .nilm
  | map (id : Nat) (hu : u id) : Clo u (.map id)
  | nilf : Clo u .nilf
  | func (fn : Fn) (vs us : List AV) (h1 : ∀ v ∈ vs, Clo u v) (h2 : ∀ v ∈ us, Clo u v) : Clo u (.func fn vs us)
  | nili : Clo u .nili
  | iface (t : TypeId) (v : AV) (hv : Clo u v) : Clo u (.iface t v)
  | agg (vs : List AV) (hv : ∀ v ∈ vs, Clo u v) : Clo u (.agg vs)
  | tup (vs : List AV) (hv : ∀ v ∈ vs, Clo u v) : Clo u (.tup vs)

theorem mem_idx {c : List (List AV)} {p : AV → Prop} (hp : ∀ (i : Nat) (cells : List AV), c[i]? = some cells → ∀ (j : Nat) (v : AV), cells[j]? = some v → p v) : ∀ x ∈ c, ∀ v ∈ x, p v := by
  intro x hx v hv
  obtain ⟨i, hi, rfl⟩ := List.mem_iff_getElem.1 hx
  obtain ⟨j, hj, rfl⟩ := List.mem_iff_getElem.1 hv
  exact hp i _ (List.getElem?_eq_getElem hi) j _ (List.getElem?_eq_getElem hj)
theorem mem_idx1 {c : List AV} {p : AV → Prop} (hp : ∀ (i : Nat) (v : AV), c[i]? = some v → p v) : ∀ v ∈ c, p v := by
  intro v hv
  obtain ⟨i, hi, rfl⟩ := List.mem_iff_getElem.1 hv
  exact hp i _ (List.getElem?_eq_getElem hi)

theorem VR.clo {m : Inj} {w : World} {v : AV} {c : Value} (hv : VR m h w v c) : Clo h.used v := by
  induction hv with
  | bool b => exact .bool b
  | int k n => exact .int k n
  | str s => exact .str s
  | nilp => exact .nilp
  | ptr id i off a hu ha => exact .ptr _ _ _ hu
  | iptr sz c i off b o F hic hl hs _ ih => exact .iptr _ _ _ _ (mem_idx ih)
  | nils0 => exact .nils
  | nils1 a => exact .nils
  | imm0 sz => exact .imm _ _ (by simp)
  | imm1 sz a cap => exact .imm _ _ (by simp)
  | imm sz c b o cap F hic hl hs _ hc ih => exact .imm _ _ (mem_idx ih)
  | app0 id g sz hu ht => exact .app _ _ _ _ hu (by simp)
  | app1 id g sz a hu ht => exact .app _ _ _ _ hu (by simp)
  | app id g sz c b cap F hu hic hl hs _ hc ht ih => exact .app _ _ _ _ hu (mem_idx ih)
  | ref id off len cap a hu hc ha => exact .ref _ _ _ hu
  | nilm => exact .nilm
  | map id r hu ha => exact .map _ hu
  | nilf => exact .nilf
  | func fn vs us cs ds hv hu _ _ ih1 ih2 => exact .func _ _ _ (mem_idx1 ih1) (mem_idx1 ih2)
  | nili => exact .nili
  | iface t v c _ ih => exact .iface _ _ ih
  | agg vs cs hv hs _ ih => exact .agg _ (mem_idx1 ih)
  | tup vs cs hv _ ih => exact .tup _ (mem_idx1 ih)

/-- h1 has all that h has, as it is. -/
def Keeps (h h1 : AHeap) : Prop := h.next ≤ h1.next ∧ ∀ id, h.used id → h1.get id = h.get id
theorem Keeps.refl (h : AHeap) : Keeps h h := ⟨Nat.le_refl _, fun _ _ => rfl⟩
theorem Keeps.put {h h1 : AHeap} (hk : Keeps h h1) {nm : Nat} (hn : h.next ≤ nm) (x : AObj) : Keeps h (h1.put nm x) := by
  refine ⟨?_, fun id hu => ?_⟩
  · have := hk.1; simp only [AHeap.put]; split <;> omega
  · have := hu.1
    simp only [AHeap.put]
    rw [if_neg (by omega)]
    exact hk.2 id hu
theorem Keeps.set {h h1 : AHeap} (hk : Keeps h h1) {nm : Nat} (hn : h.next ≤ nm) (x : Option AObj) : Keeps h (h1.set nm x) := by
  refine ⟨hk.1, fun id hu => ?_⟩
  have := hu.1
  simp only [AHeap.set]
  rw [if_neg (by omega)]
  exact hk.2 id hu

section restrict
variable {m : Inj} {h1 : AHeap} {w : World}
theorem own_sub (hs : ∀ id x, h.get id = some x → h1.get id = some x) {b o : Nat} (ho : Own m h b o) : Own m h1 b o := by
  obtain ⟨id, t, ⟨x, hx⟩, h2, h3⟩ := ho
  exact ⟨id, t, ⟨x, hs id x hx⟩, h2, h3⟩
theorem IC.sub_heap (hs : ∀ id x, h.get id = some x → h1.get id = some x) {b o n : Nat} {F : Nat → Value} (hic : IC w (Own m h1) b o n F) : IC w (Own m h) b o n F :=
  fun k hk => ⟨(hic k hk).1, fun ho => (hic k hk).2 (own_sub hs ho)⟩

theorem VR.restrict (hs : ∀ id x, h.get id = some x → h1.get id = some x) {v : AV} {c : Value} (hv : VR m h1 w v c) (hc : Clo h.used v) : VR m h w v c := by
  induction hv with
  | bool b => exact .bool b
  | int k n => exact .int k n
  | str s => exact .str s
  | nilp => exact .nilp
  | ptr id i off a hu ha => cases hc with | ptr _ _ _ hu' => exact .ptr _ _ _ _ hu' fun sz c hg => ha sz c (hs _ _ hg)
  | iptr sz c i off b o F hic hl hsc _ ih => cases hc with | iptr _ _ _ _ hc => exact .iptr _ _ _ _ _ _ F (hic.sub_heap hs) hl hsc fun i cells hi j v hj => ih i cells hi j v hj (hc _ (List.mem_of_getElem? hi) _ (List.mem_of_getElem? hj))
  | nils0 => exact .nils0
  | nils1 a => exact .nils1 a
  | imm0 sz => exact .imm0 sz
  | imm1 sz a cap => exact .imm1 sz a cap
  | imm sz c b o cap F hic hl hsc _ hcap ih => cases hc with | imm _ _ hc => exact .imm _ _ _ _ _ F (hic.sub_heap hs) hl hsc (fun i cells hi j v hj => ih i cells hi j v hj (hc _ (List.mem_of_getElem? hi) _ (List.mem_of_getElem? hj))) hcap
  | app0 id g sz hu ht => cases hc with | app _ _ _ _ hu' _ => exact .app0 _ _ _ hu' fun g' n' hg => ht g' n' (hs _ _ hg)
  | app1 id g sz a hu ht => cases hc with | app _ _ _ _ hu' _ => exact .app1 _ _ _ _ hu' fun g' n' hg => ht g' n' (hs _ _ hg)
  | app id g sz c b cap F hu hic hl hsc _ hcap ht ih => cases hc with | app _ _ _ _ hu' hc => exact .app _ _ _ _ _ _ F hu' (hic.sub_heap hs) hl hsc (fun i cells hi j v hj => ih i cells hi j v hj (hc _ (List.mem_of_getElem? hi) _ (List.mem_of_getElem? hj))) hcap fun g' n' hg => ht g' n' (hs _ _ hg)
  | ref id off len cap a hu hcap ha => cases hc with | ref _ _ _ hu' => exact .ref _ _ _ _ _ hu' hcap fun sz c hg => ha sz c (hs _ _ hg)
  | nilm => exact .nilm
  | map id r hu ha => cases hc with | map _ hu' => exact .map _ _ hu' fun es hg => ha es (hs _ _ hg)
  | nilf => exact .nilf
  | func fn vs us cs ds hv hu _ _ ih1 ih2 => cases hc with | func _ _ _ c1 c2 => exact .func _ _ _ _ _ hv hu (fun i v hi => ih1 i v hi (c1 _ (List.mem_of_getElem? hi))) (fun i v hi => ih2 i v hi (c2 _ (List.mem_of_getElem? hi)))
  | nili => exact .nili
  | iface t v c _ ih => cases hc with | iface _ _ c1 => exact .iface _ _ _ (ih c1)
  | agg vs cs hv hsc _ ih => cases hc with | agg _ c1 => exact .agg _ _ hv hsc fun i v hi => ih i v hi (c1 _ (List.mem_of_getElem? hi))
  | tup vs cs hv _ ih => cases hc with | tup _ c1 => exact .tup _ _ hv fun i v hi => ih i v hi (c1 _ (List.mem_of_getElem? hi))

/-- Back to the old names: all of them are as they were. -/
theorem back_hr {m₀ : Inj} {w₀ : World} (hr₀ : HR m₀ h w₀) (hr : HR m h1 w) (hs : ∀ id x, h.get id = some x → h1.get id = some x) : HR m h w where
  gapl := hr₀.gapl
  live := hr₀.live
  inj := fun i j x y b s t hi hj => hr.inj i j x y b s t (hs i x hi) (hs j y hj)
  obj := fun id x hg => by
    have ho := hr.obj id x (hs id x hg)
    have ho₀ := hr₀.obj id x hg
    cases x with
    | mem sz c =>
      obtain ⟨b, cc, T, q1, q2, q3, q4⟩ := ho
      obtain ⟨_, _, _, _, _, _, p4⟩ := ho₀
      exact ⟨b, cc, T, q1, q2, q3, q4.1, q4.2.1, fun i cells hi j v hj => (q4.2.2 i cells hi j v hj).restrict hs (p4.2.2 i cells hi j v hj).clo⟩
    | tail _ _ => exact ho
    | map es =>
      obtain ⟨b, ens, ck, q1, q2, q3, q4⟩ := ho
      obtain ⟨_, _, _, _, _, _, p4⟩ := ho₀
      exact ⟨b, ens, ck, q1, q2, q3, fun i k v hi => ⟨(q4 i k v hi).1.restrict hs (p4 i k v hi).1.clo, (q4 i k v hi).2.restrict hs (p4 i k v hi).2.clo⟩⟩
    | loop l st N es fn ps asg bdy d =>
      obtain ⟨q1, T, q2, q3, q4⟩ := ho
      obtain ⟨_, _, _, _, p4⟩ := ho₀
      exact ⟨q1, T, q2, q3, fun s v hi => (q4 s v hi).restrict hs (p4 s v hi).clo⟩
    | dfr b o => exact ho
theorem back_step {m₀ : Inj} {w₀ : World} (st : Step m₀ h w₀ m h1 w) (hr₀ : HR m₀ h w₀) (hs : ∀ id x, h.get id = some x → h1.get id = some x) : Step m₀ h w₀ m h w where
  os := st.os
  tape := st.tape
  output := st.output
  size := st.size
  kind := fun b cc T fz hb hf => st.kind b cc T fz hb fun hf1 => hf fun id t x hg => hf1 id t x (hs id x hg)
  free := fun b hb hf => ⟨(st.free b hb hf).1, fun id t x hg => (st.free b hb hf).2 id t x (hs id x hg)⟩
  cell := fun b o v hc hn => ⟨(st.cell b o v hc hn).1, fun ho => (st.cell b o v hc hn).2 (own_sub hs ho)⟩
  used := fun _ hu => hu
  live := fun id x hu hg => by
    obtain ⟨x0, h0, hm, hc⟩ := st.live id x hu (hs id x hg)
    exact ⟨x0, h0, hm, hc⟩

/-- A result, frozen: rows that the call itself made can't change any more. -/
inductive Fz (h h1 : AHeap) : AV → AV → Prop
  | clo (r : AV) (hc : Clo h.used r) : Fz h h1 r r
  | nil (sz : Nat) : Fz h h1 .nils (.imm sz [])
  | app (id g sz : Nat) (c : List (List AV)) (hc : ∀ x ∈ c, ∀ v ∈ x, Clo h.used v) : Fz h h1 (.app id g sz c) (.imm sz c)
  | ref (id off len sz : Nat) (c : List (List AV)) (hg : h1.get id = some (.mem sz c)) (hu : ¬ h.used id) (hc : ∀ x ∈ c, ∀ v ∈ x, Clo h.used v) : Fz h h1 (.ref id off len) (.imm sz ((c.drop off).take len))
  | agg (rs rs' : List AV) (hl : rs.length = rs'.length) (hsc : ∀ r' ∈ rs', AV.scalar r' = true) (hf : ∀ (i : Nat) (r r' : AV), rs[i]? = some r → rs'[i]? = some r' → Fz h h1 r r') : Fz h h1 (.agg rs) (.agg rs')
  | tup (rs rs' : List AV) (hl : rs.length = rs'.length) (hf : ∀ (i : Nat) (r r' : AV), rs[i]? = some r → rs'[i]? = some r' → Fz h h1 r r') : Fz h h1 (.tup rs) (.tup rs')

theorem Fz.vr (hr₁ : HR m h1 w) (hs : ∀ id x, h.get id = some x → h1.get id = some x) (hlive : ∀ id x, h.get id = some x → h.used id) {r r' : AV} (hz : Fz h h1 r r') : ∀ {v : Value}, VR m h1 w r v → VR m h w r' v := by
  induction hz with
  | clo r hc => exact fun hv => hv.restrict hs hc
  | nil sz =>
    intro v hv
    cases hv with
    | nils0 => exact .imm0 _
    | nils1 a => exact .imm1 _ _ _
  | app id g sz c hc =>
    intro v hv
    cases hv with
    | app0 => exact .imm0 _
    | app1 => exact .imm1 _ _ _
    | app _ _ _ _ b cap F hu hic hl hsc hrr hcap ht => exact .imm _ _ _ _ _ F (hic.sub_heap hs) hl hsc (fun i cells hi j v hj => (hrr i cells hi j v hj).restrict hs (hc _ (List.mem_of_getElem? hi) _ (List.mem_of_getElem? hj))) hcap
  | ref id off len sz c hg hu hc =>
    intro v hv
    cases hv with
    | ref _ _ _ cap a hu' hcap ha =>
      obtain ⟨b, hb, hle, had, cc, T, hcc, hsz⟩ := ha _ _ hg
      obtain ⟨b', cc', T', q1, q2, q3, q4⟩ := hr₁.obj _ _ hg
      rw [hb] at q1
      cases q1
      have hlen : ((c.drop off).take len).length = len := by simp; omega
      rcases Nat.eq_zero_or_pos len with h0 | h0
      · subst h0
        simp only [List.take_zero]
        exact .imm1 _ _ _
      · rcases had with h00 | rfl
        · omega
        · have hrow := (q4.drop off).take len
          have := VR.imm (m := m) (h := h) (w := w) sz ((c.drop off).take len) b (off * sz) cap (fun k => cc'.getD (off * sz + k) undef) (fun k hk => ⟨?_, ?_⟩) hrow.1 hrow.2.1 (fun i cells hi j v hj => (hrow.2.2 i cells hi j v hj).restrict hs (hc _ (List.mem_of_mem_drop (List.mem_of_mem_take (List.mem_of_getElem? hi))) _ (List.mem_of_getElem? hj))) (by omega)
          · rwa [hlen] at this
          · rw [hlen] at hk
            have h5 : (off + len) * sz ≤ c.length * sz := Nat.mul_le_mul_right _ hle
            rw [Nat.add_mul] at h5
            rw [cell_of_row w b _ cc' T' (0, 0) q2]
            simp [Array.getD_eq_getD_getElem?, show off * sz + k < cc'.size by omega]
          · rintro ⟨j, t, ⟨x, hx⟩, hm, _⟩
            have := hr₁.inj j id x _ b t 0 (hs j x hx) hg hm hb
            subst this
            exact hu (hlive _ _ hx)
  | agg rs rs' hl hsc _ ih =>
    intro v hv
    cases hv with
    | agg _ cs q1 q2 q3 =>
      refine .agg _ _ (by omega) hsc fun i r' hi => ?_
      have hlt : i < rs.length := by rw [hl]; exact (List.getElem?_eq_some_iff.1 hi).1
      exact ih i _ r' (List.getElem?_eq_getElem hlt) hi (q3 i _ (List.getElem?_eq_getElem hlt))
  | tup rs rs' hl _ ih =>
    intro v hv
    cases hv with
    | tup _ cs q1 q3 =>
      refine .tup _ _ (by omega) fun i r' hi => ?_
      have hlt : i < rs.length := by rw [hl]; exact (List.getElem?_eq_some_iff.1 hi).1
      exact ih i _ r' (List.getElem?_eq_getElem hlt) hi (q3 i _ (List.getElem?_eq_getElem hlt))
end restrict

/-- The call answers r and leaves the heap h'. -/
def AE (P : Program) (f : Nat) (vs : List AV) (h : AHeap) (r : AV) (h' : AHeap) : Prop := AC P f vs h fun r1 h1 => r1 = r ∧ h1 = h'

/-- A function that only computes: the heap is as it was. -/
theorem AE.pure {r : AV} (hfn : FnIs P f N cc rcs) (hn : vs.length ≤ N)
    (hw : AW P N cc (fun ex e h1 => (ex = .ret ∨ ex = .normal) ∧ Keeps h h1 ∧ ∃ rs, resA h1.get e rcs = some rs ∧ Fz h h1 (fin rs) r) (argE 0 vs) h) : AE P f vs h r h := by
  have hac : AC P f vs h (fun r1 h1 => Keeps h h1 ∧ Fz h h1 r1 r) :=
    AC.intro hfn hn (hw.mono fun ex e h1 ⟨q1, q2, rs, q3, q4⟩ => ⟨q1, rs, q3, q2, q4⟩)
  intro m w cargs hr hl hv
  refine (hac m w cargs hr hl hv).mono fun ex w' ⟨v, m', r1, h1, e1, g1, g2, g3, hk, hz⟩ => ?_
  have hs : ∀ id x, h.get id = some x → h1.get id = some x := fun id x hg => (hk.2 id (hr.live id x hg)).trans hg
  exact ⟨v, m', r, h, e1, back_hr hr g1 hs, hz.vr g1 hs hr.live g2, back_step g3 hr hs, rfl, rfl⟩
end
end Go.Abs

namespace Go.Abs
open Go

section
variable {P : Program} {N : Nat} {Q : Exit → Env → AHeap → Prop} {e : Env} {h : AHeap}

theorem AE.use {f : Nat} {vs : List AV} {r : AV} {h' : AHeap} {K : AV → AHeap → Prop} (hae : AE P f vs h r h') (hk : K r h') : AC P f vs h K :=
  hae.mono fun r1 h1 ⟨e1, e2⟩ => by subst e1; subst e2; exact hk

theorem AW.condT {c : Opd} {x y : CC} (hc : ev e c = some (.bool true)) (hw : AW P N x Q e h) : AW P N (.cond c x y) Q e h := AW.cond hc (by simpa using hw)
theorem AW.condF {c : Opd} {x y : CC} (hc : ev e c = some (.bool false)) (hw : AW P N y Q e h) : AW P N (.cond c x y) Q e h := AW.cond hc (by simpa using hw)

/-- A guarded call whose guard is met. -/
theorem AL.gcall {d : Option Nat} {f : Nat} {xs : List Opd} {l : List CI} {vs : List AV} {s : Nat} {b : Bool} (hg : lk s e = some (.bool b)) (hv : evL e xs = some vs) (hac : AC P f vs h (fun r h' => AL P N l Q (putR d (some r) e) h')) : AL P N (⟨d, .call f xs, some (s, b)⟩ :: l) Q e h := by
  intro ops idx hlt hl m w a hr he
  cases idx with
  | nil => simp at hl
  | cons i idx =>
    simp only [List.map_cons, List.cons.injEq] at hl
    obtain ⟨hc, hl⟩ := hl
    have hilt := hlt i (by simp)
    have ho : ops[i]? = some ops[i] := Array.getElem?_eq_getElem hilt
    have hget : ops.getD i default = ops[i] := by simp [hilt]
    rw [hget] at hc
    have hlt' : ∀ j ∈ idx, j < ops.size := fun j hj => hlt j (by simp [hj])
    rcases compI_ok hc with ⟨hb1, hb2⟩ | ⟨hd, hdst, hcomp, hgd⟩
    · simp at hb1
    · obtain ⟨_, w2⟩ := wanted_of he hgd
      simp only [wpOps, ho]
      rw [w2 s b b rfl hg, if_pos (by simp)]
      left
      have hco := hcomp rfl
      obtain ⟨c, hop, hcal, hfn, hxs⟩ := compile_call hco
      obtain ⟨hl1, hl2⟩ := he.evalL hxs hv
      have hrun : (execOp a.eval (ops[i])).run P w = .ok (.enter f (c.args.map a.eval)) w := by
        simp [execOp, hop, resolve, hcal, Act.eval, Deferred.ofValue, invoke, run_callFunc hfn]
      refine call_wp hrun hr (by simpa using hl1) (fun j v hj => by
        have := hl2 j v hj
        simpa [Array.getD_eq_getD_getElem?, List.getD_eq_getElem?_getD] using this) hac fun v w' m' r h' g1 g2 g3 g4 => ?_
      refine wpOps_mono (fun _ _ _ hp => PA.from g3 hp) idx _ _ (g4 ops idx hlt' hl m' w' _ g1 ?_)
      have hd' : d = (ops[i]).dst := hd
      rw [hd']
      exact (he.step g3).putR hdst g2

theorem get_put (h : AHeap) (nm : Nat) (x : AObj) (id : Nat) : (h.put nm x).get id = if id = nm then some x else h.get id := rfl
theorem get_set (h : AHeap) (nm : Nat) (x : Option AObj) (id : Nat) : (h.set nm x).get id = if id = nm then x else h.get id := rfl
theorem get_put_same {h : AHeap} {nm : Nat} {x : AObj} : (h.put nm x).get nm = some x := by simp [AHeap.put]
theorem get_put_ne {h : AHeap} {nm : Nat} {x : AObj} {id : Nat} (hne : id ≠ nm) : (h.put nm x).get id = h.get id := by simp [AHeap.put, hne]
theorem get_set_same {h : AHeap} {nm : Nat} {x : Option AObj} : (h.set nm x).get nm = x := by simp [AHeap.set]
theorem get_set_ne {h : AHeap} {nm : Nat} {x : Option AObj} {id : Nat} (hne : id ≠ nm) : (h.set nm x).get id = h.get id := by simp [AHeap.set, hne]
theorem next_put (h : AHeap) (x : AObj) : (h.put h.next x).next = h.next + 1 := by simp [AHeap.put]
/-- Slots that are forgotten: a check over the slots that are kept. -/
def subE (e' e : Env) : Prop := ∀ i v, lk i e' = some v → lk i e = some v
theorem subE.nil (e : Env) : subE [] e := fun i v h => by simp [lk_cons, lk_nil] at h
theorem subE.cons {i : Nat} {v : AV} {e' e : Env} (h1 : lk i e = some v) (h2 : subE e' e) : subE ((i, some v) :: e') e := fun j u hj => by
  simp only [lk_cons, lk_nil] at hj
  split at hj
  · rename_i e1; subst e1; rw [← hj]; exact h1
  · exact h2 j u hj
end
end Go.Abs

namespace Go.Abs
open Go

/-- The guard is met. -/
def met (e : Env) : Option (Nat × Bool) → Prop
  | none => True
  | some (s, b) => lk s e = some (.bool b)

structure Stp (c : CI) (e : Env) (h : AHeap) (e' : Env) (h' : AHeap) : Prop where
  ok : stepCI c e h = some (e', h')

/-- A byte. -/
def encB (b : UInt8) : List AV := [.int .u8 b.toNat]
theorem toB_map : ∀ {l : List UInt8}, toB (l.map encB) = some l
  | [] => rfl
  | b :: l => by
    have := toB_map (l := l)
    simp [encB, toB] at this ⊢
    simp [this]
/-- Two numbers as one value; a number that is used once. -/
abbrev Pr := Int × Int
def encP (p : Pr) : List AV := [.int .u64 p.1, .int .u64 p.2]
abbrev Nn := Int × Int × Int
def encN (n : Nn) : List AV := [.int .u32 n.1, .int .u32 n.2.1, .int .u64 n.2.2]
/-- What was sealed. -/
structure Iss where
  key : Pr
  n : Nn
  head : List UInt8
  data : List UInt8
  out : List UInt8
  tag : Pr
def encI (x : Iss) : List AV := [.int .u64 x.key.1, .int .u64 x.key.2, .int .u32 x.n.1, .int .u32 x.n.2.1, .int .u64 x.n.2.2, .imm 1 (x.head.map encB), .imm 1 (x.data.map encB), .imm 1 (x.out.map encB), .int .u64 x.tag.1, .int .u64 x.tag.2]
def encS (b : List UInt8) (t : Pr) : List AV := [.imm 1 (b.map encB), .int .u64 t.1, .int .u64 t.2]
/-- One act of a play. -/
structure Act7 where
  op : Int
  key : Pr
  n : Nn
  head : List UInt8
  data : List UInt8
  at7 : Int
  x : Int
def encA (a : Act7) : List AV := [.int .i64 a.op, .int .u64 a.key.1, .int .u64 a.key.2, .int .u32 a.n.1, .int .u32 a.n.2.1, .int .u64 a.n.2.2, .imm 1 (a.head.map encB), .imm 1 (a.data.map encB), .int .i64 a.at7, .int .u64 a.x]
/-- Groups of instructions. -/
def grp : Ins → Nat
  | .mov _ => 0
  | .ext _ _ | .fld _ _ _ _ | .faddr _ _ | .nilck _ | .len _ => 1
  | .load _ _ _ => 2
  | .bin _ _ _ | .sh _ _ _ | .conv _ _ | .not _ | .eqv _ _ _ _ | .pick _ _ _ | .mn _ _ => 3
  | .alloc _ | .box _ _ | .build _ _ | .store _ _ _ | .bsl0 | .bsl _ _ => 4
  | .call _ _ | .callv _ _ | .raw _ | .bad | .isnil _ _ => 6
  | _ => 5
theorem Stp.grp {c : CI} {e : Env} {h : AHeap} {e' : Env} {h' : AHeap} (k : Nat) (_hk : Go.Abs.grp c.i = k) (hs : Stp c e h e' h') : Stp c e h e' h' := hs

section
variable {P : Program} {N : Nat} {Q : Exit → Env → AHeap → Prop} {e : Env} {h : AHeap} {d : Nat} {l : List CI}

theorem stepCI_met {c : CI} (hg : met e c.g) : stepCI c e h = execCI c e h := by
  unfold stepCI
  split
  · rfl
  · rename_i s b hgs
    simp only [met, hgs] at hg
    simp [hg]
theorem Stp.ins {c : CI} {r : Option AV} {f : Eff} (hx : evalI h.next c.i e h.get = some (r, f)) (hg : met e c.g) : Stp c e h (putR c.d r e) (f.on h.next h) := by
  exact ⟨by rw [stepCI_met hg]; simp [execCI, hx]⟩
theorem Stp.unmet {i : Ins} {s : Nat} {b t : Bool} (hg : lk s e = some (.bool t)) (hne : (!b) = t) : Stp ⟨some d, i, some (s, b)⟩ e h ((d, none) :: e) h := by
  subst hne; exact ⟨by simp [stepCI, hg, putR]⟩
theorem Stp.unmet0 {i : Ins} {s : Nat} {b t : Bool} (hg : lk s e = some (.bool t)) (hne : (!b) = t) : Stp ⟨none, i, some (s, b)⟩ e h e h := by
  subst hne; exact ⟨by simp [stepCI, hg, putR]⟩

variable {g : Option (Nat × Bool)} {x y z p : Opd} {u v r : AV} {a b : Int} {k k' : IntKind}

theorem Stp.mov (hx : ev e x = some v) (hg : met e g) : Stp ⟨some d, .mov x, g⟩ e h ((d, some v) :: e) h :=
  Stp.ins (r := some v) (f := .none) (by simp [evalI, hx]) hg
theorem Stp.pickT (hc : ev e x = some (.bool true)) (hx : ev e y = some v) (hg : met e g) : Stp ⟨some d, .pick x y z, g⟩ e h ((d, some v) :: e) h :=
  Stp.ins (r := some v) (f := .none) (by simp [evalI, hc, hx]) hg
theorem Stp.pickF (hc : ev e x = some (.bool false)) (hx : ev e z = some v) (hg : met e g) : Stp ⟨some d, .pick x y z, g⟩ e h ((d, some v) :: e) h :=
  Stp.ins (r := some v) (f := .none) (by simp [evalI, hc, hx]) hg
theorem Stp.alloc {z : List AV} {nx : Nat} (hn : h.next = nx) (hg : met e g) : Stp ⟨some d, .alloc z, g⟩ e h ((d, some (.ptr nx 0 0)) :: e) (h.put nx (.mem z.length [z])) := by
  subst hn
  exact Stp.ins (r := some (.ptr h.next 0 0)) (f := .new (.mem z.length [z])) (by simp [evalI]) hg
theorem Stp.box {sz : Nat} (hx : ev e x = some v) (hs : v.cs.length = sz) (ht : v.isTup = false) {nx : Nat} (hn : h.next = nx) (hg : met e g) : Stp ⟨some d, .box sz x, g⟩ e h ((d, some (.ptr nx 0 0)) :: e) (h.put nx (.mem sz [v.cs])) := by
  subst hn
  exact Stp.ins (r := some (.ptr h.next 0 0)) (f := .new (.mem sz [v.cs])) (by simp [evalI, hx, hs, ht]) hg
theorem Stp.build {z : List AV} {ps : List (Nat × Nat × Opd)} {vs : List (Nat × Nat × AV)} {cells : List AV} (hp : evP e ps = some vs) (hf : fillA z vs = some cells) (hg : met e g) : Stp ⟨some d, .build z ps, g⟩ e h ((d, some (.agg cells)) :: e) h :=
  Stp.ins (r := some (.agg cells)) (f := .none) (by simp [evalI, hp, hf]) hg
theorem Stp.buildN {z : List AV} {ps : List (Nat × Nat × Opd)} {vs : List (Nat × Nat × AV)} {cells cells' : List AV} (hp : evP e ps = some vs) (hf : fillA z vs = some cells) (hn : cells = cells') (hg : met e g) : Stp ⟨some d, .build z ps, g⟩ e h ((d, some (.agg cells')) :: e) h := by subst hn; exact Stp.build hp hf hg
theorem Stp.boxN {sz : Nat} {cs : List AV} (hx : ev e x = some v) (hs : v.cs.length = sz) (ht : v.isTup = false) {nx : Nat} (hn : h.next = nx) (hc : v.cs = cs) (hg : met e g) : Stp ⟨some d, .box sz x, g⟩ e h ((d, some (.ptr nx 0 0)) :: e) (h.put nx (.mem sz [cs])) := by subst hc; exact Stp.box hx hs ht hn hg
theorem Stp.bsl0 (hg : met e g) : Stp ⟨some d, .bsl0, g⟩ e h ((d, some .nils) :: e) h :=
  Stp.ins (r := some .nils) (f := .none) (by simp [evalI]) hg
theorem Stp.bsl {sz : Nat} {xs : List Opd} {vs : List AV} {c : List (List AV)} (hv : evL e xs = some vs) (hc : cellsL sz vs = some c) (hg : met e g) : Stp ⟨some d, .bsl sz xs, g⟩ e h ((d, some (.imm sz c)) :: e) h :=
  Stp.ins (r := some (.imm sz c)) (f := .none) (by simp [evalI, hv, hc]) hg
theorem Stp.bslN {sz : Nat} {xs : List Opd} {vs : List AV} {c c' : List (List AV)} (hv : evL e xs = some vs) (hc : cellsL sz vs = some c) (hn : c = c') (hg : met e g) : Stp ⟨some d, .bsl sz xs, g⟩ e h ((d, some (.imm sz c')) :: e) h := by subst hn; exact Stp.bsl hv hc hg
theorem Stp.load {sz s i off : Nat} {ag : Bool} {c : List (List AV)} {cells : List AV} (hx : ev e x = some u) (hp : rdP h.get u = some (s, c, i, off)) (hi : c[i]? = some cells) (hv : getC sz ag cells off = some v) (hg : met e g) : Stp ⟨some d, .load sz ag x, g⟩ e h ((d, some v) :: e) h :=
  Stp.ins (r := some v) (f := .none) (by simp [evalI, hx, hp, hi, hv]) hg
/-- A load from a cell of one row. -/
theorem Stp.load1 {sz s id off : Nat} {ag : Bool} {cells : List AV} (hx : ev e x = some (.ptr id 0 off)) (hp : h.get id = some (.mem s [cells])) (hv : getC sz ag cells off = some v) (hg : met e g) : Stp ⟨some d, .load sz ag x, g⟩ e h ((d, some v) :: e) h :=
  Stp.load hx (by simp only [rdP, hp]; rfl) rfl hv hg
theorem Stp.loadp {sz s id i off : Nat} {ag : Bool} {c : List (List AV)} {cells : List AV} (hx : ev e x = some (.ptr id i off)) (hp : h.get id = some (.mem s c)) (hi : c[i]? = some cells) (hv : getC sz ag cells off = some v) (hg : met e g) : Stp ⟨some d, .load sz ag x, g⟩ e h ((d, some v) :: e) h :=
  Stp.load hx (by simp only [rdP, hp]; rfl) hi hv hg
theorem Stp.loadi {sz s i off : Nat} {ag : Bool} {c : List (List AV)} {cells : List AV} (hx : ev e x = some (.iptr s c i off)) (hi : c[i]? = some cells) (hv : getC sz ag cells off = some v) (hg : met e g) : Stp ⟨some d, .load sz ag x, g⟩ e h ((d, some v) :: e) h :=
  Stp.load hx rfl hi hv hg
theorem Stp.store {sz s id i off : Nat} {c : List (List AV)} {cells : List AV} (hp : ev e p = some (.ptr id i off)) (hx : ev e x = some v) (ho : h.get id = some (.mem s c)) (hi : c[i]? = some cells) (hs : v.cs.length = sz) (hb : off + sz ≤ cells.length) (ht : v.isTup = false) (hg : met e g) : Stp ⟨none, .store sz p x, g⟩ e h e (h.set id (some (.mem s (c.set i (putC cells off v.cs))))) :=
  Stp.ins (r := none) (f := .set id (.mem s (c.set i (putC cells off v.cs)))) (by simp [evalI, hx, hp, ho, hi, hs, ht, hb]) hg
theorem Stp.store1 {sz s id off : Nat} {cells : List AV} (hp : ev e p = some (.ptr id 0 off)) (hx : ev e x = some v) (ho : h.get id = some (.mem s [cells])) (hs : v.cs.length = sz) (hb : off + sz ≤ cells.length) (ht : v.isTup = false) (hg : met e g) : Stp ⟨none, .store sz p x, g⟩ e h e (h.set id (some (.mem s [putC cells off v.cs]))) :=
  Stp.store hp hx ho rfl hs hb ht hg
theorem Stp.storeN {sz s id i off : Nat} {c : List (List AV)} {cells cs : List AV} (hp : ev e p = some (.ptr id i off)) (hx : ev e x = some v) (ho : h.get id = some (.mem s c)) (hi : c[i]? = some cells) (hs : v.cs.length = sz) (hb : off + sz ≤ cells.length) (ht : v.isTup = false) (hn : putC cells off v.cs = cs) (hg : met e g) : Stp ⟨none, .store sz p x, g⟩ e h e (h.set id (some (.mem s (c.set i cs)))) := by subst hn; exact Stp.store hp hx ho hi hs hb ht hg
theorem Stp.store1N {sz s id off : Nat} {cells cs : List AV} (hp : ev e p = some (.ptr id 0 off)) (hx : ev e x = some v) (ho : h.get id = some (.mem s [cells])) (hs : v.cs.length = sz) (hb : off + sz ≤ cells.length) (ht : v.isTup = false) (hn : putC cells off v.cs = cs) (hg : met e g) : Stp ⟨none, .store sz p x, g⟩ e h e (h.set id (some (.mem s [cs]))) := by subst hn; exact Stp.store1 hp hx ho hs hb ht hg
theorem Stp.allocN {z : List AV} {n nx : Nat} (hn : h.next = nx) (hl : z.length = n) (hg : met e g) : Stp ⟨some d, .alloc z, g⟩ e h ((d, some (.ptr nx 0 0)) :: e) (h.put nx (.mem n [z])) := by subst hl; exact Stp.alloc hn hg
theorem Stp.nilck {id i off : Nat} (hx : ev e x = some (.ptr id i off)) (hg : met e g) : Stp ⟨some d, .nilck x, g⟩ e h ((d, some (.ptr id i off)) :: e) h :=
  Stp.ins (r := some (.ptr id i off)) (f := .none) (by simp [evalI, hx]) hg
theorem Stp.nilcki {s : Nat} {c : List (List AV)} {i off : Nat} (hx : ev e x = some (.iptr s c i off)) (hg : met e g) : Stp ⟨some d, .nilck x, g⟩ e h ((d, some (.iptr s c i off)) :: e) h :=
  Stp.ins (r := some (.iptr s c i off)) (f := .none) (by simp [evalI, hx]) hg
theorem Stp.nilckf {f : Nat} {us ts : List AV} (hx : ev e x = some (.func (.func f) us ts)) (hg : met e g) : Stp ⟨some d, .nilck x, g⟩ e h ((d, some (.func (.func f) us ts)) :: e) h :=
  Stp.ins (r := some (.func (.func f) us ts)) (f := .none) (by simp [evalI, hx]) hg
theorem Stp.nilck0 {f : Nat} {us ts : List AV} (hx : ev e x = some (.func (.func f) us ts)) (hg : met e g) : Stp ⟨none, .nilck x, g⟩ e h e h :=
  Stp.ins (r := some (.func (.func f) us ts)) (f := .none) (by simp [evalI, hx]) hg
theorem Stp.nilckp0 {id i off : Nat} (hx : ev e x = some (.ptr id i off)) (hg : met e g) : Stp ⟨none, .nilck x, g⟩ e h e h :=
  Stp.ins (r := some (.ptr id i off)) (f := .none) (by simp [evalI, hx]) hg
theorem Stp.bin {op : BinOp} (hx : ev e x = some (.int k a)) (hy : ev e y = some (.int k b)) (hv : binA op k a b = some v) (hg : met e g) : Stp ⟨some d, .bin op x y, g⟩ e h ((d, some v) :: e) h :=
  Stp.ins (r := some v) (f := .none) (by simp [evalI, hx, hy, hv]) hg
theorem Stp.sh {op : BinOp} (hx : ev e x = some (.int k a)) (hy : ev e y = some (.int k' b)) (hv : shA op k a b = some v) (hg : met e g) : Stp ⟨some d, .sh op x y, g⟩ e h ((d, some v) :: e) h :=
  Stp.ins (r := some v) (f := .none) (by simp [evalI, hx, hy, hv]) hg
theorem Stp.eqv {ek : EK} {neg t : Bool} (hx : ev e x = some u) (hy : ev e y = some v) (hv : eqA ek u v = some t) (hg : met e g) : Stp ⟨some d, .eqv ek neg x y, g⟩ e h ((d, some (.bool (if neg then !t else t))) :: e) h :=
  Stp.ins (r := some (.bool (if neg then !t else t))) (f := .none) (by simp [evalI, hx, hy, hv]) hg
theorem Stp.eqvT {ek : EK} {t : Bool} (hx : ev e x = some u) (hy : ev e y = some v) (hv : eqA ek u v = some t) (hg : met e g) : Stp ⟨some d, .eqv ek false x y, g⟩ e h ((d, some (.bool t)) :: e) h := Stp.eqv hx hy hv hg
theorem Stp.eqvF {ek : EK} {t : Bool} (hx : ev e x = some u) (hy : ev e y = some v) (hv : eqA ek u v = some t) (hg : met e g) : Stp ⟨some d, .eqv ek true x y, g⟩ e h ((d, some (.bool (!t))) :: e) h := Stp.eqv hx hy hv hg
theorem Stp.isnil {neg t : Bool} (hx : ev e x = some u) (hv : isNilA u = some t) (hg : met e g) : Stp ⟨some d, .isnil neg x, g⟩ e h ((d, some (.bool (if neg then !t else t))) :: e) h :=
  Stp.ins (r := some (.bool (if neg then !t else t))) (f := .none) (by simp [evalI, hx, hv]) hg
theorem Stp.not {t : Bool} (hx : ev e x = some (.bool t)) (hg : met e g) : Stp ⟨some d, .not x, g⟩ e h ((d, some (.bool (!t))) :: e) h :=
  Stp.ins (r := some (.bool (!t))) (f := .none) (by simp [evalI, hx]) hg
theorem Stp.conv (hx : ev e x = some (.int k' a)) (hv : k.wrap a = b) (hg : met e g) : Stp ⟨some d, .conv k x, g⟩ e h ((d, some (.int k b)) :: e) h :=
  Stp.ins (r := some (.int k b)) (f := .none) (by simp [evalI, hx, hv]) hg
theorem Stp.b2s {c : List (List AV)} {s : List UInt8} (hx : ev e x = some u) (hc : rdS h.get 1 u = some c) (hs : toB c = some s) (hg : met e g) : Stp ⟨some d, .b2s x, g⟩ e h ((d, some (.str s)) :: e) h :=
  Stp.ins (r := some (.str s)) (f := .none) (by simp [evalI, hx, hc, hs]) hg
theorem Stp.mkf {fn : Fn} {xs ys : List Opd} {vs us : List AV} (hx : evL e xs = some vs) (hy : evL e ys = some us) (hg : met e g) : Stp ⟨some d, .mkf fn xs ys, g⟩ e h ((d, some (.func fn vs us)) :: e) h :=
  Stp.ins (r := some (.func fn vs us)) (f := .none) (by simp [evalI, hx, hy]) hg
theorem Stp.mksl {sz bytes n : Nat} {z : List AV} (hx : ev e x = some (.int k a)) (hy : ev e y = some (.int k' b)) (ha : a = n) (hb : b = n) (hm : n * bytes ≤ 140737488355328) {nx : Nat} (hn : h.next = nx) (hg : met e g) : Stp ⟨some d, .mksl sz z bytes x y, g⟩ e h ((d, some (.ref nx 0 n)) :: e) (h.put nx (.mem sz (List.replicate n z))) := by
  subst hn
  subst ha; subst hb
  refine Stp.ins (r := some (.ref h.next 0 n)) (f := .new (.mem sz (List.replicate n z))) ?_ hg
  simp only [evalI, hx, hy]
  rw [req_pos ⟨by omega, trivial, by omega⟩]
  simp
theorem Stp.faddr {o id i off : Nat} (hx : ev e x = some (.ptr id i off)) (hg : met e g) : Stp ⟨some d, .faddr o x, g⟩ e h ((d, some (.ptr id i (off + o))) :: e) h :=
  Stp.ins (r := some (.ptr id i (off + o))) (f := .none) (by simp [evalI, hx]) hg
theorem Stp.faddri {o s i off : Nat} {c : List (List AV)} (hx : ev e x = some (.iptr s c i off)) (hg : met e g) : Stp ⟨some d, .faddr o x, g⟩ e h ((d, some (.iptr s c i (off + o))) :: e) h :=
  Stp.ins (r := some (.iptr s c i (off + o))) (f := .none) (by simp [evalI, hx]) hg
theorem Stp.fld {off sz : Nat} {ag : Bool} {cells : List AV} (hx : ev e x = some (.agg cells)) (hv : getC sz ag cells off = some v) (hg : met e g) : Stp ⟨some d, .fld off sz ag x, g⟩ e h ((d, some v) :: e) h :=
  Stp.ins (r := some v) (f := .none) (by simp [evalI, hx, hv]) hg
theorem Stp.iaddrI {sz i : Nat} {c : List (List AV)} (hx : ev e x = some (.imm sz c)) (hy : ev e y = some (.int k a)) (ha : a = i) (hi : i < c.length) (hg : met e g) : Stp ⟨some d, .iaddr sz x y, g⟩ e h ((d, some (.iptr sz c i 0)) :: e) h := by
  subst ha
  refine Stp.ins (r := some (.iptr sz c i 0)) (f := .none) ?_ hg
  simp only [evalI, hx, hy]
  rw [req_pos ⟨trivial, by omega, by omega⟩]
  simp
theorem Stp.iaddrP {id gn sz i : Nat} {c : List (List AV)} (hx : ev e x = some (.app id gn sz c)) (hy : ev e y = some (.int k a)) (ha : a = i) (hi : i < c.length) (hg : met e g) : Stp ⟨some d, .iaddr sz x y, g⟩ e h ((d, some (.iptr sz c i 0)) :: e) h := by
  subst ha
  refine Stp.ins (r := some (.iptr sz c i 0)) (f := .none) ?_ hg
  simp only [evalI, hx, hy]
  rw [req_pos ⟨trivial, by omega, by omega⟩]
  simp
theorem Stp.iaddrR {id sz i off n : Nat} {c : List (List AV)} (hx : ev e x = some (.ref id off n)) (hy : ev e y = some (.int k a)) (hm : h.get id = some (.mem sz c)) (ha : a = i) (hi : i < n) (hg : met e g) : Stp ⟨some d, .iaddr sz x y, g⟩ e h ((d, some (.ptr id (off + i) 0)) :: e) h := by
  subst ha
  refine Stp.ins (r := some (.ptr id (off + i) 0)) (f := .none) ?_ hg
  simp only [evalI, hx, hy, hm]
  rw [req_pos ⟨trivial, by omega, by omega⟩]
  simp
theorem Stp.iaddrA {n sz i id j off : Nat} (hx : ev e x = some (.ptr id j off)) (hy : ev e y = some (.int k a)) (ha : a = i) (hi : i < n) (hg : met e g) : Stp ⟨some d, .iaddrA n sz x y, g⟩ e h ((d, some (.ptr id j (off + i * sz))) :: e) h := by
  subst ha
  refine Stp.ins (r := some (.ptr id j (off + i * sz))) (f := .none) ?_ hg
  simp only [evalI, hx, hy]
  rw [req_pos ⟨by omega, by omega⟩]
  simp
theorem Stp.iaddrAi {n sz i s j off : Nat} {c : List (List AV)} (hx : ev e x = some (.iptr s c j off)) (hy : ev e y = some (.int k a)) (ha : a = i) (hi : i < n) (hg : met e g) : Stp ⟨some d, .iaddrA n sz x y, g⟩ e h ((d, some (.iptr s c j (off + i * sz))) :: e) h := by
  subst ha
  refine Stp.ins (r := some (.iptr s c j (off + i * sz))) (f := .none) ?_ hg
  simp only [evalI, hx, hy]
  rw [req_pos ⟨by omega, by omega⟩]
  simp
theorem Stp.ext {n : Nat} {vs : List AV} (hx : ev e x = some (.tup vs)) (hv : vs[n]? = some v) (hg : met e g) : Stp ⟨some d, .ext n x, g⟩ e h ((d, some v) :: e) h :=
  Stp.ins (r := some v) (f := .none) (by simp [evalI, hx, hv]) hg
theorem Stp.len {n : Nat} (hx : ev e x = some u) (hn : rdL h.get u = some n) (hg : met e g) : Stp ⟨some d, .len x, g⟩ e h ((d, some (.int .i64 n)) :: e) h :=
  Stp.ins (r := some (.int .i64 n)) (f := .none) (by simp [evalI, hx, hn]) hg
theorem Stp.app0 {sz bytes n : Nat} {c : List (List AV)} (hx : ev e x = some .nils) (hy : ev e y = some v) (hc : rdS h.get sz v = some c) (hb : c.length * bytes ≤ 140737488355328) (hl : c.length = n) {nx : Nat} (hn : h.next = nx) (hg : met e g) : Stp ⟨some d, .app sz bytes x y, g⟩ e h ((d, some (.app nx 0 sz c)) :: e) (h.put nx (.tail 0 n)) := by
  subst hn hl
  exact Stp.ins (r := some (.app h.next 0 sz c)) (f := .new (.tail 0 c.length)) (by simp only [evalI, hx, hy, hc]; rw [req_pos hb]) hg
theorem Stp.app1 {sz bytes id k n n' : Nat} {c c' : List (List AV)} (hx : ev e x = some (.app id k sz c')) (hy : ev e y = some v) (hc : rdS h.get sz v = some c) (ht : h.get id = some (.tail k n)) (hl : c'.length = n) (hl' : n + c.length = n') (hb : n' * bytes ≤ 140737488355328) (hg : met e g) : Stp ⟨some d, .app sz bytes x y, g⟩ e h ((d, some (.app id k sz (c' ++ c))) :: e) (h.set id (some (.tail k n'))) := by
  subst hl' hl
  exact Stp.ins (r := some (.app id k sz (c' ++ c))) (f := .set id (.tail k (c'.length + c.length))) (by simp only [evalI, hx, hy, hc, ht]; rw [req_pos ⟨trivial, trivial, trivial, hb⟩]) hg
theorem Stp.cpy {sz id off n : Nat} {c cs : List (List AV)} (hx : ev e x = some (.ref id off n)) (hy : ev e y = some v) (hm : h.get id = some (.mem sz c)) (hc : rdS h.get sz v = some cs) (hb : off + n ≤ c.length) (hg : met e g) : Stp ⟨some d, .cpy sz x y, g⟩ e h ((d, some (.int .i64 ((min cs.length n : Nat) : Int))) :: e) (h.set id (some (.mem sz (c.take off ++ cs.take (min cs.length n) ++ c.drop (off + min cs.length n))))) :=
  Stp.ins (r := some (.int .i64 ((min cs.length n : Nat) : Int))) (f := .set id (.mem sz (c.take off ++ cs.take (min cs.length n) ++ c.drop (off + min cs.length n)))) (by simp only [evalI, hx, hy, hm, hc]; rw [req_pos ⟨trivial, hb⟩]) hg
theorem Stp.cpy0 {sz id off n : Nat} {c cs : List (List AV)} (hx : ev e x = some (.ref id off n)) (hy : ev e y = some v) (hm : h.get id = some (.mem sz c)) (hc : rdS h.get sz v = some cs) (hb : off + n ≤ c.length) (hg : met e g) : Stp ⟨none, .cpy sz x y, g⟩ e h e (h.set id (some (.mem sz (c.take off ++ cs.take (min cs.length n) ++ c.drop (off + min cs.length n))))) :=
  Stp.ins (r := some (.int .i64 ((min cs.length n : Nat) : Int))) (f := .set id (.mem sz (c.take off ++ cs.take (min cs.length n) ++ c.drop (off + min cs.length n)))) (by simp only [evalI, hx, hy, hm, hc]; rw [req_pos ⟨trivial, hb⟩]) hg
theorem Stp.mn (hx : ev e x = some (.int k a)) (hy : ev e y = some (.int k b)) (hg : met e g) : Stp ⟨some d, .mn x y, g⟩ e h ((d, some (.int k (if b < a then b else a))) :: e) h :=
  Stp.ins (r := some (.int k (if b < a then b else a))) (f := .none) (by simp [evalI, hx, hy]) hg
theorem Stp.slcI {sz i j : Nat} {lo hi : Option Opd} {c : List (List AV)} (hx : ev e x = some (.imm sz c)) (hl : bnd e 0 lo = some i) (hh : bnd e c.length hi = some j) (h1 : i ≤ j) (h2 : j ≤ c.length) (hg : met e g) : Stp ⟨some d, .slc sz x lo hi, g⟩ e h ((d, some (.imm sz ((c.take j).drop i))) :: e) h :=
  Stp.ins (r := some (.imm sz ((c.take j).drop i))) (f := .none) (by simp only [evalI, hx, hl, hh]; rw [req_pos ⟨trivial, h1, h2⟩]) hg
theorem Stp.slcN {sz i j : Nat} {lo hi : Option Opd} (hx : ev e x = some .nils) (hl : bnd e 0 lo = some i) (hh : bnd e 0 hi = some j) (h1 : i = 0) (h2 : j = 0) (hg : met e g) : Stp ⟨some d, .slc sz x lo hi, g⟩ e h ((d, some .nils) :: e) h := by
  subst h1 h2
  exact Stp.ins (r := some .nils) (f := .none) (by simp only [evalI, hx, hl, hh]; rw [req_pos ⟨trivial, trivial⟩]) hg
theorem Stp.slcP {id gn sz i j : Nat} {lo hi : Option Opd} {c : List (List AV)} (hx : ev e x = some (.app id gn sz c)) (hl : bnd e 0 lo = some i) (hh : bnd e c.length hi = some j) (h1 : i ≤ j) (h2 : j ≤ c.length) (hg : met e g) : Stp ⟨some d, .slc sz x lo hi, g⟩ e h ((d, some (.imm sz ((c.take j).drop i))) :: e) h :=
  Stp.ins (r := some (.imm sz ((c.take j).drop i))) (f := .none) (by simp only [evalI, hx, hl, hh]; rw [req_pos ⟨trivial, h1, h2⟩]) hg
theorem Stp.slcR {id off n sz i j : Nat} {lo hi : Option Opd} {c : List (List AV)} (hx : ev e x = some (.ref id off n)) (hm : h.get id = some (.mem sz c)) (hl : bnd e 0 lo = some i) (hh : bnd e n hi = some j) (h1 : i ≤ j) (h2 : j ≤ n) (hg : met e g) : Stp ⟨some d, .slc sz x lo hi, g⟩ e h ((d, some (.ref id (off + i) (j - i))) :: e) h :=
  Stp.ins (r := some (.ref id (off + i) (j - i))) (f := .none) (by simp only [evalI, hx, hm, hl, hh]; rw [req_pos ⟨trivial, h1, h2⟩]) hg
theorem bnd_none {n : Nat} : bnd e n none = some n := rfl
theorem bnd_some {n i : Nat} (hx : ev e x = some (.int k a)) (ha : a = i) : bnd e n (some x) = some i := by
  subst ha
  simp only [bnd, hx]
  rw [req_pos (by omega)]
  simp

theorem wrap_in {k : IntKind} {n : Int} (hn : match k with | .i64 => -9223372036854775808 ≤ n ∧ n ≤ 9223372036854775807 | .u64 => 0 ≤ n ∧ n ≤ 18446744073709551615 | .u8 => 0 ≤ n ∧ n ≤ 255 | .u32 => 0 ≤ n ∧ n ≤ 4294967295 | _ => False) : k.wrap n = n := by
  cases k <;> simp only at hn
  all_goals first
    | exact IntWalk.i64_in n hn
    | exact IntWalk.u64_in n hn
    | exact IntWalk.u8_in n hn
    | (unfold IntKind.wrap; simp [IntKind.bits, IntKind.signed]; omega)
    | exact hn.elim
theorem i64_add {a b : Int} (hn : -9223372036854775808 ≤ a + b ∧ a + b ≤ 9223372036854775807) : binA .add .i64 a b = some (.int .i64 (a + b)) := by simp only [binA]; rw [IntWalk.i64_in _ hn]
theorem i64_sub {a b : Int} (hn : -9223372036854775808 ≤ a - b ∧ a - b ≤ 9223372036854775807) : binA .sub .i64 a b = some (.int .i64 (a - b)) := by simp only [binA]; rw [IntWalk.i64_in _ hn]
theorem i64_mul {a b : Int} (hn : -9223372036854775808 ≤ a * b ∧ a * b ≤ 9223372036854775807) : binA .mul .i64 a b = some (.int .i64 (a * b)) := by simp only [binA]; rw [IntWalk.i64_in _ hn]
theorem i64_quo {a b : Int} (ha : 0 ≤ a ∧ a ≤ 9223372036854775807) (hb : 0 < b) : binA .quo .i64 a b = some (.int .i64 (a / b)) := by
  simp only [binA]
  rw [req_pos (by omega), Int.tdiv_eq_ediv_of_nonneg ha.1, IntWalk.i64_in]
  have h1 := Int.ediv_nonneg ha.1 (by omega : 0 ≤ b)
  have h2 := Int.ediv_le_self b ha.1
  omega
theorem i64_rem {a b : Int} (ha : 0 ≤ a) (hb : 0 < b) : binA .rem .i64 a b = some (.int .i64 (a % b)) := by
  simp only [binA]
  rw [req_pos (by omega), Int.tmod_eq_emod_of_nonneg ha]
theorem inc1 {k : Nat} (hk : k < 9223372036854775807) : binA .add .i64 (k : Int) 1 = some (.int .i64 ((k + 1 : Nat) : Int)) := by rw [i64_add (by omega)]; simp
theorem div2 {k : Nat} (hk : k < 9223372036854775808) : binA .quo .i64 (k : Int) 2 = some (.int .i64 ((k / 2 : Nat) : Int)) := by rw [i64_quo (by omega) (by omega)]; simp
theorem u64_add {a b : Int} (hn : 0 ≤ a + b ∧ a + b ≤ 18446744073709551615) : binA .add .u64 a b = some (.int .u64 (a + b)) := by simp only [binA]; rw [IntWalk.u64_in _ hn]
theorem u64_sub {a b : Int} (hn : 0 ≤ a - b ∧ a - b ≤ 18446744073709551615) : binA .sub .u64 a b = some (.int .u64 (a - b)) := by simp only [binA]; rw [IntWalk.u64_in _ hn]
theorem u64_mul {a b : Int} (hn : 0 ≤ a * b ∧ a * b ≤ 18446744073709551615) : binA .mul .u64 a b = some (.int .u64 (a * b)) := by simp only [binA]; rw [IntWalk.u64_in _ hn]

theorem bits_xor_i64_nat (a b : Nat) (ha : a < 9223372036854775808) (hb : b < 9223372036854775808) : bits .xor .i64 (a : Int) (b : Int) = ((a ^^^ b : Nat) : Int) := by
  have hx : a ^^^ b < 2 ^ 63 := Nat.xor_lt_two_pow (by omega) (by omega)
  have h1 : (BitVec.ofInt 64 (a : Int)).toNat = a := by
    rw [BitVec.ofInt_natCast, BitVec.toNat_ofNat]; exact Nat.mod_eq_of_lt (by omega)
  have h2 : (BitVec.ofInt 64 (b : Int)).toNat = b := by
    rw [BitVec.ofInt_natCast, BitVec.toNat_ofNat]; exact Nat.mod_eq_of_lt (by omega)
  show IntKind.i64.wrap ((BitVec.ofInt 64 (a : Int) ^^^ BitVec.ofInt 64 (b : Int)).toNat : Int) = _
  rw [BitVec.toNat_xor, h1, h2, IntKind.wrap_i64]
  omega
theorem bits_and_i64_nat (a b : Nat) (ha : a < 9223372036854775808) (hb : b < 9223372036854775808) : bits .and .i64 (a : Int) (b : Int) = ((a &&& b : Nat) : Int) := by
  have hx : a &&& b < 2 ^ 63 := Nat.and_lt_two_pow _ (by omega)
  have h1 : (BitVec.ofInt 64 (a : Int)).toNat = a := by
    rw [BitVec.ofInt_natCast, BitVec.toNat_ofNat]; exact Nat.mod_eq_of_lt (by omega)
  have h2 : (BitVec.ofInt 64 (b : Int)).toNat = b := by
    rw [BitVec.ofInt_natCast, BitVec.toNat_ofNat]; exact Nat.mod_eq_of_lt (by omega)
  show IntKind.i64.wrap ((BitVec.ofInt 64 (a : Int) &&& BitVec.ofInt 64 (b : Int)).toNat : Int) = _
  rw [BitVec.toNat_and, h1, h2, IntKind.wrap_i64]
  omega
theorem xor1 (k : Nat) (hk : k < 9223372036854775808) : binA .xor .i64 (k : Int) 1 = some (.int .i64 ((k ^^^ 1 : Nat) : Int)) :=
  congrArg (fun x => some (AV.int .i64 x)) (bits_xor_i64_nat k 1 hk (by omega))
theorem and1 (k : Nat) (hk : k < 9223372036854775808) : binA .and .i64 (k : Int) 1 = some (.int .i64 ((k % 2 : Nat) : Int)) := by
  have := congrArg (fun x => some (AV.int .i64 x)) (bits_and_i64_nat k 1 hk (by omega))
  rw [Nat.and_one_is_mod] at this
  exact this

/-- A slot's truth, known from here. -/
theorem AL.pin {s : Nat} {t : Bool} (hc : lk s e = some (.bool t)) (h1 : t = true → AL P N l Q ((s, some (.bool true)) :: e) h) (h2 : t = false → AL P N l Q ((s, some (.bool false)) :: e) h) : AL P N l Q e h := by
  have key : ∀ b, t = b → ∀ i v, lk i ((s, some (.bool b)) :: e) = some v → lk i e = some v := fun b hb i v hi => by
    simp only [lk_cons, lk_nil] at hi
    split at hi
    · rename_i e1; subst e1; rw [← hi, hc, hb]
    · exact hi
  cases t
  · exact AL.env (key false rfl) (h2 rfl)
  · exact AL.env (key true rfl) (h1 rfl)
theorem AL.endL (hq : Q .normal e h) : AL P N [] Q e h := AL.nil hq
theorem get_put_neE {id nm : Nat} {x : AObj} {r : Option AObj} (hne : id ≠ nm) (hr : h.get id = r) : (h.put nm x).get id = r := (get_put_ne hne).trans hr
theorem get_set_neE {id nm : Nat} {x r : Option AObj} (hne : id ≠ nm) (hr : h.get id = r) : (h.set nm x).get id = r := (get_set_ne hne).trans hr
theorem next_putE {nm : Nat} {x : AObj} (hn : h.next = nm) : (h.put nm x).next = nm + 1 := by subst hn; simp [AHeap.put]
theorem next_setE {nm n : Nat} {x : Option AObj} (hn : h.next = n) : (h.set nm x).next = n := hn
theorem getC_at {sz : Nat} {cells : List AV} {off : Nat} (hx : cells[off]? = some v) (h1 : sz = 1) : getC sz false cells off = some v := by
  have := (List.getElem?_eq_some_iff.1 hx).1
  subst h1
  simp only [getC]
  rw [if_pos (by omega)]
  simpa using hx
theorem getC_all {sz : Nat} {cells : List AV} (hl : cells.length = sz) : getC sz true cells 0 = some (.agg cells) := by
  subst hl; simp [getC]
theorem getC_sub {sz off : Nat} {cells cs : List AV} (hl : off + sz ≤ cells.length) (hc : (cells.drop off).take sz = cs) : getC sz true cells off = some (.agg cs) := by
  subst hc; simp [getC, hl]
theorem AL.auto {c : CI} {e' : Env} {h' : AHeap} (hs : Stp c e h e' h') (k : AL P N l Q e' h') : AL P N (c :: l) Q e h := AL.step hs.ok k
/-- The next instruction's guard, one way and the other. -/
theorem AL.split {dd : Option Nat} {i : Ins} {s : Nat} {b t : Bool} (hc : lk s e = some (.bool t)) (h1 : t = true → AL P N (⟨dd, i, some (s, b)⟩ :: l) Q ((s, some (.bool true)) :: e) h) (h2 : t = false → AL P N (⟨dd, i, some (s, b)⟩ :: l) Q ((s, some (.bool false)) :: e) h) : AL P N (⟨dd, i, some (s, b)⟩ :: l) Q e h := AL.pin hc h1 h2
theorem rdS_ref {g : Nat → Option AObj} {id sz off len : Nat} {c : List (List AV)} (hg : g id = some (.mem sz c)) : rdS g sz (.ref id off len) = some ((c.drop off).take len) := by
  simp [rdS, hg]
theorem ln0_one {α : Type} {x : α} : [x].length = 1 := rfl
theorem ln0_map {α β : Type} {f : α → β} {xs : List α} : (xs.map f).length = xs.length := List.length_map ..
theorem ln_one {α : Type} {x : α} {n : Nat} : n + [x].length = n + 1 := rfl
theorem ln_map {α β : Type} {f : α → β} {xs : List α} {n : Nat} : n + (xs.map f).length = n + xs.length := by simp
theorem rdL_map {α : Type} {g : Nat → Option AObj} {sz : Nat} {f : α → List AV} {xs : List α} : rdL g (.imm sz (xs.map f)) = some xs.length := by simp [rdL]
theorem rdL_mapA {α : Type} {g : Nat → Option AObj} {id gn sz : Nat} {f : α → List AV} {xs : List α} : rdL g (.app id gn sz (xs.map f)) = some xs.length := by simp [rdL]
theorem ix2 (k : Nat) : (2 : Int) * (k : Int) = ((2 * k : Nat) : Int) := by omega
theorem ix21 (k : Nat) : (2 : Int) * (k : Int) + 1 = ((2 * k + 1 : Nat) : Int) := by omega
theorem map_at {α : Type} {f : α → List AV} {xs : List α} {i : Nat} {x : α} (hx : xs[i]? = some x) : (xs.map f)[i]? = some (f x) := by simp [hx]
theorem AL.callM {dd : Option Nat} {f : Nat} {xs : List Opd} {vs : List AV} (hv : evL e xs = some vs) (hg : met e g) (hac : AC P f vs h (fun r h' => AL P N l Q (putR dd (some r) e) h')) : AL P N (⟨dd, .call f xs, g⟩ :: l) Q e h := by
  cases g with
  | none => exact AL.call hv hac
  | some sb => exact AL.gcall hg hv hac
end
end Go.Abs

namespace Go.Abs
open Go

section
variable {e e' : Env} {h h' : AHeap}
/-- What stands at a name, found by itself. -/
theorem gH {i : Nat} {x : Option AObj} (p : h.get i = x := by repeat first | with_reducible exact get_put_same | with_reducible exact get_set_same | assumption | with_reducible apply get_put_neE (by omega) | with_reducible apply get_set_neE (by omega) | with_reducible apply get_keepE | exact get_put_same | exact get_set_same) : h.get i = x := p
/-- The next name. -/
theorem gN {n : Nat} (p : h.next = n := by repeat first | with_reducible apply next_putE | with_reducible apply next_setE | assumption | exact rfl) : h.next = n := p
/-- A step that needs no thought. -/
theorem Stp.auto {c : CI} (hs : Stp c e h e' h' := by
    first | (apply Stp.mov; exact rfl; exact (by first | exact True.intro | exact rfl)) | (apply Stp.unmet; exact rfl; exact rfl) | (apply Stp.unmet0; exact rfl; exact rfl) | (apply Stp.grp 1; exact rfl; first | (apply Stp.ext; exact rfl; exact rfl; exact (by first | exact True.intro | exact rfl)) | (apply Stp.nilck; exact rfl; exact (by first | exact True.intro | exact rfl)) | (apply Stp.nilckp0; exact rfl; exact (by first | exact True.intro | exact rfl)) | (apply Stp.nilcki; exact rfl; exact (by first | exact True.intro | exact rfl)) | (apply Stp.faddr; exact rfl; exact (by first | exact True.intro | exact rfl)) | (apply Stp.faddri; exact rfl; exact (by first | exact True.intro | exact rfl)) | (apply Stp.len; exact rfl; exact (by first | exact rdL_map | exact rdL_mapA | exact rfl); exact (by first | exact True.intro | exact rfl)) | (apply Stp.fld; exact rfl; exact (by first | exact getC_at rfl rfl | exact getC_all rfl | exact getC_sub (Nat.le_of_ble_eq_true rfl) (by first | (simp only [putC, AV.cs, encP, encN, encI, encS, encA, List.take_succ_cons, List.take_zero, List.take_nil, List.drop_succ_cons, List.drop_zero, List.drop_nil, List.cons_append, List.nil_append, List.append_nil, List.length_cons, List.length_nil, Nat.zero_add, Nat.add_zero, Nat.reduceAdd]; exact rfl) | exact rfl) | exact getC_sub (by simp) (by first | (simp only [putC, AV.cs, encP, encN, encI, encS, encA, List.take_succ_cons, List.take_zero, List.take_nil, List.drop_succ_cons, List.drop_zero, List.drop_nil, List.cons_append, List.nil_append, List.append_nil, List.length_cons, List.length_nil, Nat.zero_add, Nat.add_zero, Nat.reduceAdd]; exact rfl) | exact rfl)); exact (by first | exact True.intro | exact rfl)) | (apply Stp.nilckf; exact rfl; exact (by first | exact True.intro | exact rfl)) | (apply Stp.nilck0; exact rfl; exact (by first | exact True.intro | exact rfl))) | (apply Stp.grp 2; exact rfl; first | (apply Stp.loadi; exact rfl; exact (by first | exact map_at (List.getElem?_eq_getElem (by omega)) | exact map_at (List.getElem?_range (by omega)) | exact List.getElem?_eq_getElem (by omega) | exact rfl); exact (by first | exact getC_at rfl rfl | exact getC_all rfl | exact getC_sub (Nat.le_of_ble_eq_true rfl) (by first | (simp only [putC, AV.cs, encP, encN, encI, encS, encA, List.take_succ_cons, List.take_zero, List.take_nil, List.drop_succ_cons, List.drop_zero, List.drop_nil, List.cons_append, List.nil_append, List.append_nil, List.length_cons, List.length_nil, Nat.zero_add, Nat.add_zero, Nat.reduceAdd]; exact rfl) | exact rfl) | exact getC_sub (by simp) (by first | (simp only [putC, AV.cs, encP, encN, encI, encS, encA, List.take_succ_cons, List.take_zero, List.take_nil, List.drop_succ_cons, List.drop_zero, List.drop_nil, List.cons_append, List.nil_append, List.append_nil, List.length_cons, List.length_nil, Nat.zero_add, Nat.add_zero, Nat.reduceAdd]; exact rfl) | exact rfl)); exact (by first | exact True.intro | exact rfl)) | (apply Stp.load1; exact rfl; exact gH; exact (by first | exact getC_at rfl rfl | exact getC_all rfl | exact getC_sub (Nat.le_of_ble_eq_true rfl) (by first | (simp only [putC, AV.cs, encP, encN, encI, encS, encA, List.take_succ_cons, List.take_zero, List.take_nil, List.drop_succ_cons, List.drop_zero, List.drop_nil, List.cons_append, List.nil_append, List.append_nil, List.length_cons, List.length_nil, Nat.zero_add, Nat.add_zero, Nat.reduceAdd]; exact rfl) | exact rfl) | exact getC_sub (by simp) (by first | (simp only [putC, AV.cs, encP, encN, encI, encS, encA, List.take_succ_cons, List.take_zero, List.take_nil, List.drop_succ_cons, List.drop_zero, List.drop_nil, List.cons_append, List.nil_append, List.append_nil, List.length_cons, List.length_nil, Nat.zero_add, Nat.add_zero, Nat.reduceAdd]; exact rfl) | exact rfl)); exact (by first | exact True.intro | exact rfl)) | (apply Stp.loadp; exact rfl; exact gH; exact (by first | exact map_at (List.getElem?_eq_getElem (by omega)) | exact map_at (List.getElem?_range (by omega)) | exact List.getElem?_eq_getElem (by omega) | exact rfl); exact (by first | exact getC_at rfl rfl | exact getC_all rfl | exact getC_sub (Nat.le_of_ble_eq_true rfl) (by first | (simp only [putC, AV.cs, encP, encN, encI, encS, encA, List.take_succ_cons, List.take_zero, List.take_nil, List.drop_succ_cons, List.drop_zero, List.drop_nil, List.cons_append, List.nil_append, List.append_nil, List.length_cons, List.length_nil, Nat.zero_add, Nat.add_zero, Nat.reduceAdd]; exact rfl) | exact rfl) | exact getC_sub (by simp) (by first | (simp only [putC, AV.cs, encP, encN, encI, encS, encA, List.take_succ_cons, List.take_zero, List.take_nil, List.drop_succ_cons, List.drop_zero, List.drop_nil, List.cons_append, List.nil_append, List.append_nil, List.length_cons, List.length_nil, Nat.zero_add, Nat.add_zero, Nat.reduceAdd]; exact rfl) | exact rfl)); exact (by first | exact True.intro | exact rfl))) | (apply Stp.grp 3; exact rfl; first | (apply Stp.bin; exact rfl; exact rfl; exact (by first | with_reducible exact inc1 (by omega) | with_reducible exact i64_add (by omega) | with_reducible exact i64_sub (by omega) | with_reducible exact i64_mul (by omega) | with_reducible exact div2 (by omega) | with_reducible exact i64_quo (by omega) (by omega) | with_reducible exact i64_rem (by omega) (by omega) | with_reducible exact u64_add (by omega) | with_reducible exact u64_sub (by omega) | with_reducible exact u64_mul (by omega) | with_reducible exact xor1 _ (by omega) | with_reducible exact and1 _ (by omega) | exact rfl); exact (by first | exact True.intro | exact rfl)) | (apply Stp.conv; exact rfl; exact (by first | exact wrap_in (And.intro (by omega) (by omega)) | rfl); exact (by first | exact True.intro | exact rfl)) | (apply Stp.pickT; exact rfl; exact rfl; exact (by first | exact True.intro | exact rfl)) | (apply Stp.pickF; exact rfl; exact rfl; exact (by first | exact True.intro | exact rfl)) | (apply Stp.sh; exact rfl; exact rfl; exact rfl; exact (by first | exact True.intro | exact rfl)) | (apply Stp.eqvT; exact rfl; exact rfl; exact rfl; exact (by first | exact True.intro | exact rfl)) | (apply Stp.eqvF; exact rfl; exact rfl; exact rfl; exact (by first | exact True.intro | exact rfl)) | (apply Stp.not; exact rfl; exact (by first | exact True.intro | exact rfl)) | (apply Stp.mn; exact rfl; exact rfl; exact (by first | exact True.intro | exact rfl))) | (apply Stp.grp 4; exact rfl; first | (apply Stp.store1N; exact rfl; exact rfl; exact gH; exact rfl; exact (by first | exact Nat.le_of_ble_eq_true rfl | (simp; done) | (simp; omega)); exact rfl; exact (by first | (simp only [putC, AV.cs, encP, encN, encI, encS, encA, List.take_succ_cons, List.take_zero, List.take_nil, List.drop_succ_cons, List.drop_zero, List.drop_nil, List.cons_append, List.nil_append, List.append_nil, List.length_cons, List.length_nil, Nat.zero_add, Nat.add_zero, Nat.reduceAdd]; exact rfl) | exact rfl); exact (by first | exact True.intro | exact rfl)) | (apply Stp.storeN; exact rfl; exact rfl; exact gH; exact (by first | exact map_at (List.getElem?_eq_getElem (by omega)) | exact map_at (List.getElem?_range (by omega)) | exact List.getElem?_eq_getElem (by omega) | exact rfl); exact rfl; exact (by first | exact Nat.le_of_ble_eq_true rfl | (simp; done) | (simp; omega)); exact rfl; exact (by first | (simp only [putC, AV.cs, encP, encN, encI, encS, encA, List.take_succ_cons, List.take_zero, List.take_nil, List.drop_succ_cons, List.drop_zero, List.drop_nil, List.cons_append, List.nil_append, List.append_nil, List.length_cons, List.length_nil, Nat.zero_add, Nat.add_zero, Nat.reduceAdd]; exact rfl) | exact rfl); exact (by first | exact True.intro | exact rfl)) | (apply Stp.allocN; exact gN; exact (by first | (simp only [putC, AV.cs, encP, encN, encI, encS, encA, List.take_succ_cons, List.take_zero, List.take_nil, List.drop_succ_cons, List.drop_zero, List.drop_nil, List.cons_append, List.nil_append, List.append_nil, List.length_cons, List.length_nil, Nat.zero_add, Nat.add_zero, Nat.reduceAdd]; exact rfl) | exact rfl); exact (by first | exact True.intro | exact rfl)) | (apply Stp.buildN; exact rfl; exact (by rfl); exact (by first | (simp only [putC, AV.cs, encP, encN, encI, encS, encA, List.take_succ_cons, List.take_zero, List.take_nil, List.drop_succ_cons, List.drop_zero, List.drop_nil, List.cons_append, List.nil_append, List.append_nil, List.length_cons, List.length_nil, Nat.zero_add, Nat.add_zero, Nat.reduceAdd]; exact rfl) | exact rfl); exact (by first | exact True.intro | exact rfl)) | (apply Stp.boxN; exact rfl; exact rfl; exact rfl; exact gN; exact (by first | (simp only [putC, AV.cs, encP, encN, encI, encS, encA, List.take_succ_cons, List.take_zero, List.take_nil, List.drop_succ_cons, List.drop_zero, List.drop_nil, List.cons_append, List.nil_append, List.append_nil, List.length_cons, List.length_nil, Nat.zero_add, Nat.add_zero, Nat.reduceAdd]; exact rfl) | exact rfl); exact (by first | exact True.intro | exact rfl)) | (apply Stp.bsl0; exact (by first | exact True.intro | exact rfl)) | (apply Stp.bslN; exact rfl; exact rfl; exact (by first | (simp only [putC, AV.cs, encP, encN, encI, encS, encA, List.take_succ_cons, List.take_zero, List.take_nil, List.drop_succ_cons, List.drop_zero, List.drop_nil, List.cons_append, List.nil_append, List.append_nil, List.length_cons, List.length_nil, Nat.zero_add, Nat.add_zero, Nat.reduceAdd]; exact rfl) | exact rfl); exact (by first | exact True.intro | exact rfl))) | (apply Stp.grp 5; exact rfl; first | (apply Stp.iaddrI; exact rfl; exact rfl; exact (by first | with_reducible exact ix2 _ | with_reducible exact ix21 _ | rfl | exact (Int.toNat_of_nonneg (by omega)).symm); exact (by first | omega | (simp; done) | (simp; omega)); exact (by first | exact True.intro | exact rfl)) | (apply Stp.iaddrP; exact rfl; exact rfl; exact (by first | with_reducible exact ix2 _ | with_reducible exact ix21 _ | rfl | exact (Int.toNat_of_nonneg (by omega)).symm); exact (by first | omega | (simp; done) | (simp; omega)); exact (by first | exact True.intro | exact rfl)) | (apply Stp.iaddrA; exact rfl; exact rfl; exact (by first | with_reducible exact ix2 _ | with_reducible exact ix21 _ | rfl | exact (Int.toNat_of_nonneg (by omega)).symm); exact (by first | omega | (simp; done) | (simp; omega)); exact (by first | exact True.intro | exact rfl)) | (apply Stp.iaddrAi; exact rfl; exact rfl; exact (by first | with_reducible exact ix2 _ | with_reducible exact ix21 _ | rfl | exact (Int.toNat_of_nonneg (by omega)).symm); exact (by first | omega | (simp; done) | (simp; omega)); exact (by first | exact True.intro | exact rfl)) | (apply Stp.app0; exact rfl; exact rfl; exact (by first | rfl | exact rdS_ref gH); exact (by first | omega | (simp; done) | (simp; omega)); exact (by first | exact ln0_one | exact ln0_map | exact rfl); exact gN; exact (by first | exact True.intro | exact rfl)) | (apply Stp.app1; exact rfl; exact rfl; exact (by first | rfl | exact rdS_ref gH); exact gH; exact (by first | rfl | exact List.length_map _ | (simp; done) | (simp; omega)); exact (by first | exact ln_one | exact ln_map | exact rfl); exact (by first | omega | (simp; done) | (simp; omega)); exact (by first | exact True.intro | exact rfl)) | (apply Stp.slcI; exact rfl; exact (by first | exact bnd_none | exact bnd_some rfl rfl | exact bnd_some rfl (Int.toNat_of_nonneg (by omega)).symm); exact (by first | exact bnd_none | exact bnd_some rfl rfl | exact bnd_some rfl (Int.toNat_of_nonneg (by omega)).symm); exact (by first | omega | (simp; done) | (simp; omega)); exact (by first | omega | (simp; done) | (simp; omega)); exact (by first | exact True.intro | exact rfl)) | (apply Stp.slcN; exact rfl; exact (by first | exact bnd_none | exact bnd_some rfl rfl | exact bnd_some rfl (Int.toNat_of_nonneg (by omega)).symm); exact (by first | exact bnd_none | exact bnd_some rfl rfl | exact bnd_some rfl (Int.toNat_of_nonneg (by omega)).symm); exact rfl; exact rfl; exact (by first | exact True.intro | exact rfl)) | (apply Stp.slcP; exact rfl; exact (by first | exact bnd_none | exact bnd_some rfl rfl | exact bnd_some rfl (Int.toNat_of_nonneg (by omega)).symm); exact (by first | exact bnd_none | exact bnd_some rfl rfl | exact bnd_some rfl (Int.toNat_of_nonneg (by omega)).symm); exact (by first | omega | (simp; done) | (simp; omega)); exact (by first | omega | (simp; done) | (simp; omega)); exact (by first | exact True.intro | exact rfl)) | (apply Stp.slcR; exact rfl; exact gH; exact (by first | exact bnd_none | exact bnd_some rfl rfl | exact bnd_some rfl (Int.toNat_of_nonneg (by omega)).symm); exact (by first | exact bnd_none | exact bnd_some rfl rfl | exact bnd_some rfl (Int.toNat_of_nonneg (by omega)).symm); exact (by first | omega | (simp; done) | (simp; omega)); exact (by first | omega | (simp; done) | (simp; omega)); exact (by first | exact True.intro | exact rfl)) | (apply Stp.iaddrR; exact rfl; exact rfl; exact gH; exact (by first | with_reducible exact ix2 _ | with_reducible exact ix21 _ | rfl | exact (Int.toNat_of_nonneg (by omega)).symm); exact (by first | omega | (simp; done) | (simp; omega)); exact (by first | exact True.intro | exact rfl)) | (apply Stp.cpy; exact rfl; exact rfl; exact gH; exact (by first | rfl | exact rdS_ref gH); exact (by first | omega | (simp; done) | (simp; omega)); exact (by first | exact True.intro | exact rfl)) | (apply Stp.cpy0; exact rfl; exact rfl; exact gH; exact (by first | rfl | exact rdS_ref gH); exact (by first | omega | (simp; done) | (simp; omega)); exact (by first | exact True.intro | exact rfl)) | (apply Stp.mksl; exact rfl; exact rfl; exact (by first | with_reducible exact ix2 _ | with_reducible exact ix21 _ | rfl | exact (Int.toNat_of_nonneg (by omega)).symm); exact (by first | with_reducible exact ix2 _ | with_reducible exact ix21 _ | rfl | exact (Int.toNat_of_nonneg (by omega)).symm); exact (by first | omega | (simp; done) | (simp; omega)); exact gN; exact (by first | exact True.intro | exact rfl)) | (apply Stp.mkf; exact rfl; exact rfl; exact (by first | exact True.intro | exact rfl)) | (apply Stp.b2s; exact rfl; exact (by first | rfl | exact rdS_ref gH); exact (by first | exact toB_map | exact rfl); exact (by first | exact True.intro | exact rfl)))) : Stp c e h e' h' := hs
end
end Go.Abs

namespace Go.Abs
open Go

section
variable {P : Program} {N : Nat} {Q : Exit → Env → AHeap → Prop} {e e' e'' : Env} {h h' h'' : AHeap} {l : List CI} {c : CC}

/-- What is known, told in another way. -/
def Cvt (e : Env) (h : AHeap) (e' : Env) (h' : AHeap) : Prop :=
  ∀ (N : Nat) (m : Inj) (w : World) (a : Act), HR m h w → ER N m h w e a → ∃ m', HR m' h' w ∧ ER N m' h' w e' a ∧ Step m h w m' h' w
theorem Cvt.refl : Cvt e h e h := fun _ m _ _ hr he => ⟨m, hr, he, Step.refl _ _ _⟩
theorem Cvt.trans (h1 : Cvt e h e' h') (h2 : Cvt e' h' e'' h'') : Cvt e h e'' h'' := fun N m w a hr he => by
  obtain ⟨m1, r1, e1, s1⟩ := h1 N m w a hr he
  obtain ⟨m2, r2, e2, s2⟩ := h2 N m1 w a r1 e1
  exact ⟨m2, r2, e2, s1.trans s2⟩
theorem Cvt.sub (hs : subE e' e) : Cvt e h e' h := fun _ m _ _ hr he => ⟨m, hr, ⟨he.size, he.defers, fun i v hi => he.val i v (hs i v hi)⟩, Step.refl _ _ _⟩
theorem Cvt.put {i : Nat} {v : AV} (hv : ∀ (N : Nat) (m : Inj) (w : World) (a : Act), HR m h w → ER N m h w e a → VR m h w v (a.tmps.getD i undef)) : Cvt e h ((i, some v) :: e) h := fun N m w a hr he =>
  ⟨m, hr, ⟨he.size, he.defers, fun j u hj => by
    simp only [lk_cons, lk_nil] at hj
    split at hj
    · rename_i e1; subst e1; cases hj; exact hv N m w a hr he
    · exact he.val j u hj⟩, Step.refl _ _ _⟩

theorem thenN {K : Env → AHeap → Prop} (hk : K e h) : thenQ K Q .normal e h := hk
end
end Go.Abs

namespace Go.Abs
open Go

section
variable {P : Program} {N f : Nat} {e : Env} {h h1 : AHeap} {cc : CC} {rcs : List RC} {vs rs : List AV} {v r : AV}

/-- The end of a function that only computes. -/
structure PureQ (h : AHeap) (rcs : List RC) (r : AV) (ex : Exit) (e : Env) (h1 : AHeap) : Prop where
  ex : ex = .ret ∨ ex = .normal
  keeps : Keeps h h1
  res : ∃ rs, resA h1.get e rcs = some rs ∧ Fz h h1 (fin rs) r
theorem PureQ.fin {x : Exit} (hex : x = .ret ∨ x = .normal) (hk : Keeps h h1) (hr : resA h1.get e rcs = some rs) (hf : Fz h h1 (Go.Abs.fin rs) r) : PureQ h rcs r x e h1 := ⟨hex, hk, rs, hr, hf⟩
/-- Values that hold no names. -/
def AV.flat : AV → Bool
  | .bool _ | .int _ _ | .str _ => true
  | _ => false
end
end Go.Abs

namespace Go.Abs
open Go

def oslots : Opd → List Nat
  | .t n => [n]
  | .c _ => []
def lslots : List Opd → List Nat
  | [] => []
  | x :: xs => oslots x ++ lslots xs
def pslots : List (Nat × Nat × Opd) → List Nat
  | [] => []
  | (_, _, x) :: xs => oslots x ++ pslots xs
def bslots : Option Opd → List Nat
  | some x => oslots x
  | none => []
def xslots : Ex → List Nat
  | .mkmap => []
  | .look _ _ _ m k => oslots m ++ oslots k
  | .mput _ m k v => oslots m ++ (oslots k ++ oslots v)
  | .mlen x | .s2b x | .caps x => oslots x
  | .slc3 _ x lo hi mx => oslots x ++ (bslots lo ++ (bslots hi ++ oslots mx))
  | .callx _ xs => lslots xs
  | .strish x | .mkif _ x | .asrt _ _ _ x | .clr _ _ x => oslots x
  | .appz _ _ _ s n => oslots s ++ oslots n
  | .inv _ x xs => oslots x ++ lslots xs
def islots : Ins → List Nat
  | .mov x | .box _ x | .load _ _ x | .nilck x | .isnil _ x | .not x | .conv _ x | .b2s x | .faddr _ x | .fld _ _ _ x | .ext _ x | .len x => oslots x
  | .pick c a b => oslots c ++ (oslots a ++ oslots b)
  | .alloc _ | .bsl0 | .bad => []
  | .build _ ps => pslots ps
  | .bsl _ xs => lslots xs
  | .store _ p x => oslots p ++ oslots x
  | .bin _ x y | .sh _ x y | .eqv _ _ x y | .iaddr _ x y | .iaddrA _ _ x y | .app _ _ x y | .cpy _ x y | .mn x y => oslots x ++ oslots y
  | .mksl _ _ _ l c => oslots l ++ oslots c
  | .mkf _ xs ys => lslots xs ++ lslots ys
  | .slc _ x lo hi => oslots x ++ (bslots lo ++ bslots hi)
  | .call _ xs => lslots xs
  | .callv x xs => oslots x ++ lslots xs
  | .raw x => xslots x
def cslots (c : CI) : List Nat := match c.g with
  | some (s, _) => s :: islots c.i
  | none => islots c.i

section
variable {P : Program} {N : Nat} {e e2 e' : Env} {h h' : AHeap}

theorem ev_congr {x : Opd} (hs : ∀ s ∈ oslots x, lk s e2 = lk s e) : ev e2 x = ev e x := by
  cases x with
  | t n => exact hs n (by simp [oslots])
  | c v => rfl
theorem evL_congr : ∀ {xs : List Opd}, (∀ s ∈ lslots xs, lk s e2 = lk s e) → evL e2 xs = evL e xs
  | [], _ => rfl
  | x :: xs, hs => by
    simp only [evL]
    rw [ev_congr fun s h => hs s (by simp [lslots, h]), evL_congr fun s h => hs s (by simp [lslots, h])]
theorem evP_congr : ∀ {xs : List (Nat × Nat × Opd)}, (∀ s ∈ pslots xs, lk s e2 = lk s e) → evP e2 xs = evP e xs
  | [], _ => rfl
  | (_, _, x) :: xs, hs => by
    simp only [evP]
    rw [ev_congr fun s h => hs s (by simp [pslots, h]), evP_congr fun s h => hs s (by simp [pslots, h])]
theorem bnd_congr {n : Nat} {x : Option Opd} (hs : ∀ s ∈ bslots x, lk s e2 = lk s e) : bnd e2 n x = bnd e n x := by
  cases x with
  | none => rfl
  | some x => simp only [bnd]; rw [ev_congr hs]

theorem evalI_congr {nm : Nat} {g : Nat → Option AObj} {i : Ins} (hs : ∀ s ∈ islots i, lk s e2 = lk s e) : evalI nm i e2 g = evalI nm i e g := by
  cases i <;> simp only [islots, List.mem_append] at hs <;> simp only [evalI] <;> first
    | rfl
    | (rw [ev_congr fun s h => hs s (.inl h), ev_congr fun s h => hs s (.inr (.inl h)), ev_congr fun s h => hs s (.inr (.inr h))]; done)
    | (rw [ev_congr fun s h => hs s (.inl h), ev_congr fun s h => hs s (.inr h)]; done)
    | (rw [evL_congr fun s h => hs s (.inl h), evL_congr fun s h => hs s (.inr h)]; done)
    | (rw [ev_congr hs]; done)
    | (rw [evL_congr hs]; done)
    | (rw [evP_congr hs]; done)
    | (rw [ev_congr fun s h => hs s (.inl h)]
       simp only [bnd_congr fun s h => hs s (.inr (.inl h)), bnd_congr fun s h => hs s (.inr (.inr h))]; done)
    | skip

/-- Instructions that don't look at the heap. -/
def free0 : Ins → Bool
  | .mov _ | .pick _ _ _ | .build _ _ | .bsl0 | .bsl _ _ | .nilck _ | .bin _ _ _ | .sh _ _ _ | .eqv _ _ _ _ | .isnil _ _ | .not _ | .conv _ _ | .mkf _ _ _ | .faddr _ _ | .fld _ _ _ _ | .iaddrA _ _ _ _ | .ext _ _ | .len _ | .mn _ _ => true
  | _ => false
theorem rdL_g {g g' : Nat → Option AObj} {v : AV} : rdL g v = rdL g' v := by cases v <;> rfl
theorem free0_same {i : Ins} (hf : free0 i = true) (nm nm' : Nat) (g g' : Nat → Option AObj) : evalI nm i e g = evalI nm' i e g' := by
  cases i <;> first
    | (simp [free0] at hf; done)
    | rfl
    | (simp only [evalI]; simp only [rdL_g (g := g) (g' := g')]; done)
theorem free0_none {i : Ins} (hf : free0 i = true) {nm : Nat} {g : Nat → Option AObj} {r : Option AV} {f : Eff} (hx : evalI nm i e g = some (r, f)) : f = .none := by
  cases i <;> first
    | (simp [free0] at hf; done)
    | (simp only [evalI] at hx
       repeat' split at hx
       all_goals first
         | (cases hx; done)
         | (injection hx with hx; injection hx with h1 h2; exact h2.symm)
         | (unfold req at hx; split at hx <;> cases hx <;> rfl))

/-- One operation, in any surrounding that has its slots. -/
def FX (P : Program) (N : Nat) (c : CI) (e : Env) (h : AHeap) (r : Option AV) (h' : AHeap) : Prop :=
  ∀ (ops : Array Oper) (i : Nat) (o : Oper), ops[i]? = some o → compI P N ops o = c → ∀ e2, (∀ s ∈ cslots c, lk s e2 = lk s e) → ∀ (m : Inj) (w : World) (a : Act) (K : Act → World → Prop) (Q : Exit → Act → World → Prop),
    HR m h w → ER N m h w e2 a → (∀ m' w' a', HR m' h' w' → ER N m' h' w' (putR c.d r e2) a' → Step m h w m' h' w' → K a' w') → wpOp P ops Q i K a w

theorem execCI_wpOp {o : Oper} {c : CI} (hco : c.d = o.dst) (hdst : ∀ d, o.dst = some d → d < N) (hcomp : c.i.plain = true → compileOp P N o = some c.i) {r : Option AV} {f : Eff} (hev : evalI h.next c.i e h.get = some (r, f))
    {m : Inj} {w : World} {a : Act} {K : Act → World → Prop} {Q : Exit → Act → World → Prop} (hr : HR m h w) (he : ER N m h w e a) (hk : ∀ m' w' a', HR m' (f.on h.next h) w' → ER N m' (f.on h.next h) w' (putR c.d r e) a' → Step m h w m' (f.on h.next h) w' → K a' w') :
    o.wp P a w K Q := by
  obtain ⟨m', w', hr', st, hres⟩ := evalI_ok hr (next_fresh hr) he (hcomp (evalI_plain hev)) hev
  unfold Oper.wp
  cases r with
  | some v =>
    obtain ⟨cv, hrun, hv⟩ := hres
    rw [hrun, Oper.upon_value]
    refine hk m' w' _ hr' ?_ st
    rw [hco]
    exact (he.step st).putR hdst hv
  | none =>
    rw [hres, Oper.upon_skip]
    refine hk m' w' _ hr' ?_ st
    rw [hco]
    exact (he.step st).skipR _ _

theorem FX.ins {c : CI} {r : Option AV} {f : Eff} (hg : met e c.g) (hev : evalI h.next c.i e h.get = some (r, f)) : FX P N c e h r (f.on h.next h) := by
  intro ops i o ho hc e2 hs m w a K Q hr he hk
  rcases compI_ok hc with ⟨hb1, hb2⟩ | ⟨hd, hdst, hcomp, hgd⟩
  · rw [hb1] at hev; simp [evalI] at hev
  · obtain ⟨w1, w2⟩ := wanted_of he hgd
    have hi : ∀ s ∈ islots c.i, lk s e2 = lk s e := fun s h => hs s (by unfold cslots; split <;> simp [h])
    have hw : Region.wanted o (yielded ops a.tmps) = true := by
      cases hgc : c.g with
      | none => exact w1 hgc
      | some sb =>
        obtain ⟨s, b⟩ := sb
        rw [hgc] at hg
        have hl : lk s e2 = some (.bool b) := (hs s (by simp [cslots, hgc])).trans hg
        rw [w2 s b b hgc hl]; simp
    simp only [wpOp, ho]
    rw [if_pos hw]
    exact .inl (execCI_wpOp hd hdst hcomp (by rw [evalI_congr hi]; exact hev) hr he hk)
theorem FX.skip {c : CI} {s : Nat} {b t : Bool} (hcg : c.g = some (s, b)) (hl : lk s e = some (.bool t)) (ht : t ≠ b) : FX P N c e h none h := by
  intro ops i o ho hc e2 hs m w a K Q hr he hk
  rcases compI_ok hc with ⟨hb1, hb2⟩ | ⟨hd, hdst, hcomp, hgd⟩
  · rw [hb2] at hcg; cases hcg
  · obtain ⟨w1, w2⟩ := wanted_of he hgd
    simp only [wpOp, ho]
    rw [w2 s b t hcg ((hs s (by simp [cslots, hcg])).trans hl), if_neg (by simp [ht])]
    refine hk m w _ hr ?_ (Step.refl _ _ _)
    rw [hd]
    exact he.skipR _ _
theorem FX.call {d : Option Nat} {f : Nat} {xs : List Opd} {g : Option (Nat × Bool)} {vs : List AV} {r : AV} (hg : met e g) (hv : evL e xs = some vs) (hac : AE P f vs h r h') : FX P N ⟨d, .call f xs, g⟩ e h (some r) h' := by
  intro ops i o ho hc e2 hs m w a K Q hr he hk
  rcases compI_ok hc with ⟨hb1, hb2⟩ | ⟨hd, hdst, hcomp, hgd⟩
  · simp at hb1
  · obtain ⟨w1, w2⟩ := wanted_of he hgd
    have hi : ∀ s ∈ lslots xs, lk s e2 = lk s e := fun s h => hs s (by unfold cslots; split <;> simp [h, islots])
    have hw : Region.wanted o (yielded ops a.tmps) = true := by
      cases g with
      | none => exact w1 rfl
      | some sb =>
        obtain ⟨s, b⟩ := sb
        have hl : lk s e2 = some (.bool b) := (hs s (by simp [cslots])).trans hg
        rw [w2 s b b rfl hl]; simp
    simp only [wpOp, ho]
    rw [if_pos hw]
    left
    have hco := hcomp rfl
    obtain ⟨c, hop, hcal, hfn, hxs⟩ := compile_call hco
    obtain ⟨hl1, hl2⟩ := he.evalL hxs ((evL_congr hi).trans hv)
    have hrun : (execOp a.eval o).run P w = .ok (.enter f (c.args.map a.eval)) w := by
      simp [execOp, hop, resolve, hcal, Act.eval, Deferred.ofValue, invoke, run_callFunc hfn]
    refine call_wp hrun hr (by simpa using hl1) (fun j v hj => by
      have := hl2 j v hj
      simpa [Array.getD_eq_getD_getElem?, List.getD_eq_getElem?_getD] using this) hac fun v w' m' r1 h1 g1 g2 g3 ⟨g4, g5⟩ => ?_
    subst g4; subst g5
    refine hk m' w' _ g1 ?_ g3
    have hd' : d = o.dst := hd
    show ER N m' h1 w' (putR d (some r1) e2) _
    rw [hd']
    exact (he.step g3).putR hdst g2

theorem FX.of_stp {c : CI} (hs : Stp c e h e' h') : ∃ r, e' = putR c.d r e ∧ FX P N c e h r h' ∧ (free0 c.i = true → h' = h ∧ ∀ h2, FX P N c e h2 r h2) := by
  have hok := hs.ok
  unfold stepCI at hok
  have ex : ∀ (hg : met e c.g), execCI c e h = some (e', h') → ∃ r, e' = putR c.d r e ∧ FX P N c e h r h' ∧ (free0 c.i = true → h' = h ∧ ∀ h2, FX P N c e h2 r h2) := fun hg hx => by
    unfold execCI at hx
    split at hx
    · rename_i r f hev
      cases hx
      refine ⟨r, rfl, FX.ins hg hev, fun hf => ?_⟩
      have hn := free0_none hf hev
      subst hn
      exact ⟨rfl, fun h2 => FX.ins (f := .none) hg ((free0_same hf _ _ _ _).trans hev)⟩
    · cases hx
  split at hok
  · rename_i hgn
    exact ex (by rw [hgn]; trivial) hok
  · rename_i s b hgs
    split at hok
    · rename_i t hlk
      split at hok
      · rename_i htb
        exact ex (by rw [hgs]; simp only [met]; rw [hlk, htb]) hok
      · rename_i htb
        cases hok
        exact ⟨none, rfl, FX.skip hgs hlk htb, fun _ => ⟨rfl, fun h2 => FX.skip hgs hlk htb⟩⟩
    · cases hok
end
end Go.Abs

namespace Go.Abs
open Go

def ancs (es : List (List Nat)) (acc : List Nat) : List Nat :=
  match es with
  | [] => acc
  | ps :: es => ancs es (acc ++ [ps.foldl (fun s k => s ||| (2 ^ k ||| acc.getD k 0)) 0])
inductive Reach (es : List (List Nat)) : Nat → Nat → Prop
  | one {k j : Nat} (hk : k ∈ es.getD j []) : Reach es k j
  | more {i k j : Nat} (hk : k ∈ es.getD j []) (hr : Reach es i k) : Reach es i j

theorem foldl_bits (acc : List Nat) : ∀ (ps : List Nat) (s i : Nat), (ps.foldl (fun s k => s ||| (2 ^ k ||| acc.getD k 0)) s).testBit i = true → s.testBit i = true ∨ ∃ k ∈ ps, i = k ∨ (acc.getD k 0).testBit i = true
  | [], s, i, h => .inl h
  | p :: ps, s, i, h => by
    rcases foldl_bits acc ps _ i h with h1 | ⟨k, hk, h1⟩
    · rw [Nat.testBit_or, Nat.testBit_or, Bool.or_eq_true, Bool.or_eq_true] at h1
      rcases h1 with h1 | h1 | h1
      · exact .inl h1
      · rw [Nat.testBit_two_pow] at h1
        exact .inr ⟨p, by simp, .inl (of_decide_eq_true h1).symm⟩
      · exact .inr ⟨p, by simp, .inr h1⟩
    · exact .inr ⟨k, by simp [hk], h1⟩
theorem ancs_ok (full : List (List Nat)) : ∀ (es : List (List Nat)) (acc : List Nat), full.drop acc.length = es → (∀ j i, (acc.getD j 0).testBit i = true → Reach full i j) → ∀ j i, ((ancs es acc).getD j 0).testBit i = true → Reach full i j
  | [], acc, _, hi => hi
  | ps :: es, acc, hd, hi => by
    have hps : full.getD acc.length [] = ps := by
      have := congrArg (fun l => l[0]?) hd
      simp at this
      simp [List.getD_eq_getElem?_getD, this]
    refine ancs_ok full es _ (by simpa using congrArg List.tail hd) fun j i hb => ?_
    rcases Nat.lt_trichotomy j acc.length with hlt | rfl | hgt
    · refine hi j i ?_
      simpa [List.getD_eq_getElem?_getD, List.getElem?_append_left hlt] using hb
    · have hb' : (ps.foldl (fun s k => s ||| (2 ^ k ||| acc.getD k 0)) 0).testBit i = true := by
        simpa [List.getD_eq_getElem?_getD] using hb
      rcases foldl_bits acc ps 0 i hb' with h1 | ⟨k, hk, h1⟩
      · simp at h1
      · rw [← hps] at hk
        rcases h1 with rfl | h1
        · exact .one hk
        · exact .more hk (hi k i h1)
    · have : (acc ++ [ps.foldl (fun s k => s ||| (2 ^ k ||| acc.getD k 0)) 0]).getD j 0 = 0 := by
        rw [List.getD_eq_getElem?_getD, List.getElem?_eq_none (by simp; omega)]; rfl
      rw [this] at hb
      simp at hb

/-- Operations i < j that touch one another: j stands behind i. -/
def dslot (c : CI) (s : Nat) : Bool := c.d == some s
def heapy (l : List CI) (ws fs : List Nat) (j : Nat) : Bool := ws.contains j || !(free0 (l.getD j default).i || fs.contains j)
def touch (l : List CI) (ws fs : List Nat) (i j : Nat) : Bool :=
  (cslots (l.getD j default)).any (dslot (l.getD i default)) || (cslots (l.getD i default)).any (dslot (l.getD j default)) ||
  ((l.getD i default).d.isSome && (l.getD i default).d == (l.getD j default).d) ||
  ((ws.contains i || ws.contains j) && heapy l ws fs i && heapy l ws fs j)
def chkD (l : List CI) (es : List (List Nat)) (ws fs : List Nat) : Bool :=
  es.length == l.length && (List.range l.length).all fun j => (es.getD j []).all (fun k => k < j) && (List.range j).all fun i => !touch l ws fs i j || ((ancs es []).getD j 0).testBit i

/-- The text's order, walked; what is drawn elsewhere is in fs. -/
inductive DW (P : Program) (N : Nat) (Φ : AHeap → Prop) (ws fs : List Nat) (K : Env → AHeap → Prop) : Nat → List CI → Env → AHeap → Prop
  | nil {j : Nat} {e e' : Env} {h : AHeap} (hs : subE e' e) (hk : K e' h) : DW P N Φ ws fs K j [] e h
  | fx {j : Nat} {c : CI} {l : List CI} {e : Env} {h h' : AHeap} {r : Option AV} (hx : FX P N c e h r h') (h0 : free0 c.i = true → h' = h ∧ ∀ h2, FX P N c e h2 r h2) (hw : ws.contains j = false → h' = h) (hp : Φ h → Φ h') (hf : fs.contains j = true → ∀ h2, Φ h2 → FX P N c e h2 r h2)
      (k : DW P N Φ ws fs K (j + 1) l (putR c.d r e) h') : DW P N Φ ws fs K j (c :: l) e h

section
variable {P : Program} {N : Nat} {e : Env} {h : AHeap} {Φ : AHeap → Prop} {ws fs : List Nat} {K : Env → AHeap → Prop} {l : List CI} {es : List (List Nat)}

/-- A walk's states. -/
structure Tr (P : Program) (N : Nat) (Φ : AHeap → Prop) (ws fs : List Nat) (c : Nat → CI) (ee : Nat → Env) (hh : Nat → AHeap) (rr : Nat → Option AV) (j : Nat) : Prop where
  fx : FX P N (c j) (ee j) (hh j) (rr j) (hh (j + 1))
  zero : free0 (c j).i = true → hh (j + 1) = hh j ∧ ∀ h2, FX P N (c j) (ee j) h2 (rr j) h2
  keep : ws.contains j = false → hh (j + 1) = hh j
  phi : Φ (hh j) → Φ (hh (j + 1))
  free : fs.contains j = true → ∀ h2, Φ h2 → FX P N (c j) (ee j) h2 (rr j) h2
  env : ee (j + 1) = putR (c j).d (rr j) (ee j)

theorem DW.trace : ∀ {j : Nat} {l : List CI} {e : Env} {h : AHeap}, DW P N Φ ws fs K j l e h →
    ∃ (ee : Nat → Env) (hh : Nat → AHeap) (rr : Nat → Option AV), ee j = e ∧ hh j = h ∧ (∃ e', subE e' (ee (j + l.length)) ∧ K e' (hh (j + l.length))) ∧ ∀ i, j ≤ i → i < j + l.length → Tr P N Φ ws fs (fun k => l.getD (k - j) default) ee hh rr i := by
  intro j l e h hd
  induction hd with
  | nil hs hk => exact ⟨fun _ => _, fun _ => _, fun _ => none, rfl, rfl, ⟨_, hs, hk⟩, fun i h1 h2 => by simp at h2; omega⟩
  | @fx j c l e h h' r hx h0 hw hp hf k ih =>
    obtain ⟨ee, hh, rr, q1, q2, q3, q4⟩ := ih
    refine ⟨fun i => if i = j then e else ee i, fun i => if i = j then h else hh i, fun i => if i = j then r else rr i, by simp, by simp, ?_, fun i h1 h2 => ?_⟩
    · have hne : ¬ (j + 1 + l.length = j) := by omega
      have : j + (c :: l).length = j + 1 + l.length := by simp; omega
      simp only [this, hne, if_false]
      exact q3
    · rcases Nat.eq_or_lt_of_le h1 with rfl | hlt
      · have e1 : ((c :: l).getD (j - j) default) = c := by simp
        have e2 : ¬ (j + 1 = j) := by omega
        exact {
          fx := by simp only [e1, e2, if_false, if_true, q2]; exact hx
          zero := by simp only [e1, e2, if_false, if_true, q2]; exact h0
          keep := by simp only [e2, if_false, if_true, q2]; exact hw
          phi := by simp only [e2, if_false, if_true, q2]; exact hp
          free := by simp only [e1, if_true]; exact hf
          env := by simp only [e1, e2, if_false, if_true, q1] }
      · have t := q4 i hlt (by simp at h2; omega)
        have e1 : ((c :: l).getD (i - j) default) = l.getD (i - (j + 1)) default := by
          have : i - j = (i - (j + 1)) + 1 := by omega
          rw [this]; simp
        have e2 : ¬ (i + 1 = j) := by omega
        have e3 : ¬ (i = j) := by omega
        exact {
          fx := by simpa only [e1, e2, e3, if_false] using t.fx
          zero := by simpa only [e1, e2, e3, if_false] using t.zero
          keep := by simpa only [e2, e3, if_false] using t.keep
          phi := by simpa only [e2, e3, if_false] using t.phi
          free := by simpa only [e1, e3, if_false] using t.free
          env := by simpa only [e1, e2, e3, if_false] using t.env }

theorem lk_putR_ne {d : Option Nat} {r : Option AV} {s : Nat} (hne : d ≠ some s) : lk s (putR d r e) = lk s e := by
  cases d with
  | none => rfl
  | some d => simp only [putR, lk_cons]; rw [if_neg fun e1 => hne (by rw [e1])]
theorem lk_putR_same {r : Option AV} {s : Nat} : lk s (putR (some s) r e) = r := by simp [putR, lk_cons]

/-- What is known when just D is done. -/
def eD (c : Nat → CI) (rr : Nat → Option AV) (e : Env) (D : Nat → Bool) : Nat → Env
  | 0 => e
  | j + 1 => if D j then putR (c j).d (rr j) (eD c rr e D j) else eD c rr e D j
def hD (ws : List Nat) (hh : Nat → AHeap) (h : AHeap) (D : Nat → Bool) : Nat → AHeap
  | 0 => h
  | j + 1 => if D j && ws.contains j then hh (j + 1) else hD ws hh h D j

theorem eD_stop {c : Nat → CI} {rr : Nat → Option AV} {D : Nat → Bool} {s i : Nat} : ∀ n, i ≤ n → (∀ k, i ≤ k → k < n → (c k).d = some s → D k = false) → lk s (eD c rr e D n) = lk s (eD c rr e D i)
  | 0, hi, _ => by have : i = 0 := by omega
                   subst this; rfl
  | n + 1, hi, hk => by
    rcases Nat.eq_or_lt_of_le hi with rfl | hlt
    · rfl
    · rw [← eD_stop n (by omega) fun k h1 h2 => hk k h1 (by omega)]
      simp only [eD]
      split
      · rename_i hd
        refine lk_putR_ne fun e1 => ?_
        rw [hk n (by omega) (by omega) e1] at hd
        cases hd
      · rfl
theorem eD_text {c : Nat → CI} {rr : Nat → Option AV} {ee : Nat → Env} {D : Nat → Bool} {s n : Nat} (h0 : ee 0 = e) (hs : ∀ j, j < n → ee (j + 1) = putR (c j).d (rr j) (ee j)) : ∀ i, i ≤ n → (∀ k, k < i → (c k).d = some s → D k = true) → lk s (eD c rr e D i) = lk s (ee i)
  | 0, _, _ => by rw [h0]; rfl
  | i + 1, hi, hk => by
    rw [hs i (by omega)]
    simp only [eD]
    have ih := eD_text h0 hs i (by omega) fun k h1 => hk k (by omega)
    by_cases hd : (c i).d = some s
    · rw [hk i (by omega) hd, if_pos rfl, hd, lk_putR_same, lk_putR_same]
    · rw [lk_putR_ne hd]
      split
      · rw [lk_putR_ne hd]; exact ih
      · exact ih
theorem hD_stop {hh : Nat → AHeap} {D : Nat → Bool} {i : Nat} : ∀ n, i ≤ n → (∀ k, i ≤ k → k < n → ws.contains k = true → D k = false) → hD ws hh h D n = hD ws hh h D i
  | 0, hi, _ => by have : i = 0 := by omega
                   subst this; rfl
  | n + 1, hi, hk => by
    rcases Nat.eq_or_lt_of_le hi with rfl | hlt
    · rfl
    · rw [← hD_stop n (by omega) fun k h1 h2 => hk k h1 (by omega)]
      simp only [hD]
      split
      · rename_i hd
        rw [Bool.and_eq_true] at hd
        rw [hk n (by omega) (by omega) hd.2] at hd
        cases hd.1
      · rfl
theorem hD_text {hh : Nat → AHeap} {D : Nat → Bool} {n : Nat} (h0 : hh 0 = h) (hs : ∀ j, j < n → ws.contains j = false → hh (j + 1) = hh j) : ∀ i, i ≤ n → (∀ k, k < i → ws.contains k = true → D k = true) → hD ws hh h D i = hh i
  | 0, _, _ => by rw [h0]; rfl
  | i + 1, hi, hk => by
    simp only [hD]
    cases hw : ws.contains i
    · simp only [Bool.and_false, Bool.false_eq_true, if_false]
      rw [hs i (by omega) hw]
      exact hD_text h0 hs i (by omega) fun k h1 => hk k (by omega)
    · simp [hk i (by omega) hw]
theorem hD_some {hh : Nat → AHeap} {D : Nat → Bool} (h0 : hh 0 = h) : ∀ n, ∃ i, i ≤ n ∧ hD ws hh h D n = hh i
  | 0 => ⟨0, Nat.le_refl _, by rw [h0]; rfl⟩
  | n + 1 => by
    simp only [hD]
    split
    · exact ⟨n + 1, Nat.le_refl _, rfl⟩
    · obtain ⟨i, h1, h2⟩ := hD_some (D := D) h0 n
      exact ⟨i, by omega, h2⟩
theorem hD_setr {hh : Nat → AHeap} {D D' : Nat → Bool} : ∀ n, (∀ k, k < n → ws.contains k = true → D' k = D k) → hD ws hh h D' n = hD ws hh h D n
  | 0, _ => rfl
  | n + 1, hk => by
    simp only [hD]
    rw [hD_setr n fun k h1 => hk k (by omega)]
    cases hw : ws.contains n
    · simp
    · rw [hk n (by omega) hw]

theorem rep_false (n j : Nat) : (Array.replicate n false).getD j false = false := by
  rw [Array.getD_eq_getD_getElem?, Array.getElem?_replicate]; split <;> rfl

theorem Reach.done {D : Nat → Bool} (hcl : ∀ j, D j = true → ∀ k ∈ es.getD j [], D k = true) {i j : Nat} (hr : Reach es i j) : (∀ k ∈ es.getD j [], D k = true) → D i = true := by
  induction hr with
  | one hk => exact fun h => h _ hk
  | more hk _ ih => exact fun h => ih (hcl _ (h _ hk))

theorem AW.dreg {Q : Exit → Env → AHeap → Prop} (hm : P.follows .mixedOrders = true) (hc : chkD l es ws fs = true) (hphi : Φ h) (hd : DW P N Φ ws fs (fun e h => Q .normal e h) 0 l e h) : AW P N (.dreg l es) Q e h := by
  intro code hcode m w a hr he
  cases code <;> simp only [compC] at hcode <;> try (cases hcode; done)
  · rename_i id ops dr
    split at hcode
    · rename_i hdr
      subst hdr
      injection hcode with hl hes
      refine wp_region_any hm ?_
      obtain ⟨ee, hh, rr, q1, q2, q3, q4⟩ := hd.trace
      simp only [Nat.zero_add] at q3 q4
      have hn : ops.size = l.length := by rw [← hl]; simp [compR]
      -- the checks
      simp only [chkD, Bool.and_eq_true, List.all_eq_true, List.mem_range, beq_iff_eq, decide_eq_true_eq] at hc
      obtain ⟨hlen, hchk⟩ := hc
      have hback : ∀ j, j < l.length → ∀ k ∈ es.getD j [], k < j := fun j hj k hk => by simpa using (hchk j hj).1 k hk
      have htouch : ∀ i j, i < j → j < l.length → touch l ws fs i j = true → Reach es i j := fun i j hij hj ht => by
        have := (hchk j hj).2 i hij
        rw [ht] at this
        exact ancs_ok es es [] rfl (fun j i hb => by simp at hb) j i (by simpa using this)
      have hes' : ∀ j (hj : j < ops.size), es.getD j [] = ((ops[j]).after.toList.filter (Region.binds .any)).map (·.on) := fun j hj => by
        rw [← hes]; simp [edgesR, List.getD_eq_getElem?_getD, hj]
      have hci : ∀ j (hj : j < ops.size), compI P N ops (ops[j]) = l.getD j default := fun j hj => by
        rw [← hl]; simp [compR, List.getD_eq_getElem?_getD, hj]
      have henv : ∀ j, j < l.length → ee (j + 1) = putR (l.getD j default).d (rr j) (ee j) := fun j hj => (q4 j (Nat.zero_le _) hj).env
      have hkeep : ∀ j, j < l.length → ws.contains j = false → hh (j + 1) = hh j := fun j hj => (q4 j (Nat.zero_le _) hj).keep
      have hphi' : ∀ i, i ≤ l.length → Φ (hh i) := fun i => by
        induction i with
        | zero => intro _; rw [q2]; exact hphi
        | succ i ih => intro hi; exact (q4 i (Nat.zero_le _) (by omega)).phi (ih (by omega))
      obtain ⟨ez, q3s, q3⟩ := q3
      obtain ⟨c, hcc'⟩ : ∃ c : Nat → CI, ∀ k, l.getD k default = c k := ⟨_, fun _ => rfl⟩
      have ecc : (fun k => l.getD (k - 0) default) = c := funext fun k => by rw [Nat.sub_zero, hcc']
      rw [ecc] at q4
      simp only [hcc'] at henv hci
      -- the induction
      suffices H : ∀ (fuel : Nat) (listed : Array Bool) (U : List Nat) (m1 : Inj) (w1 : World) (a1 : Act), listed.size = l.length → U.length ≤ fuel → U.Nodup → (∀ j, j < l.length → (listed.getD j false = false ↔ j ∈ U)) →
          (∀ j, listed.getD j false = true → ∀ k ∈ es.getD j [], listed.getD k false = true) →
          HR m1 (hD ws hh h (fun j => listed.getD j false) l.length) w1 → ER N m1 (hD ws hh h (fun j => listed.getD j false) l.length) w1 (eD c rr e (fun j => listed.getD j false) l.length) a1 →
          Step m h w m1 (hD ws hh h (fun j => listed.getD j false) l.length) w1 → wpAny P .any ops (PA N Q m h w) fuel listed a1 w1 by
        have st := step_drew (m := m) (h := h) (w := w)
        refine H ops.size (Array.replicate ops.size false) (List.range l.length) m { w with drawn := w.drawn + 1 } a (by simp [hn]) (by simp [hn]) List.nodup_range (fun j hj => by simp [List.getD, hn, hj]) (fun j hj => ?_) ?_ ?_ ?_
        · rw [rep_false] at hj; cases hj
        all_goals
          have e1 : hD ws hh h (fun j => (Array.replicate ops.size false).getD j false) l.length = h := hD_stop (i := 0) l.length (Nat.zero_le _) fun k _ _ _ => rep_false _ _
        · rw [e1]; exact hr.drew
        · rw [e1]
          have e2 : ∀ s, lk s (eD c rr e (fun j => (Array.replicate ops.size false).getD j false) l.length) = lk s e := fun s => eD_stop (i := 0) l.length (Nat.zero_le _) fun k _ _ _ => rep_false _ _
          have he' := he.step st
          exact ⟨he'.size, he'.defers, fun i v hv => he'.val i v (by rw [← e2]; exact hv)⟩
        · rw [e1]; exact st
      intro fuel
      -- all is done
      have fin : ∀ (listed : Array Bool) (m1 : Inj) (w1 : World) (a1 : Act), listed.size = l.length → Region.ready .any ops listed = [] →
          HR m1 (hD ws hh h (fun j => listed.getD j false) l.length) w1 → ER N m1 (hD ws hh h (fun j => listed.getD j false) l.length) w1 (eD c rr e (fun j => listed.getD j false) l.length) a1 →
          Step m h w m1 (hD ws hh h (fun j => listed.getD j false) l.length) w1 → PA N Q m h w .normal a1 w1 := fun listed m1 w1 a1 hsz hrd h1 h2 h3 => by
        have hall : ∀ j, j < l.length → listed.getD j false = true := fun j => by
          induction j using Nat.strongRecOn with
          | ind j ih =>
            intro hj
            cases hx : listed.getD j false
            · have : j ∈ Region.ready .any ops listed := mem_ready.2 ⟨by simpa [Array.getD_eq_getD_getElem?, hsz, hj] using hx, ops[j]'(by omega), by simp [hn, hj], fun ed hed hb => ?_⟩
              · rw [hrd] at this; cases this
              · have hk : ed.on ∈ es.getD j [] := by
                  rw [hes' j (by omega)]
                  exact List.mem_map.2 ⟨ed, List.mem_filter.2 ⟨by simpa using hed, hb⟩, rfl⟩
                have := hback j hj _ hk
                exact ih _ this (by omega)
            · rfl
        have e1 : hD ws hh h (fun j => listed.getD j false) l.length = hh l.length := hD_text q2 hkeep l.length (Nat.le_refl _) fun k hk _ => hall k hk
        have e2 : ∀ s, lk s (eD c rr e (fun j => listed.getD j false) l.length) = lk s (ee l.length) := fun s => eD_text q1 henv l.length (Nat.le_refl _) fun k hk _ => hall k hk
        rw [e1] at h1 h2 h3
        exact ⟨m1, ez, hh l.length, h1, ⟨h2.size, h2.defers, fun i v hv => h2.val i v (by rw [e2]; exact q3s i v hv)⟩, h3, q3⟩
      induction fuel with
      | zero =>
        intro listed U m1 w1 a1 hsz hU hnd hmem hcl h1 h2 h3
        have hU0 : U = [] := List.length_eq_zero_iff.1 (by omega)
        subst hU0
        have hrd : Region.ready .any ops listed = [] := List.eq_nil_iff_forall_not_mem.2 fun j hj => by
          obtain ⟨g0, o, g1, _⟩ := mem_ready.1 hj
          have hj' : j < l.length := by rw [← hn]; exact (Array.getElem?_eq_some_iff.1 g1).1
          have := (hmem j hj').1 (by simpa [Array.getD_eq_getD_getElem?, hsz, hj'] using g0)
          cases this
        exact ⟨hrd, fin listed m1 w1 a1 hsz hrd h1 h2 h3⟩
      | succ fuel ih =>
        intro listed U m1 w1 a1 hsz hU hnd hmem hcl h1 h2 h3
        refine ⟨fun hrd => fin listed m1 w1 a1 hsz hrd h1 h2 h3, fun i hi => ?_⟩
        obtain ⟨g0, o, g1, g2⟩ := mem_ready.1 hi
        have hi' : i < l.length := by rw [← hn]; exact (Array.getElem?_eq_some_iff.1 g1).1
        have hio : i < ops.size := by omega
        have ho : ops[i] = o := (Array.getElem?_eq_some_iff.1 g1).2
        have hDi : listed.getD i false = false := by simpa [Array.getD_eq_getD_getElem?, hsz, hi'] using g0
        have hpre : ∀ k ∈ es.getD i [], listed.getD k false = true := fun k hk => by
          rw [hes' i hio, ho] at hk
          obtain ⟨ed, hed, rfl⟩ := List.mem_map.1 hk
          obtain ⟨he1, he2⟩ := List.mem_filter.1 hed
          exact g2 ed (by simpa using he1) he2
        -- ahead: done; behind: not done
        have ahead : ∀ k, k < i → touch l ws fs k i = true → listed.getD k false = true := fun k hk ht => (htouch k i hk hi' ht).done (D := fun j => listed.getD j false) hcl hpre
        have behind : ∀ k, i < k → k < l.length → touch l ws fs i k = true → listed.getD k false = false := fun k hk hkl ht => by
          cases hx : listed.getD k false
          · rfl
          · have := (htouch i k hk hkl ht).done (D := fun j => listed.getD j false) hcl (hcl k hx)
            rw [hDi] at this; cases this
        have t := q4 i (Nat.zero_le _) hi'
        -- the slots
        have hsl : ∀ s ∈ cslots (c i), lk s (eD c rr e (fun j => listed.getD j false) l.length) = lk s (ee i) := fun s hs => by
          rw [eD_stop (i := i) l.length (by omega) fun k hk1 hk2 hkd => ?_]
          · exact eD_text q1 henv i (by omega) fun k hk1 hkd => ahead k hk1 (by
              simp only [touch, hcc', Bool.or_eq_true]
              exact .inl (.inl (.inl (List.any_eq_true.2 ⟨s, hs, by simp [dslot, hkd]⟩))))
          · rcases Nat.eq_or_lt_of_le hk1 with rfl | hlt
            · exact hDi
            · exact behind k hlt hk2 (by
                simp only [touch, hcc', Bool.or_eq_true]
                exact .inl (.inl (.inr (List.any_eq_true.2 ⟨s, hs, by simp [dslot, hkd]⟩))))
        -- the heap
        have hheap : heapy l ws fs i = true → hD ws hh h (fun j => listed.getD j false) l.length = hh i := fun hy => by
          rw [hD_stop (i := i) l.length (by omega) fun k hk1 hk2 hkw => ?_]
          · exact hD_text q2 hkeep i (by omega) fun k hk1 hkw => ahead k hk1 (by
              have : heapy l ws fs k = true := by unfold heapy; rw [hkw]; rfl
              simp only [touch, hkw, hy, this, Bool.or_eq_true]
              exact .inr (by simp))
          · rcases Nat.eq_or_lt_of_le hk1 with rfl | hlt
            · exact hDi
            · exact behind k hlt hk2 (by
                have : heapy l ws fs k = true := by unfold heapy; rw [hkw]; rfl
                simp only [touch, hkw, hy, this, Bool.or_eq_true]
                exact .inr (by simp))
        have hnew : ∀ k, (listed.setIfInBounds i true).getD k false = (if k = i then true else listed.getD k false) := fun k => by
          by_cases hk : k = i
          · subst hk; simp [hsz, hi']
          · rw [if_neg hk]; exact getD_set_ne false (Ne.symm hk)
        have hDn : (fun k => (listed.setIfInBounds i true).getD k false) = fun k => if k = i then true else listed.getD k false := funext hnew
        -- what holds behind it
        have go : ∀ h', hD ws hh h (fun k => if k = i then true else listed.getD k false) l.length = h' → FX P N (c i) (ee i) (hD ws hh h (fun j => listed.getD j false) l.length) (rr i) h' →
            wpOp P ops (PA N Q m h w) i (wpAny P .any ops (PA N Q m h w) fuel (listed.setIfInBounds i true)) a1 w1 := fun h' hh' hfx => by
          refine hfx ops i o g1 (by rw [← ho, hci i hio]) _ hsl m1 w1 a1 _ _ h1 h2 fun m2 w2 a2 r1 r2 r3 => ?_
          refine ih (listed.setIfInBounds i true) (U.erase i) m2 w2 a2 (by simp [hsz]) ?_ (hnd.erase i) (fun j hj => ?_) (fun j hj => ?_) ?_ ?_ ?_
          · rw [List.length_erase_of_mem ((hmem i hi').1 hDi)]; omega
          · rw [hnew, hnd.mem_erase_iff]
            by_cases hji : j = i
            · simp [hji]
            · simp [hji, ← hmem j hj]
          · intro k hk
            rw [hnew] at hj ⊢
            by_cases hki : k = i
            · simp [hki]
            · rw [if_neg hki]
              by_cases hji : j = i
              · subst hji; exact hpre k hk
              · rw [if_neg hji] at hj; exact hcl j hj k hk
          · rw [hDn, hh']; exact r1
          · rw [hDn, hh']
            refine ⟨r2.size, r2.defers, fun s v hv => r2.val s v ?_⟩
            rw [← hv]
            by_cases hds : (c i).d = some s
            · rw [hds, lk_putR_same]
              rw [eD_stop (i := i + 1) l.length (by omega) fun k hk1 hk2 hkd => ?_]
              · simp only [eD, if_true, hds, lk_putR_same]
              · have : ¬ k = i := by omega
                simp only [this, if_false]
                exact behind k (by omega) hk2 (by
                  simp only [touch, hcc', Bool.or_eq_true]
                  exact .inl (.inr (by simp [hds, hkd])))
            · rw [lk_putR_ne hds]
              have key : ∀ n, lk s (eD c rr e (fun j => listed.getD j false) n) = lk s (eD c rr e (fun k => if k = i then true else listed.getD k false) n) := fun n => by
                induction n with
                | zero => rfl
                | succ n ihn =>
                  simp only [eD]
                  by_cases hni : n = i
                  · subst hni
                    simp only [if_true, hDi, Bool.false_eq_true, if_false]
                    rw [lk_putR_ne hds]; exact ihn
                  · simp only [hni, if_false]
                    split
                    · by_cases hdn : (c n).d = some s
                      · rw [hdn, lk_putR_same, lk_putR_same]
                      · rw [lk_putR_ne hdn, lk_putR_ne hdn]; exact ihn
                    · exact ihn
              exact key _
          · rw [hDn, hh']; exact h3.trans r3
        have hlater : ws.contains i = false → hD ws hh h (fun k => if k = i then true else listed.getD k false) l.length = hD ws hh h (fun j => listed.getD j false) l.length := fun hwi => hD_setr l.length fun k hk hkw => by
          have : ¬ k = i := fun e1 => by rw [e1, hwi] at hkw; cases hkw
          simp [this]
        cases hwi : ws.contains i
        · -- the heap stays
          cases hf0 : free0 (c i).i
          · cases hff : fs.contains i
            · have hy : heapy l ws fs i = true := by unfold heapy; rw [hwi, hcc', hf0, hff]; rfl
              have e1 := hheap hy
              refine go _ (hlater hwi) ?_
              rw [e1]
              have := t.fx
              rwa [t.keep hwi] at this
            · obtain ⟨i0, hi0, e1⟩ := hD_some (ws := ws) (D := fun j => listed.getD j false) q2 l.length
              refine go _ (hlater hwi) ?_
              rw [e1]
              exact t.free hff _ (hphi' i0 hi0)
          · exact go _ (hlater hwi) ((t.zero hf0).2 _)
        · have hy : heapy l ws fs i = true := by unfold heapy; rw [hwi]; rfl
          have e1 := hheap hy
          refine go (hh (i + 1)) ?_ ?_
          · rw [hD_stop (i := i + 1) l.length (by omega) fun k hk1 hk2 hkw => ?_]
            · simp only [hD, if_true, hwi, Bool.and_self]
            · have : ¬ k = i := by omega
              simp only [this, if_false]
              exact behind k (by omega) hk2 (by
                have hky : heapy l ws fs k = true := by unfold heapy; rw [hkw]; rfl
                simp only [touch, hkw, hy, hky, Bool.or_eq_true]
                exact .inr (by simp))
          · rw [e1]; exact t.fx
    · cases hcode
  · split at hcode <;> cases hcode
  · split at hcode <;> cases hcode
end
end Go.Abs

namespace Go.Abs
open Go

section
variable {P : Program} {N : Nat} {e e' e2 : Env} {h h' : AHeap} {Φ : AHeap → Prop} {ws fs : List Nat} {K : Env → AHeap → Prop} {l : List CI} {j : Nat}

theorem FX.env {c : CI} {r : Option AV} (hs : ∀ s, lk s e2 = lk s e) (hx : FX P N c e2 h r h') : FX P N c e h r h' :=
  fun ops i o ho hc e3 h3 => hx ops i o ho hc e3 fun s hs' => (h3 s hs').trans (hs s).symm
theorem lk_putR_congr {d : Option Nat} {r : Option AV} (hs : ∀ s, lk s e2 = lk s e) : ∀ s, lk s (putR d r e2) = lk s (putR d r e) := fun s => by
  by_cases hd : d = some s
  · subst hd; rw [lk_putR_same, lk_putR_same]
  · rw [lk_putR_ne hd, lk_putR_ne hd, hs]
theorem DW.env (hd : DW P N Φ ws fs K j l e2 h) : ∀ {e : Env}, (∀ s, lk s e2 = lk s e) → DW P N Φ ws fs K j l e h := by
  induction hd with
  | nil hs hk => exact fun he => .nil (fun i v hv => (he i) ▸ hs i v hv) hk
  | fx hx h0 hw hp hf _ ih => exact fun he => .fx (hx.env he) (fun hz => ⟨(h0 hz).1, fun h2 => ((h0 hz).2 h2).env he⟩) hw hp (fun hz h2 hp2 => (hf hz h2 hp2).env he) (ih (lk_putR_congr he))
theorem DW.pin {s : Nat} {t : Bool} (hc : lk s e = some (.bool t)) (h1 : t = true → DW P N Φ ws fs K j l ((s, some (.bool true)) :: e) h) (h2 : t = false → DW P N Φ ws fs K j l ((s, some (.bool false)) :: e) h) : DW P N Φ ws fs K j l e h := by
  have key : ∀ b, t = b → ∀ i, lk i ((s, some (.bool b)) :: e) = lk i e := fun b hb i => by
    simp only [lk_cons, lk_nil]
    split
    · rename_i e1; subst e1; rw [hc, hb]
    · rfl
  cases t
  · exact (h2 rfl).env (key false rfl)
  · exact (h1 rfl).env (key true rfl)
/-- The next instruction's guard, one way and the other. -/
theorem DW.split {dd : Option Nat} {i : Ins} {s : Nat} {b t : Bool} (hc : lk s e = some (.bool t)) (h1 : t = true → DW P N Φ ws fs K j (⟨dd, i, some (s, b)⟩ :: l) ((s, some (.bool true)) :: e) h) (h2 : t = false → DW P N Φ ws fs K j (⟨dd, i, some (s, b)⟩ :: l) ((s, some (.bool false)) :: e) h) : DW P N Φ ws fs K j (⟨dd, i, some (s, b)⟩ :: l) e h := DW.pin hc h1 h2

theorem DW.endL (hk : K e h) : DW P N Φ ws fs K j [] e h := .nil (fun _ _ hv => hv) hk
/-- An operation that leaves the heap as it is. -/
theorem DW.one {c : CI} (hs : Stp c e h e' h) (hf : fs.contains j = false) (k : DW P N Φ ws fs K (j + 1) l e' h) : DW P N Φ ws fs K j (c :: l) e h := by
  obtain ⟨r, he, hx, h0⟩ := FX.of_stp (P := P) (N := N) hs
  subst he
  exact .fx hx h0 (fun _ => rfl) id (fun hz => by rw [hf] at hz; cases hz) k
/-- One that leaves it as it is wherever it is drawn. -/
theorem DW.oneF {c : CI} (hp : Φ h) (hs : ∀ h2, Φ h2 → Stp c e h2 e' h2) (k : DW P N Φ ws fs K (j + 1) l e' h) : DW P N Φ ws fs K j (c :: l) e h := by
  have key : ∀ h2, Φ h2 → ∃ r, e' = putR c.d r e ∧ FX P N c e h2 r h2 ∧ (free0 c.i = true → h2 = h2 ∧ ∀ h3, FX P N c e h3 r h3) := fun h2 h3 => FX.of_stp (hs h2 h3)
  obtain ⟨r, he, hx, h0⟩ := key h hp
  subst he
  refine .fx hx h0 (fun _ => rfl) id (fun _ h2 h3 => ?_) k
  obtain ⟨r2, he2, hx2, _⟩ := key h2 h3
  have : FX P N c e h2 r h2 := by
    cases hd : c.d with
    | none =>
      intro ops i o ho hc e3 hs3 m w a KK QQ hr he hk
      exact hx2 ops i o ho hc e3 hs3 m w a KK QQ hr he (by rw [hd] at hk ⊢; exact hk)
    | some d =>
      rw [hd] at he2
      simp only [putR, List.cons.injEq, Prod.mk.injEq, true_and, and_true] at he2
      rw [he2]; exact hx2
  exact this
/-- One that turns the heap. -/
theorem DW.oneW {c : CI} (hw : ws.contains j = true) (hp : Φ h → Φ h') (hs : Stp c e h e' h') (hf : fs.contains j = false) (k : DW P N Φ ws fs K (j + 1) l e' h') : DW P N Φ ws fs K j (c :: l) e h := by
  obtain ⟨r, he, hx, h0⟩ := FX.of_stp (P := P) (N := N) hs
  subst he
  exact .fx hx h0 (fun hz => by rw [hw] at hz; cases hz) hp (fun hz => by rw [hf] at hz; cases hz) k
theorem DW.call {d : Option Nat} {f : Nat} {xs : List Opd} {g : Option (Nat × Bool)} {vs : List AV} {r : AV} (hv : evL e xs = some vs) (hg : met e g) (hf : fs.contains j = false) (hac : AE P f vs h r h) (k : DW P N Φ ws fs K (j + 1) l (putR d (some r) e) h) : DW P N Φ ws fs K j (⟨d, .call f xs, g⟩ :: l) e h :=
  .fx (FX.call hg hv hac) (fun hz => by simp [free0] at hz) (fun _ => rfl) id (fun hz => by rw [hf] at hz; cases hz) k
/-- The next instruction, if it needs no thought. -/
theorem DW.go {c : CI} {e' : Env} (k : DW P N Φ ws fs K (j + 1) l e' h) (hs : Stp c e h e' h := by exact Stp.auto) (hf : fs.contains j = false := by exact rfl) : DW P N Φ ws fs K j (c :: l) e h := DW.one hs hf k
theorem DW.goW {c : CI} {e' : Env} {h' : AHeap} (k : DW P N Φ ws fs K (j + 1) l e' h') (hp : Φ h → Φ h') (hs : Stp c e h e' h' := by exact Stp.auto) (hf : fs.contains j = false := by exact rfl) (hw : ws.contains j = true := by exact rfl) : DW P N Φ ws fs K j (c :: l) e h := DW.oneW hw hp hs hf k
end
end Go.Abs

namespace Go.Abs
open Go

/-- A cell's kind. -/
inductive CS where
  | i (k : IntKind)
  | b
  | s
  | sl (row : List CS)
  deriving Inhabited
inductive Typ : CS → AV → Prop
  | i (k : IntKind) (n : Int) (hw : (Lit.int k n).wf = true) : Typ (.i k) (.int k n)
  | b (t : Bool) : Typ .b (.bool t)
  | s (l : List UInt8) (hl : l.length ≤ maxLen) : Typ .s (.str l)
  | sl (row : List CS) (c : List (List AV)) (hl : c.length ≤ maxLen) (hc : ∀ cells ∈ c, cells.length = row.length) (ht : ∀ cells ∈ c, ∀ (j : Nat) (cs : CS) (v : AV), row[j]? = some cs → cells[j]? = some v → Typ cs v) : Typ (.sl row) (.imm row.length c)
def TypL (row : List CS) (cells : List AV) : Prop := cells.length = row.length ∧ ∀ (j : Nat) (cs : CS) (v : AV), row[j]? = some cs → cells[j]? = some v → Typ cs v

theorem TypL.cons {c : CS} {row : List CS} {v : AV} {vs : List AV} (h1 : Typ c v) (h2 : TypL row vs) : TypL (c :: row) (v :: vs) :=
  ⟨by simp [h2.1], fun j cs u hj hu => by
    cases j with
    | zero => simp at hj hu; subst hj; subst hu; exact h1
    | succ j => exact h2.2 j cs u (by simpa using hj) (by simpa using hu)⟩
theorem TypL.append {r1 r2 : List CS} {v1 v2 : List AV} (h1 : TypL r1 v1) (h2 : TypL r2 v2) : TypL (r1 ++ r2) (v1 ++ v2) :=
  ⟨by simp [h1.1, h2.1], fun j cs u hj hu => by
    by_cases hlt : j < r1.length
    · rw [List.getElem?_append_left hlt] at hj
      rw [List.getElem?_append_left (by rw [h1.1]; exact hlt)] at hu
      exact h1.2 j cs u hj hu
    · rw [List.getElem?_append_right (by omega)] at hj
      rw [List.getElem?_append_right (by rw [h1.1]; omega), h1.1] at hu
      exact h2.2 _ cs u hj hu⟩
section
variable {H : Type} {enc : TypeId × Value → H} {P : Program} {w : World} {base : Nat} {spare : Nat → Bool} {held : Bool} {m : Inj} {h : AHeap}

/-- Cells that read as avs. -/
def RdC (m : Inj) (h : AHeap) (w : World) (row : List CS) (cs : List Value) : Prop :=
  cs.length = row.length ∧ ∃ avs, TypL row avs ∧ ∀ (j : Nat) (v : AV), avs[j]? = some v → VR m h w v (cs.getD j undef)
theorem Typ.scalar {c : CS} {v : AV} (h : Typ c v) : v.scalar = true := by cases h <;> rfl
theorem TypL.scalar {row : List CS} {cells : List AV} (h : TypL row cells) : ∀ v ∈ cells, v.scalar = true := fun v hv => by
  obtain ⟨j, hj⟩ := List.getElem?_of_mem hv
  have hlt : j < row.length := by rw [← h.1]; exact (List.getElem?_eq_some_iff.1 hj).1
  exact (h.2 j _ v (List.getElem?_eq_getElem hlt) hj).scalar

theorem RdC.append {r1 r2 : List CS} {c1 c2 : List Value} (h1 : RdC m h w r1 c1) (h2 : RdC m h w r2 c2) : RdC m h w (r1 ++ r2) (c1 ++ c2) := by
  obtain ⟨l1, a1, t1, v1⟩ := h1
  obtain ⟨l2, a2, t2, v2⟩ := h2
  refine ⟨by simp [l1, l2], a1 ++ a2, t1.append t2, fun j v hj => ?_⟩
  by_cases hlt : j < a1.length
  · rw [List.getElem?_append_left hlt] at hj
    have := v1 j v hj
    rw [List.getD_eq_getElem?_getD, List.getElem?_append_left (by rw [l1, ← t1.1]; exact hlt), ← List.getD_eq_getElem?_getD]
    exact this
  · rw [List.getElem?_append_right (by omega)] at hj
    have := v2 _ v hj
    rw [List.getD_eq_getElem?_getD, List.getElem?_append_right (by rw [l1, ← t1.1]; omega), l1, ← t1.1, ← List.getD_eq_getElem?_getD]
    exact this

end
end Go.Abs


namespace Go.Abs
open Go

section
variable {P : Program} {N : Nat} {e e' : Env} {h h' : AHeap} {l : List CI} {Q : Exit → Env → AHeap → Prop}

/-- An operation beyond the plain ones: what it does, in any surrounding that has its slots. -/
def XOK (P : Program) (N : Nat) (x : Ex) (e : Env) (h : AHeap) (r : Option AV) (f : Eff) : Prop :=
  ∀ (o : Oper), compileX P N o = some x → ∀ e2, (∀ s ∈ xslots x, lk s e2 = lk s e) → ∀ (m : Inj) (w : World) (a : Act), HR m h w → ER N m h w e2 a → OpOK P o a m h w h.next r f

theorem FX.raw {d : Option Nat} {x : Ex} {g : Option (Nat × Bool)} {r : Option AV} {f : Eff} (hx : XOK P N x e h r f) (hg : met e g) : FX P N ⟨d, .raw x, g⟩ e h r (f.on h.next h) := by
  intro ops i o ho hc e2 hs m w a K Q hr he hk
  have hraw := compI_raw hc rfl
  rcases compI_ok hc with ⟨hb1, hb2⟩ | ⟨hd, hdst, _, hgd⟩
  · cases hb1
  · obtain ⟨w1, w2⟩ := wanted_of he hgd
    have hi : ∀ s ∈ xslots x, lk s e2 = lk s e := fun s h => hs s (by unfold cslots; split <;> simp [islots, h])
    have hw : Region.wanted o (yielded ops a.tmps) = true := by
      cases g with
      | none => exact w1 rfl
      | some sb =>
        obtain ⟨s, b⟩ := sb
        have hl : lk s e2 = some (.bool b) := (hs s (by simp [cslots])).trans hg
        rw [w2 s b b rfl hl]; simp
    simp only [wpOp, ho]
    rw [if_pos hw]
    left
    obtain ⟨m', w', hr', st, hres⟩ := hx o hraw e2 hi m w a hr he
    have hd' : d = o.dst := hd
    unfold Oper.wp
    cases r with
    | some v =>
      obtain ⟨cv, hrun, hv⟩ := hres
      rw [hrun, Oper.upon_value]
      refine hk m' w' _ hr' ?_ st
      show ER N m' _ w' (putR d (some v) e2) _
      rw [hd']
      exact (he.step st).putR hdst hv
    | none =>
      rw [hres, Oper.upon_skip]
      refine hk m' w' _ hr' ?_ st
      show ER N m' _ w' (putR d none e2) _
      rw [hd']
      exact (he.step st).skipR _ _
/-- One operation of a region in the text's order. -/
theorem AL.fx {c : CI} {r : Option AV} (hx : FX P N c e h r h') (hrest : AL P N l Q (putR c.d r e) h') : AL P N (c :: l) Q e h := by
  intro ops idx hlt hl m w a hr he
  cases idx with
  | nil => simp at hl
  | cons i idx =>
    simp only [List.map_cons, List.cons.injEq] at hl
    obtain ⟨hc, hl⟩ := hl
    have hilt := hlt i (by simp)
    have ho : ops[i]? = some ops[i] := Array.getElem?_eq_getElem hilt
    have hget : ops.getD i default = ops[i] := by simp [hilt]
    rw [hget] at hc
    rw [wpOps_cons]
    refine hx ops i _ ho hc e (fun _ _ => rfl) m w a _ _ hr he fun m' w' a' h1 h2 h3 => ?_
    exact wpOps_mono (fun _ _ _ hp => PA.from h3 hp) idx _ _ (hrest ops idx (fun j hj => hlt j (by simp [hj])) hl m' w' a' h1 h2)

theorem cx_mkmap {o : Oper} (hc : compileX P N o = some .mkmap) : ∃ t, o.op = .makeMap t none := by
  unfold compileX at hc
  split at hc
  all_goals first
    | exact ⟨_, ‹_›⟩
    | (repeat' split at hc
       all_goals first
         | (cases hc; done)
         | (rw [Option.map_eq_some_iff] at hc; obtain ⟨_, _, h⟩ := hc; cases h; done) | contradiction)
theorem XOK.mkmap : XOK P N .mkmap e h (some (.map h.next)) (.new (.map [])) := by
  intro o hc e2 hs m w a hr he
  obtain ⟨t, hop⟩ := cx_mkmap hc
  have hf := next_fresh hr
  have hOR : OR (upd m h.next (some (w.heap.size, 0))) (h.put h.next (.map [])) (w.alloc (.map #[] 0)) h.next (.map []) :=
    ⟨w.heap.size, #[], 0, by simp [upd], (MapKept.heap_alloc w _).1, rfl, by simp⟩
  refine ⟨_, _, hr.put hf (o := .map #[] 0) (t := 0) hOR, step_put hr hf _ _ _, .map (some w.heap.size), ?_, .map _ _ put_used_nm fun _ _ => by simp [upd]⟩
  simp [execOp, hop, Instr.makeMap]

def sameK : AV → AV → Option Bool
  | .int k a, .int k' b => if k = k' then some (a == b) else none
  | .str a, .str b => some (a == b)
  | _, _ => none
def findA (k : AV) : List (AV × AV) → Nat → Option (Option (Nat × AV))
  | [], _ => some none
  | (k', v) :: es, i => match sameK k k' with
    | some true => some (some (i, v))
    | some false => findA k es (i + 1)
    | none => none
/-- A map's entries, told. -/
def EntR (m : Inj) (h : AHeap) (w : World) : List (AV × AV) → List MapEntry → Prop
  | [], [] => True
  | (k, v) :: es, c :: cs => VR m h w k c.key ∧ VR m h w v c.val ∧ EntR m h w es cs
  | _, _ => False
def FindR (m : Inj) (h : AHeap) (w : World) : Option (Nat × AV) → Option (Nat × Value) → Prop
  | none, none => True
  | some (i, v), some (j, c) => i = j ∧ VR m h w v c
  | _, _ => False

theorem entR_of {m : Inj} {w : World} : ∀ {es : List (AV × AV)} {cs : List MapEntry}, es.length = cs.length → (∀ (i : Nat) (k v : AV), es[i]? = some (k, v) → VR m h w k (cs.getD i default).key ∧ VR m h w v (cs.getD i default).val) → EntR m h w es cs
  | [], [], _, _ => trivial
  | [], _ :: _, hl, _ => by simp at hl
  | _ :: _, [], hl, _ => by simp at hl
  | (k, v) :: es, c :: cs, hl, hv => ⟨(hv 0 k v rfl).1, (hv 0 k v rfl).2, entR_of (by simpa using hl) fun i k v hi => by simpa using hv (i + 1) k v (by simpa using hi)⟩

def kOK : TypeDesc → AV → Prop
  | .string, .str _ => True
  | .int _, .int _ _ => True
  | _, _ => False
theorem sameNow_of {m : Inj} {w : World} {d : TypeDesc} (hd : d = .string ∨ ∃ k, d = .int k) {a b : AV} {ca cb : Value} (ha : VR m h w a ca) (hb : VR m h w b cb) {r : Bool} (hk : kOK d a) (hs : sameK a b = some r) : Instr.sameNow d ca cb = some r := by
  rcases hd with rfl | ⟨k, rfl⟩
  · cases a <;> simp only [kOK] at hk
    cases b <;> simp only [sameK] at hs <;> try (cases hs; done)
    cases ha; cases hb
    rename_i x y
    simp only [Instr.sameNow]
    injection hs with hs
    rw [← hs]
    congr 1
    by_cases e : x = y
    · subst e; rw [(MapKept.bytes_beq _ _).2 rfl]; simp
    · have e1 : (x == y) = false := by simp [e]
      rw [e1]
      cases e2 : ((⟨x.toArray⟩ : ByteArray) == ⟨y.toArray⟩)
      · rfl
      · have := (MapKept.bytes_beq _ _).1 e2
        injection this with this
        exact absurd (by simpa using congrArg Array.toList this) e
  · cases a <;> simp only [kOK] at hk
    cases b <;> simp only [sameK] at hs <;> try (cases hs; done)
    cases ha; cases hb
    simp only [Instr.sameNow]
    exact hs
theorem findNow_of {m : Inj} {w : World} {d : TypeDesc} (hd : d = .string ∨ ∃ k, d = .int k) {a : AV} {ca : Value} (ha : VR m h w a ca) (hk : kOK d a) :
    ∀ {es : List (AV × AV)} {cs : List MapEntry} {i : Nat} {r : Option (Nat × AV)}, EntR m h w es cs → findA a es i = some r → ∃ rr, Instr.findNow d ca cs i = some rr ∧ FindR m h w r rr
  | [], [], i, r, _, hf => by cases hf; exact ⟨none, rfl, trivial⟩
  | [], _ :: _, _, _, he, _ => he.elim
  | _ :: _, [], _, _, he, _ => he.elim
  | (k, v) :: es, c :: cs, i, r, ⟨h1, h2, h3⟩, hf => by
    simp only [findA] at hf
    split at hf
    · rename_i hs
      cases hf
      exact ⟨some (i, c.val), by simp only [Instr.findNow, sameNow_of hd ha h1 hk hs], rfl, h2⟩
    · rename_i hs
      obtain ⟨rr, q1, q2⟩ := findNow_of hd ha hk h3 hf
      exact ⟨rr, by simp only [Instr.findNow, sameNow_of hd ha h1 hk hs, q1], q2⟩
    · cases hf

theorem cx_look {o : Oper} {mk : MK} {z : AV} {ok : Bool} {x y : Opd} (hc : compileX P N o = some (.look mk z ok x y)) :
    ∃ t kt et mo ko i zv, o.op = .lookup t mo ko ok ∧ P.underlying t = some (.map kt et) ∧ ofOpd N mo = some x ∧ ofOpd N ko = some y ∧ mkind P kt = some mk ∧ P.info? et = some i ∧ i.zero = some zv ∧ ofV zv = some z := by
  unfold compileX at hc
  split at hc
  case h_2 t mo ko ok' hop =>
    repeat' split at hc
    all_goals first
      | (cases hc; done)
      | (cases hc; exact ⟨_, _, _, _, _, _, _, hop, ‹_›, ‹_›, ‹_›, ‹_›, ‹_›, ‹_›, ‹_›⟩)
  all_goals
    (repeat' split at hc
     all_goals first
       | (cases hc; done)
       | (rw [Option.map_eq_some_iff] at hc; obtain ⟨_, _, h⟩ := hc; cases h; done) | contradiction)

/-- What a lookup answers. -/
def lookR (z : AV) (ok : Bool) (r : Option (Nat × AV)) : AV :=
  if ok then .tup [(r.map (·.2)).getD z, .bool r.isSome] else (r.map (·.2)).getD z
def keyOK : MK → AV → Prop
  | .i, .int _ _ => True
  | .s, .str _ => True
  | _, _ => False
theorem mkind_i {t : TypeId} (hk : mkind P t = some .i) : ∃ k, P.underlying t = some (.int k) := by
  unfold mkind at hk
  repeat' split at hk
  all_goals first
    | exact ⟨_, ‹_›⟩
    | (rw [Option.map_eq_some_iff] at hk; obtain ⟨_, _, h⟩ := hk; cases h; done)
    | (cases hk; done)
theorem mkind_s {t : TypeId} (hk : mkind P t = some .s) : P.underlying t = some .string := by
  unfold mkind at hk
  repeat' split at hk
  all_goals first
    | assumption
    | (rw [Option.map_eq_some_iff] at hk; obtain ⟨_, _, h⟩ := hk; cases h; done)
    | (cases hk; done)
theorem mkey {m : Inj} {w : World} {mk : MK} {t : TypeId} {a : AV} (hk : mkind P t = some mk) (ha : keyOK mk a) : ∃ d, P.underlying t = some d ∧ (d = .string ∨ ∃ k, d = .int k) ∧ kOK d a := by
  cases mk with
  | i => obtain ⟨k, hu⟩ := mkind_i hk; exact ⟨_, hu, .inr ⟨k, rfl⟩, by cases a <;> simp [keyOK, kOK] at ha ⊢⟩
  | s => exact ⟨_, mkind_s hk, .inl rfl, by cases a <;> simp [keyOK, kOK] at ha ⊢⟩
  | a ks => cases a <;> simp [keyOK] at ha

theorem map_obj {m : Inj} {w : World} (hr : HR m h w) {id : Nat} {es : List (AV × AV)} (hg : h.get id = some (.map es)) {c : Value} (hv : VR m h w (.map id) c) :
    ∃ (b : Nat) (ens : Array MapEntry) (ck : Nat), c = .map (some b) ∧ m id = some (b, 0) ∧ w.heap[b]? = some (.map ens ck) ∧ es.length = ens.size ∧ EntR m h w es ens.toList := by
  cases hv with
  | map _ r hu ha =>
    obtain ⟨b, ens, ck, q1, q2, q3, q4⟩ := hr.obj _ _ hg
    have := ha es hg
    rw [q1] at this
    cases this
    refine ⟨_, ens, ck, rfl, q1, q2, q3, entR_of (by simpa using q3) fun i k v hi => ?_⟩
    have := q4 i k v hi
    simpa [Array.getD_eq_getD_getElem?, List.getD_eq_getElem?_getD] using this

theorem run_checkKey0 {w : World} {kt : TypeId} {d : TypeDesc} {c : Value} (hd : P.underlying kt = some d) (hk : d = .string ∨ ∃ k, d = .int k) (em : Bool) (n : Nat) : (Instr.checkKey em (n + 1) kt c).run P w = .ok () w := by
  rcases hk with rfl | ⟨k, rfl⟩ <;> cases c <;> simp [Instr.checkKey, run_underlying hd]
theorem XOK.look {mk : MK} {z : AV} {ok : Bool} {x y : Opd} {id : Nat} {a : AV} {es : List (AV × AV)} {r : Option (Nat × AV)} (hx : ev e x = some (.map id)) (hy : ev e y = some a) (hg : h.get id = some (.map es)) (hk : keyOK mk a) (hf : findA a es 0 = some r) :
    XOK P N (.look mk z ok x y) e h (some (lookR z ok r)) .none := by
  intro o hc e2 hs m w act hr he
  obtain ⟨t, kt, et, mo, ko, i, zv, hop, hu, h1, h2, hmk, hi, hz, hzv⟩ := cx_look hc
  have hx2 : ev e2 x = some (.map id) := (ev_congr fun s h => hs s (by simp [xslots, h])).trans hx
  have hy2 : ev e2 y = some a := (ev_congr fun s h => hs s (by simp [xslots, h])).trans hy
  have vm := he.eval h1 hx2
  have vk := he.eval h2 hy2
  obtain ⟨b, ens, ck, e1, _, hb, hlen, hent⟩ := map_obj hr hg vm
  obtain ⟨d, hd, hd2, hd3⟩ := mkey (m := m) (w := w) hmk hk
  obtain ⟨rr, hfn, hfr⟩ := findNow_of hd2 vk hd3 hent hf
  have vz : VR m h w z zv := ofV_vr hzv
  have hzr : (zeroValue et).run P w = .ok zv w := by simp [zeroValue, run_typeInfo' hi, hz]
  have hck := run_checkKey0 (w := w) (c := act.eval ko) hd hd2 ens.isEmpty 9999
  have hfk := MapKept.run_findKey (w := w) hd hfn
  have key : ∃ cv, (Instr.lookup t (act.eval mo) (act.eval ko) ok).run P w = .ok cv w ∧ VR m h w (lookR z ok r) cv := by
    rw [e1]
    cases r with
    | none =>
      cases rr with
      | some _ => exact hfr.elim
      | none =>
        refine ⟨if ok then .tuple #[zv, .bool false] else zv, by simp [Instr.lookup, run_underlying hu, MapKept.run_getObj_map hb, hck, hfk, hzr], ?_⟩
        cases ok
        · exact vz
        · refine .tup _ _ rfl fun j v hj => ?_
          rcases j with _ | _ | j
          · cases hj; exact vz
          · cases hj; exact .bool false
          · simp at hj
    | some iv =>
      cases rr with
      | none => exact hfr.elim
      | some jc =>
        obtain ⟨q1, q2⟩ := hfr
        refine ⟨if ok then .tuple #[jc.2, .bool true] else jc.2, by simp [Instr.lookup, run_underlying hu, MapKept.run_getObj_map hb, hck, hfk], ?_⟩
        cases ok
        · exact q2
        · refine .tup _ _ rfl fun j v hj => ?_
          rcases j with _ | _ | j
          · cases hj; exact q2
          · cases hj; exact .bool true
          · simp at hj
  obtain ⟨cv, hrun, hv⟩ := key
  exact OpOK.pure hr (by simp [execOp, hop, hrun]) hv

theorem findNow_at {d : TypeDesc} {ca : Value} : ∀ (cs : List MapEntry) (i j : Nat) (c : Value), Instr.findNow d ca cs i = some (some (j, c)) → ∃ n e, j = i + n ∧ cs[n]? = some e ∧ Instr.sameNow d ca e.key = some true
  | [], i, j, c, hf => by simp [Instr.findNow] at hf
  | x :: cs, i, j, c, hf => by
    simp only [Instr.findNow] at hf
    split at hf
    · rename_i hs
      cases hf
      exact ⟨0, x, rfl, rfl, hs⟩
    · obtain ⟨n, e, h1, h2, h3⟩ := findNow_at cs (i + 1) j c hf
      exact ⟨n + 1, e, by omega, by simpa using h2, h3⟩
    · cases hf
theorem sameNow_eq {d : TypeDesc} (hd : d = .string ∨ ∃ k, d = .int k) {x y : Value} (hs : Instr.sameNow d x y = some true) : y = x ∧ ∀ n, Instr.sameBits n x x = true := by
  rcases hd with rfl | ⟨k, rfl⟩
  · cases x <;> cases y <;> simp [Instr.sameNow] at hs
    exact ⟨by rw [(MapKept.bytes_beq _ _).1 hs], fun n => by simp [Instr.sameBits, (MapKept.bytes_beq _ _).2 rfl]⟩
  · cases x <;> cases y <;> simp [Instr.sameNow] at hs
    obtain ⟨h1, h2⟩ := hs
    subst h1; subst h2
    exact ⟨rfl, fun n => by simp [Instr.sameBits]⟩
def putM (es : List (AV × AV)) (a v : AV) : Option (Nat × AV) → List (AV × AV)
  | none => es ++ [(a, v)]
  | some (i, _) => es.set i (a, v)
theorem cx_mput {o : Oper} {mk : MK} {x y v : Opd} (hc : compileX P N o = some (.mput mk x y v)) :
    ∃ t kt et mo ko vo, (o.op = .mapUpdate t mo ko vo ∨ o.op = .insert t mo ko vo) ∧ P.underlying t = some (.map kt et) ∧ ofOpd N mo = some x ∧ ofOpd N ko = some y ∧ ofOpd N vo = some v ∧ mkind P kt = some mk := by
  unfold compileX at hc
  split at hc
  case h_3 t mo ko vo hop =>
    split at hc
    · rw [Option.map_eq_some_iff] at hc
      obtain ⟨mk', h1, h2⟩ := hc
      cases h2
      exact ⟨_, _, _, _, _, _, .inl hop, ‹_›, ‹_›, ‹_›, ‹_›, h1⟩
    · cases hc
  case h_4 t mo ko vo hop =>
    split at hc
    · rw [Option.map_eq_some_iff] at hc
      obtain ⟨mk', h1, h2⟩ := hc
      cases h2
      exact ⟨_, _, _, _, _, _, .inr hop, ‹_›, ‹_›, ‹_›, ‹_›, h1⟩
    · cases hc
  all_goals
    (repeat' split at hc
     all_goals first
       | (cases hc; done)
       | (rw [Option.map_eq_some_iff] at hc; obtain ⟨_, _, h⟩ := hc; cases h; done) | contradiction)

theorem WUpd.map {w : World} {b : Nat} {ens ens' : Array MapEntry} {ck ck' : Nat} (hb : w.heap[b]? = some (.map ens ck)) : WUpd w { w with heap := w.heap.setIfInBounds b (.map ens' ck') } b :=
  ⟨rfl, rfl, rfl, by simp, fun k hk => (MapKept.heap_set hb).2 k hk, fun cc T fz h => by rw [hb] at h; cases h⟩
theorem XOK.mput {mk : MK} {x y z : Opd} {id : Nat} {a v : AV} {es : List (AV × AV)} {r : Option (Nat × AV)} (hx : ev e x = some (.map id)) (hy : ev e y = some a) (hz : ev e z = some v) (hg : h.get id = some (.map es)) (hk : keyOK mk a) (hf : findA a es 0 = some r) :
    XOK P N (.mput mk x y z) e h none (.set id (.map (putM es a v r))) := by
  intro o hc e2 hs m w act hr he
  obtain ⟨t, kt, et, mo, ko, vo, hop, hu, h1, h2, h3, hmk⟩ := cx_mput hc
  have hx2 : ev e2 x = some (.map id) := (ev_congr fun s h => hs s (by simp [xslots, h])).trans hx
  have hy2 : ev e2 y = some a := (ev_congr fun s h => hs s (by simp [xslots, h])).trans hy
  have hz2 : ev e2 z = some v := (ev_congr fun s h => hs s (by simp [xslots, h])).trans hz
  have vm := he.eval h1 hx2
  have vk := he.eval h2 hy2
  have vv := he.eval h3 hz2
  obtain ⟨b, ens, ck, e1, hmb, hb, hlen, hent⟩ := map_obj hr hg vm
  obtain ⟨_, ens0, ck0, p1, p2, p3, p4⟩ := hr.obj _ _ hg
  rw [hmb] at p1; cases p1
  rw [hb] at p2; cases p2
  obtain ⟨d, hd, hd2, hd3⟩ := mkey (m := m) (w := w) hmk hk
  obtain ⟨rr, hfn, hfr⟩ := findNow_of hd2 vk hd3 hent hf
  have hck := run_checkKey0 (w := w) (c := act.eval ko) hd hd2 false 9999
  have hfk := MapKept.run_findKey (w := w) hd hfn
  have key : ∃ ens' ck', (Instr.mapUpdate t (act.eval mo) (act.eval ko) (act.eval vo)).run P w = .ok () { w with heap := w.heap.setIfInBounds b (.map ens' ck') } ∧ (putM es a v r).length = ens'.size ∧
      ∀ (i : Nat) (k u : AV), (putM es a v r)[i]? = some (k, u) → VR m h w k (ens'.getD i default).key ∧ VR m h w u (ens'.getD i default).val := by
    rw [e1]
    cases r with
    | none =>
      cases rr with
      | some _ => exact hfr.elim
      | none =>
        refine ⟨ens.push { key := act.eval ko, val := act.eval vo, born := ck }, ck + 1, by simp [Instr.mapUpdate, run_underlying hu, MapKept.run_getObj_map hb, hck, hfk, MapKept.run_setObj_map _ hb, Result.andThen], by simp [putM, hlen], fun i k u hi => ?_⟩
        simp only [putM] at hi
        by_cases hlt : i < es.length
        · rw [List.getElem?_append_left hlt] at hi
          have := p4 i k u hi
          have h5 : (ens.push { key := act.eval ko, val := act.eval vo, born := ck }).getD i default = ens.getD i default := by
            simp [Array.getD_eq_getD_getElem?, Array.getElem?_push_lt (show i < ens.size by omega), show i < ens.size by omega]
          rw [h5]; exact this
        · have hi2 := (List.getElem?_eq_some_iff.1 hi).1
          simp at hi2
          have : i = es.length := by omega
          subst this
          simp at hi
          obtain ⟨rfl, rfl⟩ := hi
          have h5 : (ens.push { key := act.eval ko, val := act.eval vo, born := ck }).getD es.length default = { key := act.eval ko, val := act.eval vo, born := ck } := by
            rw [hlen]; simp [Array.getD_eq_getD_getElem?]
          rw [h5]; exact ⟨vk, vv⟩
    | some iv =>
      cases rr with
      | none => exact hfr.elim
      | some jc =>
        obtain ⟨j, c⟩ := jc
        obtain ⟨i0, v0⟩ := iv
        obtain ⟨q1, q2⟩ := hfr
        subst q1
        obtain ⟨n, en, q3, q4, q5⟩ := findNow_at _ _ _ _ hfn
        have q6 : n = i0 := by omega
        subst q6
        obtain ⟨q7, q8⟩ := sameNow_eq hd2 q5
        have hj : ens[n]? = some en := by simpa using q4
        refine ⟨ens.modify n fun e => { e with key := act.eval ko, val := act.eval vo }, ck, by simp [Instr.mapUpdate, run_underlying hu, MapKept.run_getObj_map hb, hck, hfk, hj, q7, Instr.keyThatStays, q8, MapKept.run_setObj_map _ hb, Result.andThen], by simp [putM, hlen], fun i k u hi => ?_⟩
        simp only [putM] at hi
        by_cases hin : n = i
        · subst hin
          have hlt : n < es.length := by
            have := (List.getElem?_eq_some_iff.1 hi).1
            simpa using this
          rw [List.getElem?_set_self hlt] at hi
          cases hi
          have h5 : (ens.modify n fun e => { e with key := act.eval ko, val := act.eval vo }).getD n default = { en with key := act.eval ko, val := act.eval vo } := by
            simp [Array.getD_eq_getD_getElem?, Array.getElem?_modify, hj]
          rw [h5]; exact ⟨vk, vv⟩
        · rw [List.getElem?_set_ne hin] at hi
          have := p4 i k u hi
          have h5 : (ens.modify n fun e => { e with key := act.eval ko, val := act.eval vo }).getD i default = ens.getD i default := by
            simp [Array.getD_eq_getD_getElem?, Array.getElem?_modify, hin]
          rw [h5]; exact this
  obtain ⟨ens', ck', hrun, hl', hv'⟩ := key
  have wu : WUpd w { w with heap := w.heap.setIfInBounds b (.map ens' ck') } b := WUpd.map hb
  have st := step_set hr hg hmb (x1 := .map (putM es a v r)) trivial wu
  refine ⟨m, _, hr.set (x1 := .map (putM es a v r)) hg hmb trivial wu ⟨b, ens', ck', hmb, (MapKept.heap_set hb).1, hl', fun i k u hi => ⟨(hv' i k u hi).1.step st, (hv' i k u hi).2.step st⟩⟩, st, ?_⟩
  rcases hop with hop | hop <;> simp [execOp, hop, hrun]

theorem cx_mlen {o : Oper} {x : Opd} (hc : compileX P N o = some (.mlen x)) : ∃ c xo t kt et, o.op = .call c ∧ c.callee = .builtin .len ∧ c.args.toList = [xo] ∧ c.argTypes[0]? = some t ∧ P.underlying t = some (.map kt et) ∧ ofOpd N xo = some x := by
  cases hop : o.op <;> simp only [compileX, hop] at hc <;> try (cases hc; done)
  case call c =>
    split at hc
    case h_1 hcal =>
      repeat' split at hc
      all_goals first
        | (cases hc; exact ⟨_, _, _, _, _, rfl, hcal, ‹_›, ‹_›, ‹_›, ‹_›⟩)
        | (cases hc; done)
    all_goals
      (repeat' split at hc
       all_goals (cases hc; done))
  all_goals
    (repeat' split at hc
     all_goals first
       | (cases hc; done)
       | (rw [Option.map_eq_some_iff] at hc; obtain ⟨_, _, h⟩ := hc; cases h; done) | contradiction)
theorem XOK.mlen {x : Opd} {id : Nat} {es : List (AV × AV)} (hx : ev e x = some (.map id)) (hg : h.get id = some (.map es)) : XOK P N (.mlen x) e h (some (.int .i64 es.length)) .none := by
  intro o hc e2 hs m w act hr he
  obtain ⟨c, xo, t, kt, et, hop, hcal, ha, hat, hu, h1⟩ := cx_mlen hc
  have hx2 : ev e2 x = some (.map id) := (ev_congr fun s h => hs s (by simp [xslots, h])).trans hx
  obtain ⟨b, ens, ck, e1, hmb, hb, hlen, hent⟩ := map_obj hr hg (he.eval h1 hx2)
  have ha' : c.args = #[xo] := by rw [← Array.toArray_toList (xs := c.args), ha]
  refine OpOK.pure hr ?_ (.int _ _)
  simp [execOp, hop, resolve, hcal, ha', invoke, builtin, Builtin.len_, hat, e1, run_underlying hu, MapKept.run_getObj_map hb, goInt, hlen]

end
end Go.Abs

namespace Go.Abs
open Go

section
variable {P : Program} {N : Nat} {e e' : Env} {h h' : AHeap} {l : List CI} {Q : Exit → Env → AHeap → Prop}

/-- One operation with several answers. -/
def FQ (P : Program) (N : Nat) (c : CI) (e : Env) (h : AHeap) (R : Option AV → AHeap → Prop) : Prop :=
  ∀ (ops : Array Oper) (i : Nat) (o : Oper), ops[i]? = some o → compI P N ops o = c → ∀ (m : Inj) (w : World) (a : Act) (K : Act → World → Prop) (Q : Exit → Act → World → Prop),
    HR m h w → ER N m h w e a → (∀ r h' m' w' a', R r h' → HR m' h' w' → ER N m' h' w' (putR c.d r e) a' → Step m h w m' h' w' → K a' w') → wpOp P ops Q i K a w
theorem met_wanted {ops : Array Oper} {o : Oper} {d : Option Nat} {i : Ins} {g : Option (Nat × Bool)} {m : Inj} {w : World} {a : Act} (he : ER N m h w e a) (hg : met e g)
    (hgd : match o.guard with | none => (CI.mk d i g).g = none | some (j, b) => ∃ s, (ops[j]?).bind (·.dst) = some s ∧ (CI.mk d i g).g = some (s, b)) : Region.wanted o (yielded ops a.tmps) = true := by
  obtain ⟨w1, w2⟩ := wanted_of he hgd
  cases g with
  | none => exact w1 rfl
  | some sb =>
    obtain ⟨s, b⟩ := sb
    rw [w2 s b b rfl hg]; simp

/-- An operation, by what it does at the real state. -/
theorem FQ.of {d : Option Nat} {i : Ins} {g : Option (Nat × Bool)} {R : Option AV → AHeap → Prop} (hni : i ≠ .bad) (hg : met e g)
    (hx : ∀ (ops : Array Oper) (o : Oper), compI P N ops o = ⟨d, i, g⟩ → ∀ (m : Inj) (w : World) (a : Act), HR m h w → ER N m h w e a → ∃ r f, R r (f.on h.next h) ∧ OpOK P o a m h w h.next r f) : FQ P N ⟨d, i, g⟩ e h R := by
  intro ops i o ho hc m w a K Q hr he hk
  rcases compI_ok hc with ⟨hb1, hb2⟩ | ⟨hd, hdst, _, hgd⟩
  · exact absurd hb1 hni
  · simp only [wpOp, ho]
    rw [if_pos (met_wanted he hg hgd)]
    left
    obtain ⟨r, f, hR, m', w', hr', st, hres⟩ := hx ops o hc m w a hr he
    have hd' : d = o.dst := hd
    unfold Oper.wp
    cases r with
    | some v =>
      obtain ⟨cv, hrun, hv⟩ := hres
      rw [hrun, Oper.upon_value]
      refine hk _ _ m' w' _ hR hr' ?_ st
      show ER N m' _ w' (putR d (some v) e) _
      rw [hd']
      exact (he.step st).putR hdst hv
    | none =>
      rw [hres, Oper.upon_skip]
      refine hk _ _ m' w' _ hR hr' ?_ st
      show ER N m' _ w' (putR d none e) _
      rw [hd']
      exact (he.step st).skipR _ _
theorem comp_plain {ops : Array Oper} {o : Oper} {d : Option Nat} {i : Ins} {g : Option (Nat × Bool)} (hc : compI P N ops o = ⟨d, i, g⟩) (hp : i.plain = true) : compileOp P N o = some i := by
  rcases compI_ok hc with ⟨hb1, hb2⟩ | ⟨_, _, h3, _⟩
  · have hb : i = .bad := hb1
    subst hb; cases hp
  · exact h3 hp

theorem run_eq_slice_none {t el : TypeId} {w : World} (ht : P.underlying t = some (.slice el)) (d : Nat) (l c : Nat) : (Op.equalIn (d + 1) t (.slice none l c) (.slice none 0 0)).run P w = .ok true w := by
  simp [Op.equalIn, run_underlying ht]
theorem cx_isnil {o : Oper} {neg : Bool} {x : Opd} (hc : compileOp P N o = some (.isnil neg x)) : ∃ op t u el xo, (op = .eql ∧ neg = false ∨ op = .neq ∧ neg = true) ∧ P.underlying t = some (.slice el) ∧ o.op = .binOp op t xo (.const (.slice none 0 0)) u ∧ ofOpd N xo = some x := by
  cases hop : o.op <;> simp only [compileOp, hop] at hc <;> try (cases hc; done)
  case binOp op t x0 y u =>
    cases op <;> simp only at hc
    all_goals
      repeat' split at hc
    all_goals first
      | (cases hc; done)
      | (cases hc; exact ⟨_, _, _, _, _, .inl ⟨rfl, rfl⟩, ‹_›, rfl, ‹_›⟩)
      | (cases hc; exact ⟨_, _, _, _, _, .inr ⟨rfl, rfl⟩, ‹_›, rfl, ‹_›⟩)
      | (rw [Option.map_eq_some_iff] at hc; obtain ⟨_, _, h⟩ := hc; cases h; done)
  all_goals
    (repeat' split at hc
     all_goals first
       | (cases hc; done)
       | (rw [Option.map_eq_some_iff] at hc; obtain ⟨_, _, h⟩ := hc; cases h; done) | contradiction)
theorem FQ.isnil {d : Option Nat} {neg : Bool} {x : Opd} {g : Option (Nat × Bool)} {c : List (List AV)} {sz : Nat} (hx : ev e x = some (.imm sz c)) (hg : met e g) :
    FQ P N ⟨d, .isnil neg x, g⟩ e h (fun r h' => ∃ b : Bool, r = some (.bool (if neg then !b else b)) ∧ h' = h ∧ (b = true → c = [])) := by
  refine FQ.of (by simp) hg fun ops o hc m w a hr he => ?_
  obtain ⟨op, t, u, el, xo, hop, ht, ho, h1⟩ := cx_isnil (comp_plain hc rfl)
  have e1 := he.eval h1 hx
  have key : ∃ b : Bool, (b = true → c = []) ∧ ∃ l cp ad, a.eval xo = .slice ad l cp ∧ b = ad.isNone := by
    generalize a.eval xo = cx at e1
    cases e1 with
    | imm0 => exact ⟨true, fun _ => rfl, _, _, _, rfl, rfl⟩
    | imm1 => exact ⟨false, fun h => (nomatch h), _, _, _, rfl, rfl⟩
    | imm => exact ⟨false, fun h => (nomatch h), _, _, _, rfl, rfl⟩
  obtain ⟨b, hb, l, cp, ad, hx1, rfl⟩ := key
  refine ⟨_, .none, ⟨ad.isNone, rfl, rfl, hb⟩, ?_⟩
  have heq : (Op.equal t (.slice ad l cp) (.slice none 0 0)).run P w = .ok ad.isNone w := by
    cases ad with
    | none => exact run_eq_slice_none ht 9999 l cp
    | some ad => exact run_eq_slice_nil ht 9999 ad l cp
  have hy : a.eval (.const (.slice none 0 0)) = .slice none 0 0 := rfl
  refine OpOK.pure hr (cv := .bool (if neg then !ad.isNone else ad.isNone)) ?_ (by cases neg <;> exact .bool _)
  rcases hop with ⟨rfl, rfl⟩ | ⟨rfl, rfl⟩
  · simp [execOp, ho, hx1, hy, eqGuard_at_slice, binOp, heq]
  · simp [execOp, ho, hx1, hy, eqGuard_at_slice, binOp, heq]

theorem cx_call {o : Oper} {y : Ex} (hc : compileX P N o = some y) (hy : match y with | .caps _ | .appz _ _ _ _ _ | .callx _ _ | .inv _ _ _ | .clr _ _ _ => True | _ => False) : ∃ c, o.op = .call c := by
  cases hop : o.op <;> simp only [compileX, hop] at hc <;> try (cases hc; done)
  case call c => exact ⟨c, rfl⟩
  all_goals
    (repeat' split at hc
     all_goals first
       | (cases hc; cases hy; done)
       | (cases hc; done)
       | (rw [Option.map_eq_some_iff] at hc; obtain ⟨_, _, h⟩ := hc; subst h; cases hy; done)
       | contradiction)
theorem cx_caps {o : Oper} {x : Opd} (hc : compileX P N o = some (.caps x)) : ∃ c xo t el, o.op = .call c ∧ c.callee = .builtin .cap ∧ c.args.toList = [xo] ∧ c.argTypes[0]? = some t ∧ P.underlying t = some (.slice el) ∧ ofOpd N xo = some x := by
  obtain ⟨c, hop⟩ := cx_call hc trivial
  simp only [compileX, hop] at hc
  split at hc
  case h_2 hcal =>
    repeat' split at hc
    all_goals first
      | (cases hc; exact ⟨_, _, _, _, hop, hcal, ‹_›, ‹_›, ‹_›, ‹_›⟩)
      | (cases hc; done)
  all_goals
    (repeat' split at hc
     all_goals (cases hc; done))
theorem XOK.caps0 {x : Opd} (hx : ev e x = some .nils) : XOK P N (.caps x) e h (some (.int .i64 0)) .none := by
  intro o hc e2 hs m w act hr he
  obtain ⟨c, xo, t, el, hop, hcal, ha, hat, hu, h1⟩ := cx_caps hc
  have hx2 : ev e2 x = some .nils := (ev_congr fun s h => hs s (by simp [xslots, h])).trans hx
  have ha' : c.args = #[xo] := by rw [← Array.toArray_toList (xs := c.args), ha]
  have e1 := he.eval h1 hx2
  generalize hcx : act.eval xo = cx at e1
  refine OpOK.pure hr (cv := .int .i64 0) ?_ (.int _ _)
  cases e1 <;> simp [execOp, hop, resolve, hcal, ha', invoke, builtin, Builtin.cap_, hat, hcx, run_underlying hu, goInt]

theorem cx_appz {o : Oper} {sz bytes : Nat} {zs : List AV} {x y : Opd} (hc : compileX P N o = some (.appz sz bytes zs x y)) : ∃ c s n t u el k i z, o.op = .call c ∧ c.callee = .builtin .append ∧ c.args.toList = [s, n] ∧ c.argTypes.toList = [t, u] ∧ P.underlying t = some (.slice el) ∧ P.underlying u = some (.int k) ∧
    ofOpd N s = some x ∧ ofOpd N n = some y ∧ P.info? el = some i ∧ i.zero = some z ∧ ofL ofV z.cells.toList = some zs ∧ 0 < i.size ∧ 0 < i.bytes ∧ z.cells.size = i.size ∧ sz = i.size ∧ bytes = i.bytes := by
  obtain ⟨c, hop⟩ := cx_call hc trivial
  simp only [compileX, hop] at hc
  split at hc
  case h_3 hcal =>
    repeat' split at hc
    all_goals first
      | (rename_i hcond; cases hc; exact ⟨_, _, _, _, _, _, _, _, _, hop, hcal, ‹_›, ‹_›, ‹_›, ‹_›, ‹_›, ‹_›, ‹_›, ‹_›, ‹_›, hcond.1, hcond.2.1, hcond.2.2, rfl, rfl⟩)
      | (cases hc; done)
  all_goals
    (repeat' split at hc
     all_goals (cases hc; done))
theorem zeroCells_get {z : Array Value} {n k : Nat} (hk : k < n * z.size) : (Builtin.zeroCells z n)[k]? = some (z.getD (k % z.size) undef) := by
  have hz : 0 < z.size := by
    rcases Nat.eq_zero_or_pos z.size with h | h
    · rw [h] at hk; omega
    · exact h
  have hm : k % z.size < z.size := Nat.mod_lt _ hz
  simp [Builtin.zeroCells, hk, Array.getD_eq_getD_getElem?, hm]
/-- A row of zeros reads as such. -/
theorem rowF_zero {m : Inj} {w : World} {z : Value} {zs : List AV} {sz n : Nat} (hzs : ofL ofV z.cells.toList = some zs) (hsz : z.cells.size = sz) (h0 : 0 < sz) {F : Nat → Value} (hF : ∀ k, k < n * sz → F k = z.cells.getD (k % sz) undef) : RowF m h w sz (List.replicate n zs) F := by
  obtain ⟨q1, q2, q3⟩ := ofL_ofV (m := m) (h := h) (w := w) hzs
  refine ⟨fun x hx => ?_, fun x hx => ?_, fun i cells hi j v hj => ?_⟩
  · obtain ⟨_, rfl⟩ := List.mem_replicate.1 hx; simpa [hsz] using q1
  · obtain ⟨_, rfl⟩ := List.mem_replicate.1 hx; exact q2
  · rw [List.getElem?_replicate] at hi
    split at hi
    · rename_i hlt
      cases hi
      have hjs : j < sz := by
        have := (List.getElem?_eq_some_iff.1 hj).1
        have h6 : zs.length = sz := by simpa [hsz] using q1
        omega
      rw [hF _ (idx_lt hlt hjs), Nat.mul_comm, Nat.mul_add_mod, Nat.mod_eq_of_lt hjs]
      have := q3 j v hj
      simpa [Array.getD_eq_getD_getElem?, List.getD_eq_getElem?_getD] using this
    · cases hi
theorem new_ref {m : Inj} {w : World} {nm sz off len cap : Nat} {c : List (List AV)} {cc : Array Value} {T : TypeId} (h1 : off + len ≤ c.length) (h2 : len ≤ cap) (h3 : (off + cap) * sz ≤ cc.size) :
    VR (upd m nm (some (w.heap.size, 0))) (h.put nm (.mem sz c)) (w.alloc (.cells cc T)) (.ref nm off len) (.slice (some ⟨w.heap.size, off * sz, none⟩) len cap) := by
  refine .ref nm off len cap _ put_used_nm h2 fun sz' c' hg => ?_
  simp only [AHeap.put, if_true, Option.some.injEq, AObj.mem.injEq] at hg
  obtain ⟨rfl, rfl⟩ := hg
  exact ⟨w.heap.size, by simp [upd], h1, .inr rfl, cc, T, heap_alloc_new w _, h3⟩
/-- Noughts appended to nothing: a row that may be written. -/
theorem XOK.appz {sz bytes n : Nat} {zs : List AV} {x y : Opd} {k : IntKind} {a : Int} (hx : ev e x = some .nils) (hy : ev e y = some (.int k a)) (ha : a = n) (h0 : 0 < n) (hb : n * bytes ≤ 140737488355328) :
    XOK P N (.appz sz bytes zs x y) e h (some (.ref h.next 0 n)) (.new (.mem sz (List.replicate n zs))) := by
  subst ha
  intro o hc e2 hs m w act hr he
  obtain ⟨c, s, no, t, u, el, kk, i, z, hop, hcal, hargs, hat, hu, hu2, h1, h2, hi, hz, hzs, p1, p2, p3, rfl, rfl⟩ := cx_appz hc
  have hx2 : ev e2 x = some .nils := (ev_congr fun s h => hs s (by simp [xslots, h])).trans hx
  have hy2 : ev e2 y = some (.int k n) := (ev_congr fun s h => hs s (by simp [xslots, h])).trans hy
  have ha' : c.args = #[s, no] := by rw [← Array.toArray_toList (xs := c.args), hargs]
  have hat' : c.argTypes = #[t, u] := by rw [← Array.toArray_toList (xs := c.argTypes), hat]
  have e1 := he.eval h1 hx2
  have e3 := vr_int (he.eval h2 hy2)
  have hn1 : n * 1 ≤ n * i.bytes := Nat.mul_le_mul_left _ p2
  have hg := grownCap_ge w n 0 el
  have fin : ∀ cc : Array Value, (∀ k, k < n * i.size → cc.getD k undef = z.cells.getD (k % i.size) undef) → grownCap w n 0 el * i.size ≤ cc.size → (execOp act.eval o).run P w = .ok (.value (.slice (some ⟨w.heap.size, 0, none⟩) n (grownCap w n 0 el))) (w.drew.alloc (.cells cc el)) →
      OpOK P o act m h w h.next (some (.ref h.next 0 n)) (.new (.mem i.size (List.replicate n zs))) := by
    intro cc hcc hsz hrun
    have hr1 := hr.drew
    have hf := next_fresh hr
    obtain ⟨r1, r2⟩ := new_row (T := el) (cc := cc) (sz := i.size) (c := List.replicate n zs) hr1 hf (by
      simp only [List.length_replicate]
      have : n * i.size ≤ grownCap w n 0 el * i.size := Nat.mul_le_mul_right _ hg
      omega) (rowF_zero hzs p3 p1 hcc)
    refine ⟨_, _, r1, step_drew.trans r2, _, hrun, ?_⟩
    have := new_ref (m := m) (h := h) (w := w.drew) (nm := h.next) (sz := i.size) (off := 0) (len := n) (cap := grownCap w n 0 el) (c := List.replicate n zs) (cc := cc) (T := el) (by simp) hg (by simpa using hsz)
    simp only [Nat.zero_mul] at this
    exact this
  generalize hcx : act.eval s = cx at e1
  have hz1 : z.cells.size = i.size := p3
  have go : ∀ base, (Builtin.append_ #[t, u] o.type #[.slice base 0 0, .int k n]).run P w = .ok (.slice (some ⟨w.heap.size, 0, none⟩) n (grownCap w n 0 el)) (w.drew.alloc (.cells (Builtin.zeroCells z.cells n ++ Builtin.zeroCells z.cells (grownCap w n 0 el - n)) el)) := by
    intro base
    have hn : n ≠ 0 := by omega
    have hw : IntKind.i64.wrap (n : Int) = n := by rw [IntKind.wrap_i64]; omega
    have h63' : ¬ (9223372036854775807 < (n : Int)) := by omega
    have h48' : ¬ (281474976710656 < Builtin.nextslicecap n 0 * i.bytes) := by rw [nextslicecap_zero h0]; omega
    have h48i : ¬ (281474976710656 < (n : Int) * (i.bytes : Int)) := by
      rw [← Int.natCast_mul]
      omega
    have hneg : ¬ ((n : Int) < 0) := by omega
    have hns : ¬ (n * i.size = 0) := Nat.mul_ne_zero hn (by omega)
    cases base with
    | none => exact Lib.run_append_nil_zeros (P := P) w t u o.type el i z k kk hu hu2 hi hz n h0 p1 (by omega) (by omega)
    | some bb => simp [Builtin.append_, run_underlying hu, run_underlying hu2, sizeOf, typeInfo, zeroValue, hi, hz, asInt, asIntOf, hw, hn, hneg, hns, h63', h48', h48i, Question.forced, Builtin.firstCells, loadCells, loadCellsFrom, newRow, grownCap]
  have hrun : ∃ base, cx = .slice base 0 0 := by
    cases e1 with
    | nils0 => exact ⟨_, rfl⟩
    | nils1 ad => exact ⟨_, rfl⟩
  obtain ⟨base, rfl⟩ := hrun
  refine fin (Builtin.zeroCells z.cells n ++ Builtin.zeroCells z.cells (grownCap w n 0 el - n)) ?_ ?_ (by simp [execOp, hop, resolve, hcal, ha', hat', invoke, builtin, hcx, e3, go base])
  · intro k hk
    have := zeroCells_get (z := z.cells) (n := n) (k := k) (by rw [hz1]; exact hk)
    rw [Array.getD_eq_getD_getElem?, Array.getElem?_append_left (by simp [Builtin.zeroCells, hz1, hk]), this, hz1]
    rfl
  · simp only [Array.size_append, size_zeroCells, hz1, ← Nat.add_mul]
    exact Nat.mul_le_mul_right _ (by omega)
end
end Go.Abs

namespace Go.Abs
open Go

section
variable {P : Program} {N : Nat} {e e' : Env} {h h' : AHeap} {l : List CI} {Q : Exit → Env → AHeap → Prop}

def SubV (u v : AV) : Prop := ∀ (m : Inj) (h : AHeap) (w : World) (c : Value), VR m h w u c → VR m h w v c
theorem SubV.refl (u : AV) : SubV u u := fun _ _ _ _ hv => hv
theorem SubV.nil {sz : Nat} : SubV .nils (.imm sz []) := fun m h w c hv => by
  cases hv with
  | nils0 => exact .imm0 _
  | nils1 a => exact .imm1 _ _ _
theorem SubV.app {id g sz : Nat} {c : List (List AV)} : SubV (.app id g sz c) (.imm sz c) := fun m h w cv hv => by
  cases hv with
  | app0 => exact .imm0 _
  | app1 => exact .imm1 _ _ _
  | app _ _ _ _ b cap F hu hic hl hsc hrr hcap ht => exact .imm _ _ _ _ _ F hic hl hsc hrr hcap
inductive SubL : List AV → List AV → Prop
  | nil : SubL [] []
  | cons {u v : AV} {us vs : List AV} (h1 : SubV u v) (h2 : SubL us vs) : SubL (u :: us) (v :: vs)
theorem SubL.len {us vs : List AV} (hs : SubL us vs) : us.length = vs.length := by
  induction hs with
  | nil => rfl
  | cons _ _ ih => simp [ih]
theorem SubL.get {us vs : List AV} (hs : SubL us vs) : ∀ (i : Nat) (u v : AV), us[i]? = some u → vs[i]? = some v → SubV u v := by
  induction hs with
  | nil => intro i u v hu; simp at hu
  | cons h1 _ ih =>
    intro i u v hu hv
    cases i with
    | zero => cases hu; cases hv; exact h1
    | succ i => exact ih i u v (by simpa using hu) (by simpa using hv)
theorem SubV.agg {us vs : List AV} (hs : SubL us vs) (hsc : ∀ v ∈ vs, AV.scalar v = true) : SubV (.agg us) (.agg vs) := fun m h w c hv => by
  cases hv with
  | agg _ cs q1 q2 q3 =>
    refine .agg _ _ (by rw [← hs.len]; exact q1) hsc fun i v hi => ?_
    have hlt : i < us.length := by rw [hs.len]; exact (List.getElem?_eq_some_iff.1 hi).1
    exact hs.get i _ v (List.getElem?_eq_getElem hlt) hi _ _ _ _ (q3 i _ (List.getElem?_eq_getElem hlt))
theorem AC.sub {f : Nat} {us vs : List AV} {R : AV → AHeap → Prop} (hs : SubL us vs) (hac : AC P f vs h R) : AC P f us h R := fun m w cargs hr hl hv =>
  hac m w cargs hr (by rw [← hs.len]; exact hl) fun i v hi => by
    have hlt : i < us.length := by rw [hs.len]; exact (List.getElem?_eq_some_iff.1 hi).1
    exact hs.get i _ v (List.getElem?_eq_getElem hlt) hi _ _ _ _ (hv i _ (List.getElem?_eq_getElem hlt))
theorem AE.sub {f : Nat} {us vs : List AV} {r : AV} (hs : SubL us vs) (hac : AE P f vs h r h') : AE P f us h r h' := AC.sub hs hac
theorem HR.retell {m : Inj} {w : World} (hr : HR m h w) {id sz : Nat} {c c' : List (List AV)} (hg : h.get id = some (.mem sz c)) (hl : c'.length = c.length)
    (hrow : ∀ F, RowF m h w sz c F → RowF m h w sz c' F) : HR m (h.set id (some (.mem sz c'))) w ∧ Step m h w m (h.set id (some (.mem sz c'))) w := by
  obtain ⟨b, cc, T, q1, q2, q3, q4⟩ := hr.obj _ _ hg
  have wu : WUpd w w b := ⟨rfl, rfl, rfl, rfl, fun _ _ => rfl, fun cc T fz h => ⟨cc, h, rfl⟩⟩
  have hcm : Compat (.mem sz c) (.mem sz c') := ⟨rfl, by omega⟩
  have st := step_set hr hg q1 hcm wu
  exact ⟨hr.set hg q1 hcm wu ⟨b, cc, T, q1, q2, by rw [hl]; exact q3, (hrow _ q4).step st⟩, st⟩
theorem RowF.one_cell {m : Inj} {w : World} {sz i j : Nat} {c : List (List AV)} {cells : List AV} {u v : AV} (hi : c[i]? = some cells) (hj : cells[j]? = some u) (hsc : v.scalar = true) (hv : ∀ cv, VR m h w u cv → VR m h w v cv) :
    ∀ F, RowF m h w sz c F → RowF m h w sz (c.set i (cells.set j v)) F := by
  intro F ⟨q1, q2, q3⟩
  have hlt : i < c.length := (List.getElem?_eq_some_iff.1 hi).1
  refine ⟨fun x hx => ?_, fun x hx y hy => ?_, fun k cs hk t y hy => ?_⟩
  · rcases List.mem_or_eq_of_mem_set hx with hx | rfl
    · exact q1 x hx
    · simpa using q1 cells (List.mem_of_getElem? hi)
  · rcases List.mem_or_eq_of_mem_set hx with hx | rfl
    · exact q2 x hx y hy
    · rcases List.mem_or_eq_of_mem_set hy with hy | rfl
      · exact q2 cells (List.mem_of_getElem? hi) y hy
      · exact hsc
  · rw [List.getElem?_set] at hk
    split at hk
    · rename_i e
      subst e
      have hk' : cells.set j v = cs := by simpa [hlt] using hk
      subst hk'
      rw [List.getElem?_set] at hy
      split at hy
      · rename_i e; subst e
        have hy' : v = y := by simpa [(List.getElem?_eq_some_iff.1 hj).1] using hy
        subst hy'
        exact hv _ (q3 i cells hi j u hj)
      · exact q3 i cells hi t y hy
    · exact q3 k cs hk t y hy
/-- A cell in memory is told with less. -/
theorem Cvt.cell {id sz i j : Nat} {c : List (List AV)} {cells : List AV} {u v : AV} (hg : h.get id = some (.mem sz c)) (hi : c[i]? = some cells) (hj : cells[j]? = some u) (hsc : v.scalar = true) (hv : SubV u v) :
    Cvt e h e (h.set id (some (.mem sz (c.set i (cells.set j v))))) := fun N m w a hr he => by
  obtain ⟨k1, k2⟩ := hr.retell (c' := c.set i (cells.set j v)) hg (by simp) (RowF.one_cell hi hj hsc fun cv => hv _ _ _ _)
  exact ⟨m, k1, he.step k2, k2⟩
end
end Go.Abs

namespace Go.Abs
open Go

section
variable {P : Program} {N : Nat} {m : Inj} {h : AHeap} {w : World} {e : Env} {a : Act} {nm : Nat} {o : Oper}
/-- A slice literal, run: its row stands in a new block. -/
theorem bsl_run (hr : HR m h w) (he : ER N m h w e a) {t el : TypeId} {i : TypeInfo} {z : Value} {n : Nat} {ps : Array (Nat × Operand)} {xs : List Opd} (hu : P.underlying t = some (.slice el)) (hi : P.info? el = some i) (hz : i.zero = some z)
    (hxs : ofL (fun (p : Nat × Operand) => ofOpd N p.2) ps.toList = some xs) (hbig : n * i.size ≤ 2 ^ 24) (hn : 0 < n) (hsz : 0 < i.size) (hzs : z.cells.size = i.size) (hidx : ps.toList.map (·.1) = List.range n) (ho : o.op = .buildSlice t n ps)
    {r : Option AV} {f : Eff} (hv : evalI nm (.bsl i.size xs) e h.get = some (r, f)) :
    ∃ (c : List (List AV)) (out : Array Value), r = some (.imm i.size c) ∧ c.length = n ∧ out.size = n * i.size ∧ RowF m h w i.size c (fun k => out.getD k undef) ∧ (execOp a.eval o).run P w = .ok (.value (.slice (some ⟨w.heap.size, 0, none⟩) n n)) (w.alloc (.cells out el)) := by
  have ofL_map : ∀ (l : List (Nat × Operand)) {ys : List Opd}, ofL (fun (p : Nat × Operand) => ofOpd N p.2) l = some ys → ofL (ofOpd N) (l.map (·.2)) = some ys := by
    intro l
    induction l with
    | nil => intro ys hy; simpa [ofL] using hy
    | cons p l ih =>
      intro ys hy
      simp only [ofL] at hy
      split at hy
      · rename_i y ys' h1 h2
        cases hy
        simp [ofL, h1, ih h2]
      · cases hy
  simp only [evalI] at hv
  split at hv
  · rename_i vs g1
    split at hv
    · rename_i c g2
      cases hv
      obtain ⟨e1, e2⟩ := he.evalL (ofL_map _ hxs) g1
      obtain ⟨c1, c2⟩ := cellsL_some g2
      have hpl : ps.toList.length = n := by have := congrArg List.length hidx; simpa using this
      have hvl : vs.length = n := by simp at e1; simpa [e1] using hpl
      have key : ∀ (k : Nat) (v : AV), vs[k]? = some v → ∃ p : Nat × Operand, ps.toList[k]? = some p ∧ VR m h w v (a.eval p.2) ∧ v.cs.length = i.size ∧ v.isTup = false ∧ c[k]? = some v.cs := by
        intro k v hk
        have hlt : k < ps.toList.length := by rw [hpl, ← hvl]; exact (List.getElem?_eq_some_iff.1 hk).1
        refine ⟨ps.toList[k], List.getElem?_eq_getElem hlt, ?_, (c2 k v hk).2.1, (c2 k v hk).2.2, (c2 k v hk).1⟩
        have := e2 k v hk
        simpa [List.getD_eq_getElem?_getD, List.getElem?_eq_getElem hlt, List.getElem?_map] using this
      obtain ⟨out, r1, r2, r3, r4⟩ := fill_seq i.size (ps.toList.map fun (p : Nat × Operand) => (p.1, a.eval p.2)) 0 ((Array.range (n * i.size)).map (z.cells[· % z.cells.size]!))
        (by simp only [List.map_map, List.length_map, hpl]; rw [show ((fun x : Nat × Value => x.1) ∘ fun p : Nat × Operand => (p.1, a.eval p.2)) = (·.1) from rfl, hidx, List.range_eq_range'])
        (fun q hq => by
          obtain ⟨k, hk, rfl⟩ := List.mem_iff_getElem.1 hq
          simp only [List.length_map] at hk
          have hkv : k < vs.length := by omega
          obtain ⟨p, hp, hvr, hl, ht, _⟩ := key k vs[k] (List.getElem?_eq_getElem hkv)
          have := (vr_cells hvr (isTup_ne ht)).1
          have hp' : ps.toList[k] = p := by simpa [List.getElem?_eq_getElem hk] using hp
          simp only [List.getElem_map, hp']
          omega)
        (by simp [hpl])
      have hne : ¬ (n * i.size = 0) := by have := Nat.mul_pos hn hsz; omega
      have hcl : c.length = n := by omega
      have hmem : ∀ x ∈ c, ∃ (k : Nat) (v : AV), vs[k]? = some v ∧ x = v.cs := by
        intro x hx
        obtain ⟨k, hk, rfl⟩ := List.mem_iff_getElem.1 hx
        have hkv : k < vs.length := by omega
        have := (c2 k _ (List.getElem?_eq_getElem hkv)).1
        exact ⟨k, vs[k], List.getElem?_eq_getElem hkv, by rw [List.getElem?_eq_getElem hk] at this; simpa using this⟩
      refine ⟨c, out, rfl, hcl, by rw [r2]; simp, ⟨fun x hx => ?_, fun x hx => ?_, fun k cells hk j u hj => ?_⟩, ?_⟩
      · obtain ⟨k, v, hk, rfl⟩ := hmem x hx
        exact (c2 k v hk).2.1
      · obtain ⟨k, v, hk, rfl⟩ := hmem x hx
        obtain ⟨p, hp, hvr, _, ht, _⟩ := key k v hk
        exact (vr_cells hvr (isTup_ne ht)).2.1
      · have hkl : k < vs.length := by have := (List.getElem?_eq_some_iff.1 hk).1; omega
        obtain ⟨p, hp, hvr, hl, ht, hck⟩ := key k vs[k] (List.getElem?_eq_getElem hkl)
        rw [hk] at hck
        cases hck
        have hjl : j < i.size := by rw [← hl]; exact (List.getElem?_eq_some_iff.1 hj).1
        have := r4 k (p.1, a.eval p.2) (by simp [hp]) j hjl
        rw [Nat.zero_add] at this
        show VR m h w u (out.getD (k * i.size + j) undef)
        rw [this]
        exact (vr_cells hvr (isTup_ne ht)).2.2 j u hj
      · have hbig' : ¬ (16777216 < n * i.size) := by simp at hbig; omega
        have r1' := r1
        simp only [execOp, ho, Instr.buildSlice, Sem.run_bind, Sem.run_pure, Result.andThen_ok, run_underlying hu, run_sizeOf' hi, zeroValue, run_typeInfo' hi, hz]
        simp only [show (2 : Nat) ^ 24 = 16777216 from rfl, gt_iff_lt, hbig', if_false, hne, Sem.run_bind, Sem.run_pure, Result.andThen_ok, run_typeInfo' hi, hz]
        have hmap : (ps.map fun (x : Nat × Operand) => (x.1, a.eval x.2)).toList = ps.toList.map fun (p : Nat × Operand) => (p.1, a.eval p.2) := by simp
        rw [hmap, r1']
        simp [newRow]
    · cases hv
  · cases hv

theorem cx_bsl {sz : Nat} {xs : List Opd} (hc : compileOp P N o = some (.bsl sz xs)) : ∃ t n ps el i z, o.op = .buildSlice t n ps ∧ P.underlying t = some (.slice el) ∧ P.info? el = some i ∧ i.zero = some z ∧ ofL (fun (p : Nat × Operand) => ofOpd N p.2) ps.toList = some xs ∧ n * i.size ≤ 2 ^ 24 ∧ 0 < n ∧ 0 < i.size ∧ z.cells.size = i.size ∧ ps.toList.map (·.1) = List.range n ∧ sz = i.size := by
  cases hop : o.op <;> simp only [compileOp, hop] at hc <;> try (cases hc; done)
  case buildSlice t n ps =>
    split at hc
    · split at hc
      · split at hc
        · cases hc
        · split at hc
          · split at hc
            · rename_i hcond; cases hc; exact ⟨_, _, _, _, _, _, rfl, ‹_›, ‹_›, ‹_›, ‹_›, hcond.1, hcond.2.1, hcond.2.2.1, hcond.2.2.2.1, hcond.2.2.2.2, rfl⟩
            · cases hc
          · cases hc
      · cases hc
    · cases hc
  all_goals
    (repeat' split at hc
     all_goals first
       | (cases hc; done)
       | (rw [Option.map_eq_some_iff] at hc; obtain ⟨_, _, h⟩ := hc; cases h; done)
       | contradiction)
end

section
variable {P : Program} {N : Nat} {e e' : Env} {h h' : AHeap} {l : List CI} {Q : Exit → Env → AHeap → Prop}

/-- An operation that is a plain one, by what it does at the real state, in any surrounding. -/
theorem FX.of {d : Option Nat} {i : Ins} {g : Option (Nat × Bool)} {r : Option AV} {f : Eff} (hp : i.plain = true) (hg : met e g)
    (hx : ∀ (o : Oper), compileOp P N o = some i → ∀ e2, (∀ s ∈ islots i, lk s e2 = lk s e) → ∀ (m : Inj) (w : World) (a : Act), HR m h w → ER N m h w e2 a → OpOK P o a m h w h.next r f) : FX P N ⟨d, i, g⟩ e h r (f.on h.next h) := by
  intro ops j o ho hc e2 hs m w a K Q hr he hk
  have hraw := comp_plain hc hp
  rcases compI_ok hc with ⟨hb1, hb2⟩ | ⟨hd, hdst, _, hgd⟩
  · have hb : i = .bad := hb1
    subst hb; cases hp
  · obtain ⟨w1, w2⟩ := wanted_of he hgd
    have hi : ∀ s ∈ islots i, lk s e2 = lk s e := fun s h => hs s (by unfold cslots; split <;> simp [h])
    have hw : Region.wanted o (yielded ops a.tmps) = true := by
      cases g with
      | none => exact w1 rfl
      | some sb =>
        obtain ⟨s, b⟩ := sb
        have hl : lk s e2 = some (.bool b) := (hs s (by simp [cslots])).trans hg
        rw [w2 s b b rfl hl]; simp
    simp only [wpOp, ho]
    rw [if_pos hw]
    left
    obtain ⟨m', w', hr', st, hres⟩ := hx o hraw e2 hi m w a hr he
    have hd' : d = o.dst := hd
    unfold Oper.wp
    cases r with
    | some v =>
      obtain ⟨cv, hrun, hv⟩ := hres
      rw [hrun, Oper.upon_value]
      refine hk m' w' _ hr' ?_ st
      show ER N m' _ w' (putR d (some v) e2) _
      rw [hd']
      exact (he.step st).putR hdst hv
    | none =>
      rw [hres, Oper.upon_skip]
      refine hk m' w' _ hr' ?_ st
      show ER N m' _ w' (putR d none e2) _
      rw [hd']
      exact (he.step st).skipR _ _
/-- A literal that may be written. -/
theorem FX.bslM {d : Option Nat} {sz n : Nat} {xs : List Opd} {g : Option (Nat × Bool)} {vs : List AV} {c : List (List AV)} (hv : evL e xs = some vs) (hc : cellsL sz vs = some c) (hl : c.length = n) (hg : met e g) : FX P N ⟨d, .bsl sz xs, g⟩ e h (some (.ref h.next 0 n)) (h.put h.next (.mem sz c)) := by
  refine FX.of (f := .new (.mem sz c)) rfl hg fun o ho e2 hs m w a hr he => ?_
  obtain ⟨t, n', ps, el, i, z, hop, hu, hi, hz, hxs, p1, p2, p3, p4, p5, rfl⟩ := cx_bsl ho
  have hv2 : evL e2 xs = some vs := (evL_congr fun s h => hs s (by simp [islots, h])).trans hv
  have hev : evalI h.next (.bsl i.size xs) e2 h.get = some (some (.imm i.size c), .none) := by simp only [evalI, hv2, hc]
  obtain ⟨c', out, q1, q2, q3, q4, q5⟩ := bsl_run hr he hu hi hz hxs p1 p2 p3 p4 p5 hop hev
  cases q1
  have hn : n = n' := by omega
  subst hn
  have hf := next_fresh hr
  obtain ⟨r1, r2⟩ := new_row (T := el) (cc := out) hr hf (by rw [q2, q3]; exact Nat.le_refl _) q4
  refine ⟨_, _, r1, r2, _, q5, ?_⟩
  have := new_ref (m := m) (h := h) (w := w) (nm := h.next) (sz := i.size) (off := 0) (len := n) (cap := n) (c := c) (cc := out) (T := el) (by omega) (Nat.le_refl _) (by rw [q3]; simp)
  simp only [Nat.zero_mul] at this
  exact this

theorem cx_app {o : Oper} {sz bytes : Nat} {x y : Opd} (hc : compileOp P N o = some (.app sz bytes x y)) : ∃ c s n t el i z, o.op = .call c ∧ c.callee = .builtin .append ∧ c.args.toList = [s, n] ∧ c.argTypes.toList = [t, t] ∧ P.underlying t = some (.slice el) ∧
    ofOpd N s = some x ∧ ofOpd N n = some y ∧ P.info? el = some i ∧ i.zero = some z ∧ 0 < i.size ∧ 0 < i.bytes ∧ z.cells.size = i.size ∧ sz = i.size ∧ bytes = i.bytes := by
  cases hop : o.op <;> simp only [compileOp, hop] at hc <;> try (cases hc; done)
  case call c =>
    repeat' split at hc
    all_goals first
      | (cases hc; done)
      | (rename_i hcond; cases hc; obtain ⟨q1, q2, q3, q4, q5⟩ := hcond; subst q1; subst q2; exact ⟨_, _, _, _, _, _, _, rfl, ‹_›, ‹_›, ‹_›, ‹_›, ‹_›, ‹_›, ‹_›, ‹_›, q3, q4, q5, rfl, rfl⟩)
      | contradiction
  all_goals
    (repeat' split at hc
     all_goals first
       | (cases hc; done)
       | (rw [Option.map_eq_some_iff] at hc; obtain ⟨_, _, h⟩ := hc; cases h; done)
       | contradiction)
/-- An append to nothing that is grown no more. -/
theorem FX.appI {d : Option Nat} {sz bytes : Nat} {x y : Opd} {g : Option (Nat × Bool)} {v : AV} {c : List (List AV)} (hx : ev e x = some .nils) (hy : ev e y = some v) (hc : rdS h.get sz v = some c) (hb : c.length * bytes ≤ 140737488355328) (hg : met e g) : FX P N ⟨d, .app sz bytes x y, g⟩ e h (some (.imm sz c)) h := by
  refine FX.of (f := .none) rfl hg fun o ho e2 hs m w a hr he => ?_
  obtain ⟨cl, s, n, t, el, i, z, hop, hcal, hargs, hat, hu, h1, h2, hi, hz, p1, p2, p3, rfl, rfl⟩ := cx_app ho
  have hx2 : ev e2 x = some .nils := (ev_congr fun s h => hs s (by simp [islots, h])).trans hx
  have hy2 : ev e2 y = some v := (ev_congr fun s h => hs s (by simp [islots, h])).trans hy
  have ha' : cl.args = #[s, n] := by rw [← Array.toArray_toList (xs := cl.args), hargs]
  have hat' : cl.argTypes = #[t, t] := by rw [← Array.toArray_toList (xs := cl.argTypes), hat]
  have e1 := he.eval h1 hx2
  have e3 := he.eval h2 hy2
  have hbase : ∃ base, a.eval s = .slice base 0 0 := by
    generalize a.eval s = cx at e1
    cases e1 with
    | nils0 => exact ⟨_, rfl⟩
    | nils1 ad => exact ⟨_, rfl⟩
  obtain ⟨base, hcx⟩ := hbase
  obtain ⟨w', cv, q1, q2, q3, q4⟩ := append_imm (P := P) (ty := o.type) (base := base) hr hu hi hz p1 p2 p3 e3 hc hb
  exact ⟨m, w', q2, q3, cv, by simp [execOp, hop, resolve, hcal, ha', hat', invoke, builtin, hcx, q1], q4⟩

theorem cx_strish {o : Oper} {x : Opd} (hc : compileX P N o = some (.strish x)) : ∃ s d xo el, o.op = .convert s d xo ∧ s = d ∧ P.underlying s = some (.slice el) ∧ P.underlying el = some (.int .u8) ∧ ofOpd N xo = some x := by
  cases hop : o.op <;> simp only [compileX, hop] at hc <;> try (cases hc; done)
  case convert s d xo =>
    repeat' split at hc
    all_goals first
      | (cases hc; exact ⟨_, _, _, _, rfl, ‹s = d›, ‹P.underlying s = some _›, ‹_›, ‹_›⟩)
      | (cases hc; done)
  all_goals
    (repeat' split at hc
     all_goals first
       | (cases hc; done)
       | (rw [Option.map_eq_some_iff] at hc; obtain ⟨_, _, h⟩ := hc; cases h; done)
       | contradiction)
theorem mark_block {w : World} {b : Nat} {cc : Array Value} {T : TypeId} {fz : Nat × Nat} (hb : w.heap[b]? = some (.cells cc T fz)) (n : Nat) : WMark w (w.freeze ⟨b, n, none⟩ 1) b := by
  have hlt : b < w.heap.size := (Array.getElem?_eq_some_iff.1 hb).1
  have hs : w.freeze ⟨b, n, none⟩ 1 = { w with heap := (w.freeze ⟨b, n, none⟩ 1).heap } := by
    unfold World.freeze; split <;> rfl
  have hh : (w.freeze ⟨b, n, none⟩ 1).heap.size = w.heap.size ∧ (∀ k, k ≠ b → (w.freeze ⟨b, n, none⟩ 1).heap[k]? = w.heap[k]?) ∧ ∃ fz', (w.freeze ⟨b, n, none⟩ 1).heap[b]? = some (.cells cc T fz') := by
    unfold World.freeze
    rw [if_neg (by decide)]
    refine ⟨by simp, fun k hk => ?_, ?_⟩
    · simp only [Array.getElem?_modify]
      rw [if_neg (fun e => hk e.symm)]
    · simp only [Array.getElem?_modify, hb]
      simp
  obtain ⟨h1, h2, fz', h3⟩ := hh
  refine ⟨by rw [hs], by rw [hs], by rw [hs], h1, h2, fun o => ?_⟩
  simp only [World.cell?, h3, hb]
/-- A literal's row is marked: from here it is written no more. -/
theorem XOK.strish {x : Opd} {id n : Nat} {c : List (List AV)} (hx : ev e x = some (.ref id 0 n)) (hg : h.get id = some (.mem 1 c)) (hl : c.length = n) (h0 : 0 < n) : XOK P N (.strish x) e h (some (.imm 1 c)) (.del id) := by
  intro o hc e2 hs m w act hr he
  obtain ⟨s, _, xo, el, hop, rfl, u1, u2, h1⟩ := cx_strish hc
  have hx2 : ev e2 x = some (.ref id 0 n) := (ev_congr fun s h => hs s (by simp [xslots, h])).trans hx
  have hv := he.eval h1 hx2
  obtain ⟨b, cc, T, q1, q2, q3, q4⟩ := hr.obj _ _ hg
  generalize hcx : act.eval xo = cx at hv
  cases hv with
  | ref _ _ _ cap ad hu hcap ha =>
    obtain ⟨b', hb', hle, had, cc', T', hcc, hsz⟩ := ha _ _ hg
    rw [q1] at hb'; cases hb'
    obtain rfl : ad = ⟨b, 0 * 1, none⟩ := by
      rcases had with h5 | h5
      · omega
      · exact h5
    have hshape : w.shape? b = some (T, cc.size) := by unfold World.shape?; rw [q2]
    have wm := mark_block q2 cc.size
    have st := step_mark hr hg q1 wm
    refine ⟨m, w.freeze ⟨b, cc.size, none⟩ 1, hr.mark hg q1 wm, st, .slice (some ⟨b, 0 * 1, none⟩) n cap, ?_, ?_⟩
    · simp [execOp, hop, hcx, convert, run_underlying u1, run_underlying u2, markStringish, hshape]
    · have := VR.imm (m := m) (h := h.set id none) (w := w.freeze ⟨b, cc.size, none⟩ 1) 1 c b 0 cap (fun k => cc.getD k undef) (fun k hk => ⟨?_, ?_⟩) q4.1 q4.2.1 (fun i cells hi j v hj => (q4.2.2 i cells hi j v hj).step st) (by omega)
      · rw [hl] at this; exact this
      · rw [wm.cell, Nat.zero_add, cell_of_row w b k cc T (0, 0) q2]
        simp [Array.getD_eq_getD_getElem?, show k < cc.size by omega]
      · rintro ⟨j, t, ⟨x, hx⟩, hm, _⟩
        by_cases e : j = id
        · simp [AHeap.set, e] at hx
        · simp only [AHeap.set, if_neg e] at hx
          exact e (hr.inj j id x _ b t 0 hx hg hm q1)

theorem cx_slc3 {o : Oper} {sz : Nat} {x mx : Opd} {lo hi : Option Opd} (hc : compileX P N o = some (.slc3 sz x lo hi mx)) : ∃ t xo lo' hi' mo el i, o.op = .slice t xo lo' hi' (some mo) ∧ P.underlying t = some (.slice el) ∧ P.info? el = some i ∧ ofOpd N xo = some x ∧ ofOpd N mo = some mx ∧ OOpd N lo' lo ∧ OOpd N hi' hi ∧ sz = i.size := by
  cases hop : o.op <;> simp only [compileX, hop] at hc <;> try (cases hc; done)
  case slice t xo lo' hi' mo =>
    cases mo with
    | none =>
      repeat' split at hc
      all_goals first
        | (cases hc; done)
        | contradiction
        | exact absurd ‹Op.slice _ _ _ _ none = Op.slice _ _ _ _ (some _)› (by simp)
    | some mo =>
      simp only at hc
      split at hc
      · split at hc
        · cases lo' <;> cases hi' <;> simp only at hc
          · cases hc; exact ⟨_, _, _, _, _, _, _, rfl, ‹_›, ‹_›, ‹_›, ‹_›, trivial, trivial, rfl⟩
          · rw [Option.map_eq_some_iff] at hc; obtain ⟨_, h1, h2⟩ := hc; cases h2; exact ⟨_, _, _, _, _, _, _, rfl, ‹_›, ‹_›, ‹_›, ‹_›, trivial, h1, rfl⟩
          · rw [Option.map_eq_some_iff] at hc; obtain ⟨_, h1, h2⟩ := hc; cases h2; exact ⟨_, _, _, _, _, _, _, rfl, ‹_›, ‹_›, ‹_›, ‹_›, h1, trivial, rfl⟩
          · split at hc
            · rename_i h1 h2; cases hc; exact ⟨_, _, _, _, _, _, _, rfl, ‹_›, ‹_›, ‹_›, ‹_›, h1, h2, rfl⟩
            · cases hc
        · cases hc
      · cases hc
  all_goals
    (repeat' split at hc
     all_goals first
       | (cases hc; done)
       | (rw [Option.map_eq_some_iff] at hc; obtain ⟨_, _, h⟩ := hc; cases h; done)
       | contradiction)
/-- x[:0:0], x[0:0:0]: nothing, and no room. -/
theorem XOK.slc00 {sz : Nat} {x mx y : Opd} {k k' : IntKind} {u : AV} (hx : ev e x = some u) (hu : ∃ n, rdL h.get u = some n) (hh : ev e y = some (.int k 0)) (hm : ev e mx = some (.int k' 0)) : XOK P N (.slc3 sz x none (some y) mx) e h (some .nils) .none := by
  intro o hc e2 hs m w act hr he
  obtain ⟨t, xo, lo', hi', mo, el, i, hop, hu1, hi, h1, h2, h3, h4, rfl⟩ := cx_slc3 hc
  cases lo' with
  | some _ => exact h3.elim
  | none =>
    cases hi' with
    | none => exact h4.elim
    | some ho =>
      have hx2 := (ev_congr fun s h => hs s (by simp [xslots, h])).trans hx
      have hh2 := (ev_congr fun s h => hs s (by simp [xslots, bslots, h])).trans hh
      have hm2 := (ev_congr fun s h => hs s (by simp [xslots, h])).trans hm
      obtain ⟨n, hn⟩ := hu
      obtain ⟨ad, cap, hcx⟩ := rdL_vr (he.eval h1 hx2) hn
      have b1 := vr_int (he.eval h4 hh2)
      have b2 := vr_int (he.eval h2 hm2)
      refine OpOK.pure hr (cv := .slice ad 0 0) ?_ (by cases ad with | none => exact .nils0 | some ad => exact .nils1 ad)
      have hb : (Instr.sliceBounds true n cap none (some (.int k 0)) (some (.int k' 0))).run P w = .ok (0, 0, 0) w := by
        simp [Instr.sliceBounds, Instr.sliceBound, asIntOf]
      simp [execOp, hop, Instr.sliceAt, Instr.slice, run_underlying hu1, hcx, b1, b2, hb, run_sizeOf' hi]
/-- x[:n:n] of a row that may be written. -/
theorem XOK.slcNN {sz : Nat} {x mx y : Opd} {k k' : IntKind} {id l n : Nat} {a b : Int} (hx : ev e x = some (.ref id 0 l)) (hh : ev e y = some (.int k a)) (hm : ev e mx = some (.int k' b)) (ha : a = n) (hb : b = n) (hn : n ≤ l) (hg : ∃ c, h.get id = some (.mem sz c)) : XOK P N (.slc3 sz x none (some y) mx) e h (some (.ref id 0 n)) .none := by
  subst ha hb
  intro o hc e2 hs m w act hr he
  obtain ⟨t, xo, lo', hi', mo, el, i, hop, hu1, hi, h1, h2, h3, h4, rfl⟩ := cx_slc3 hc
  cases lo' with
  | some _ => exact h3.elim
  | none =>
    cases hi' with
    | none => exact h4.elim
    | some ho =>
      have hx2 := (ev_congr fun s h => hs s (by simp [xslots, h])).trans hx
      have hh2 := (ev_congr fun s h => hs s (by simp [xslots, bslots, h])).trans hh
      have hm2 := (ev_congr fun s h => hs s (by simp [xslots, h])).trans hm
      have hv := he.eval h1 hx2
      have b1 := vr_int (he.eval h4 hh2)
      have b2 := vr_int (he.eval h2 hm2)
      generalize hcx : act.eval xo = cx at hv
      cases hv with
      | ref _ _ _ cap ad hu hcap ha =>
        obtain ⟨c, hg⟩ := hg
        obtain ⟨b', hb', hle, had, cc', T', hcc, hsz⟩ := ha _ _ hg
        have hb : (Instr.sliceBounds true l cap none (some (.int k (n : Int))) (some (.int k' (n : Int)))).run P w = .ok (0, n, n) w := by
          have q1 : (n : Int) ≤ (cap : Int) := by omega
          have q2 : n ≤ cap := by omega
          simp [Instr.sliceBounds, Instr.sliceBound, asIntOf, q2]
        have hvv : VR m h w (.ref id 0 n) (.slice (some ad) n n) := .ref id 0 n n ad hu (Nat.le_refl _) fun sz' c' hg' => by
          obtain ⟨b2, hb2, hle2, had2, cc2, T2, hcc2, hsz2⟩ := ha _ _ hg'
          refine ⟨b2, hb2, by omega, ?_, cc2, T2, hcc2, ?_⟩
          · rcases had2 with h5 | h5
            · left; omega
            · right; exact h5
          · have : (0 + n) * sz' ≤ (0 + cap) * sz' := Nat.mul_le_mul_right _ (by omega)
            omega
        refine OpOK.pure hr (cv := .slice (some ad) n n) ?_ hvv
        have hadd : ad.add (0 * i.size) = ad := by simp [Addr.add]
        have hrun : (Instr.slice t (.slice (some ad) l cap) none (some (.int k (n : Int))) (some (.int k' (n : Int)))).run P w = .ok (.slice (some ad) n n) w := by
          simp only [Instr.slice, Sem.run_bind, run_underlying hu1, Result.andThen_ok, hb, run_sizeOf' hi, Sem.run_pure, Option.map_some, hadd, Nat.sub_zero, ite_self]
        have hrun2 : (Instr.sliceAt t (.slice (some ad) l cap) none (some (.int k (n : Int))) (some (.int k' (n : Int)))).run P w = .ok (.slice (some ad) n n) w := by
          simp only [Instr.sliceAt, Sem.run_bind, run_underlying hu1, Result.andThen_ok, hrun]
        simp only [execOp, hop, hcx, b1, b2, Option.map_some, Option.map_none, Sem.run_bind, hrun2, Result.andThen_ok, Sem.run_pure]

end
end Go.Abs

namespace Go.Abs
open Go

theorem Clo.mono {u u' : Nat → Prop} (hu : ∀ id, u id → u' id) {v : AV} (hc : Clo u v) : Clo u' v := by
  induction hc with
  | bool b => exact .bool b
  | int k n => exact .int k n
  | str s => exact .str s
  | nilp => exact .nilp
  | ptr id i off h => exact .ptr _ _ _ (hu _ h)
  | iptr sz c i off _ ih => exact .iptr _ _ _ _ ih
  | nils => exact .nils
  | imm sz c _ ih => exact .imm _ _ ih
  | app id g sz c h _ ih => exact .app _ _ _ _ (hu _ h) ih
  | ref id off len h => exact .ref _ _ _ (hu _ h)
  | nilm => exact .nilm
  | map id h => exact .map _ (hu _ h)
  | nilf => exact .nilf
  | func fn vs us _ _ ih1 ih2 => exact .func _ _ _ ih1 ih2
  | nili => exact .nili
  | iface t v _ ih => exact .iface _ _ ih
  | agg vs _ ih => exact .agg _ ih
  | tup vs _ ih => exact .tup _ ih
def CloObj (u : Nat → Prop) : AObj → Prop
  | .mem _ c => ∀ x ∈ c, ∀ v ∈ x, Clo u v
  | .tail _ _ => True
  | .map es => ∀ kv ∈ es, Clo u kv.1 ∧ Clo u kv.2
  | .loop _ _ _ es _ _ _ _ _ => ∀ sv ∈ es, Clo u sv.2
  | .dfr _ _ => True
theorem CloObj.mono {u u' : Nat → Prop} (hu : ∀ id, u id → u' id) {x : AObj} (hc : CloObj u x) : CloObj u' x := by
  cases x with
  | mem sz c => exact fun x hx v hv => (hc x hx v hv).mono hu
  | tail g n => trivial
  | map es => exact fun kv h => ⟨(hc kv h).1.mono hu, (hc kv h).2.mono hu⟩
  | loop => exact fun sv h => (hc sv h).mono hu
  | dfr => trivial

/-- Names that may be spoken of behind the call. -/
def Nm (h h' : AHeap) (id : Nat) : Prop := h'.used id ∨ ∃ x, h.get id = some x
/-- h' is what the call makes of h. -/
structure Ext (h h' : AHeap) : Prop where
  next : h.next ≤ h'.next
  gap : ∀ id, h'.gap id = true → h.gap id = true
  obj : ∀ id x, h'.get id = some x → h.get id = some x ∨ (Nm h h' id ∧ CloObj (Nm h h') x)
section
variable {P : Program} {N f : Nat} {cc : CC} {rcs : List RC} {vs : List AV} {h h' h1 : AHeap} {e e' : Env} {Q : Exit → Env → AHeap → Prop} {l : List CI}

theorem Ext.refl : Ext h h := ⟨Nat.le_refl _, fun _ h => h, fun _ _ h => .inl h⟩
theorem Ext.used (hx : Ext h h') {id : Nat} (hu : h.used id) : h'.used id := by
  refine ⟨Nat.lt_of_lt_of_le hu.1 hx.next, ?_⟩
  cases hg : h'.gap id with
  | false => rfl
  | true => have := hx.gap id hg; rw [hu.2] at this; cases this
theorem Ext.set (hx : Ext h h') {id : Nat} {x : AObj} (hn : Nm h h' id) (hc : CloObj (Nm h h') x) : Ext h (h'.set id (some x)) := by
  refine ⟨hx.next, hx.gap, fun j y hg => ?_⟩
  simp only [AHeap.set] at hg
  split at hg
  · rename_i e; subst e; cases hg; exact .inr ⟨hn, hc⟩
  · exact hx.obj j y hg
theorem Ext.del (hx : Ext h h') {id : Nat} : Ext h (h'.set id none) := by
  refine ⟨hx.next, hx.gap, fun j y hg => ?_⟩
  simp only [AHeap.set] at hg
  split at hg
  · cases hg
  · exact hx.obj j y hg
theorem Nm.put {nm id : Nat} {x : AObj} (hn : Nm h h' id) : Nm h (h'.put nm x) id := by
  rcases hn with hn | hn
  · exact .inl (put_used hn)
  · exact .inr hn
theorem Ext.put (hx : Ext h h') {nm : Nat} {x : AObj} (hc : CloObj (Nm h (h'.put nm x)) x) : Ext h (h'.put nm x) := by
  refine ⟨?_, fun id hg => ?_, fun j y hg => ?_⟩
  · have := hx.next; simp only [AHeap.put]; split <;> omega
  · simp only [AHeap.put] at hg
    split at hg
    · cases hg
    · exact hx.gap id hg
  · simp only [AHeap.put] at hg
    split at hg
    · rename_i e; subst e; cases hg; exact .inr ⟨.inl put_used_nm, hc⟩
    · rcases hx.obj j y hg with h5 | ⟨h5, h6⟩
      · exact .inl h5
      · exact .inr ⟨h5.put, h6.mono fun _ h => h.put⟩
theorem Nm.old {id : Nat} {x : AObj} (hg : h.get id = some x) : Nm h h' id := .inr ⟨x, hg⟩

/-- What a call that writes leaves: all else that it made is dropped. -/
structure EffQ (h' : AHeap) (rcs : List RC) (r : AV) (ex : Exit) (e : Env) (h1 : AHeap) : Prop where
  ex : ex = .ret ∨ ex = .normal
  keeps : Keeps h' h1
  res : ∃ rs, resA h1.get e rcs = some rs ∧ Fz h' h1 (fin rs) r
theorem EffQ.fin {x : Exit} {rs : List AV} {r : AV} (hex : x = .ret ∨ x = .normal) (hk : Keeps h' h1) (hr : resA h1.get e rcs = some rs) (hf : Fz h' h1 (Go.Abs.fin rs) r) : EffQ h' rcs r x e h1 := ⟨hex, hk, rs, hr, hf⟩
theorem heap_ext {a b : AHeap} (h1 : ∀ id, a.get id = b.get id) (h2 : a.next = b.next) (h3 : ∀ id, a.gap id = b.gap id) : a = b := by
  cases a; cases b
  simp only [AHeap.mk.injEq] at *
  exact ⟨funext h1, h2, funext h3⟩
theorem set_set {id : Nat} {x y : Option AObj} : (h.set id x).set id y = h.set id y := by
  refine heap_ext (fun j => ?_) rfl fun _ => rfl
  simp only [AHeap.set]; split <;> rfl
end
end Go.Abs

namespace Go.Abs
open Go

theorem next_le_put {h : AHeap} {n nm : Nat} {x : AObj} (hn : n ≤ h.next) : n ≤ (h.put nm x).next := by simp only [AHeap.put]; split <;> omega
/-- The program's drawn orders are of every kind. -/
class MO (P : Program) : Prop where
  mo : P.follows .mixedOrders = true
/-- A test's truth, in both ways. -/
inductive BP : Bool → Prop → Prop → Prop
  | lt (a b : Int) : BP (decide (a < b)) (a < b) (b ≤ a)
  | le (a b : Int) : BP (decide (a ≤ b)) (a ≤ b) (b < a)
  | gt (a b : Int) : BP (decide (a > b)) (b < a) (a ≤ b)
  | ge (a b : Int) : BP (decide (a ≥ b)) (b ≤ a) (a < b)
  | eq (a b : Int) : BP (a == b) (a = b) (a ≠ b)
  | ne (a b : Int) : BP (a != b) (a ≠ b) (a = b)
  | dec (p : Prop) [Decidable p] : BP (decide p) p (¬ p)
  | eqL (a b : List UInt8) : BP (a == b) (a = b) (a ≠ b)
  | neL (a b : List UInt8) : BP (a != b) (a ≠ b) (a = b)
  | not (t : Bool) (p q : Prop) (h : BP t p q) : BP (!t) q p
  | var (t : Bool) : BP t (t = true) (t = false)
/-- Instructions that turn the heap. -/
def wsI : Ins → Bool
  | .alloc _ | .box _ _ | .store _ _ _ | .mksl _ _ _ _ _ | .app _ _ _ _ | .cpy _ _ _ => true
  | .raw x => match x with
    | .look _ _ _ _ _ | .mlen _ | .caps _ | .slc3 _ _ _ _ _ | .mkif _ _ | .s2b _ | .asrt _ _ _ _ => false
    | _ => true
  | _ => false
def wsL (l : List CI) (xs : List Nat) : List Nat := (List.range l.length).filter fun i => wsI (l.getD i default).i || xs.contains i
/-- All but W's objects are as they were. -/
def PhiW (n : Nat) (W : List Nat) (h0 h2 : AHeap) : Prop := ∀ id, id < n → id ∉ W → h2.get id = h0.get id

section
variable {P : Program} {N : Nat} {e e' : Env} {h h' : AHeap} {Q : Exit → Env → AHeap → Prop} {l : List CI} {Φ : AHeap → Prop} {ws fs : List Nat} {K : Env → AHeap → Prop} {j : Nat}

theorem PhiW.refl {n : Nat} {W : List Nat} : PhiW n W h h := fun _ _ _ => rfl
theorem PhiW.put {n nm : Nat} {W : List Nat} {h0 : AHeap} {x : AObj} (hn : n ≤ nm) (hp : PhiW n W h0 h) : PhiW n W h0 (h.put nm x) := fun id h1 h2 => by
  rw [get_put_ne (by omega)]; exact hp id h1 h2
theorem PhiW.setW {n i : Nat} {W : List Nat} {h0 : AHeap} {x : Option AObj} (hi : i ∈ W) (hp : PhiW n W h0 h) : PhiW n W h0 (h.set i x) := fun id h1 h2 => by
  have hne : id ≠ i := fun e => h2 (by rw [e]; exact hi)
  rw [get_set_ne hne]; exact hp id h1 h2
theorem PhiW.setN {n i : Nat} {W : List Nat} {h0 : AHeap} {x : Option AObj} (hi : n ≤ i) (hp : PhiW n W h0 h) : PhiW n W h0 (h.set i x) := fun id h1 h2 => by
  rw [get_set_ne (by omega)]; exact hp id h1 h2

/-- The walk's goals, under names that nothing looks through: a code, a region's list. -/
structure WW (P : Program) (N : Nat) (c : CC) (Q : Exit → Env → AHeap → Prop) (e : Env) (h : AHeap) : Prop where
  out : AW P N c Q e h
structure WL (P : Program) (N : Nat) (l : List CI) (Q : Exit → Env → AHeap → Prop) (e : Env) (h : AHeap) : Prop where
  out : AL P N l Q e h
theorem WW.mono {c : CC} {Q' : Exit → Env → AHeap → Prop} (hw : WW P N c Q e h) (hq : ∀ ex e h, Q ex e h → Q' ex e h) : WW P N c Q' e h := ⟨hw.out.mono hq⟩
theorem WW.seq {x y : CC} (hw : WW P N x (thenQ (fun e h => WW P N y Q e h) Q) e h) : WW P N (.seq x y) Q e h :=
  ⟨AW.seq (hw.out.mono fun ex e h hq => by cases ex <;> first | exact hq.out | exact hq)⟩
theorem WW.skip (hq : Q .normal e h) : WW P N .skip Q e h := ⟨AW.skip hq⟩
theorem WW.exit {id : Nat} (hq : Q (.exit id) e h) : WW P N (.exit id) Q e h := ⟨AW.exit hq⟩
theorem WW.ret (hq : Q .ret e h) : WW P N .ret Q e h := ⟨AW.ret hq⟩
theorem WW.block {id : Nat} {x : CC} (hw : WW P N x (blockQ id Q) e h) : WW P N (.block id x) Q e h := ⟨AW.block hw.out⟩
theorem WW.reg {l : List CI} (hw : WL P N l Q e h) : WW P N (.reg l) Q e h := ⟨AW.reg hw.out⟩
theorem WW.condT {c : Opd} {x y : CC} (hc : ev e c = some (.bool true)) (hw : WW P N x Q e h) : WW P N (.cond c x y) Q e h := ⟨AW.condT hc hw.out⟩
theorem WW.condF {c : Opd} {x y : CC} (hc : ev e c = some (.bool false)) (hw : WW P N y Q e h) : WW P N (.cond c x y) Q e h := ⟨AW.condF hc hw.out⟩
theorem WW.heap {c : CC} (s : HSub h' h) (hw : WW P N c Q e h') : WW P N c Q e h := ⟨AW.heap s hw.out⟩
theorem WW.env {c : CC} (hs : subE e' e) (hw : WW P N c Q e' h) : WW P N c Q e h := ⟨AW.env hs hw.out⟩
theorem WW.wf {c : CC} (hw : (∀ id x, h.get id = some x → id < h.next) → WW P N c Q e h) : WW P N c Q e h := ⟨fun code hcc m w a hr he =>
  (hw (fun id x hg => (hr.live id x hg).1)).out code hcc m w a hr he⟩
theorem WL.nil (hq : Q .normal e h) : WL P N [] Q e h := ⟨AL.nil hq⟩
theorem WL.auto {c : CI} (hs : Stp c e h e' h') (k : WL P N l Q e' h') : WL P N (c :: l) Q e h := ⟨AL.auto hs k.out⟩
theorem WL.fx {c : CI} {r : Option AV} (hx : FX P N c e h r h') (k : WL P N l Q (putR c.d r e) h') : WL P N (c :: l) Q e h := ⟨AL.fx hx k.out⟩
theorem WL.call {dd : Nat} {f : Nat} {xs : List Opd} {g : Option (Nat × Bool)} {vs us : List AV} {r : AV} (hv : evL e xs = some us) (hg : met e g) (hs : SubL us vs) (hac : AE P f vs h r h') (k : WL P N l Q ((dd, some r) :: e) h') : WL P N (⟨some dd, .call f xs, g⟩ :: l) Q e h :=
  ⟨AL.callM hv hg ((hac.sub hs).use k.out)⟩
theorem AC.wf {f : Nat} {vs : List AV} {R : AV → AHeap → Prop} (hw : (∀ id x, h.get id = some x → id < h.next) → AC P f vs h R) : AC P f vs h R := fun m w cargs hr =>
  hw (fun id x hg => (hr.live id x hg).1) m w cargs hr
theorem AE.wf {f : Nat} {vs : List AV} {r : AV} (hw : (∀ id x, h.get id = some x → id < h.next) → AE P f vs h r h') : AE P f vs h r h' := AC.wf hw
/-- A drawn region in which each operation that turns the heap is ordered against all that look at it (xs: calls that turn it). -/
theorem WW.dreg0 [MO P] {es : List (List Nat)} (xs : List Nat) (hc : chkD l es (wsL l xs) [] = true) (hd : DW P N (fun _ => True) (wsL l xs) [] (fun e h => Q .normal e h) 0 l e h) : WW P N (.dreg l es) Q e h := ⟨AW.dreg MO.mo hc trivial hd⟩
theorem DW.fxR {c : CI} {r : Option AV} (hx : FX P N c e h r h) (h0 : free0 c.i = false) (hf : fs.contains j = false) (k : DW P N Φ ws fs K (j + 1) l (putR c.d r e) h) : DW P N Φ ws fs K j (c :: l) e h :=
  .fx hx (fun hz => by rw [h0] at hz; cases hz) (fun _ => rfl) id (fun hz => by rw [hf] at hz; cases hz) k
/-- The next instruction of a region in text order. -/
theorem WL.go {c : CI} (k : WL P N l Q e' h') (hs : Stp c e h e' h' := by exact Stp.auto) : WL P N (c :: l) Q e h := ⟨AL.step hs.ok k.out⟩

/-- An append to nothing, in a drawn region. -/
theorem DW.goI {d : Option Nat} {sz bytes : Nat} {x y : Opd} {g : Option (Nat × Bool)} {v : AV} {c : List (List AV)} (k : DW P N Φ ws fs K (j + 1) l (putR d (some (.imm sz c)) e) h) (hx : ev e x = some .nils := by exact rfl) (hy : ev e y = some v := by exact rfl) (hc : rdS h.get sz v = some c := by exact rfl) (hb : c.length * bytes ≤ 140737488355328 := by first | omega | (simp; done) | (simp; omega)) (hg : met e g := by first | exact True.intro | exact rfl) (hf : fs.contains j = false := by exact rfl) :
    DW P N Φ ws fs K j (⟨d, .app sz bytes x y, g⟩ :: l) e h := DW.fxR (FX.appI hx hy hc hb hg) rfl hf k
theorem DW.goWP {c : CI} {n : Nat} {W : List Nat} {h0 : AHeap} (k : DW P N (PhiW n W h0) ws fs K (j + 1) l e' h') (hs : Stp c e h e' h' := by exact Stp.auto) (hf : fs.contains j = false := by exact rfl) (hw : ws.contains j = true := by exact rfl) (hp : PhiW n W h0 h → PhiW n W h0 h' := by first | exact PhiW.put (by omega) | exact PhiW.setW (by simp) | exact PhiW.setN (by omega)) : DW P N (PhiW n W h0) ws fs K j (c :: l) e h := DW.oneW hw hp hs hf k
/-- Loads wherever they are drawn. -/
theorem DW.goF {c : CI} {n : Nat} {W : List Nat} {h0 : AHeap} (k : DW P N (PhiW n W h0) ws fs K (j + 1) l e' h) (hs : ∀ h2, PhiW n W h0 h2 → Stp c e h2 e' h2 := by
    intro h2 hp2
    first
      | (apply Stp.load1; exact rfl; exact (hp2 _ (by omega) (by first | (simp; done) | (simp; omega))).trans gH; exact (by first | exact getC_at rfl rfl | exact getC_all rfl | exact getC_sub (Nat.le_of_ble_eq_true rfl) (by first | (simp only [putC, AV.cs, encP, encN, encI, encS, encA, List.take_succ_cons, List.take_zero, List.take_nil, List.drop_succ_cons, List.drop_zero, List.drop_nil, List.cons_append, List.nil_append, List.append_nil, List.length_cons, List.length_nil, Nat.zero_add, Nat.add_zero, Nat.reduceAdd]; exact rfl) | exact rfl) | exact getC_sub (by simp) (by first | (simp only [putC, AV.cs, encP, encN, encI, encS, encA, List.take_succ_cons, List.take_zero, List.take_nil, List.drop_succ_cons, List.drop_zero, List.drop_nil, List.cons_append, List.nil_append, List.append_nil, List.length_cons, List.length_nil, Nat.zero_add, Nat.add_zero, Nat.reduceAdd]; exact rfl) | exact rfl)); exact (by first | exact True.intro | exact rfl))
      | (apply Stp.loadp; exact rfl; exact (hp2 _ (by omega) (by first | (simp; done) | (simp; omega))).trans gH; exact (by first | exact map_at (List.getElem?_eq_getElem (by omega)) | exact map_at (List.getElem?_range (by omega)) | exact List.getElem?_eq_getElem (by omega) | exact rfl); exact (by first | exact getC_at rfl rfl | exact getC_all rfl | exact getC_sub (Nat.le_of_ble_eq_true rfl) (by first | (simp only [putC, AV.cs, encP, encN, encI, encS, encA, List.take_succ_cons, List.take_zero, List.take_nil, List.drop_succ_cons, List.drop_zero, List.drop_nil, List.cons_append, List.nil_append, List.append_nil, List.length_cons, List.length_nil, Nat.zero_add, Nat.add_zero, Nat.reduceAdd]; exact rfl) | exact rfl) | exact getC_sub (by simp) (by first | (simp only [putC, AV.cs, encP, encN, encI, encS, encA, List.take_succ_cons, List.take_zero, List.take_nil, List.drop_succ_cons, List.drop_zero, List.drop_nil, List.cons_append, List.nil_append, List.append_nil, List.length_cons, List.length_nil, Nat.zero_add, Nat.add_zero, Nat.reduceAdd]; exact rfl) | exact rfl)); exact (by first | exact True.intro | exact rfl))
      | exact Stp.auto) (hp : PhiW n W h0 h := by repeat first | exact PhiW.refl | refine PhiW.put (by omega) ?_ | refine PhiW.setW (by simp) ?_ | refine PhiW.setN (by omega) ?_) : DW P N (PhiW n W h0) ws fs K j (c :: l) e h := DW.oneF hp hs k
theorem FX.rawN {d : Option Nat} {x : Ex} {g : Option (Nat × Bool)} {r : Option AV} (hx : XOK P N x e h r .none) (hg : met e g) : FX P N ⟨d, .raw x, g⟩ e h r h := FX.raw hx hg
theorem FX.mkmap {d : Option Nat} {g : Option (Nat × Bool)} {nx : Nat} (hn : h.next = nx) (hg : met e g) : FX P N ⟨d, .raw .mkmap, g⟩ e h (some (.map nx)) (h.put nx (.map [])) := by subst hn; exact FX.raw XOK.mkmap hg
theorem FX.appz {d : Option Nat} {g : Option (Nat × Bool)} {sz bytes n nx : Nat} {zs : List AV} {x y : Opd} {k : IntKind} {a : Int} (hx : ev e x = some .nils) (hy : ev e y = some (.int k a)) (ha : a = n) (h0 : 0 < n) (hb : n * bytes ≤ 140737488355328) (hn : h.next = nx) (hg : met e g) :
    FX P N ⟨d, .raw (.appz sz bytes zs x y), g⟩ e h (some (.ref nx 0 n)) (h.put nx (.mem sz (List.replicate n zs))) := by subst hn; exact FX.raw (XOK.appz hx hy ha h0 hb) hg
theorem FX.strish {d : Option Nat} {g : Option (Nat × Bool)} {x : Opd} {id n : Nat} {c : List (List AV)} (hx : ev e x = some (.ref id 0 n)) (hm : h.get id = some (.mem 1 c)) (hl : c.length = n) (h0 : 0 < n) (hg : met e g) : FX P N ⟨d, .raw (.strish x), g⟩ e h (some (.imm 1 c)) (h.set id none) := FX.raw (XOK.strish hx hm hl h0) hg
theorem FX.mput {d : Option Nat} {g : Option (Nat × Bool)} {mk : MK} {x y z : Opd} {id : Nat} {a v : AV} {es : List (AV × AV)} {r : Option (Nat × AV)} (hx : ev e x = some (.map id)) (hy : ev e y = some a) (hz : ev e z = some v) (hm : h.get id = some (.map es)) (hk : keyOK mk a) (hf : findA a es 0 = some r) (hg : met e g) :
    FX P N ⟨d, .raw (.mput mk x y z), g⟩ e h none (h.set id (some (.map (putM es a v r)))) := FX.raw (XOK.mput hx hy hz hm hk hf) hg
theorem FX.look {d : Option Nat} {g : Option (Nat × Bool)} {mk : MK} {z : AV} {ok : Bool} {x y : Opd} {id : Nat} {a v : AV} {es : List (AV × AV)} {r : Option (Nat × AV)} (hx : ev e x = some (.map id)) (hy : ev e y = some a) (hm : h.get id = some (.map es)) (hk : keyOK mk a) (hf : findA a es 0 = some r) (hv : lookR z ok r = v) (hg : met e g) :
    FX P N ⟨d, .raw (.look mk z ok x y), g⟩ e h (some v) h := by subst hv; exact FX.raw (XOK.look hx hy hm hk hf) hg
theorem FX.bslN {d : Option Nat} {sz n nx : Nat} {xs : List Opd} {g : Option (Nat × Bool)} {vs : List AV} {c : List (List AV)} (hv : evL e xs = some vs) (hc : cellsL sz vs = some c) (hl : c.length = n) (hn : h.next = nx) (hg : met e g) : FX P N ⟨d, .bsl sz xs, g⟩ e h (some (.ref nx 0 n)) (h.put nx (.mem sz c)) := by subst hn; exact FX.bslM hv hc hl hg
theorem WL.fx1 {d : Nat} {i : Ins} {g : Option (Nat × Bool)} {v : AV} (hx : FX P N ⟨some d, i, g⟩ e h (some v) h') (k : WL P N l Q ((d, some v) :: e) h') : WL P N (⟨some d, i, g⟩ :: l) Q e h := WL.fx hx k
/-- An operation beyond the plain ones, if it needs no thought. -/
theorem WL.gox {d : Nat} {i : Ins} {g : Option (Nat × Bool)} {v : AV} (k : WL P N l Q ((d, some v) :: e) h') (hx : FX P N ⟨some d, i, g⟩ e h (some v) h' := by
    first
      | (apply FX.mkmap; exact gN; exact (by first | exact True.intro | exact rfl))
      | (apply FX.rawN; apply XOK.mlen; exact rfl; exact gH; exact (by first | exact True.intro | exact rfl))
      | (apply FX.rawN; apply XOK.caps0; exact rfl; exact (by first | exact True.intro | exact rfl))
      | (apply FX.rawN; apply XOK.slc00; exact rfl; exact ⟨_, rfl⟩; exact rfl; exact rfl; exact (by first | exact True.intro | exact rfl))
      | (apply FX.rawN; apply XOK.slcNN; exact rfl; exact rfl; exact rfl; exact (by first | with_reducible exact ix2 _ | with_reducible exact ix21 _ | rfl | exact (Int.toNat_of_nonneg (by omega)).symm); exact (by first | with_reducible exact ix2 _ | with_reducible exact ix21 _ | rfl | exact (Int.toNat_of_nonneg (by omega)).symm); exact (by first | omega | (simp; done) | (simp; omega)); exact ⟨_, gH⟩; exact (by first | exact True.intro | exact rfl))
      | (apply FX.appz; exact rfl; exact rfl; exact (by first | with_reducible exact ix2 _ | with_reducible exact ix21 _ | rfl | exact (Int.toNat_of_nonneg (by omega)).symm); exact (by first | omega | (simp; done) | (simp; omega)); exact (by first | omega | (simp; done) | (simp; omega)); exact gN; exact (by first | exact True.intro | exact rfl))) : WL P N (⟨some d, i, g⟩ :: l) Q e h := WL.fx1 hx k

/-- The same in a drawn region. -/
theorem DW.gox {d : Nat} {i : Ins} {g : Option (Nat × Bool)} {v : AV} (k : DW P N Φ ws fs K (j + 1) l ((d, some v) :: e) h) (hx : FX P N ⟨some d, i, g⟩ e h (some v) h := by
    first
      | (apply FX.rawN; apply XOK.mlen; exact rfl; exact gH; exact (by first | exact True.intro | exact rfl))
      | (apply FX.rawN; apply XOK.caps0; exact rfl; exact (by first | exact True.intro | exact rfl))) (h0 : free0 i = false := by exact rfl) (hf : fs.contains j = false := by exact rfl) : DW P N Φ ws fs K j (⟨some d, i, g⟩ :: l) e h := DW.fxR hx h0 hf k
structure WS (P : Program) (N : Nat) (S : List Nat) (l : List CI) (Q : Exit → Env → AHeap → Prop) (e : Env) (h : AHeap) : Prop where
  out : ∀ (ops : Array Oper) (idx : List Nat), (∀ i ∈ idx, i < ops.size) → idx.map (fun i => compI P N ops (ops.getD i default)) = l → ∀ m w a, HR m h w → ER N m h w e a → (∀ s ∈ S, a.tmps.getD s undef = undef) → wpOps P ops (PA N Q m h w) idx a w
section
variable {S : List Nat} {m : Inj} {w : World}
theorem WS.off (k : WL P N l Q e h) : WS P N S l Q e h := ⟨fun ops idx hlt hl m w a hr he _ => k.out ops idx hlt hl m w a hr he⟩
theorem put_undef {a : Go.Act} {d s : Nat} (hs : s = d ∨ a.tmps.getD s undef = undef) : (a.put (some d) undef).tmps.getD s undef = undef := by
  simp only [Act.put, Array.getD_eq_getD_getElem?] at hs ⊢
  rw [Array.getElem?_setIfInBounds]
  split
  · split
    · rfl
    · rfl
  · rename_i hne
    rcases hs with rfl | hs
    · exact absurd rfl hne
    · exact hs
theorem WS.skip {d s : Nat} {i : Ins} {b : Bool} (hsk : S.contains s = true ∨ ∃ t, lk s e = some (.bool t) ∧ (!b) = t) (k : WS P N (d :: S) l Q ((d, none) :: e) h) : WS P N S (⟨some d, i, some (s, b)⟩ :: l) Q e h := ⟨fun ops idx hlt hl m w a hr he hS => by
  cases idx with
  | nil => simp at hl
  | cons j idx =>
    simp only [List.map_cons, List.cons.injEq] at hl
    obtain ⟨hc, hl⟩ := hl
    have hilt := hlt j (by simp)
    have ho : ops[j]? = some ops[j] := Array.getElem?_eq_getElem hilt
    have hget : ops.getD j default = ops[j] := by simp [hilt]
    rw [hget] at hc
    have hlt' : ∀ j ∈ idx, j < ops.size := fun j hj => hlt j (by simp [hj])
    rcases compI_ok hc with ⟨hb1, hb2⟩ | ⟨hd, hdst, hcomp, hg⟩
    · cases hb2
    · have hw : Region.wanted ops[j] (yielded ops a.tmps) = false := by
        rcases hsk with hsk | ⟨t, h1, h2⟩
        · cases hgo : ops[j].guard with
          | none => simp only [hgo] at hg; cases hg
          | some jb =>
            obtain ⟨j0, b0⟩ := jb
            simp only [hgo] at hg
            obtain ⟨s0, hs0, hg0⟩ := hg
            cases hg0
            have hu := hS s (by simpa using hsk)
            have hy : yielded ops a.tmps j0 = none := by
              unfold yielded
              rw [hs0]
              simp only [Option.bind_some]
              cases hx : a.tmps[s]? with
              | none => rfl
              | some x => simp [hx] at hu; subst hu; rfl
            simp only [Region.wanted, hgo, hy]
            cases b <;> rfl
        · obtain ⟨w1, w2⟩ := wanted_of he hg
          rw [w2 s b t rfl h1]; subst h2; cases b <;> rfl
      have hd' : (some d : Option Nat) = ops[j].dst := hd
      simp only [wpOps, ho]
      rw [hw]
      simp only [Bool.false_eq_true, if_false]
      rw [← hd']
      refine k.out ops idx hlt' hl m w _ hr (he.skip d undef) fun s' hs' => ?_
      refine put_undef ?_
      rcases List.mem_cons.1 hs' with rfl | hs'
      · exact .inl rfl
      · exact .inr (hS s' hs')⟩
theorem WS.dead {d s : Nat} {i : Ins} {b : Bool} (hs : S.contains s = true) (k : WS P N (d :: S) l Q ((d, none) :: e) h) : WS P N S (⟨some d, i, some (s, b)⟩ :: l) Q e h := .skip (.inl hs) k
theorem WS.unmet {d s : Nat} {i : Ins} {b t : Bool} (h1 : lk s e = some (.bool t)) (h2 : (!b) = t) (k : WS P N (d :: S) l Q ((d, none) :: e) h) : WS P N S (⟨some d, i, some (s, b)⟩ :: l) Q e h := .skip (.inr ⟨t, h1, h2⟩) k
theorem WL.unS {d s : Nat} {i : Ins} {b t : Bool} (h1 : lk s e = some (.bool t)) (h2 : (!b) = t) (k : WS P N [d] l Q ((d, none) :: e) h) : WL P N (⟨some d, i, some (s, b)⟩ :: l) Q e h :=
  ⟨fun ops idx hlt hl m w a hr he => (WS.unmet (S := []) h1 h2 k).out ops idx hlt hl m w a hr he (by simp)⟩
end
theorem blkN {id : Nat} (hq : Q .normal e h) : blockQ id Q .normal e h := hq
/-- A goal that is left, in a wrapping that no search looks into. -/
structure BoxP (B : Prop) : Prop where
  out : B
/-- The walk as far as it needs no thought. -/
theorem go {A B : Prop} (k : B) (hs : BoxP B → A := by
    intro k
    repeat first | refine WL.unS rfl rfl ?_ | refine WS.dead rfl ?_ | refine WS.unmet rfl rfl ?_ | refine WS.off ?_ | refine WL.go ?_ | refine WW.seq ?_ | refine WW.reg ?_ | refine WL.nil ?_ | refine DW.go ?_ | refine DW.endL ?_ | refine WW.skip ?_ | refine WW.block ?_ | refine WW.exit ?_ | refine WW.condT rfl ?_ | refine WW.condF rfl ?_ | refine WL.gox ?_ | refine DW.gox ?_ | refine DW.goW ?_ (fun _ => True.intro) | refine DW.goWP ?_ | refine DW.goI ?_ | refine DW.goF ?_ | refine WW.dreg0 [] (by decide +kernel) ?_ | refine thenN ?_ | refine blkN ?_
    exact BoxP.out k) : A := hs ⟨k⟩
end
end Go.Abs

namespace Go.Abs
open Go

def kill : List CI → Env → Env
  | [], e => e
  | c :: l, e => kill l (putR c.d none e)

section
variable {P : Program} {N : Nat} {e e' : Env} {h h' : AHeap} {Q : Exit → Env → AHeap → Prop} {l l1 rest : List CI} {K : Env → Prop}

/-- A list whose operations leave the heap as it is. -/
inductive GW (P : Program) (N : Nat) (K : Env → Prop) : List CI → Env → AHeap → Prop
  | nil {e : Env} {h : AHeap} (hk : K e) : GW P N K [] e h
  | fx {c : CI} {l : List CI} {e : Env} {h : AHeap} {r : Option AV} (hx : FX P N c e h r h) (k : GW P N K l (putR c.d r e) h) : GW P N K (c :: l) e h
theorem GW.call {d : Option Nat} {f : Nat} {xs : List Opd} {g : Option (Nat × Bool)} {vs us : List AV} {r : AV} (hv : evL e xs = some us) (hg : met e g) (hs : SubL us vs) (hac : AE P f vs h r h) (k : GW P N K l (putR d (some r) e) h) : GW P N K (⟨d, .call f xs, g⟩ :: l) e h :=
  .fx (FX.call hg hv (hac.sub hs)) k

theorem lk_kill {s : Nat} {v : AV} : ∀ (l : List CI) {e : Env}, l.all (fun c => c.d != some s) = true → lk s e = some v → lk s (kill l e) = some v
  | [], e, _, hv => hv
  | c :: l, e, ha, hv => by
    simp only [List.all_cons, Bool.and_eq_true] at ha
    refine lk_kill l ha.2 ?_
    cases hd : c.d with
    | none => exact hv
    | some d =>
      have : d ≠ s := by have := ha.1; rw [hd] at this; simpa using this
      simp only [putR, lk_cons]
      rw [if_neg fun e => this e.symm]; exact hv
theorem AL.unmet {s : Nat} {b t : Bool} (hne : t ≠ b) : ∀ (l1 : List CI) {e : Env}, (∀ c ∈ l1, c.g = some (s, b)) → l1.all (fun c => c.d != some s) = true → lk s e = some (.bool t) → AL P N rest Q (kill l1 e) h → AL P N (l1 ++ rest) Q e h
  | [], e, _, _, _, k => k
  | c :: l, e, hg, ha, hs, k => by
    have ha' := ha
    simp only [List.all_cons, Bool.and_eq_true] at ha'
    refine AL.fx (FX.skip (hg c (by simp)) hs hne) (AL.unmet hne l (fun c hc => hg c (by simp [hc])) ha'.2 ?_ k)
    exact lk_kill [c] (by simpa using ha'.1) hs
theorem BP.of {t : Bool} {p q : Prop} (hb : BP t p q := by first | exact BP.lt _ _ | exact BP.le _ _ | exact BP.gt _ _ | exact BP.ge _ _ | exact BP.eq _ _ | exact BP.ne _ _ | exact BP.eqL _ _ | exact BP.neL _ _ | exact BP.dec _ | exact BP.not _ _ _ (BP.lt _ _) | exact BP.not _ _ _ (BP.eq _ _) | exact BP.not _ _ _ (BP.eqL _ _) | exact BP.not _ _ _ (BP.dec _) | exact BP.not _ _ _ (BP.var _) | exact BP.var _) : BP t p q := hb
def CvtV (u : AV) (h : AHeap) (v : AV) (h' : AHeap) : Prop := ∀ (m : Inj) (w : World) (c : Value), HR m h w → VR m h w u c → ∃ m', HR m' h' w ∧ VR m' h' w v c ∧ Step m h w m' h' w
theorem CvtV.refl (u : AV) : CvtV u h u h := fun m w c hr hv => ⟨m, hr, hv, Step.refl _ _ _⟩
end
end Go.Abs

namespace Go.Abs
open Go

section
variable {P : Program} {N : Nat} {e e' : Env} {h h' : AHeap} {l : List CI} {Q : Exit → Env → AHeap → Prop} {m : Inj} {w : World}

def CkT (P : Program) (m : Inj) (h : AHeap) (w : World) (d : Nat) (t : TypeId) (ks : List CK) : Prop :=
  ∀ D em, (∀ us xs, aggD ((P.underlying t).getD .invalid) = true → CR m h w us xs → us.length = ks.length → (Instr.checkKey em (D + d) t (.agg xs)).run P w = .ok () w) ∧
    (aggD ((P.underlying t).getD .invalid) = false → ∀ x, (Instr.checkKey em (D + d) t x).run P w = .ok () w)
theorem CkT.part {d : Nat} {t : TypeId} {ks : List CK} (he : CkT P m h w d t ks) {sz : Nat} {ag : Bool} (ht : tyI P t = some (sz, ag)) (hag : ag = true ∨ sz = 1) (hk : ks.length = sz) (D : Nat) (em : Bool) {us : List AV} {xs : Array Value} {off : Nat} (hx : CR m h w us xs) (hu : off + sz ≤ us.length) :
    ∃ pa, (part t xs off).run P w = .ok pa w ∧ (Instr.checkKey em (D + d) t pa).run P w = .ok () w := by
  obtain ⟨hsz, hagg⟩ := tyI_some ht
  have hat := tyI_agg ht
  cases ag with
  | true => exact ⟨_, by simp [Go.part, hagg, hsz], (he D em).1 _ _ hat (hx.sub off sz hu) (by simp; omega)⟩
  | false =>
    have h10 : sz = 1 := by simpa using hag
    subst h10
    have hxl : off < xs.size := by rw [← hx.1]; omega
    exact ⟨xs[off], by simp [Go.part, hagg, hxl], (he D em).2 hat _⟩
end
section
variable {P : Program} {N : Nat} {e e' : Env} {h h' : AHeap} {l : List CI} {Q : Exit → Env → AHeap → Prop}
end
end Go.Abs

--abbrs off
namespace Go.Abs
open Go
section
variable {e e' : Env} {h h1 : AHeap}
theorem gE {i : Nat} {x : Option AObj} (p : h.get i = x := by repeat first | with_reducible apply get_put_neE (by omega) | with_reducible apply get_set_neE (by omega) | with_reducible apply get_keepE | exact rfl) : h.get i = x := p
end
end Go.Abs


namespace Go.Proofs.YtafkhpjnihnfpaaGreat
open Go Go.Abs
instance moI : MO Tryz.prog := ⟨by kernel_rfl⟩

abbrev Bs := List UInt8
/-- Byte i of n of a number, the highest first. -/
def byteOf (v : Int) (n i : Nat) : UInt8 := UInt8.ofNat ((v / 2 ^ (8 * (n - 1 - i))) % 256).toNat
def putB (v : Int) (n : Nat) : Bs := if n < 1 ∨ 8 < n then [] else (List.range n).map (byteOf v n)
end Go.Proofs.YtafkhpjnihnfpaaGreat


namespace Go.Proofs.YtafkhpjnihnfpaaGreat
open Go Go.Abs

def x64 (a b : Int) : Int := bits .xor .u64 a b
def o64 (a b : Int) : Int := bits .or .u64 a b
def shl64 (a : Int) (n : Nat) : Int := IntKind.u64.wrap (a * 2 ^ n)
def shr64 (a : Int) (n : Nat) : Int := a.fdiv (2 ^ n)
/-- Turned right by 8, left by 3. -/
def rotR8 (x : Int) : Int := o64 (shl64 x 56) (shr64 x 8)
def rotL3 (x : Int) : Int := o64 (shl64 x 3) (shr64 x 61)
def mixF (x y k : Int) : Int × Int := (x64 (IntKind.u64.wrap (rotR8 x + y)) k, x64 (rotL3 y) (x64 (IntKind.u64.wrap (rotR8 x + y)) k))
/-- n round keys from the i-th on. -/
def rkF : Nat → Nat → Int → Int → List Int
  | 0, _, _, _ => []
  | n + 1, i, l, k => k :: rkF n (i + 1) (mixF l k (i : Int)).1 (mixF l k (i : Int)).2
def keysF (key : Pr) : List Int := rkF 32 0 key.1 key.2
def encF (key block : Pr) : Pr := (keysF key).foldl (fun s k => mixF s.1 s.2 k) block
def addF (a b : Pr) : Pr := (x64 a.1 b.1, x64 a.2 b.2)
def dblF (a : Pr) : Pr := (o64 (shl64 a.1 1) (shr64 a.2 63), if shr64 a.1 63 == 1 then x64 (shl64 a.2 1) 135 else shl64 a.2 1)
/-- Is digit i of b (from the highest on) set? -/
def digF (b : Pr) (i : Nat) : Bool := bits .and .u64 (shr64 (if i < 64 then b.1 else b.2) (63 - i % 64)) 1 == 1
def mulF (a b : Pr) : Pr := (List.range 128).foldl (fun out i => if digF b i then addF (dblF out) a else dblF out) (0, 0)
def evalF (h : Pr) (l : List Pr) : Pr := l.foldl (fun out x => mulF (addF x out) h) (0, 0)
def pairB (p : Pr) : Bs := putB p.1 8 ++ putB p.2 8
def getB (b : Bs) : Int := b.foldl (fun v c => o64 (shl64 v 8) (c.toNat : Int)) 0
def pairF (b : Bs) : Pr := (getB (b.take 8), getB (b.drop 8))
/-- Rows of 16, the last one shorter. -/
def rowsF (b : Bs) : List Bs := if h : b = [] then [] else b.take 16 :: rowsF (b.drop 16)
termination_by b.length
decreasing_by
  have : 0 < b.length := List.length_pos_iff.2 h
  simp; omega
def fillF (b : Bs) : Bs := b ++ List.replicate (16 - b.length) 0
def pairsF (b : Bs) : List Pr := (rowsF b).map fun r => pairF (fillF r)
def subF (key : Pr) (n : Nn) : Pr := encF key (o64 (shl64 (IntKind.u64.wrap n.1) 32) (IntKind.u64.wrap n.2.1), n.2.2)
/-- k rows of the flow from the i-th on. -/
def flowR (sub : Pr) : Nat → Nat → Bs
  | 0, _ => []
  | k + 1, i => pairB (encF sub ((i : Int), 0)) ++ flowR sub k (i + 1)
def flowF (sub : Pr) (n : Nat) : Bs := (flowR sub ((n + 15) / 16) 1).take n
def xorB (a b : Bs) : Bs := List.zipWith (fun x y => x ^^^ y) a b
def tagF (sub : Pr) (head b : Bs) : Pr := addF (evalF (encF sub (0, 1)) (pairsF head ++ pairsF b ++ [((head.length : Int), (b.length : Int))])) (encF sub (0, 0))
def gcmB (key : Pr) (n : Nn) (data : Bs) : Bs := xorB data (flowF (subF key n) data.length)
def gcmT (key : Pr) (n : Nn) (head b : Bs) : Pr := tagF (subF key n) head b
def gcmO (key : Pr) (n : Nn) (head b : Bs) (tg : Pr) : Option Bs := if head.length ≤ 4000 ∧ b.length ≤ 4000 ∧ gcmT key n head b = tg then some (gcmB key n b) else none
def stepF (s m : Pr) : Pr := (x64 (encF m s).1 s.1, x64 (encF m s).2 s.2)
def padF (p : Bs) : Bs := p ++ [128] ++ List.replicate ((24 - (p.length + 1) % 16) % 16) 0 ++ putB (p.length : Nat) 8
def digestF (p : Bs) : Pr := (rowsF (padF p)).foldl (fun s r => stepF s (pairF r)) (7640891576956012808, 13503953896175478587)
end Go.Proofs.YtafkhpjnihnfpaaGreat


namespace Go.Proofs.YtafkhpjnihnfpaaGreat
open Go Go.Abs

/-- A row said over and over, till n bytes. -/
def rep (l : Bs) (n : Nat) : Bs := (List.range n).map fun k => l.getD (k % l.length) 0
end Go.Proofs.YtafkhpjnihnfpaaGreat


namespace Go.Proofs.YtafkhpjnihnfpaaGreat
open Go Go.Abs

/-- What was summed. -/
def encM (S : List Bs) : List (AV × AV) := S.zipIdx.map fun p => (.str p.1, .int .u64 (p.2 + 1 : Nat))
structure OrAt (h : AHeap) (o t s g : Nat) (L : List Iss) (S : List Bs) : Prop where
  obj : h.get o = some (.mem 2 [[.app t g 10 (L.map encI), .map s]])
  tok : h.get t = some (.tail g L.length)
  sums : h.get s = some (.map (encM S))

/-- What a sealed row is: the number of the sealing, over and over. -/
def sealB (N : Int) (n : Nat) : Bs := rep (putB N 8) n
def ones : Int := 18446744073709551615
theorem rep_len (l : Bs) (n : Nat) : (rep l n).length = n := by simp [rep]
/-- What is remembered of a sealing. -/
def newI (N : Nat) (k : Pr) (n : Nn) (head data : Bs) : Iss := ⟨k, n, head, data, sealB (N : Int) data.length, (ones, (N : Int))⟩
theorem putB_len (v : Int) : (putB v 8).length = 8 := by simp [putB]

end Go.Proofs.YtafkhpjnihnfpaaGreat


namespace Go.Proofs.YtafkhpjnihnfpaaGreat
open Go Go.Abs

def isI (k : Pr) (n : Nn) (head b : Bs) (tg : Pr) (x : Iss) : Bool := x.key == k && x.n == n && x.tag == tg && x.head == head && x.out == b
def openO (L : List Iss) (k : Pr) (n : Nn) (head b : Bs) (tg : Pr) : Option Bs := (L.find? (isI k n head b tg)).map (·.data)
/-- Which row was it? -/
def idxS (k : Bs) : List Bs → Option Nat
  | [] => none
  | s :: S => if k = s then some 0 else (idxS k S).map (· + 1)
def sumN (S : List Bs) (k : Bs) : Nat := (idxS k S).getD S.length + 1
def sumS (S : List Bs) (k : Bs) : List Bs := if (idxS k S).isSome then S else S ++ [k]
def eees : Int := 17216961135462248174
theorem clo_encM {u : Nat → Prop} (S : List Bs) : ∀ kv ∈ encM S, Clo u kv.1 ∧ Clo u kv.2 := by
  intro kv hkv
  obtain ⟨p, _, rfl⟩ := List.mem_map.1 hkv
  exact ⟨.str _, .int _ _⟩
end Go.Proofs.YtafkhpjnihnfpaaGreat


namespace Go.Abs
open Go

/-- k names are kept for later. -/
def AHeap.keep (h : AHeap) (k : Nat) : AHeap := { h with next := h.next + k, gap := fun j => h.gap j || (decide (h.next ≤ j) && decide (j < h.next + k)) }
theorem get_keepE {h : AHeap} {k id : Nat} {x : Option AObj} (hx : h.get id = x) : (h.keep k).get id = x := hx
theorem Keeps.keep {h h1 : AHeap} {k : Nat} (hk : Keeps h h1) : Keeps h (h1.keep k) := ⟨Nat.le_trans hk.1 (Nat.le_add_right _ _), hk.2⟩

section
variable {P : Program} {N : Nat} {e e' : Env} {h h' : AHeap} {l : List CI} {Q : Exit → Env → AHeap → Prop} {m : Inj} {w : World}

theorem used_keep {k id : Nat} (hu : h.used id) : (h.keep k).used id := by
  obtain ⟨h1, h2⟩ := hu
  refine ⟨by simp only [AHeap.keep]; omega, ?_⟩
  simp only [AHeap.keep, h2, Bool.false_or, Bool.and_eq_false_iff, decide_eq_false_iff_not]
  omega
theorem step_keep (k : Nat) : Step m h w m (h.keep k) w :=
  ⟨rfl, rfl, rfl, Nat.le_refl _, fun _ cc _ _ hb _ => ⟨cc, hb, rfl⟩, fun _ _ hf => ⟨rfl, hf⟩, fun _ _ _ hc hn => ⟨hc, hn⟩, fun _ hu => used_keep hu, fun _ x _ hg => ⟨x, hg, fun _ => rfl, Compat.refl x⟩⟩
theorem HR.keep (hr : HR m h w) (k : Nat) : HR m (h.keep k) w :=
  ⟨fun id hg => by
      simp only [AHeap.keep, Bool.or_eq_true, Bool.and_eq_true, decide_eq_true_eq] at hg ⊢
      rcases hg with hg | hg
      · have := hr.gapl id hg; omega
      · exact hg.2,
    fun id x hg => used_keep (hr.live id x hg), hr.inj, fun id x hg => (hr.obj id x hg).step (step_keep k) rfl fun _ _ _ => rfl⟩
theorem Cvt.keep (k : Nat) : Cvt e h e (h.keep k) := fun _ m _ _ hr he => ⟨m, hr.keep k, he.step (step_keep k), step_keep k⟩

theorem FX.ofN {nm : Nat} {d : Option Nat} {i : Ins} {g : Option (Nat × Bool)} {r : Option AV} {f : Eff} (hp : i.plain = true) (hg : met e g)
    (hx : ∀ (o : Oper), compileOp P N o = some i → ∀ e2, (∀ s ∈ islots i, lk s e2 = lk s e) → ∀ (m : Inj) (w : World) (a : Act), HR m h w → ER N m h w e2 a → OpOK P o a m h w nm r f) : FX P N ⟨d, i, g⟩ e h r (f.on nm h) := by
  intro ops j o ho hc e2 hs m w a K Q hr he hk
  have hraw := comp_plain hc hp
  rcases compI_ok hc with ⟨hb1, hb2⟩ | ⟨hd, hdst, _, hgd⟩
  · have hb : i = .bad := hb1
    subst hb; cases hp
  · obtain ⟨w1, w2⟩ := wanted_of he hgd
    have hi : ∀ s ∈ islots i, lk s e2 = lk s e := fun s h => hs s (by unfold cslots; split <;> simp [h])
    have hw : Region.wanted o (yielded ops a.tmps) = true := by
      cases g with
      | none => exact w1 rfl
      | some sb =>
        obtain ⟨s, b⟩ := sb
        have hl : lk s e2 = some (.bool b) := (hs s (by simp [cslots])).trans hg
        rw [w2 s b b rfl hl]; simp
    simp only [wpOp, ho]
    rw [if_pos hw]
    left
    obtain ⟨m', w', hr', st, hres⟩ := hx o hraw e2 hi m w a hr he
    have hd' : d = o.dst := hd
    unfold Oper.wp
    cases r with
    | some v =>
      obtain ⟨cv, hrun, hv⟩ := hres
      rw [hrun, Oper.upon_value]
      refine hk m' w' _ hr' ?_ st
      show ER N m' _ w' (putR d (some v) e2) _
      rw [hd']
      exact (he.step st).putR hdst hv
    | none =>
      rw [hres, Oper.upon_skip]
      refine hk m' w' _ hr' ?_ st
      show ER N m' _ w' (putR d none e2) _
      rw [hd']
      exact (he.step st).skipR _ _

theorem FX.allocN {d : Nat} {z : List AV} {g : Option (Nat × Bool)} {nm : Nat} (hf : ¬ h.used nm) (hg : met e g) : FX P N ⟨some d, .alloc z, g⟩ e h (some (.ptr nm 0 0)) (h.put nm (.mem z.length [z])) :=
  FX.ofN (r := some (.ptr nm 0 0)) (f := .new (.mem z.length [z])) rfl hg fun o hc e2 _ m w a hr he => evalI_ok hr hf he hc (by simp [evalI])

inductive Up
  | put (nm : Nat) (x : AObj)
  | set (id : Nat) (x : Option AObj)
def Up.ap (h : AHeap) : Up → AHeap
  | .put nm x => h.put nm x
  | .set id x => h.set id x
def Up.id : Up → Nat
  | .put nm _ => nm
  | .set id _ => id
def Up.isSet : Up → Bool
  | .put _ _ => false
  | .set _ _ => true
def aps (h : AHeap) (us : List Up) : AHeap := us.foldl Up.ap h
/-- Two heaps that read alike but for the kept names. -/
def Sim (n k : Nat) (h h2 : AHeap) : Prop := h2.next = h.next ∧ ∀ id, ¬ (n ≤ id ∧ id < n + k) → h2.get id = h.get id
theorem Sim.refl {n k : Nat} {h : AHeap} : Sim n k h h := ⟨rfl, fun _ _ => rfl⟩
theorem Sim.ap {n k : Nat} {h h2 : AHeap} (hs : Sim n k h h2) (u : Up) : Sim n k (u.ap h) (u.ap h2) := by
  obtain ⟨h1, h3⟩ := hs
  cases u with
  | put nm x => exact ⟨by simp only [Up.ap, AHeap.put, h1], fun id hi => by simp only [Up.ap, AHeap.put]; split <;> first | rfl | exact h3 id hi⟩
  | set nm x => exact ⟨h1, fun id hi => by simp only [Up.ap, AHeap.set]; split <;> first | rfl | exact h3 id hi⟩
theorem Sim.aps {n k : Nat} : ∀ {h h2 : AHeap} (us : List Up), Sim n k h h2 → Sim n k (aps h us) (aps h2 us)
  | _, _, [], hs => hs
  | _, _, u :: us, hs => Sim.aps us (hs.ap u)
theorem Sim.trans {n k : Nat} {h1 h2 h3 : AHeap} (a : Sim n k h1 h2) (b : Sim n k h2 h3) : Sim n k h1 h3 :=
  ⟨b.1.trans a.1, fun id hi => (b.2 id hi).trans (a.2 id hi)⟩
theorem Sim.symm {n k : Nat} {h1 h2 : AHeap} (a : Sim n k h1 h2) : Sim n k h2 h1 := ⟨a.1.symm, fun id hi => (a.2 id hi).symm⟩
/-- What is done to the heap when just D is done. -/
def hA (us : Nat → List Up) (h : AHeap) (D : Nat → Bool) : Nat → AHeap
  | 0 => h
  | j + 1 => if D j then aps (hA us h D j) (us j) else hA us h D j
end
end Go.Abs

namespace Go.Abs
open Go

/-- The text's order, walked: al = new blocks whose names (n0 on) are kept; ws = what else turns the heap; rs = those of them that don't look at al's; fs = what reads alike wherever it is drawn. -/
inductive DA (P : Program) (N : Nat) (Φ : AHeap → Prop) (n0 : Nat) (al ws rs fs : List Nat) (K : Env → AHeap → Prop) : Nat → List CI → Env → AHeap → Prop
  | nil {j : Nat} {e e' : Env} {h : AHeap} (hs : subE e' e) (hk : K e' h) : DA P N Φ n0 al ws rs fs K j [] e h
  | fx {j : Nat} {c : CI} {l : List CI} {e : Env} {h : AHeap} {r : Option AV} (us : List Up) (hx : al.contains j = false → FX P N c e h r (aps h us)) (h0 : free0 c.i = true → al.contains j = true ∨ us = [] ∧ ∀ h2, FX P N c e h2 r h2)
      (hw : ws.contains j = false → al.contains j = false → us = []) (ha : al.contains j = true → ∃ x, us = [.put (n0 + al.idxOf j) x] ∧ ∀ h2 : AHeap, ¬ h2.used (n0 + al.idxOf j) → FX P N c e h2 r (aps h2 us))
      (hrs : rs.contains j = true → ∀ h2, Sim n0 al.length h h2 → FX P N c e h2 r (aps h2 us)) (hu : al.contains j = false → (∀ u ∈ us, u.isSet = true ∨ ¬ (n0 ≤ u.id ∧ u.id < n0 + al.length)) ∧ (rs.contains j = true → ∀ u ∈ us, ¬ (n0 ≤ u.id ∧ u.id < n0 + al.length)))
      (hp : ∀ h2, Φ h2 → Φ (aps h2 us)) (hf : fs.contains j = true → us = [] ∧ ∀ h2, Φ h2 → FX P N c e h2 r h2)
      (k : DA P N Φ n0 al ws rs fs K (j + 1) l (putR c.d r e) (aps h us)) : DA P N Φ n0 al ws rs fs K j (c :: l) e h

section
variable {P : Program} {N : Nat} {e : Env} {h : AHeap} {Φ : AHeap → Prop} {n0 : Nat} {al ws rs fs : List Nat} {K : Env → AHeap → Prop} {l : List CI} {es : List (List Nat)}

structure TrA (P : Program) (N : Nat) (Φ : AHeap → Prop) (n0 : Nat) (al ws rs fs : List Nat) (c : Nat → CI) (ee : Nat → Env) (hh : Nat → AHeap) (rr : Nat → Option AV) (us : Nat → List Up) (j : Nat) : Prop where
  fx : al.contains j = false → FX P N (c j) (ee j) (hh j) (rr j) (aps (hh j) (us j))
  zero : free0 (c j).i = true → al.contains j = true ∨ us j = [] ∧ ∀ h2, FX P N (c j) (ee j) h2 (rr j) h2
  keep : ws.contains j = false → al.contains j = false → us j = []
  new : al.contains j = true → ∃ x, us j = [.put (n0 + al.idxOf j) x] ∧ ∀ h2 : AHeap, ¬ h2.used (n0 + al.idxOf j) → FX P N (c j) (ee j) h2 (rr j) (aps h2 (us j))
  rob : rs.contains j = true → ∀ h2, Sim n0 al.length (hh j) h2 → FX P N (c j) (ee j) h2 (rr j) (aps h2 (us j))
  ids : al.contains j = false → (∀ u ∈ us j, u.isSet = true ∨ ¬ (n0 ≤ u.id ∧ u.id < n0 + al.length)) ∧ (rs.contains j = true → ∀ u ∈ us j, ¬ (n0 ≤ u.id ∧ u.id < n0 + al.length))
  phi : ∀ h2, Φ h2 → Φ (aps h2 (us j))
  free : fs.contains j = true → us j = [] ∧ ∀ h2, Φ h2 → FX P N (c j) (ee j) h2 (rr j) h2
  env : ee (j + 1) = putR (c j).d (rr j) (ee j)
  heap : hh (j + 1) = aps (hh j) (us j)

theorem DA.trace : ∀ {j : Nat} {l : List CI} {e : Env} {h : AHeap}, DA P N Φ n0 al ws rs fs K j l e h →
    ∃ (ee : Nat → Env) (hh : Nat → AHeap) (rr : Nat → Option AV) (us : Nat → List Up), ee j = e ∧ hh j = h ∧ (∃ e', subE e' (ee (j + l.length)) ∧ K e' (hh (j + l.length))) ∧ ∀ i, j ≤ i → i < j + l.length → TrA P N Φ n0 al ws rs fs (fun k => l.getD (k - j) default) ee hh rr us i := by
  intro j l e h hd
  induction hd with
  | nil hs hk => exact ⟨fun _ => _, fun _ => _, fun _ => none, fun _ => [], rfl, rfl, ⟨_, hs, hk⟩, fun i h1 h2 => by simp at h2; omega⟩
  | @fx j c l e h r u hx h0 hw ha hrs hu hp hf k ih =>
    obtain ⟨ee, hh, rr, us, q1, q2, q3, q4⟩ := ih
    refine ⟨fun i => if i = j then e else ee i, fun i => if i = j then h else hh i, fun i => if i = j then r else rr i, fun i => if i = j then u else us i, by simp, by simp, ?_, fun i h1 h2 => ?_⟩
    · have hne : ¬ (j + 1 + l.length = j) := by omega
      have : j + (c :: l).length = j + 1 + l.length := by simp; omega
      simp only [this, hne, if_false]
      exact q3
    · rcases Nat.eq_or_lt_of_le h1 with rfl | hlt
      · have e1 : ((c :: l).getD (j - j) default) = c := by simp
        have e2 : ¬ (j + 1 = j) := by omega
        exact {
          fx := by simp only [e1, if_true]; exact hx
          zero := by simp only [e1, if_true]; exact h0
          keep := by simp only [if_true]; exact hw
          new := by simp only [e1, if_true]; exact ha
          rob := by simp only [e1, if_true]; exact hrs
          ids := by simp only [if_true]; exact hu
          phi := by simp only [if_true]; exact hp
          free := by simp only [e1, if_true]; exact hf
          env := by simp only [e1, e2, if_false, if_true, q1]
          heap := by simp only [e2, if_false, if_true, q2] }
      · have t := q4 i hlt (by simp at h2; omega)
        have e1 : ((c :: l).getD (i - j) default) = l.getD (i - (j + 1)) default := by
          have : i - j = (i - (j + 1)) + 1 := by omega
          rw [this]; simp
        have e2 : ¬ (i + 1 = j) := by omega
        have e3 : ¬ (i = j) := by omega
        exact {
          fx := by simpa only [e1, e3, if_false] using t.fx
          zero := by simpa only [e1, e3, if_false] using t.zero
          keep := by simpa only [e3, if_false] using t.keep
          new := by simpa only [e1, e3, if_false] using t.new
          rob := by simpa only [e1, e3, if_false] using t.rob
          ids := by simpa only [e3, if_false] using t.ids
          phi := by simpa only [e3, if_false] using t.phi
          free := by simpa only [e1, e3, if_false] using t.free
          env := by simpa only [e1, e2, e3, if_false] using t.env
          heap := by simpa only [e2, e3, if_false] using t.heap }

end
end Go.Abs

namespace Go.Abs
open Go

section
variable {P : Program} {N : Nat} {e e' e2 : Env} {h h' : AHeap} {Q : Exit → Env → AHeap → Prop} {l : List CI} {Φ : AHeap → Prop} {n0 : Nat} {al ws rs fs : List Nat} {K : Env → AHeap → Prop} {j : Nat}

theorem DA.env (hd : DA P N Φ n0 al ws rs fs K j l e2 h) : ∀ {e : Env}, (∀ s, lk s e2 = lk s e) → DA P N Φ n0 al ws rs fs K j l e h := by
  induction hd with
  | nil hs hk => exact fun he => .nil (fun i v hv => (he i) ▸ hs i v hv) hk
  | fx us hx h0 hw ha hr hu hp hf _ ih =>
    exact fun he => .fx us (fun hz => (hx hz).env he) (fun hz => (h0 hz).imp id fun h1 => ⟨h1.1, fun h2 => (h1.2 h2).env he⟩) hw (fun hz => by
      obtain ⟨x, h1, h2⟩ := ha hz
      exact ⟨x, h1, fun h3 h4 => (h2 h3 h4).env he⟩) (fun hz h2 h3 => (hr hz h2 h3).env he) hu hp (fun hz => ⟨(hf hz).1, fun h2 h3 => ((hf hz).2 h2 h3).env he⟩) (ih (lk_putR_congr he))
theorem DA.pin {s : Nat} {t : Bool} (hc : lk s e = some (.bool t)) (h1 : t = true → DA P N Φ n0 al ws rs fs K j l ((s, some (.bool true)) :: e) h) (h2 : t = false → DA P N Φ n0 al ws rs fs K j l ((s, some (.bool false)) :: e) h) : DA P N Φ n0 al ws rs fs K j l e h := by
  have key : ∀ b, t = b → ∀ i, lk i ((s, some (.bool b)) :: e) = lk i e := fun b hb i => by
    simp only [lk_cons, lk_nil]
    split
    · rename_i e1; subst e1; rw [hc, hb]
    · rfl
  cases t
  · exact (h2 rfl).env (key false rfl)
  · exact (h1 rfl).env (key true rfl)
theorem DA.endL (hk : K e h) : DA P N Φ n0 al ws rs fs K j [] e h := .nil (fun _ _ hv => hv) hk
/-- An operation that leaves the heap as it is. -/
theorem DA.go {c : CI} {e' : Env} (k : DA P N Φ n0 al ws rs fs K (j + 1) l e' h) (hs : Stp c e h e' h := by exact Stp.auto) (hf : fs.contains j = false := by exact rfl) (ha : al.contains j = false := by exact rfl) (hr : rs.contains j = false := by exact rfl) : DA P N Φ n0 al ws rs fs K j (c :: l) e h := by
  obtain ⟨r, he, hx, h0⟩ := FX.of_stp (P := P) (N := N) hs
  subst he
  exact .fx [] (fun _ => hx) (fun hz => .inr ⟨rfl, (h0 hz).2⟩) (fun _ _ => rfl) (fun hz => by rw [ha] at hz; cases hz) (fun hz => by rw [hr] at hz; cases hz) (fun _ => ⟨by simp, by simp⟩) (fun _ h2 => h2) (fun hz => by rw [hf] at hz; cases hz) k
/-- One that reads alike wherever it is drawn. -/
theorem DA.goF {c : CI} {n : Nat} {W : List Nat} {h0 : AHeap} (k : DA P N (PhiW n W h0) n0 al ws rs fs K (j + 1) l e' h) (hs : ∀ h2, PhiW n W h0 h2 → Stp c e h2 e' h2 := by
    intro h2 hp2
    first
      | (apply Stp.load1; exact rfl; exact (hp2 _ (by omega) (by simp)).trans gH; exact (by first | exact getC_at rfl rfl | exact getC_all rfl | exact getC_sub (Nat.le_of_ble_eq_true rfl) (by first | (simp only [putC, AV.cs, encP, encN, encI, encS, encA, List.take_succ_cons, List.take_zero, List.take_nil, List.drop_succ_cons, List.drop_zero, List.drop_nil, List.cons_append, List.nil_append, List.append_nil, List.length_cons, List.length_nil, Nat.zero_add, Nat.add_zero, Nat.reduceAdd]; exact rfl) | exact rfl) | exact getC_sub (by simp) (by first | (simp only [putC, AV.cs, encP, encN, encI, encS, encA, List.take_succ_cons, List.take_zero, List.take_nil, List.drop_succ_cons, List.drop_zero, List.drop_nil, List.cons_append, List.nil_append, List.append_nil, List.length_cons, List.length_nil, Nat.zero_add, Nat.add_zero, Nat.reduceAdd]; exact rfl) | exact rfl)); exact (by first | exact True.intro | exact rfl))
      | exact Stp.auto) (hp : PhiW n W h0 h := by repeat first | exact PhiW.refl | refine PhiW.put (by omega) ?_ | refine PhiW.setW (by simp) ?_ | refine PhiW.setN (by omega) ?_ | exact fun _ _ _ => rfl) (ha : al.contains j = false := by exact rfl) (hr : rs.contains j = false := by exact rfl) : DA P N (PhiW n W h0) n0 al ws rs fs K j (c :: l) e h := by
  have key : ∀ h2, PhiW n W h0 h2 → ∃ r, e' = putR c.d r e ∧ FX P N c e h2 r h2 ∧ (free0 c.i = true → h2 = h2 ∧ ∀ h3, FX P N c e h3 r h3) := fun h2 h3 => FX.of_stp (hs h2 h3)
  obtain ⟨r, he, hx, hz⟩ := key h hp
  subst he
  refine .fx [] (fun _ => hx) (fun hy => .inr ⟨rfl, (hz hy).2⟩) (fun _ _ => rfl) (fun hy => by rw [ha] at hy; cases hy) (fun hy => by rw [hr] at hy; cases hy) (fun _ => ⟨by simp, by simp⟩) (fun _ h2 => h2) (fun _ => ⟨rfl, fun h2 h3 => ?_⟩) k
  obtain ⟨r2, he2, hx2, _⟩ := key h2 h3
  cases hd : c.d with
  | none =>
    intro ops i o ho hc e3 hs3 m w a KK QQ hr2 he3 hk
    exact hx2 ops i o ho hc e3 hs3 m w a KK QQ hr2 he3 (by rw [hd] at hk ⊢; exact hk)
  | some d =>
    rw [hd] at he2
    simp only [putR, List.cons.injEq, Prod.mk.injEq, true_and, and_true] at he2
    rw [he2]; exact hx2
/-- A new block. -/
theorem DA.new {d : Nat} {z : List AV} {g : Option (Nat × Bool)} {i n : Nat} {W : List Nat} {h0 : AHeap} (k : DA P N (PhiW n W h0) n al ws rs fs K (j + 1) l ((d, some (.ptr (n + i) 0 0)) :: e) (h.put (n + i) (.mem z.length [z])))
    (hi : al.idxOf j = i := by first | exact (rfl : _ = 0) | exact (rfl : _ = 1) | exact (rfl : _ = 2) | exact (rfl : _ = 3) | exact (rfl : _ = 4)) (hg : met e g := by first | exact True.intro | exact rfl) (ha : al.contains j = true := by exact rfl) (hr : rs.contains j = false := by exact rfl) (hf : fs.contains j = false := by exact rfl) : DA P N (PhiW n W h0) n al ws rs fs K j (⟨some d, .alloc z, g⟩ :: l) e h := by
  subst hi
  exact .fx (r := some (.ptr (n + al.idxOf j) 0 0)) [.put (n + al.idxOf j) (.mem z.length [z])] (fun hz => by rw [ha] at hz; cases hz) (fun hz => by simp [free0] at hz) (fun _ hz => by rw [ha] at hz; cases hz) (fun _ => ⟨_, rfl, fun h2 hu => FX.allocN hu hg⟩) (fun hz => by rw [hr] at hz; cases hz)
    (fun hz => by rw [ha] at hz; cases hz) (fun h2 hp => PhiW.put (Nat.le_add_right _ _) hp) (fun hz => by rw [hf] at hz; cases hz) k
/-- A store, in its order. -/
theorem DA.set {c : CI} {n id : Nat} {W : List Nat} {h0 : AHeap} {x : Option AObj} (k : DA P N (PhiW n W h0) n0 al ws rs fs K (j + 1) l e' (h.set id x)) (hs : Stp c e h e' (h.set id x) := by exact Stp.auto) (hf : fs.contains j = false := by exact rfl) (hw : ws.contains j = true := by exact rfl) (ha : al.contains j = false := by exact rfl) (hr : rs.contains j = false := by exact rfl) (hz : free0 c.i = false := by exact rfl) (hp : ∀ h2, PhiW n W h0 h2 → PhiW n W h0 (h2.set id x) := by first | exact fun _ => PhiW.setN (by omega) | exact fun _ => PhiW.setW (by simp; done)) :
    DA P N (PhiW n W h0) n0 al ws rs fs K j (c :: l) e h := by
  obtain ⟨r, he, hx, _⟩ := FX.of_stp (P := P) (N := N) hs
  subst he
  exact .fx [.set id x] (fun _ => hx) (fun hy => by rw [hz] at hy; cases hy) (fun hy => by rw [hw] at hy; cases hy) (fun hy => by rw [ha] at hy; cases hy) (fun hy => by rw [hr] at hy; cases hy) (fun _ => ⟨by simp [Up.isSet], fun hy => by rw [hr] at hy; cases hy⟩) hp (fun hy => by rw [hf] at hy; cases hy) k
end
end Go.Abs

namespace Go.Abs
open Go

section
variable {P : Program} {N : Nat} {e : Env} {h : AHeap} {m : Inj} {w : World} {nm : Nat}

variable {n0 : Nat} {al ws rs fs : List Nat} {K : Env → AHeap → Prop} {l : List CI} {j : Nat}
end
end Go.Abs

namespace Go.Abs
open Go

section
variable {P : Program} {N : Nat} {e : Env} {h : AHeap} {m : Inj} {w : World} {nm : Nat}
variable {n0 : Nat} {al ws rs fs : List Nat} {K : Env → AHeap → Prop} {l : List CI} {j : Nat}
/-- The same between two codes, the first one begun. -/
theorem WW.mid {Q : Exit → Env → AHeap → Prop} {A : Env → AHeap → Prop} {c : CC} (I : Env → AHeap → Prop) (h1 : WW P N c (fun x e h => x = .normal ∧ I e h) e h) (h2 : ∀ e h, I e h → A e h) : WW P N c (thenQ A Q) e h :=
  ⟨h1.out.mono fun x e h hq => by
    obtain ⟨rfl, hi⟩ := hq
    exact thenN (h2 e h hi)⟩
/-- A call of a function value. -/
theorem FX.callv {h' : AHeap} {d : Option Nat} {f : Nat} {x : Opd} {xs : List Opd} {g : Option (Nat × Bool)} {us vs ts : List AV} {r : AV} (hx : ev e x = some (.func (.func f) us ts)) (hv : evL e xs = some vs) (hg : met e g) (hb : bodied P f = true) (hac : AE P f (us ++ vs ++ ts) h r h') : FX P N ⟨d, .callv x xs, g⟩ e h (some r) h' := by
  intro ops i o ho hc e2 hs m w a K Q hr he hk
  rcases compI_ok hc with ⟨hb1, hb2⟩ | ⟨hd, hdst, hcomp, hgd⟩
  · simp at hb1
  · obtain ⟨w1, w2⟩ := wanted_of he hgd
    have hi : ∀ s ∈ lslots xs, lk s e2 = lk s e := fun s h => hs s (by unfold cslots; split <;> simp [h, islots])
    have hi2 : ∀ s ∈ oslots x, lk s e2 = lk s e := fun s h => hs s (by unfold cslots; split <;> simp [h, islots])
    have hw : Region.wanted o (yielded ops a.tmps) = true := by
      cases g with
      | none => exact w1 rfl
      | some sb =>
        obtain ⟨s, b⟩ := sb
        have hl : lk s e2 = some (.bool b) := (hs s (by simp [cslots])).trans hg
        rw [w2 s b b rfl hl]; simp
    simp only [wpOp, ho]
    rw [if_pos hw]
    left
    have hco := hcomp rfl
    obtain ⟨c, y, hop, hcal, hy, hxs⟩ := compile_callv hco
    obtain ⟨hl1, hl2⟩ := he.evalL hxs ((evL_congr hi).trans hv)
    have hfv := he.eval hy ((ev_congr hi2).trans hx)
    generalize hcx : a.eval (.tmp y) = cx at hfv
    cases hfv with
    | func _ _ _ cs ds q1 q2 q3 q4 =>
      have hrun : (execOp a.eval o).run P w = .ok (.enter f (cs ++ c.args.map a.eval ++ ds)) w := by
        simp [execOp, hop, resolve, hcal, hcx, Deferred.ofValue, invoke, run_callFunc hb]
      refine call_wp hrun hr (by simp [q1, q2, hl1]) (fun j v hj => ?_) hac fun v w' m' r1 h1 g1 g2 g3 ⟨g4, g5⟩ => ?_
      · rw [List.append_assoc] at hj
        simp only [Array.getD_eq_getD_getElem?]
        by_cases j1 : j < us.length
        · rw [List.getElem?_append_left j1] at hj
          have := q3 j v hj
          rw [Array.append_assoc, Array.getElem?_append_left (by omega)]
          simpa [Array.getD_eq_getD_getElem?] using this
        · rw [List.getElem?_append_right (by omega)] at hj
          rw [Array.append_assoc, Array.getElem?_append_right (by omega), ← q1]
          by_cases j2 : j - us.length < vs.length
          · rw [List.getElem?_append_left j2] at hj
            have := hl2 _ v hj
            rw [Array.getElem?_append_left (by simp at hl1 ⊢; omega)]
            simpa [List.getD_eq_getElem?_getD] using this
          · rw [List.getElem?_append_right (by omega)] at hj
            have := q4 _ v hj
            have hl1' : vs.length = c.args.size := by simpa using hl1
            rw [Array.getElem?_append_right (by simp; omega)]
            simpa [Array.getD_eq_getD_getElem?, hl1'] using this
      · subst g4; subst g5
        refine hk m' w' _ g1 ?_ g3
        have hd' : d = o.dst := hd
        show ER N m' h1 w' (putR d (some r1) e2) _
        rw [hd']
        exact (he.step g3).putR hdst g2
end
end Go.Abs

namespace Go.Abs
open Go

section
variable {P : Program} {N : Nat} {e : Env} {h h' : AHeap} {m : Inj} {w : World} {Q : Exit → Env → AHeap → Prop} {l : List CI}
/-- A row of cells, each told with less. -/
theorem SubV.imm {sz : Nat} {c d : List (List AV)} (hl : c.length = d.length) (hs : ∀ (i : Nat) (x y : List AV), c[i]? = some x → d[i]? = some y → SubL x y) (hsc : Scal d) : SubV (.imm sz c) (.imm sz d) := fun m h w cv hv => by
  have hlen : Len sz c → Len sz d := fun h y hy => by
    obtain ⟨i, hi, rfl⟩ := List.mem_iff_getElem.1 hy
    have h1 := List.getElem?_eq_getElem (show i < c.length by omega)
    rw [← (hs i _ _ h1 (List.getElem?_eq_getElem hi)).len]
    exact h _ (List.getElem_mem _)
  cases hv with
  | imm0 => cases d with
    | nil => exact .imm0 _
    | cons => simp at hl
  | imm1 => cases d with
    | nil => exact .imm1 _ _ _
    | cons => simp at hl
  | imm _ _ b o cap F hic hln hs2 hrr hc =>
    rw [hl]
    refine .imm _ _ b o cap F (by rw [← hl]; exact hic) (hlen hln) hsc (fun i cells hi j v hj => ?_) (by omega)
    have hlt : i < c.length := by rw [hl]; exact (List.getElem?_eq_some_iff.1 hi).1
    have hx := hs i _ _ (List.getElem?_eq_getElem hlt) hi
    have hjl : j < c[i].length := by rw [hx.len]; exact (List.getElem?_eq_some_iff.1 hj).1
    exact hx.get j _ _ (List.getElem?_eq_getElem hjl) hj _ _ _ _ (hrr i _ (List.getElem?_eq_getElem hlt) j _ (List.getElem?_eq_getElem hjl))
end
end Go.Abs

namespace Go.Abs
open Go
/-- All that is used stands as it stood, but for W. -/
def KeepsB (W : List Nat) (h h1 : AHeap) : Prop := h.next ≤ h1.next ∧ ∀ id, h.used id → id ∉ W → h1.get id = h.get id
section
variable {W : List Nat} {h h1 h2 : AHeap}
theorem KeepsB.refl : KeepsB W h h := ⟨Nat.le_refl _, fun _ _ _ => rfl⟩
theorem KeepsB.put (hk : KeepsB W h h1) {nm : Nat} (hn : h.next ≤ nm) (x : AObj) : KeepsB W h (h1.put nm x) := by
  refine ⟨next_le_put hk.1, fun id hu hw => ?_⟩
  rw [get_put, if_neg (by have := hu.1; omega)]
  exact hk.2 id hu hw
theorem KeepsB.setN (hk : KeepsB W h h1) {nm : Nat} (hn : h.next ≤ nm) (x : Option AObj) : KeepsB W h (h1.set nm x) := by
  refine ⟨hk.1, fun id hu hw => ?_⟩
  rw [get_set, if_neg (by have := hu.1; omega)]
  exact hk.2 id hu hw
theorem KeepsB.setW (hk : KeepsB W h h1) {nm : Nat} (hn : nm ∈ W) (x : Option AObj) : KeepsB W h (h1.set nm x) := by
  refine ⟨hk.1, fun id hu hw => ?_⟩
  have hne : id ≠ nm := fun e => hw (by rw [e]; exact hn)
  rw [get_set, if_neg hne]
  exact hk.2 id hu hw
theorem KeepsB.keep (hk : KeepsB W h h1) (k : Nat) : KeepsB W h (h1.keep k) := ⟨Nat.le_trans hk.1 (Nat.le_add_right _ _), hk.2⟩
theorem KeepsB.trans {V : List Nat} (hk : KeepsB W h h1) (hk2 : KeepsB V h1 h2) (hv : ∀ id ∈ V, id ∈ W ∨ h.next ≤ id) (hg : ∀ id, h.used id → h1.used id) : KeepsB W h h2 :=
  ⟨Nat.le_trans hk.1 hk2.1, fun id hu hw => (hk2.2 id (hg id hu) fun hi => by
    rcases hv id hi with h3 | h3
    · exact hw h3
    · have := hu.1; omega).trans (hk.2 id hu hw)⟩
theorem KeepsB.of (hk : Keeps h h1) : KeepsB W h h1 := ⟨hk.1, fun id hu _ => hk.2 id hu⟩
theorem KeepsB.keeps (hk : KeepsB [] h h1) : Keeps h h1 := ⟨hk.1, fun id hu => hk.2 id hu (by simp)⟩
end
end Go.Abs

--abbrs off
namespace Go.Abs
open Go
end Go.Abs


namespace Go.Proofs.YtafkhpjnihnfpaaGreat
open Go Go.Abs

@[simp] theorem putB_lenS (v : Int) : (putB v 8).length = 8 := putB_len v
/-- An ideal lock's cells. -/
def idC (o : Nat) : List AV := [.func (.func 73) [.ptr o 0 0] [], .func (.func 74) [.ptr o 0 0] [], .func (.func 75) [.ptr o 0 0] [], .func (.func 70) [.ptr o 0 0] [], .func (.func 71) [.ptr o 0 0] []]
/-- An ideal lock stands at l. -/
structure IdAt (h : AHeap) (l o t s g : Nat) (L : List Iss) (S : List Bs) : Prop where
  cells : h.get l = some (.mem 5 [idC o])
  ora : OrAt h o t s g L S
end Go.Proofs.YtafkhpjnihnfpaaGreat


namespace Go.Proofs.YtafkhpjnihnfpaaGreat
open Go Go.Abs

theorem pairB_len16 (p : Pr) : (pairB p).length = 16 := by simp [pairB]
attribute [local irreducible] encF pairB
theorem flowR_len (sub : Pr) : ∀ k i : Nat, (flowR sub k i).length = 16 * k
  | 0, _ => rfl
  | k + 1, i => by rw [flowR, List.length_append, pairB_len16, flowR_len sub k]; omega
theorem flowF_len (sub : Pr) (n : Nat) : (flowF sub n).length = n := by
  rw [flowF, List.length_take, flowR_len]; omega
theorem xorB_len {a b : Bs} (hb : b.length = a.length) : (xorB a b).length = a.length := by simp [xorB, hb]
end Go.Proofs.YtafkhpjnihnfpaaGreat


namespace Go.Proofs.YtafkhpjnihnfpaaGreat
open Go Go.Abs

def getS (v : Int) (c : UInt8) : Int := o64 (shl64 v 8) (c.toNat : Int)
end Go.Proofs.YtafkhpjnihnfpaaGreat


