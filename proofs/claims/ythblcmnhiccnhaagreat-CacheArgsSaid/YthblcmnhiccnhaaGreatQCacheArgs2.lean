/- What the statement's proof needs, part 2. -/
import Derived.Test.YthblcmnhiccnhaaGreatQCacheArgs1
set_option linter.all false
namespace Go.Abs
open Go

section
variable {P:Program}{N:Nat}{m:Inj}{h:AHeap}{w:World}{e:Env}{a:Act}{nm:Nat}{o:Oper}

theorem ze2 (hr:HR m h w)(hf:¬ h.used nm)(he:ER N m h w e a){i:Ins}(hc:zb P N o=some i){r:Option AV}{f:Eff}(hv:evalI nm i e h.get=some (r,f)):OpOK P o a m h w nm r f:=by
 cases hop:o.op <;> simp only [zb,hop] at hc <;> try (cases hc;done)
 case move x=>obtain ⟨y,hy,rfl⟩:=zb0 hc;exact zpa hr he (.inl hop) hy hv
 case assign x=>obtain ⟨y,hy,rfl⟩:=zb0 hc;exact zpa hr he (.inr hop) hy hv
 case pick c x y =>
  split at hc
  ·rename_i h1 h2 h3;cases hc;exact zs4 hr he hop h1 h2 h3 hv
  ·cases hc
 case alloc t =>
  split at hc
  ·rename_i z hz
   cases hi:P.info? t with
   | none => simp [hi] at hz
   | some i =>
    simp [hi] at hz
    split at hc
    ·cases hc
    ·cases hzs:ofL ofV z.cells.toList with
     | none => simp [hzs] at hc
     | some zs => simp [hzs] at hc; subst hc; exact zqs hr hf hi hz hzs hop hv
  ·cases hc
 case box t x =>
  split at hc
  ·rename_i i y h1 h2;cases hc;exact zty hr hf he h1 hop h2 hv
  ·cases hc
 case build t ps =>
  split at hc
  ·rename_i fs z hu hz
   cases hi:P.info? t with
   | none => simp [hi] at hz
   | some it =>
    simp [hi] at hz
    split at hc
    ·rename_i zs q hzs hq
     split at hc
     ·rename_i hall;cases hc;exact zf2 hr he hu hi hz hzs hall hq hop hv
     ·cases hc
    ·cases hc
  ·rename_i n el z hu hz
   cases hi:P.info? t with
   | none => simp [hi] at hz
   | some it =>
    simp [hi] at hz
    split at hc
    ·rename_i ie hie
     split at hc
     ·rename_i zs q hzs hq;cases hc;exact zgx hr he hu hi hie hz hzs hq hop hv
     ·cases hc
    ·cases hc
  ·cases hc
 case buildSlice t n ps =>
  split at hc
  ·rename_i el hu
   split at hc
   ·rename_i i hi
    split at hc
    ·rename_i h0
     cases hc
     obtain ⟨rfl,hps⟩:=h0
     have:ps=#[]:=by simpa using hps
     subst this
     exact zs7 hr hu hi hop hv
    ·split at hc
     ·rename_i xs z hxs hz
      split at hc
      ·rename_i hcond;cases hc;exact zu2 hr he hu hi hz hxs hcond.1 hcond.2.1 hcond.2.2.1 hcond.2.2.2.1 hcond.2.2.2.2 hop hv
      ·cases hc
     ·cases hc
   ·cases hc
  ·cases hc
 case load t x =>
  split at hc
  ·rename_i sz ag y h1 h2
   split at hc
   ·rename_i hag;cases hc;exact zs6 hr he h1 hag hop h2 hv
   ·cases hc
  ·cases hc
 case store t x y =>
  split at hc
  ·rename_i i x' y' h1 h2 h3;cases hc;exact zqr hr he h1 hop h2 h3 hv
  ·cases hc
 case nilCheck x=>obtain ⟨y,hy,rfl⟩:=zb0 hc;exact zqp hr he hop hy hv
 case binOp op t x y u =>
  split at hc
  ·rename_i x' y' h1 h2
   have eqc:∀ {neg:Bool},op = .eql∧neg=false∨op = .neq∧neg=true→(match (generalizing:=false) P.underlying t with
     | some (.int _) => some (.bin op x' y')
     | some (.slice _) => match (generalizing := false) y with
      | .const (.slice none 0 0) => some (.isnil neg x')
      | _ => none
     | _ => (z81 P t y).map fun k => .eqv k neg x' y') = some i → OpOK P o a m h w nm r f := by
    intro neg hn hc
    split at hc
    ·cases hc;exact zpb hr he hop h1 h2 hv
    ·rename_i el hu
     split at hc
     ·cases hc;exact zqv hr he hn hu hop h1 hv
     ·cases hc
    ·cases hk:z81 P t y with
     | none => simp [hk] at hc
     | some k => simp [hk] at hc; subst hc; exact zu6 hr he hn hk hop h1 h2 hv
   cases op <;> simp only at hc
   case shl=>cases hc;exact ok_sh hr he hop h1 h2 hv
   case shr=>cases hc;exact ok_sh hr he hop h1 h2 hv
   case eql=>exact eqc (.inl ⟨rfl,rfl⟩) hc
   case neq=>exact eqc (.inr ⟨rfl,rfl⟩) hc
   all_goals (cases hc;exact zpb hr he hop h1 h2 hv)
  ·cases hc
 case unOp op t x =>
  cases op <;> simp only at hc <;> try (cases hc;done)
  obtain ⟨y,hy,rfl⟩:=zb0 hc;exact ztv hr he hop hy hv
 case convert s d x =>
  split at hc
  ·rename_i k0 k x' h1 h2 h3;cases hc;exact zs5 hr he h1 h2 hop h3 hv
  ·rename_i el x' h1 h2 h3
   split at hc
   ·rename_i hel;cases hc;exact zu5 hr he h1 h2 hel hop h3 hv
   ·cases hc
  ·cases hc
 case makeFunc fn xs ys =>
  split at hc
  ·rename_i xs' ys' h1 h2;cases hc;exact zu1 hr he hop h1 h2 hv
  ·cases hc
 case makeSlice t l c =>
  split at hc
  ·rename_i el l' c' hu h1 h2
   split at hc
   ·rename_i i hi
    split at hc
    ·rename_i z hz
     split at hc
     ·rename_i zs hzs
      split at hc
      ·rename_i hcond;cases hc;exact zs8 hr hf he hu hi hz hzs hcond.1 hcond.2.1 hcond.2.2 hop h1 h2 hv
      ·cases hc
     ·cases hc
    ·cases hc
   ·cases hc
  ·cases hc
 case slice t x lo hi mx =>
  cases mx <;> simp only at hc <;> try (cases hc;done)
  split at hc
  ·rename_i el x' hu h1
   split at hc
   ·rename_i inf hi'
    cases lo <;> cases hi <;> simp only at hc
    ·cases hc;exact zf1 (lo:=none) (hi':=none) (lo':=none) (hj':=none) hr he hu hi' hop h1 trivial trivial hv
    ·rename_i rr
     cases hr':ofOpd N rr with
     | none => simp [hr'] at hc
     | some r' => simp [hr'] at hc; subst hc; exact zf1 (lo := none) (hi' := some rr) (lo' := none) (hj' := some r') hr he hu hi' hop h1 trivial hr' hv
    ·rename_i ll
     cases hl':ofOpd N ll with
     | none => simp [hl'] at hc
     | some l' => simp [hl'] at hc; subst hc; exact zf1 (lo := some ll) (hi' := none) (lo' := some l') (hj' := none) hr he hu hi' hop h1 hl' trivial hv
    ·rename_i ll rr
     split at hc
     ·rename_i l' r' hl' hr';cases hc;exact zf1 (lo:=some ll) (hi':=some rr) (lo':=some l') (hj':=some r') hr he hu hi' hop h1 hl' hr' hv
     ·cases hc
   ·cases hc
  ·cases hc
 case fieldAddr s x fi =>
  split at hc
  ·rename_i fs x' hu h1
   split at hc
   ·rename_i fd hfd
    split at hc
    ·rename_i i hi
     split at hc
     ·rename_i hz;cases hc;exact zqq hr he hu hfd hi hz hop h1 hv
     ·cases hc
    ·cases hc
   ·cases hc
  ·cases hc
 case field s x fi =>
  split at hc
  ·rename_i fs x' hu h1
   split at hc
   ·rename_i fd hfd
    split at hc
    ·rename_i sz ag ht
     split at hc
     ·rename_i hag;cases hc;exact ztx hr he hu hfd ht hag hop h1 hv
     ·cases hc
    ·cases hc
   ·cases hc
  ·cases hc
 case indexAddr t x y =>
  split at hc
  ·rename_i el x' y' hu h1 h2
   split at hc
   ·rename_i inf hi;cases hc;exact zqt hr he hu hi hop h1 h2 hv
   ·cases hc
  ·rename_i n el x' y' hu h1 h2
   split at hc
   ·rename_i inf hi;cases hc;exact zpd hr he hu hi hop h1 h2 hv
   ·cases hc
  ·cases hc
 case extract x n=>obtain ⟨y,hy,rfl⟩:=zb0 hc;exact ztw hr he hop hy hv
 case call c =>
  split at hc
  ·rename_i hcal
   split at hc
   ·rename_i x t ha hat
    split at hc
    ·rename_i el x' hu h1;cases hc;exact zu0 hr he hop hcal ha hat hu h1 hv
    ·cases hc
   ·cases hc
  ·rename_i hcal
   split at hc
   ·rename_i s x t u ha hat
    split at hc
    ·rename_i el el' s' x' hu hu' h1 h2
     split at hc
     ·rename_i inf hi
      split at hc
      ·rename_i z hz
       split at hc
       ·rename_i hcond
        cases hc
        obtain ⟨_,rfl,c1,c2,c3⟩:=hcond
        exact zu3 hr hf he hop hcal ha hat hu hi hz c1 c2 c3 h1 h2 hv
       ·cases hc
      ·cases hc
     ·cases hc
    ·cases hc
   ·cases hc
  ·rename_i hcal
   split at hc
   ·rename_i d s t ha hat
    split at hc
    ·rename_i el d' s' hu h1 h2
     split at hc
     ·rename_i inf hi;cases hc;exact zu4 hr he hop hcal ha hat hu hi h1 h2 hv
     ·cases hc
    ·cases hc
   ·cases hc
  ·rename_i hcal
   split at hc
   ·rename_i x y ha
    split at hc
    ·rename_i x' y' h1 h2;cases hc;exact ok_mn hr he hop hcal ha h1 h2 hv
    ·cases hc
   ·cases hc
  ·split at hc
   ·split at hc
    ·cases hc;simp [evalI] at hv
    ·cases hc
   ·cases hc
  ·split at hc
   ·cases hc;simp [evalI] at hv
   ·cases hc
  ·cases hc
end
end Go.Abs

namespace Go.Abs
open Go

structure CI where
 d:Option Nat
 i:Ins
 g:Option (Nat×Bool)
 deriving Inhabited
inductive CC where
 | skip
 | reg (l : List CI)
 | dreg (l : List CI) (es : List (List Nat))
 | seq (a b : CC)
 | cond (c : Opd) (a b : CC)
 | block (id : Nat) (b : CC)
 | loop (b : CC)
 | exit (id : Nat)
 | ret
 | rangeF (g : Opd) (ps : List Nat) (a b : CC)
 | bad
 deriving Inhabited

def Ins.plain:Ins→Bool
 | .bad | .raw _ => false
 | _ => true
def rawI (P:Program)(N:Nat)(o:Oper):Ins :=
 match zb P N o with
 | some (.raw _) => .bad
 | some i => i
 | none => match z7 P N o with
  | some x => .raw x
  | none => .bad
def compI (P:Program)(N:Nat)(ops:Array Oper)(o:Oper):CI :=
 if o.dst.all (· < N) then
  match o.guard with
  | none => ⟨o.dst, rawI P N o, none⟩
  | some (j, b) => match (ops[j]?).bind (·.dst) with
   | some s => if s < N then ⟨o.dst, rawI P N o, some (s, b)⟩ else ⟨none, .bad, none⟩
   | none => ⟨none, .bad, none⟩
 else ⟨none,.bad,none⟩
def compR (P:Program)(N:Nat)(ops:Array Oper):List CI:=ops.toList.map (compI P N ops)
def zf5 (ops:Array Oper):List (List Nat):=ops.toList.map fun o=>(o.after.toList.filter (Region.binds .any)).map (·.on)
def compC (P:Program)(N:Nat):Code→CC
 | .skip => .skip
 | .region _ ops d => if d then .dreg (compR P N ops) (zf5 ops) else .reg (compR P N ops)
 | .seq a b => .seq (compC P N a) (compC P N b)
 | .cond c a b => match ofOpd N c with
  | some c => .cond c (compC P N a) (compC P N b)
  | none => .bad
 | .block id b => .block id (compC P N b)
 | .loop b => .loop (compC P N b)
 | .exit id => .exit id
 | .ret => .ret
 | .rangeFunc g ps a b => match ofOpd N g with
  | some g => .rangeF g ps.toList (compC P N a) (compC P N b)
  | none => .bad
 | _ => .bad

def PA (N:Nat)(Q:Exit→Env→AHeap→Prop)(m:Inj)(h:AHeap)(w:World):Exit→Act→World→Prop :=
 fun ex a' w'=>∃ m' e' h',HR m' h' w'∧ER N m' h' w' e' a'∧Step m h w m' h' w'∧Q ex e' h'
def AW (P:Program)(N:Nat)(c:CC)(Q:Exit→Env→AHeap→Prop)(e:Env)(h:AHeap):Prop :=
 ∀ code,compC P N code=c→∀ m w a,HR m h w→ER N m h w e a→code.wp P (PA N Q m h w) a w
def AL (P:Program)(N:Nat)(l:List CI)(Q:Exit→Env→AHeap→Prop)(e:Env)(h:AHeap):Prop :=
 ∀ (ops:Array Oper) (idx:List Nat),(∀ i∈idx,i < ops.size)→idx.map (fun i=>compI P N ops (ops.getD i default))=l→∀ m w a,HR m h w→ER N m h w e a→wpOps P ops (PA N Q m h w) idx a w
def AC (P:Program)(f:Nat)(vs:List AV)(h:AHeap)(R:AV→AHeap→Prop):Prop :=
 ∀ m w (cargs:Array Value),HR m h w→vs.length=cargs.size→(∀ i v,vs[i]? = some v→VR m h w v (cargs.getD i undef)) →
  Calls P f cargs w fun ex w'=>∃ v m' r h',ex = .returned v∧HR m' h' w'∧VR m' h' w' r v∧Step m h w m' h' w'∧R r h'

def putR (d:Option Nat)(r:Option AV)(e:Env):Env :=
 match d with
 | some d => (d, r) :: e
 | none => e
def z3o (c:CI)(e:Env)(h:AHeap):Option (Env×AHeap) :=
 match evalI h.next c.i e h.get with
 | some (r, f) => some (putR c.d r e, f.on h.next h)
 | none => none
def z4x (c:CI)(e:Env)(h:AHeap):Option (Env×AHeap) :=
 match c.g with
 | none => z3o c e h
 | some (s, b) => match lk s e with
  | some (.bool t) => if t = b then z3o c e h else some (putR c.d none e, h)
  | _ => none
section
variable {P:Program}{N:Nat}{Q:Exit→Env→AHeap→Prop}{e:Env}{h:AHeap}

theorem PA.mono {Q':Exit→Env→AHeap→Prop}{m:Inj}{w:World}(hq:∀ ex e h,Q ex e h→Q' ex e h){ex:Exit}{a:Act}{w':World}(hp:PA N Q m h w ex a w'):PA N Q' m h w ex a w':=by
 obtain ⟨m',e',h',h1,h2,h3,h4⟩:=hp
 exact ⟨m',e',h',h1,h2,h3,hq _ _ _ h4⟩
theorem PA.from {m m₁:Inj}{h h₁:AHeap}{w w₁:World}(s:Step m h w m₁ h₁ w₁){ex:Exit}{a:Act}{w':World}(hp:PA N Q m₁ h₁ w₁ ex a w'):PA N Q m h w ex a w':=by
 obtain ⟨m',e',h',h1,h2,h3,h4⟩:=hp
 exact ⟨m',e',h',h1,h2,s.trans h3,h4⟩
theorem z15 {ops:Array Oper}{Q Q':Exit→Act→World→Prop}(hq:∀ ex a w,Q ex a w→Q' ex a w):∀ (l:List Nat) (a:Act) (w:World),wpOps P ops Q l a w→wpOps P ops Q' l a w
  | [], a, w, hw => hq _ _ _ hw
  | i :: l, a, w, hw => by
    simp only [wpOps] at hw ⊢
    split
    · rename_i ho;simp only [ho] at hw;exact z15 hq l _ _ hw
    · rename_i o ho
      simp only [ho] at hw
      split
      · rename_i hwant
        simp only [hwant,if_true] at hw
        rcases hw with hw | ⟨h1,a0,w0,h2⟩
        · left
          unfold Oper.wp at hw ⊢
          generalize (execOp a.eval o).run P w=r at hw ⊢
          cases r with
          | ok n w' =>
            cases n <;> simp only [Oper.upon] at hw ⊢ <;> first
              | exact z15 hq l _ _ hw
              | (refine Calls.mono hw fun ex w'' he => ?_
                 cases ex with
                 | returned v => exact z15 hq l _ _ he
                 | panicked ch => exact hq _ _ _ he
                 | outgrown => obtain ⟨a0, w0, h2⟩ := he; exact ⟨a0, w0, hq _ _ _ h2⟩)
              | exact Rows.mono hw fun _ _ he => z15 hq l _ _ he
              | exact hw
          | halt x w' => cases x <;> simp only [Oper.upon] at hw ⊢ <;> first | exact hq _ _ _ hw | exact hw
        · exact .inr ⟨h1,a0,w0,hq _ _ _ h2⟩
      · rename_i hwant
        simp only [hwant] at hw
        exact z15 hq l _ _ hw

theorem AL.nil (hq:Q .normal e h):AL P N [] Q e h:=by
 intro ops idx _ hl m w a hr he
 cases idx with
 | nil => exact ⟨m, e, h, hr, he, Step.refl _ _ _, hq⟩
 | cons i idx => simp at hl

theorem z11 {m:Inj}{w:World}(hr:HR m h w):¬ h.used h.next:=fun hu=>by
 have:=hu.1
 omega

theorem zdd {nm:Nat}{i:Ins}{g:Nat→Option AObj}{x:Option AV×Eff}(hx:evalI nm i e g=some x):i.plain=true:=by
 cases i <;> first
  | rfl
  | (simp [evalI] at hx; done)
theorem z71 {ops:Array Oper}{o:Oper}{c:CI}(hc:compI P N ops o=c){x:Ex}(hr:c.i = .raw x):z7 P N o=some x:=by
 have key:rawI P N o = .raw x→z7 P N o=some x:=fun h=>by
  unfold rawI at h
  split at h
  ·cases h
  ·rename_i hne _;exact absurd h (hne _)
  ·split at h
   ·rename_i hx;rw [hx];injection h with h;rw [h]
   ·cases h
 unfold compI at hc
 split at hc
 ·split at hc
  ·subst hc;exact key hr
  ·split at hc
   ·split at hc
    ·subst hc;exact key hr
    ·subst hc;cases hr
   ·subst hc;cases hr
 ·subst hc;cases hr
theorem zx {ops:Array Oper}{o:Oper}{c:CI}(hc:compI P N ops o=c) :
  (c.i = .bad∧c.g=none)∨(c.d=o.dst∧(∀ d,o.dst=some d→d < N)∧(c.i.plain=true→zb P N o=some c.i)∧(match o.guard with | none=>c.g=none | some (j,b)=>∃ s,(ops[j]?).bind (·.dst)=some s∧c.g=some (s,b))):=by
 unfold compI at hc
 split at hc
 ·rename_i hd
  have hd':∀ d,o.dst=some d→d < N:=by
   intro d e;simpa [e] using hd
  have hco:∀ g,(⟨o.dst,rawI P N o,g⟩:CI)=c→c.d=o.dst∧(c.i.plain=true→zb P N o=some c.i)∧c.g=g:=by
   intro g e
   subst e
   refine ⟨rfl,fun hb => ?_,rfl⟩
   simp only [rawI] at hb ⊢
   split at hb
   ·cases hb
   ·rename_i i hne hx
    simp only [hx]
   ·split at hb <;> cases hb
  split at hc
  ·obtain ⟨h1,h2,h3⟩:=hco _ hc
   exact .inr ⟨h1,hd',h2,h3⟩
  ·split at hc
   ·rename_i s hs
    split at hc
    ·obtain ⟨h1,h2,h3⟩:=hco _ hc
     exact .inr ⟨h1,hd',h2,s,hs,h3⟩
    ·subst hc;exact .inl ⟨rfl,rfl⟩
   ·subst hc;exact .inl ⟨rfl,rfl⟩
 ·subst hc;exact .inl ⟨rfl,rfl⟩

theorem ER.putR {m:Inj}{w:World}{a:Act}(he:ER N m h w e a){dst:Option Nat}(hd:∀ d,dst=some d→d < N){v:AV}{c:Value}(hv:VR m h w v c):ER N m h w (putR dst (some v) e) (a.put dst c):=by
 cases dst with
 | none => exact he
 | some d => exact he.put (hd d rfl) hv
theorem ER.skipR {m:Inj}{w:World}{a:Act}(he:ER N m h w e a)(dst:Option Nat)(c:Value):ER N m h w (Go.Abs.putR dst none e) (a.put dst c):=by
 cases dst with
 | none => exact he
 | some d => exact he.skip d c

theorem zl {ops:Array Oper}{o:Oper}{c:CI}{m:Inj}{w:World}{a:Act}(he:ER N m h w e a)(hg:match o.guard with | none=>c.g=none | some (j,b)=>∃ s,(ops[j]?).bind (·.dst)=some s∧c.g=some (s,b)) :
  (c.g=none→Region.wanted o (yielded ops a.tmps)=true)∧(∀ s b t,c.g=some (s,b)→lk s e=some (.bool t)→Region.wanted o (yielded ops a.tmps)=decide (t=b)):=by
 cases hgo:o.guard with
 | none =>
  simp only [hgo] at hg
  exact ⟨fun _=>by simp [Region.wanted,hgo],fun s b t h1=>by rw [hg] at h1;cases h1⟩
 | some jb =>
  obtain ⟨j,b0⟩:=jb
  simp only [hgo] at hg
  obtain ⟨s0,hs0,hg0⟩:=hg
  refine ⟨fun h1=>(by rw [hg0] at h1;cases h1),fun s b t h1 h2 => ?_⟩
  rw [hg0] at h1
  cases h1
  have hv:=z2r (he.val s0 _ h2)
  have hy:yielded ops a.tmps j=some t:=by
   unfold yielded
   rw [hs0]
   simp only [Option.bind_some]
   cases hx:a.tmps[s0]? with
   | none => simp [hx, undef] at hv
   | some x => simp [hx] at hv; subst hv; rfl
  simp only [Region.wanted,hgo,hy]
  cases t <;> cases b0 <;> rfl

theorem zi8 {ops:Array Oper}{idx:List Nat}{i:Nat}{o:Oper}{c:CI}{l:List CI}(ho:ops[i]? = some o)(hco:c.d=o.dst)(hdst:∀ d,o.dst=some d→d < N)(hcomp:c.i.plain=true→zb P N o=some c.i){e':Env}{h':AHeap}(hx:z3o c e h=some (e',h'))
  (hlt:∀ j∈idx,j < ops.size) (hl:idx.map (fun i=>compI P N ops (ops.getD i default))=l) (hrest:AL P N l Q e' h') {m:Inj} {w:World} {a:Act} (hr:HR m h w) (he:ER N m h w e a) :
  o.wp P a w (wpOps P ops (PA N Q m h w) idx) (PA N Q m h w):=by
 unfold z3o at hx
 split at hx
 ·rename_i r f hev
  cases hx
  obtain ⟨m',w',hr',st,hres⟩:=ze2 hr (z11 hr) he (hcomp (zdd hev)) hev
  have hrest':∀ a',ER N m' (f.on h.next h) w' (putR c.d r e) a'→wpOps P ops (PA N Q m h w) idx a' w':=fun a' he' =>
   z15 (fun _ _ _ hp=>PA.from st hp) idx _ _ (hrest ops idx hlt hl m' w' a' hr' he')
  unfold Oper.wp
  cases r with
  | some v =>
   obtain ⟨cv,hrun,hv⟩:=hres
   rw [hrun,Oper.upon_value]
   refine hrest' _ ?_
   rw [hco]
   exact (he.step st).putR hdst hv
  | none =>
   rw [hres,Oper.upon_skip]
   refine hrest' _ ?_
   rw [hco]
   exact (he.step st).skipR _ _
 ·cases hx

theorem AL.step {c:CI}{l:List CI}{e':Env}{h':AHeap}(hx:z4x c e h=some (e',h'))(hrest:AL P N l Q e' h'):AL P N (c::l) Q e h:=by
 intro ops idx hlt hl m w a hr he
 cases idx with
 | nil => simp at hl
 | cons i idx =>
  simp only [List.map_cons,List.cons.injEq] at hl
  obtain ⟨hc,hl⟩:=hl
  have hilt:=hlt i (by simp)
  have ho:ops[i]? = some ops[i]:=Array.getElem?_eq_getElem hilt
  have hget:ops.getD i default=ops[i]:=by simp [hilt]
  rw [hget] at hc
  have hlt':∀ j∈idx,j < ops.size:=fun j hj=>hlt j (by simp [hj])
  rcases zx hc with ⟨hb1,hb2⟩ | ⟨hd,hdst,hcomp,hg⟩
  ·simp [z4x,hb2,z3o,hb1,evalI] at hx
  ·obtain ⟨w1,w2⟩:=zl he hg
   simp only [wpOps,ho]
   unfold z4x at hx
   split at hx
   ·rename_i hgn
    rw [w1 hgn,if_pos rfl]
    exact .inl (zi8 ho hd hdst hcomp hx hlt' hl hrest hr he)
   ·rename_i s b hgs
    split at hx
    ·rename_i t hlk
     rw [w2 s b t hgs hlk]
     split at hx
     ·rename_i htb
      simp only [htb,decide_true,if_true]
      exact .inl (zi8 ho hd hdst hcomp hx hlt' hl hrest hr he)
     ·rename_i htb
      cases hx
      simp only [htb,decide_false,Bool.false_eq_true,if_false]
      refine hrest ops idx hlt' hl m w _ hr ?_
      rw [hd]
      exact he.skipR _ _
    ·cases hx
end
end Go.Abs

namespace Go.Abs
open Go

def thenQ (K:Env→AHeap→Prop)(Q:Exit→Env→AHeap→Prop):Exit→Env→AHeap→Prop
 | .normal, e, h => K e h
 | ex, e, h => Q ex e h
def zf6 (id:Nat)(Q:Exit→Env→AHeap→Prop):Exit→Env→AHeap→Prop
 | .exit id', e, h => if id' = id then Q .normal e h else Q (.exit id') e h
 | ex, e, h => Q ex e h

def z2j (P:Program)(f:Nat):Bool :=
 match P.funcs[f]? with
 | some fn => fn.body.isSome && fn.name != "runtime.NumGoroutine"
 | none => false

section
variable {P:Program}{N:Nat}{Q:Exit→Env→AHeap→Prop}{e:Env}{h:AHeap}

theorem AW.mono {c:CC}{Q':Exit→Env→AHeap→Prop}(hw:AW P N c Q e h)(hq:∀ ex e h,Q ex e h→Q' ex e h):AW P N c Q' e h :=
 fun code hc m w a hr he=>wp_mono (hw code hc m w a hr he) fun _ _ _ hp=>PA.mono hq hp

theorem AW.skip (hq:Q .normal e h):AW P N .skip Q e h:=by
 intro code hc m w a hr he
 cases code <;> simp only [compC] at hc <;> try (cases hc;done)
 ·exact wp_skip ⟨m,e,h,hr,he,Step.refl _ _ _,hq⟩
 ·split at hc <;> cases hc
 ·split at hc <;> cases hc
 ·split at hc <;> cases hc
theorem AW.exit {id:Nat}(hq:Q (.exit id) e h):AW P N (.exit id) Q e h:=by
 intro code hc m w a hr he
 cases code <;> simp only [compC] at hc <;> try (cases hc;done)
 ·split at hc <;> cases hc
 ·split at hc <;> cases hc
 ·split at hc <;> cases hc
 ·cases hc;exact wp_exit ⟨m,e,h,hr,he,Step.refl _ _ _,hq⟩
theorem AW.ret (hq:Q .ret e h):AW P N .ret Q e h:=by
 intro code hc m w a hr he
 cases code <;> simp only [compC] at hc <;> try (cases hc;done)
 ·split at hc <;> cases hc
 ·split at hc <;> cases hc
 ·split at hc <;> cases hc
 ·exact wp_ret ⟨m,e,h,hr,he,Step.refl _ _ _,hq⟩
theorem AW.seq {x y:CC}(hw:AW P N x (thenQ (fun e h=>AW P N y Q e h) Q) e h):AW P N (.seq x y) Q e h:=by
 intro code hc m w a hr he
 cases code <;> simp only [compC] at hc <;> try (cases hc;done)
 ·split at hc <;> cases hc
 ·rename_i cx cy
  cases hc
  refine wp_seq (wp_mono (hw cx rfl m w a hr he) fun ex a' w' hp => ?_)
  obtain ⟨m',e',h',h1,h2,h3,h4⟩:=hp
  cases ex <;> first
   | exact ⟨m', e', h', h1, h2, h3, h4⟩
   | exact wp_mono (h4 cy rfl m' w' a' h1 h2) fun _ _ _ hp => PA.from h3 hp
 ·split at hc <;> cases hc
 ·split at hc <;> cases hc
theorem AW.cond {c:Opd}{x y:CC}{t:Bool}(hc:ev e c=some (.bool t))(hw:AW P N (if t then x else y) Q e h):AW P N (.cond c x y) Q e h:=by
 intro code hcc m w a hr he
 cases code <;> simp only [compC] at hcc <;> try (cases hcc;done)
 ·split at hcc <;> cases hcc
 ·split at hcc
  ·rename_i c0 hc0
   cases hcc
   refine wp_cond (t:=t) (z2r (he.eval hc0 hc)) ?_
   cases t
   ·exact hw _ rfl m w a hr he
   ·exact hw _ rfl m w a hr he
  ·cases hcc
 ·split at hcc <;> cases hcc
theorem AW.block {id:Nat}{x:CC}(hw:AW P N x (zf6 id Q) e h):AW P N (.block id x) Q e h:=by
  intro code hc m w a hr he
  cases code <;> simp only [compC] at hc <;> try (cases hc;done)
  · split at hc <;> cases hc
  · split at hc <;> cases hc
  · cases hc
    refine wp_block (wp_mono (hw _ rfl m w a hr he) fun ex a' w' hp => ?_)
    obtain ⟨m',e',h',h1,h2,h3,h4⟩:=hp
    cases ex <;> first
      | exact ⟨m', e', h', h1, h2, h3, h4⟩
      | (simp only [Exit.inBlock, zf6] at h4 ⊢
         split at h4
         · rename_i e;rw [if_pos e];exact ⟨m',e',h',h1,h2,h3,h4⟩
         · rename_i e;rw [if_neg e];exact ⟨m',e',h',h1,h2,h3,h4⟩)
  · split at hc <;> cases hc
theorem AW.reg {l:List CI}(hw:AL P N l Q e h):AW P N (.reg l) Q e h:=by
 intro code hc m w a hr he
 cases code <;> simp only [compC] at hc <;> try (cases hc;done)
 ·rename_i id ops d
  split at hc
  ·cases hc
  ·rename_i hd
   cases hc
   have hd':d=false:=by simpa using hd
   subst hd'
   refine wp_region (hw ops (List.range ops.size) (fun i hi=>by simpa using hi) ?_ m w a hr he)
   simp only [compR]
   apply List.ext_getElem
   ·simp
   ·intro i h1 h2
    simp at h1 h2
    simp [h1]
 ·split at hc <;> cases hc
 ·split at hc <;> cases hc

theorem zo8 {P:Program}{σ:Type}{c:Code}{Q:Exit→Act→World→Prop}(I:σ→Act→World→Prop)(μ:σ→Nat)(s₀:σ){a:Act}{w:World}(h₀:I s₀ a w)
  (round:∀ s a w,I s a w→c.wp P (Exit.then (fun a' w'=>∃ s',I s' a' w'∧μ s' < μ s) Q) a w):(Code.loop c).wp P Q a w:=by
 intro b k cs
 have key:∀ n s a w,μ s=n→I s a w→∃ e a' w',Q e a' w'∧Arrives P (lone (b.at a (.code c :: .inLoop c::k)) cs w) b k cs e a' w':=by
  intro n
  induction n using Nat.strongRecOn with
  | _ n ih =>
   intro s a w hn hI
   obtain ⟨e,a₁,w₁,hq,harr⟩:=round s a w hI b (.inLoop c::k) cs
   cases e with
   | normal =>
    obtain ⟨s',hI₁,hlt⟩:=hq
    obtain ⟨e₂,a₂,w₂,hq₂,harr₂⟩:=ih (μ s') (hn ▸ hlt) s' a₁ w₁ rfl hI₁
    exact ⟨e₂,a₂,w₂,hq₂,.of_steps (Steps.trans harr (.one step_inLoop)) harr₂⟩
   | exit id => exact ⟨_, a₁, w₁, hq, .pass (x := .inLoop c) rfl (fun _ _ => .inl (by simp)) harr⟩
   | goto l => exact ⟨_, a₁, w₁, hq, .pass (x := .inLoop c) rfl (fun _ _ => .inl (by simp)) harr⟩
   | ret => exact ⟨_, a₁, w₁, hq, .pass (x := .inLoop c) rfl (fun _ _ => .inl (by simp)) harr⟩
   | panic ch => exact ⟨_, a₁, w₁, hq, .pass (x := .inLoop c) rfl (fun _ _ => .inl (by simp)) harr⟩
   | outgrown => exact ⟨_, a₁, w₁, hq, .pass (x := .inLoop c) rfl (fun _ _ => .inl (by simp)) harr⟩
 obtain ⟨e,a',w',hq,harr⟩:=key _ s₀ a w rfl h₀
 exact ⟨e,a',w',hq,.of_steps (.one step_loop) harr⟩

theorem AW.loop {σ:Type}{x:CC}(I:σ→Env→AHeap→Prop)(μ:σ→Nat)(s₀:σ)(h₀:I s₀ e h)
    (round:∀ s e h,I s e h→AW P N x (thenQ (fun e' h'=>∃ s',I s' e' h'∧μ s' < μ s) Q) e h):AW P N (.loop x) Q e h:=by
  intro code hc m w a hr he
  cases code <;> simp only [compC] at hc <;> try (cases hc;done)
  · split at hc <;> cases hc
  · split at hc <;> cases hc
  · rename_i cx
    cases hc
    refine zo8 (fun s a' w'=>∃ m' e' h',HR m' h' w'∧ER N m' h' w' e' a'∧Step m h w m' h' w'∧I s e' h') μ s₀ ⟨m,e,h,hr,he,Step.refl _ _ _,h₀⟩ fun s a1 w1 hI => ?_
    obtain ⟨m1,e1,h1,hr1,he1,st1,hI1⟩:=hI
    refine wp_mono (round s e1 h1 hI1 cx rfl m1 w1 a1 hr1 he1) fun ex a2 w2 hp => ?_
    obtain ⟨m2,e2,h2,hr2,he2,st2,h4⟩:=hp
    cases ex <;> first
      | exact ⟨m2, e2, h2, hr2, he2, st1.trans st2, h4⟩
      | (obtain ⟨s', hs', hlt⟩ := h4
         exact ⟨s',⟨m2,e2,h2,hr2,he2,st1.trans st2,hs'⟩,hlt⟩)
  · split at hc <;> cases hc

theorem AL.env {l:List CI}{e':Env}(hs:∀ i v,lk i e'=some v→lk i e=some v)(hw:AL P N l Q e' h):AL P N l Q e h :=
 fun ops idx h1 h2 m w a hr he=>hw ops idx h1 h2 m w a hr ⟨he.size,he.defers,fun i v hi=>he.val i v (hs i v hi)⟩

theorem z1b {f:Nat}(hb:z2j P f=true)(args:Array Value)(w:World):(callFunc f args).run P w = .ok (.enter f args) w:=by
 unfold z2j at hb
 split at hb
 ·rename_i fn hfn
  simp only [Bool.and_eq_true,bne_iff_ne,ne_eq] at hb
  have hnone:fn.body.isNone=false:=by cases hx:fn.body <;> simp [hx] at hb ⊢
  simp only [callFunc,Sem.run_bind,run_program,Result.andThen_ok,hfn,beq_iff_eq,hb.2,if_false,hnone,Bool.false_eq_true,Sem.run_pure]
 ·cases hb

theorem z3g {o:Oper}{f:Nat}{cargs:Array Value}{vs:List AV}{m:Inj}{w:World}{a:Act}{K:Act→World→Prop}{R:AV→AHeap→Prop}{QQ:Exit→Act→World→Prop}
  (hrun:(execOp a.eval o).run P w = .ok (.enter f cargs) w) (hr:HR m h w) (hl:vs.length=cargs.size) (hv:∀ i v,vs[i]? = some v→VR m h w v (cargs.getD i undef)) (hac:AC P f vs h R)
  (hK:∀ v w' m' r h',HR m' h' w'→VR m' h' w' r v→Step m h w m' h' w'→R r h'→K (a.put o.dst v) w'):o.wp P a w K QQ:=by
 unfold Oper.wp
 rw [hrun,Oper.upon_enter]
 refine (hac m w cargs hr hl hv).mono fun ex w' hx => ?_
 obtain ⟨v,m',r,h',rfl,h1,h2,h3,h4⟩:=hx
 exact hK v w' m' r h' h1 h2 h3 h4

theorem z3p {o:Oper}{f:Nat}{xs:List Opd}(hco:zb P N o=some (.call f xs)) :
  ∃ c:Call,o.op = .call c∧c.callee = .value (.func f)∧z2j P f=true∧ofL (ofOpd N) c.args.toList=some xs:=by
 cases hop:o.op <;> simp only [zb,hop] at hco
 case unOp op t x=>cases op <;> simp [Option.map_eq_some_iff] at hco
 case slice t x lo hi mx=>cases mx <;> simp only at hco <;> (repeat' (split at hco)) <;> first | cases hco | (simp [Option.map_eq_some_iff] at hco)
 case call c =>
  refine ⟨c,rfl,?_⟩
  split at hco
  case h_5 hcal =>
   split at hco
   ·rename_i fn xs' h1 h2
    split at hco
    ·rename_i hb
     simp only [Option.some.injEq,Ins.call.injEq] at hco
     obtain ⟨rfl,rfl⟩:=hco
     exact ⟨hcal,by simpa [z2j,h1] using hb,h2⟩
    ·cases hco
   ·cases hco
  all_goals (repeat' (split at hco)) <;> cases hco
 all_goals (try (repeat' (split at hco))) <;> first | cases hco | (simp [Option.map_eq_some_iff] at hco)
theorem z5c {o:Oper}{x:Opd}{xs:List Opd}(hco:zb P N o=some (.callv x xs)) :
  ∃ (c:Call) (y:Nat),o.op = .call c∧c.callee = .value (.tmp y)∧ofOpd N (.tmp y)=some x∧ofL (ofOpd N) c.args.toList=some xs:=by
 cases hop:o.op <;> simp only [zb,hop] at hco
 case unOp op t x=>cases op <;> simp [Option.map_eq_some_iff] at hco
 case slice t x lo hi mx=>cases mx <;> simp only at hco <;> (repeat' (split at hco)) <;> first | cases hco | (simp [Option.map_eq_some_iff] at hco)
 case call c =>
  refine ⟨c,?_⟩
  split at hco
  case h_6 y hcal =>
   split at hco
   ·rename_i x' xs' h1 h2
    simp only [Option.some.injEq,Ins.callv.injEq] at hco
    obtain ⟨rfl,rfl⟩:=hco
    exact ⟨y,rfl,hcal,h1,h2⟩
   ·cases hco
  all_goals (repeat' (split at hco)) <;> cases hco
 all_goals (try (repeat' (split at hco))) <;> first | cases hco | (simp [Option.map_eq_some_iff] at hco)

theorem AL.call {d:Option Nat}{f:Nat}{xs:List Opd}{l:List CI}{vs:List AV}(hv:evL e xs=some vs)(hac:AC P f vs h (fun r h'=>AL P N l Q (putR d (some r) e) h')):AL P N (⟨d,.call f xs,none⟩::l) Q e h:=by
 intro ops idx hlt hl m w a hr he
 cases idx with
 | nil => simp at hl
 | cons i idx =>
  simp only [List.map_cons,List.cons.injEq] at hl
  obtain ⟨hc,hl⟩:=hl
  have hilt:=hlt i (by simp)
  have ho:ops[i]? = some ops[i]:=Array.getElem?_eq_getElem hilt
  have hget:ops.getD i default=ops[i]:=by simp [hilt]
  rw [hget] at hc
  have hlt':∀ j∈idx,j < ops.size:=fun j hj=>hlt j (by simp [hj])
  rcases zx hc with ⟨hb1,hb2⟩ | ⟨hd,hdst,hcomp,hg⟩
  ·simp at hb1
  ·obtain ⟨w1,_⟩:=zl he hg
   simp only [wpOps,ho]
   rw [w1 rfl,if_pos rfl]
   left
   have hco:=hcomp rfl
   obtain ⟨c,hop,hcal,hfn,hxs⟩:=z3p hco
   obtain ⟨hl1,hl2⟩:=he.evalL hxs hv
   have hrun:(execOp a.eval (ops[i])).run P w = .ok (.enter f (c.args.map a.eval)) w:=by
    simp [execOp,hop,resolve,hcal,Act.eval,Deferred.ofValue,invoke,z1b hfn]
   refine z3g hrun hr (by simpa using hl1) (fun j v hj=>by
    have:=hl2 j v hj
    simpa [Array.getD_eq_getD_getElem?,List.getD_eq_getElem?_getD] using this) hac fun v w' m' r h' g1 g2 g3 g4 => ?_
   refine z15 (fun _ _ _ hp=>PA.from g3 hp) idx _ _ (g4 ops idx hlt' hl m' w' _ g1 ?_)
   have hd':d=(ops[i]).dst:=hd
   rw [hd']
   exact (he.step g3).putR hdst g2

theorem AC.mono {f:Nat}{vs:List AV}{R R':AV→AHeap→Prop}(hac:AC P f vs h R)(hR:∀ r h',R r h'→R' r h'):AC P f vs h R' :=
 fun m w cargs hr hl hv=>(hac m w cargs hr hl hv).mono fun _ _ ⟨v,m',r,h',e,g1,g2,g3,g4⟩=>⟨v,m',r,h',e,g1,g2,g3,hR _ _ g4⟩
end
end Go.Abs

namespace Go.Abs
open Go

inductive RC where
 | t (n : Nat)
 | cell (n sz : Nat) (ag : Bool)
 deriving Inhabited
def z61 (P:Program)(N:Nat):ResultVar→Option RC
 | .tmp t => if t < N then some (.t t) else none
 | .cell a ty => match tyI P ty with
  | some (sz, ag) => if ag = true ∨ sz = 1 then some (.cell a sz ag) else none
  | none => none
def zb3 (g:Nat→Option AObj)(e:Env):RC→Option AV
 | .t n => lk n e
 | .cell n sz ag => match lk n e with
  | some p => match rdP g p with
   | some (_, c, i, off) => match c[i]? with
    | some cells => getC sz ag cells off
    | none => none
   | none => none
  | none => none
def resA (g:Nat→Option AObj)(e:Env):List RC→Option (List AV)
 | [] => some []
 | r :: rs => match zb3 g e r, resA g e rs with
  | some v, some vs => some (v :: vs)
  | _, _ => none
def fin:List AV→AV
 | [v] => v
 | vs => .tup vs
def argE:Nat→List AV→Env
 | _, [] => []
 | i, v :: vs => (i, some v) :: argE (i + 1) vs

def FnIs (P:Program)(f N:Nat)(cc:CC)(rcs:List RC):Prop :=
 ∃ fn code,P.funcs[f]? = some fn∧fn.body=some code∧fn.ntmps=N∧compC P N code=cc∧ofL (z61 P N) fn.results.toList=some rcs

section
variable {P:Program}{N f:Nat}{cc:CC}{rcs:List RC}{vs:List AV}{h:AHeap}

theorem zh0:∀ (vs:List AV) (i k:Nat),lk k (argE i vs)=if i≤k then vs[k - i]? else none
 | [], i, k => by simp [argE, z6, z1o]
 | v :: vs, i, k => by
  simp only [argE,z6,z1o]
  by_cases e:k=i
  ·subst e;simp
  ·rw [if_neg e,zh0 vs (i+1) k]
   by_cases h1:i≤k
   ·rw [if_pos h1,if_pos (by omega),show k - i=(k - (i+1))+1 by omega]
    simp
   ·rw [if_neg h1,if_neg (by omega)]

theorem zpf {m:Inj}{w:World}{e:Env}{a:Act}(hr:HR m h w)(he:ER N m h w e a){rv:ResultVar}{rc:RC}(hc:z61 P N rv=some rc){v:AV}(hv:zb3 h.get e rc=some v) :
  ∃ cv,(match rv with
   | .tmp t => pure (a.tmps.getD t undef)
   | .cell p t => do loadVar t (← asAddr (a.tmps.getD p undef)) : Sem Value).run P w = .ok cv w ∧ VR m h w v cv := by
 cases rv with
 | tmp t =>
  simp only [z61] at hc
  split at hc
  ·cases hc;exact ⟨_,rfl,he.val t v hv⟩
  ·cases hc
 | cell p ty =>
  simp only [z61] at hc
  split at hc
  ·rename_i sz ag ht
   split at hc
   ·rename_i hag
    cases hc
    obtain ⟨hsz,hagg⟩:=z66 ht
    simp only [zb3] at hv
    split at hv
    ·rename_i q g1
     split at hv
     ·rename_i s c i off g2
      split at hv
      ·rename_i cells g3
       obtain ⟨ad,hp,hlen,hcell⟩:=zp8 hr (he.val p q g1) g2
       obtain ⟨G,hG1,hG2,hsc⟩:=hcell cells g3
       have hl:=hlen cells (List.mem_of_getElem? g3)
       obtain ⟨hle,hA,hB⟩:=zgt hv hag hl hsc hG2
       cases ag with
       | true =>
        refine ⟨_,?_,hA rfl⟩
        have:=run_loadCells (P:=P) w ad sz G (fun j hj=>hG1 j (by omega))
        simp only [Sem.run_bind,hp,asAddr,Sem.run_pure,Result.andThen_ok,loadVar,hagg,if_true,hsz,this]
       | false =>
        refine ⟨_,?_,hB rfl⟩
        have h10:sz=1:=by simpa using hag
        have:=hG1 0 (by omega)
        rw [Addr.add_zero'] at this
        simp [hp,asAddr,loadVar,hagg,this]
      ·cases hv
     ·cases hv
    ·cases hv
   ·cases hc
  ·cases hc

theorem zf7 {m:Inj}{w:World}{e:Env}{a:Act}(hr:HR m h w)(he:ER N m h w e a){fn:Func}(hc:ofL (z61 P N) fn.results.toList=some rcs){rs:List AV}(hv:resA h.get e rcs=some rs) :
  ∃ v,(results fn a.tmps).run P w = .ok v w∧VR m h w (fin rs) v:=by
 have key:∀ (l:List ResultVar) (rcs:List RC) (rs:List AV),ofL (z61 P N) l=some rcs→resA h.get e rcs=some rs →
   ∃ cvs:List Value,(l.mapM (fun
    | .tmp t => pure (a.tmps.getD t undef)
    | .cell p t => do loadVar t (← asAddr (a.tmps.getD p undef))) : Sem (List Value)).run P w = .ok cvs w ∧ rs.length = cvs.length ∧ ∀ (i : Nat) (v : AV), rs[i]? = some v → VR m h w v (cvs.getD i undef) := by
  intro l
  induction l with
  | nil => intro rcs rs h1 h2; simp [ofL] at h1; subst h1; simp [resA] at h2; subst h2; exact ⟨[], by simp, rfl, by simp⟩
  | cons rv l ih =>
   intro rcs rs h1 h2
   simp only [ofL] at h1
   split at h1
   ·rename_i rc rcs' g1 g2
    cases h1
    simp only [resA] at h2
    split at h2
    ·rename_i v vs' g3 g4
     cases h2
     obtain ⟨cvs,q1,q2,q3⟩:=ih rcs' vs' g2 g4
     obtain ⟨cv,p1,p2⟩:=zpf hr he g1 g3
     refine ⟨cv::cvs,?_,by simp [q2],fun i u hu => ?_⟩
     ·simp only [List.mapM_cons,Sem.run_bind]
      rw [p1]
      simp only [Result.andThen_ok]
      rw [q1]
      simp
     ·cases i with
      | zero => simp at hu; subst hu; simpa using p2
      | succ i => simp at hu; simpa using q3 i u hu
    ·cases h2
   ·cases h1
 obtain ⟨cvs,q1,q2,q3⟩:=key _ rcs rs hc hv
 have hrun:(results fn a.tmps).run P w = .ok (if h:cvs.toArray.size=1 then cvs.toArray[0] else .tuple cvs.toArray) w:=by
  unfold results
  rw [Array.mapM_eq_mapM_toList]
  simp only [Sem.run_bind,Sem.run_map,Sem.run_pure]
  erw [q1]
  rfl
 by_cases h1:cvs.length=1
 ·obtain ⟨cv,rfl⟩:=List.length_eq_one_iff.1 h1
  rw [List.length_singleton] at q2
  obtain ⟨v,rfl⟩:=List.length_eq_one_iff.1 q2
  refine ⟨cv,by rw [hrun];simp,?_⟩
  have:=q3 0 v rfl
  simpa [fin] using this
 ·refine ⟨.tuple cvs.toArray,by rw [hrun];simp [h1],?_⟩
  have hf:fin rs = .tup rs:=by
   cases rs with
   | nil => rfl
   | cons v rs =>
    cases rs with
    | nil => simp at q2; omega
    | cons u rs => rfl
  rw [hf]
  exact .tup _ _ (by simp [q2]) fun i v hi=>by
   have:=q3 i v hi
   simpa [Array.getD_eq_getD_getElem?,List.getD_eq_getElem?_getD] using this

theorem AC.intro {R:AV→AHeap→Prop}(hfn:FnIs P f N cc rcs)(hn:vs.length≤N)
  (hw:AW P N cc (fun ex e h1=>(ex = .ret∨ex = .normal)∧∃ rs,resA h1.get e rcs=some rs∧R (fin rs) h1) (argE 0 vs) h):AC P f vs h R:=by
 obtain ⟨fn,code,h1,h2,h3,h4,h5⟩:=hfn
 intro m w cargs hr hl hv
 refine calls_of_wp h1 h2 (wp_mono (hw code h4 m w _ hr ⟨by simp [h3,← hl];omega,rfl,fun i v hi => ?_⟩) fun ex a' w' hp => ?_)
 ·rw [zh0] at hi
  simp at hi
  have hlt:i < cargs.size:=by rw [← hl];exact (List.getElem?_eq_some_iff.1 hi).1
  have:=hv i v hi
  simpa [Array.getD_eq_getD_getElem?,Array.getElem?_append_left hlt] using this
 ·obtain ⟨m',e',h',g1,g2,g3,hex,rs,g4,g5⟩:=hp
  obtain ⟨v,hrun,hvr⟩:=zf7 g1 g2 h5 g4
  rcases hex with rfl | rfl
  ·exact ⟨g2.defers,v,hrun,v,m',fin rs,h',rfl,g1,hvr,g3,g5⟩
  ·exact ⟨g2.defers,v,hrun,v,m',fin rs,h',rfl,g1,hvr,g3,g5⟩

inductive Clo (u:Nat→Prop):AV→Prop
 | bool (b : Bool) : Clo u (.bool b)
 | int (k : IntKind) (n : Int) : Clo u (.int k n)
 | str (s : List UInt8) : Clo u (.str s)
 | nilp : Clo u .nilp
 | ptr (id i off : Nat) (hu : u id) : Clo u (.ptr id i off)
 | iptr (sz : Nat) (c : List (List AV)) (i off : Nat) (hc : ∀ x ∈ c, ∀ v ∈ x, Clo u v) : Clo u (.iptr sz c i off)
 | nils : Clo u .nils
 | imm (sz : Nat) (c : List (List AV)) (hc : ∀ x ∈ c, ∀ v ∈ x, Clo u v) : Clo u (.imm sz c)
 | app (id g sz : Nat) (c : List (List AV)) (hu : u id) (hc : ∀ x ∈ c, ∀ v ∈ x, Clo u v) : Clo u (.app id g sz c)
 | ref (id off len : Nat) (hu : u id) : Clo u (.ref id off len)
 | nilm : Clo u .nilm
 | map (id : Nat) (hu : u id) : Clo u (.map id)
 | nilf : Clo u .nilf
 | func (fn : Fn) (vs us : List AV) (h1 : ∀ v ∈ vs, Clo u v) (h2 : ∀ v ∈ us, Clo u v) : Clo u (.func fn vs us)
 | nili : Clo u .nili
 | iface (t : TypeId) (v : AV) (hv : Clo u v) : Clo u (.iface t v)
 | agg (vs : List AV) (hv : ∀ v ∈ vs, Clo u v) : Clo u (.agg vs)
 | tup (vs : List AV) (hv : ∀ v ∈ vs, Clo u v) : Clo u (.tup vs)

theorem zcl {c:List (List AV)}{p:AV→Prop}(hp:∀ (i:Nat) (cells:List AV),c[i]? = some cells→∀ (j:Nat) (v:AV),cells[j]? = some v→p v):∀ x∈c,∀ v∈x,p v:=by
 intro x hx v hv
 obtain ⟨i,hi,rfl⟩:=List.mem_iff_getElem.1 hx
 obtain ⟨j,hj,rfl⟩:=List.mem_iff_getElem.1 hv
 exact hp i _ (List.getElem?_eq_getElem hi) j _ (List.getElem?_eq_getElem hj)
theorem z97 {c:List AV}{p:AV→Prop}(hp:∀ (i:Nat) (v:AV),c[i]? = some v→p v):∀ v∈c,p v:=by
 intro v hv
 obtain ⟨i,hi,rfl⟩:=List.mem_iff_getElem.1 hv
 exact hp i _ (List.getElem?_eq_getElem hi)

theorem VR.clo {m:Inj}{w:World}{v:AV}{c:Value}(hv:VR m h w v c):Clo h.used v:=by
 induction hv with
 | bool b => exact .bool b
 | int k n => exact .int k n
 | str s => exact .str s
 | nilp => exact .nilp
 | ptr id i off a hu ha => exact .ptr _ _ _ hu
 | iptr sz c i off b o F hic hl hs _ ih => exact .iptr _ _ _ _ (zcl ih)
 | nils0 => exact .nils
 | nils1 a => exact .nils
 | imm0 sz => exact .imm _ _ (by simp)
 | imm1 sz a cap => exact .imm _ _ (by simp)
 | imm sz c b o cap F hic hl hs _ hc ih => exact .imm _ _ (zcl ih)
 | app0 id g sz hu ht => exact .app _ _ _ _ hu (by simp)
 | app1 id g sz a hu ht => exact .app _ _ _ _ hu (by simp)
 | app id g sz c b cap F hu hic hl hs _ hc ht ih => exact .app _ _ _ _ hu (zcl ih)
 | ref id off len cap a hu hc ha => exact .ref _ _ _ hu
 | nilm => exact .nilm
 | map id r hu ha => exact .map _ hu
 | nilf => exact .nilf
 | func fn vs us cs ds hv hu _ _ ih1 ih2 => exact .func _ _ _ (z97 ih1) (z97 ih2)
 | nili => exact .nili
 | iface t v c _ ih => exact .iface _ _ ih
 | agg vs cs hv hs _ ih => exact .agg _ (z97 ih)
 | tup vs cs hv _ ih => exact .tup _ (z97 ih)

def Keeps (h h1:AHeap):Prop:=h.next≤h1.next∧∀ id,h.used id→h1.get id=h.get id
theorem Keeps.refl (h:AHeap):Keeps h h:=⟨Nat.le_refl _,fun _ _=>rfl⟩
theorem Keeps.put {h h1:AHeap}(hk:Keeps h h1){nm:Nat}(hn:h.next≤nm)(x:AObj):Keeps h (h1.put nm x):=by
 refine ⟨?_,fun id hu => ?_⟩
 ·have:=hk.1;simp only [AHeap.put];split <;> omega
 ·have:=hu.1
  simp only [AHeap.put]
  rw [if_neg (by omega)]
  exact hk.2 id hu
theorem Keeps.set {h h1:AHeap}(hk:Keeps h h1){nm:Nat}(hn:h.next≤nm)(x:Option AObj):Keeps h (h1.set nm x):=by
 refine ⟨hk.1,fun id hu => ?_⟩
 have:=hu.1
 simp only [AHeap.set]
 rw [if_neg (by omega)]
 exact hk.2 id hu

section restrict
variable {m:Inj}{h1:AHeap}{w:World}
theorem zh1 (hs:∀ id x,h.get id=some x→h1.get id=some x){b o:Nat}(ho:Own m h b o):Own m h1 b o:=by
 obtain ⟨id,t,⟨x,hx⟩,h2,h3⟩:=ho
 exact ⟨id,t,⟨x,hs id x hx⟩,h2,h3⟩
theorem IC.sub_heap (hs:∀ id x,h.get id=some x→h1.get id=some x){b o n:Nat}{F:Nat→Value}(hic:IC w (Own m h1) b o n F):IC w (Own m h) b o n F :=
 fun k hk=>⟨(hic k hk).1,fun ho=>(hic k hk).2 (zh1 hs ho)⟩

theorem VR.restrict (hs:∀ id x,h.get id=some x→h1.get id=some x){v:AV}{c:Value}(hv:VR m h1 w v c)(hc:Clo h.used v):VR m h w v c:=by
 induction hv with
 | bool b => exact .bool b
 | int k n => exact .int k n
 | str s => exact .str s
 | nilp => exact .nilp
 | ptr id i off a hu ha => cases hc with | ptr _ _ _ hu' => exact .ptr _ _ _ _ hu' fun sz c hg => ha sz c (hs _ _ hg)
 | iptr sz c i off b o F hic hl hsc _ ih => cases hc with | iptr _ _ _ _ hc => exact .iptr _ _ _ _ _ _ F (hic.sub_heap hs) hl hsc fun i cells hi j v hj => ih i cells hi j v hj (hc _ (List.mem_of_getElem? hi) _ (List.mem_of_getElem? hj))
 | nils0 => exact .nils0
 | nils1 a => exact .nils1 a
 | imm0 sz => exact .imm0 sz
 | imm1 sz a cap => exact .imm1 sz a cap
 | imm sz c b o cap F hic hl hsc _ hcap ih => cases hc with | imm _ _ hc => exact .imm _ _ _ _ _ F (hic.sub_heap hs) hl hsc (fun i cells hi j v hj => ih i cells hi j v hj (hc _ (List.mem_of_getElem? hi) _ (List.mem_of_getElem? hj))) hcap
 | app0 id g sz hu ht => cases hc with | app _ _ _ _ hu' _ => exact .app0 _ _ _ hu' fun g' n' hg => ht g' n' (hs _ _ hg)
 | app1 id g sz a hu ht => cases hc with | app _ _ _ _ hu' _ => exact .app1 _ _ _ _ hu' fun g' n' hg => ht g' n' (hs _ _ hg)
 | app id g sz c b cap F hu hic hl hsc _ hcap ht ih => cases hc with | app _ _ _ _ hu' hc => exact .app _ _ _ _ _ _ F hu' (hic.sub_heap hs) hl hsc (fun i cells hi j v hj => ih i cells hi j v hj (hc _ (List.mem_of_getElem? hi) _ (List.mem_of_getElem? hj))) hcap fun g' n' hg => ht g' n' (hs _ _ hg)
 | ref id off len cap a hu hcap ha => cases hc with | ref _ _ _ hu' => exact .ref _ _ _ _ _ hu' hcap fun sz c hg => ha sz c (hs _ _ hg)
 | nilm => exact .nilm
 | map id r hu ha => cases hc with | map _ hu' => exact .map _ _ hu' fun es hg => ha es (hs _ _ hg)
 | nilf => exact .nilf
 | func fn vs us cs ds hv hu _ _ ih1 ih2 => cases hc with | func _ _ _ c1 c2 => exact .func _ _ _ _ _ hv hu (fun i v hi => ih1 i v hi (c1 _ (List.mem_of_getElem? hi))) (fun i v hi => ih2 i v hi (c2 _ (List.mem_of_getElem? hi)))
 | nili => exact .nili
 | iface t v c _ ih => cases hc with | iface _ _ c1 => exact .iface _ _ _ (ih c1)
 | agg vs cs hv hsc _ ih => cases hc with | agg _ c1 => exact .agg _ _ hv hsc fun i v hi => ih i v hi (c1 _ (List.mem_of_getElem? hi))
 | tup vs cs hv _ ih => cases hc with | tup _ c1 => exact .tup _ _ hv fun i v hi => ih i v hi (c1 _ (List.mem_of_getElem? hi))

theorem zh2 {m₀:Inj}{w₀:World}(hr₀:HR m₀ h w₀)(hr:HR m h1 w)(hs:∀ id x,h.get id=some x→h1.get id=some x):HR m h w where
 gapl:=hr₀.gapl
 live:=hr₀.live
 inj:=fun i j x y b s t hi hj=>hr.inj i j x y b s t (hs i x hi) (hs j y hj)
 obj:=fun id x hg=>by
  have ho:=hr.obj id x (hs id x hg)
  have ho₀:=hr₀.obj id x hg
  cases x with
  | mem sz c =>
   obtain ⟨b,cc,T,q1,q2,q3,q4⟩:=ho
   obtain ⟨_,_,_,_,_,_,p4⟩:=ho₀
   exact ⟨b,cc,T,q1,q2,q3,q4.1,q4.2.1,fun i cells hi j v hj=>(q4.2.2 i cells hi j v hj).restrict hs (p4.2.2 i cells hi j v hj).clo⟩
  | tail _ _ => exact ho
  | map es =>
   obtain ⟨b,ens,ck,q1,q2,q3,q4⟩:=ho
   obtain ⟨_,_,_,_,_,_,p4⟩:=ho₀
   exact ⟨b,ens,ck,q1,q2,q3,fun i k v hi=>⟨(q4 i k v hi).1.restrict hs (p4 i k v hi).1.clo,(q4 i k v hi).2.restrict hs (p4 i k v hi).2.clo⟩⟩
  | loop l st N es fn ps asg bdy d =>
   obtain ⟨q1,T,q2,q3,q4⟩:=ho
   obtain ⟨_,_,_,_,p4⟩:=ho₀
   exact ⟨q1,T,q2,q3,fun s v hi=>(q4 s v hi).restrict hs (p4 s v hi).clo⟩
  | dfr b o => exact ho
theorem zb4 {m₀:Inj}{w₀:World}(st:Step m₀ h w₀ m h1 w)(hr₀:HR m₀ h w₀)(hs:∀ id x,h.get id=some x→h1.get id=some x):Step m₀ h w₀ m h w where
 os:=st.os
 tape:=st.tape
 output:=st.output
 size:=st.size
 kind:=fun b cc T fz hb hf=>st.kind b cc T fz hb fun hf1=>hf fun id t x hg=>hf1 id t x (hs id x hg)
 free:=fun b hb hf=>⟨(st.free b hb hf).1,fun id t x hg=>(st.free b hb hf).2 id t x (hs id x hg)⟩
 cell:=fun b o v hc hn=>⟨(st.cell b o v hc hn).1,fun ho=>(st.cell b o v hc hn).2 (zh1 hs ho)⟩
 used:=fun _ hu=>hu
 live:=fun id x hu hg=>by
  obtain ⟨x0,h0,hm,hc⟩:=st.live id x hu (hs id x hg)
  exact ⟨x0,h0,hm,hc⟩

inductive Fz (h h1:AHeap):AV→AV→Prop
 | clo (r : AV) (hc : Clo h.used r) : Fz h h1 r r
 | nil (sz : Nat) : Fz h h1 .nils (.imm sz [])
 | app (id g sz : Nat) (c : List (List AV)) (hc : ∀ x ∈ c, ∀ v ∈ x, Clo h.used v) : Fz h h1 (.app id g sz c) (.imm sz c)
 | ref (id off len sz : Nat) (c : List (List AV)) (hg : h1.get id = some (.mem sz c)) (hu : ¬ h.used id) (hc : ∀ x ∈ c, ∀ v ∈ x, Clo h.used v) : Fz h h1 (.ref id off len) (.imm sz ((c.drop off).take len))
 | agg (rs rs' : List AV) (hl : rs.length = rs'.length) (hsc : ∀ r' ∈ rs', AV.scalar r' = true) (hf : ∀ (i : Nat) (r r' : AV), rs[i]? = some r → rs'[i]? = some r' → Fz h h1 r r') : Fz h h1 (.agg rs) (.agg rs')
 | tup (rs rs' : List AV) (hl : rs.length = rs'.length) (hf : ∀ (i : Nat) (r r' : AV), rs[i]? = some r → rs'[i]? = some r' → Fz h h1 r r') : Fz h h1 (.tup rs) (.tup rs')

theorem Fz.vr (hr₁:HR m h1 w)(hs:∀ id x,h.get id=some x→h1.get id=some x)(hlive:∀ id x,h.get id=some x→h.used id){r r':AV}(hz:Fz h h1 r r'):∀ {v:Value},VR m h1 w r v→VR m h w r' v:=by
 induction hz with
 | clo r hc => exact fun hv => hv.restrict hs hc
 | nil sz =>
  intro v hv
  cases hv with
  | nils0 => exact .imm0 _
  | nils1 a => exact .imm1 _ _ _
 | app id g sz c hc =>
  intro v hv
  cases hv with
  | app0 => exact .imm0 _
  | app1 => exact .imm1 _ _ _
  | app _ _ _ _ b cap F hu hic hl hsc hrr hcap ht => exact .imm _ _ _ _ _ F (hic.sub_heap hs) hl hsc (fun i cells hi j v hj => (hrr i cells hi j v hj).restrict hs (hc _ (List.mem_of_getElem? hi) _ (List.mem_of_getElem? hj))) hcap
 | ref id off len sz c hg hu hc =>
  intro v hv
  cases hv with
  | ref _ _ _ cap a hu' hcap ha =>
   obtain ⟨b,hb,hle,had,cc,T,hcc,hsz⟩:=ha _ _ hg
   obtain ⟨b',cc',T',q1,q2,q3,q4⟩:=hr₁.obj _ _ hg
   rw [hb] at q1
   cases q1
   have hlen:((c.drop off).take len).length=len:=by simp;omega
   rcases Nat.eq_zero_or_pos len with h0 | h0
   ·subst h0
    simp only [List.take_zero]
    exact .imm1 _ _ _
   ·rcases had with h00 | rfl
    ·omega
    ·have hrow:=(q4.drop off).take len
     have:=VR.imm (m:=m) (h:=h) (w:=w) sz ((c.drop off).take len) b (off*sz) cap (fun k=>cc'.getD (off*sz+k) undef) (fun k hk=>⟨?_,?_⟩) hrow.1 hrow.2.1 (fun i cells hi j v hj=>(hrow.2.2 i cells hi j v hj).restrict hs (hc _ (List.mem_of_mem_drop (List.mem_of_mem_take (List.mem_of_getElem? hi))) _ (List.mem_of_getElem? hj))) (by omega)
     ·rwa [hlen] at this
     ·rw [hlen] at hk
      have h5:(off+len)*sz≤c.length*sz:=Nat.mul_le_mul_right _ hle
      rw [Nat.add_mul] at h5
      rw [cell_of_row w b _ cc' T' (0,0) q2]
      simp [Array.getD_eq_getD_getElem?,show off*sz+k < cc'.size by omega]
     ·rintro ⟨j,t,⟨x,hx⟩,hm,_⟩
      have:=hr₁.inj j id x _ b t 0 (hs j x hx) hg hm hb
      subst this
      exact hu (hlive _ _ hx)
 | agg rs rs' hl hsc _ ih =>
  intro v hv
  cases hv with
  | agg _ cs q1 q2 q3 =>
   refine .agg _ _ (by omega) hsc fun i r' hi => ?_
   have hlt:i < rs.length:=by rw [hl];exact (List.getElem?_eq_some_iff.1 hi).1
   exact ih i _ r' (List.getElem?_eq_getElem hlt) hi (q3 i _ (List.getElem?_eq_getElem hlt))
 | tup rs rs' hl _ ih =>
  intro v hv
  cases hv with
  | tup _ cs q1 q3 =>
   refine .tup _ _ (by omega) fun i r' hi => ?_
   have hlt:i < rs.length:=by rw [hl];exact (List.getElem?_eq_some_iff.1 hi).1
   exact ih i _ r' (List.getElem?_eq_getElem hlt) hi (q3 i _ (List.getElem?_eq_getElem hlt))
end restrict

def AE (P:Program)(f:Nat)(vs:List AV)(h:AHeap)(r:AV)(h':AHeap):Prop:=AC P f vs h fun r1 h1=>r1=r∧h1=h'

theorem AE.pure {r:AV}(hfn:FnIs P f N cc rcs)(hn:vs.length≤N)
  (hw:AW P N cc (fun ex e h1=>(ex = .ret∨ex = .normal)∧Keeps h h1∧∃ rs,resA h1.get e rcs=some rs∧Fz h h1 (fin rs) r) (argE 0 vs) h):AE P f vs h r h:=by
 have hac:AC P f vs h (fun r1 h1=>Keeps h h1∧Fz h h1 r1 r) :=
  AC.intro hfn hn (hw.mono fun ex e h1 ⟨q1,q2,rs,q3,q4⟩=>⟨q1,rs,q3,q2,q4⟩)
 intro m w cargs hr hl hv
 refine (hac m w cargs hr hl hv).mono fun ex w' ⟨v,m',r1,h1,e1,g1,g2,g3,hk,hz⟩ => ?_
 have hs:∀ id x,h.get id=some x→h1.get id=some x:=fun id x hg=>(hk.2 id (hr.live id x hg)).trans hg
 exact ⟨v,m',r,h,e1,zh2 hr g1 hs,hz.vr g1 hs hr.live g2,zb4 g3 hr hs,rfl,rfl⟩
end
end Go.Abs

namespace Go.Abs
open Go

section
variable {P:Program}{N:Nat}{Q:Exit→Env→AHeap→Prop}{e:Env}{h:AHeap}

theorem AE.use {f:Nat}{vs:List AV}{r:AV}{h':AHeap}{K:AV→AHeap→Prop}(hae:AE P f vs h r h')(hk:K r h'):AC P f vs h K :=
 hae.mono fun r1 h1 ⟨e1,e2⟩=>by subst e1;subst e2;exact hk

theorem AW.condT {c:Opd}{x y:CC}(hc:ev e c=some (.bool true))(hw:AW P N x Q e h):AW P N (.cond c x y) Q e h:=AW.cond hc (by simpa using hw)
theorem AW.condF {c:Opd}{x y:CC}(hc:ev e c=some (.bool false))(hw:AW P N y Q e h):AW P N (.cond c x y) Q e h:=AW.cond hc (by simpa using hw)

theorem AL.gcall {d:Option Nat}{f:Nat}{xs:List Opd}{l:List CI}{vs:List AV}{s:Nat}{b:Bool}(hg:lk s e=some (.bool b))(hv:evL e xs=some vs)(hac:AC P f vs h (fun r h'=>AL P N l Q (putR d (some r) e) h')):AL P N (⟨d,.call f xs,some (s,b)⟩::l) Q e h:=by
 intro ops idx hlt hl m w a hr he
 cases idx with
 | nil => simp at hl
 | cons i idx =>
  simp only [List.map_cons,List.cons.injEq] at hl
  obtain ⟨hc,hl⟩:=hl
  have hilt:=hlt i (by simp)
  have ho:ops[i]? = some ops[i]:=Array.getElem?_eq_getElem hilt
  have hget:ops.getD i default=ops[i]:=by simp [hilt]
  rw [hget] at hc
  have hlt':∀ j∈idx,j < ops.size:=fun j hj=>hlt j (by simp [hj])
  rcases zx hc with ⟨hb1,hb2⟩ | ⟨hd,hdst,hcomp,hgd⟩
  ·simp at hb1
  ·obtain ⟨_,w2⟩:=zl he hgd
   simp only [wpOps,ho]
   rw [w2 s b b rfl hg,if_pos (by simp)]
   left
   have hco:=hcomp rfl
   obtain ⟨c,hop,hcal,hfn,hxs⟩:=z3p hco
   obtain ⟨hl1,hl2⟩:=he.evalL hxs hv
   have hrun:(execOp a.eval (ops[i])).run P w = .ok (.enter f (c.args.map a.eval)) w:=by
    simp [execOp,hop,resolve,hcal,Act.eval,Deferred.ofValue,invoke,z1b hfn]
   refine z3g hrun hr (by simpa using hl1) (fun j v hj=>by
    have:=hl2 j v hj
    simpa [Array.getD_eq_getD_getElem?,List.getD_eq_getElem?_getD] using this) hac fun v w' m' r h' g1 g2 g3 g4 => ?_
   refine z15 (fun _ _ _ hp=>PA.from g3 hp) idx _ _ (g4 ops idx hlt' hl m' w' _ g1 ?_)
   have hd':d=(ops[i]).dst:=hd
   rw [hd']
   exact (he.step g3).putR hdst g2

theorem zn (h:AHeap)(nm:Nat)(x:AObj)(id:Nat):(h.put nm x).get id=if id=nm then some x else h.get id:=rfl
theorem zc (h:AHeap)(nm:Nat)(x:Option AObj)(id:Nat):(h.set nm x).get id=if id=nm then x else h.get id:=rfl
theorem get_put_same {h:AHeap}{nm:Nat}{x:AObj}:(h.put nm x).get nm=some x:=by simp [AHeap.put]
theorem zf8 {h:AHeap}{nm:Nat}{x:AObj}{id:Nat}(hne:id≠nm):(h.put nm x).get id=h.get id:=by simp [AHeap.put,hne]
theorem za {h:AHeap}{nm:Nat}{x:Option AObj}:(h.set nm x).get nm=x:=by simp [AHeap.set]
theorem z98 {h:AHeap}{nm:Nat}{x:Option AObj}{id:Nat}(hne:id≠nm):(h.set nm x).get id=h.get id:=by simp [AHeap.set,hne]
theorem z4m (h:AHeap)(x:AObj):(h.put h.next x).next=h.next+1:=by simp [AHeap.put]
def subE (e' e:Env):Prop:=∀ i v,lk i e'=some v→lk i e=some v
theorem subE.nil (e:Env):subE [] e:=fun i v h=>by simp [z6,z1o] at h
theorem subE.cons {i:Nat}{v:AV}{e' e:Env}(h1:lk i e=some v)(h2:subE e' e):subE ((i,some v)::e') e:=fun j u hj=>by
 simp only [z6,z1o] at hj
 split at hj
 ·rename_i e1;subst e1;rw [← hj];exact h1
 ·exact h2 j u hj
end
end Go.Abs

namespace Go.Abs
open Go

def met (e:Env):Option (Nat×Bool)→Prop
 | none => True
 | some (s, b) => lk s e = some (.bool b)

structure Stp (c:CI)(e:Env)(h:AHeap)(e':Env)(h':AHeap):Prop where
 ok:z4x c e h=some (e',h')

def encB (b:UInt8):List AV:=[.int .u8 b.toNat]
theorem zn8:∀ {l:List UInt8},toB (l.map encB)=some l
 | [] => rfl
 | b :: l => by
  have:=zn8 (l:=l)
  simp [encB,toB] at this ⊢
  simp [this]
abbrev Pr:=Int×Int
def encP (p:Pr):List AV:=[.int .u64 p.1,.int .u64 p.2]
abbrev Nn:=Int×Int×Int
def encN (n:Nn):List AV:=[.int .u32 n.1,.int .u32 n.2.1,.int .u64 n.2.2]
structure Iss where
 key:Pr
 n:Nn
 head:List UInt8
 data:List UInt8
 out:List UInt8
 tag:Pr
def encI (x:Iss):List AV:=[.int .u64 x.key.1,.int .u64 x.key.2,.int .u32 x.n.1,.int .u32 x.n.2.1,.int .u64 x.n.2.2,.imm 1 (x.head.map encB),.imm 1 (x.data.map encB),.imm 1 (x.out.map encB),.int .u64 x.tag.1,.int .u64 x.tag.2]
def encS (b:List UInt8)(t:Pr):List AV:=[.imm 1 (b.map encB),.int .u64 t.1,.int .u64 t.2]
structure Act7 where
 op:Int
 key:Pr
 n:Nn
 head:List UInt8
 data:List UInt8
 at7:Int
 x:Int
def encA (a:Act7):List AV:=[.int .i64 a.op,.int .u64 a.key.1,.int .u64 a.key.2,.int .u32 a.n.1,.int .u32 a.n.2.1,.int .u64 a.n.2.2,.imm 1 (a.head.map encB),.imm 1 (a.data.map encB),.int .i64 a.at7,.int .u64 a.x]
def grp:Ins→Nat
 | .mov _ => 0
 | .ext _ _ | .fld _ _ _ _ | .faddr _ _ | .nilck _ | .len _ => 1
 | .load _ _ _ => 2
 | .bin _ _ _ | .sh _ _ _ | .conv _ _ | .not _ | .eqv _ _ _ _ | .pick _ _ _ | .mn _ _ => 3
 | .alloc _ | .box _ _ | .build _ _ | .store _ _ _ | .bsl0 | .bsl _ _ => 4
 | .call _ _ | .callv _ _ | .raw _ | .bad | .isnil _ _ => 6
 | _ => 5
theorem Stp.grp {c:CI}{e:Env}{h:AHeap}{e':Env}{h':AHeap}(k:Nat)(_hk:Go.Abs.grp c.i=k)(hs:Stp c e h e' h'):Stp c e h e' h':=hs

section
variable {P:Program}{N:Nat}{Q:Exit→Env→AHeap→Prop}{e:Env}{h:AHeap}{d:Nat}{l:List CI}

theorem zo9 {c:CI}(hg:met e c.g):z4x c e h=z3o c e h:=by
 unfold z4x
 split
 ·rfl
 ·rename_i s b hgs
  simp only [met,hgs] at hg
  simp [hg]
theorem Stp.ins {c:CI}{r:Option AV}{f:Eff}(hx:evalI h.next c.i e h.get=some (r,f))(hg:met e c.g):Stp c e h (putR c.d r e) (f.on h.next h):=by
 exact ⟨by rw [zo9 hg];simp [z3o,hx]⟩
theorem Stp.unmet {i:Ins}{s:Nat}{b t:Bool}(hg:lk s e=some (.bool t))(hne:(!b)=t):Stp ⟨some d,i,some (s,b)⟩ e h ((d,none)::e) h:=by
 subst hne;exact ⟨by simp [z4x,hg,putR]⟩
variable {g:Option (Nat×Bool)}{x y z p:Opd}{u v r:AV}{a b:Int}{k k':IntKind}

theorem Stp.mov (hx:ev e x=some v)(hg:met e g):Stp ⟨some d,.mov x,g⟩ e h ((d,some v)::e) h :=
 Stp.ins (r:=some v) (f := .none) (by simp [evalI,hx]) hg
theorem Stp.pickT (hc:ev e x=some (.bool true))(hx:ev e y=some v)(hg:met e g):Stp ⟨some d,.pick x y z,g⟩ e h ((d,some v)::e) h :=
 Stp.ins (r:=some v) (f := .none) (by simp [evalI,hc,hx]) hg
theorem Stp.pickF (hc:ev e x=some (.bool false))(hx:ev e z=some v)(hg:met e g):Stp ⟨some d,.pick x y z,g⟩ e h ((d,some v)::e) h :=
 Stp.ins (r:=some v) (f := .none) (by simp [evalI,hc,hx]) hg
theorem Stp.alloc {z:List AV}{nx:Nat}(hn:h.next=nx)(hg:met e g):Stp ⟨some d,.alloc z,g⟩ e h ((d,some (.ptr nx 0 0))::e) (h.put nx (.mem z.length [z])):=by
 subst hn
 exact Stp.ins (r:=some (.ptr h.next 0 0)) (f := .new (.mem z.length [z])) (by simp [evalI]) hg
theorem Stp.box {sz:Nat}(hx:ev e x=some v)(hs:v.cs.length=sz)(ht:v.isTup=false){nx:Nat}(hn:h.next=nx)(hg:met e g):Stp ⟨some d,.box sz x,g⟩ e h ((d,some (.ptr nx 0 0))::e) (h.put nx (.mem sz [v.cs])):=by
 subst hn
 exact Stp.ins (r:=some (.ptr h.next 0 0)) (f := .new (.mem sz [v.cs])) (by simp [evalI,hx,hs,ht]) hg
theorem Stp.build {z:List AV}{ps:List (Nat×Nat×Opd)}{vs:List (Nat×Nat×AV)}{cells:List AV}(hp:evP e ps=some vs)(hf:fillA z vs=some cells)(hg:met e g):Stp ⟨some d,.build z ps,g⟩ e h ((d,some (.agg cells))::e) h :=
 Stp.ins (r:=some (.agg cells)) (f := .none) (by simp [evalI,hp,hf]) hg
theorem Stp.buildN {z:List AV}{ps:List (Nat×Nat×Opd)}{vs:List (Nat×Nat×AV)}{cells cells':List AV}(hp:evP e ps=some vs)(hf:fillA z vs=some cells)(hn:cells=cells')(hg:met e g):Stp ⟨some d,.build z ps,g⟩ e h ((d,some (.agg cells'))::e) h:=by subst hn;exact Stp.build hp hf hg
theorem Stp.boxN {sz:Nat}{cs:List AV}(hx:ev e x=some v)(hs:v.cs.length=sz)(ht:v.isTup=false){nx:Nat}(hn:h.next=nx)(hc:v.cs=cs)(hg:met e g):Stp ⟨some d,.box sz x,g⟩ e h ((d,some (.ptr nx 0 0))::e) (h.put nx (.mem sz [cs])):=by subst hc;exact Stp.box hx hs ht hn hg
theorem Stp.bsl0 (hg:met e g):Stp ⟨some d,.bsl0,g⟩ e h ((d,some .nils)::e) h :=
 Stp.ins (r:=some .nils) (f := .none) (by simp [evalI]) hg
theorem Stp.bsl {sz:Nat}{xs:List Opd}{vs:List AV}{c:List (List AV)}(hv:evL e xs=some vs)(hc:z2y sz vs=some c)(hg:met e g):Stp ⟨some d,.bsl sz xs,g⟩ e h ((d,some (.imm sz c))::e) h :=
 Stp.ins (r:=some (.imm sz c)) (f := .none) (by simp [evalI,hv,hc]) hg
theorem Stp.bslN {sz:Nat}{xs:List Opd}{vs:List AV}{c c':List (List AV)}(hv:evL e xs=some vs)(hc:z2y sz vs=some c)(hn:c=c')(hg:met e g):Stp ⟨some d,.bsl sz xs,g⟩ e h ((d,some (.imm sz c'))::e) h:=by subst hn;exact Stp.bsl hv hc hg
theorem Stp.load {sz s i off:Nat}{ag:Bool}{c:List (List AV)}{cells:List AV}(hx:ev e x=some u)(hp:rdP h.get u=some (s,c,i,off))(hi:c[i]? = some cells)(hv:getC sz ag cells off=some v)(hg:met e g):Stp ⟨some d,.load sz ag x,g⟩ e h ((d,some v)::e) h :=
 Stp.ins (r:=some v) (f := .none) (by simp [evalI,hx,hp,hi,hv]) hg
theorem Stp.load1 {sz s id off:Nat}{ag:Bool}{cells:List AV}(hx:ev e x=some (.ptr id 0 off))(hp:h.get id=some (.mem s [cells]))(hv:getC sz ag cells off=some v)(hg:met e g):Stp ⟨some d,.load sz ag x,g⟩ e h ((d,some v)::e) h :=
 Stp.load hx (by simp only [rdP,hp];rfl) rfl hv hg
theorem Stp.loadp {sz s id i off:Nat}{ag:Bool}{c:List (List AV)}{cells:List AV}(hx:ev e x=some (.ptr id i off))(hp:h.get id=some (.mem s c))(hi:c[i]? = some cells)(hv:getC sz ag cells off=some v)(hg:met e g):Stp ⟨some d,.load sz ag x,g⟩ e h ((d,some v)::e) h :=
 Stp.load hx (by simp only [rdP,hp];rfl) hi hv hg
theorem Stp.loadi {sz s i off:Nat}{ag:Bool}{c:List (List AV)}{cells:List AV}(hx:ev e x=some (.iptr s c i off))(hi:c[i]? = some cells)(hv:getC sz ag cells off=some v)(hg:met e g):Stp ⟨some d,.load sz ag x,g⟩ e h ((d,some v)::e) h :=
 Stp.load hx rfl hi hv hg
theorem Stp.store {sz s id i off:Nat}{c:List (List AV)}{cells:List AV}(hp:ev e p=some (.ptr id i off))(hx:ev e x=some v)(ho:h.get id=some (.mem s c))(hi:c[i]? = some cells)(hs:v.cs.length=sz)(hb:off+sz≤cells.length)(ht:v.isTup=false)(hg:met e g):Stp ⟨none,.store sz p x,g⟩ e h e (h.set id (some (.mem s (c.set i (putC cells off v.cs))))) :=
 Stp.ins (r:=none) (f := .set id (.mem s (c.set i (putC cells off v.cs)))) (by simp [evalI,hx,hp,ho,hi,hs,ht,hb]) hg
theorem Stp.store1 {sz s id off:Nat}{cells:List AV}(hp:ev e p=some (.ptr id 0 off))(hx:ev e x=some v)(ho:h.get id=some (.mem s [cells]))(hs:v.cs.length=sz)(hb:off+sz≤cells.length)(ht:v.isTup=false)(hg:met e g):Stp ⟨none,.store sz p x,g⟩ e h e (h.set id (some (.mem s [putC cells off v.cs]))) :=
 Stp.store hp hx ho rfl hs hb ht hg
theorem Stp.storeN {sz s id i off:Nat}{c:List (List AV)}{cells cs:List AV}(hp:ev e p=some (.ptr id i off))(hx:ev e x=some v)(ho:h.get id=some (.mem s c))(hi:c[i]? = some cells)(hs:v.cs.length=sz)(hb:off+sz≤cells.length)(ht:v.isTup=false)(hn:putC cells off v.cs=cs)(hg:met e g):Stp ⟨none,.store sz p x,g⟩ e h e (h.set id (some (.mem s (c.set i cs)))):=by subst hn;exact Stp.store hp hx ho hi hs hb ht hg
theorem Stp.store1N {sz s id off:Nat}{cells cs:List AV}(hp:ev e p=some (.ptr id 0 off))(hx:ev e x=some v)(ho:h.get id=some (.mem s [cells]))(hs:v.cs.length=sz)(hb:off+sz≤cells.length)(ht:v.isTup=false)(hn:putC cells off v.cs=cs)(hg:met e g):Stp ⟨none,.store sz p x,g⟩ e h e (h.set id (some (.mem s [cs]))):=by subst hn;exact Stp.store1 hp hx ho hs hb ht hg
theorem Stp.allocN {z:List AV}{n nx:Nat}(hn:h.next=nx)(hl:z.length=n)(hg:met e g):Stp ⟨some d,.alloc z,g⟩ e h ((d,some (.ptr nx 0 0))::e) (h.put nx (.mem n [z])):=by subst hl;exact Stp.alloc hn hg
theorem Stp.nilck {id i off:Nat}(hx:ev e x=some (.ptr id i off))(hg:met e g):Stp ⟨some d,.nilck x,g⟩ e h ((d,some (.ptr id i off))::e) h :=
 Stp.ins (r:=some (.ptr id i off)) (f := .none) (by simp [evalI,hx]) hg
theorem Stp.bin {op:BinOp}(hx:ev e x=some (.int k a))(hy:ev e y=some (.int k b))(hv:binA op k a b=some v)(hg:met e g):Stp ⟨some d,.bin op x y,g⟩ e h ((d,some v)::e) h :=
 Stp.ins (r:=some v) (f := .none) (by simp [evalI,hx,hy,hv]) hg
theorem Stp.sh {op:BinOp}(hx:ev e x=some (.int k a))(hy:ev e y=some (.int k' b))(hv:shA op k a b=some v)(hg:met e g):Stp ⟨some d,.sh op x y,g⟩ e h ((d,some v)::e) h :=
 Stp.ins (r:=some v) (f := .none) (by simp [evalI,hx,hy,hv]) hg
theorem Stp.eqv {ek:EK}{neg t:Bool}(hx:ev e x=some u)(hy:ev e y=some v)(hv:eqA ek u v=some t)(hg:met e g):Stp ⟨some d,.eqv ek neg x y,g⟩ e h ((d,some (.bool (if neg then !t else t)))::e) h :=
 Stp.ins (r:=some (.bool (if neg then !t else t))) (f := .none) (by simp [evalI,hx,hy,hv]) hg
theorem Stp.eqvT {ek:EK}{t:Bool}(hx:ev e x=some u)(hy:ev e y=some v)(hv:eqA ek u v=some t)(hg:met e g):Stp ⟨some d,.eqv ek false x y,g⟩ e h ((d,some (.bool t))::e) h:=Stp.eqv hx hy hv hg
theorem Stp.eqvF {ek:EK}{t:Bool}(hx:ev e x=some u)(hy:ev e y=some v)(hv:eqA ek u v=some t)(hg:met e g):Stp ⟨some d,.eqv ek true x y,g⟩ e h ((d,some (.bool (!t)))::e) h:=Stp.eqv hx hy hv hg
theorem Stp.isnil {neg t:Bool}(hx:ev e x=some u)(hv:zkd u=some t)(hg:met e g):Stp ⟨some d,.isnil neg x,g⟩ e h ((d,some (.bool (if neg then !t else t)))::e) h :=
 Stp.ins (r:=some (.bool (if neg then !t else t))) (f := .none) (by simp [evalI,hx,hv]) hg
theorem Stp.not {t:Bool}(hx:ev e x=some (.bool t))(hg:met e g):Stp ⟨some d,.not x,g⟩ e h ((d,some (.bool (!t)))::e) h :=
 Stp.ins (r:=some (.bool (!t))) (f := .none) (by simp [evalI,hx]) hg
theorem Stp.conv (hx:ev e x=some (.int k' a))(hv:k.wrap a=b)(hg:met e g):Stp ⟨some d,.conv k x,g⟩ e h ((d,some (.int k b))::e) h :=
 Stp.ins (r:=some (.int k b)) (f := .none) (by simp [evalI,hx,hv]) hg
theorem Stp.b2s {c:List (List AV)}{s:List UInt8}(hx:ev e x=some u)(hc:rdS h.get 1 u=some c)(hs:toB c=some s)(hg:met e g):Stp ⟨some d,.b2s x,g⟩ e h ((d,some (.str s))::e) h :=
 Stp.ins (r:=some (.str s)) (f := .none) (by simp [evalI,hx,hc,hs]) hg
theorem Stp.mkf {fn:Fn}{xs ys:List Opd}{vs us:List AV}(hx:evL e xs=some vs)(hy:evL e ys=some us)(hg:met e g):Stp ⟨some d,.mkf fn xs ys,g⟩ e h ((d,some (.func fn vs us))::e) h :=
 Stp.ins (r:=some (.func fn vs us)) (f := .none) (by simp [evalI,hx,hy]) hg
theorem Stp.mksl {sz bytes n:Nat}{z:List AV}(hx:ev e x=some (.int k a))(hy:ev e y=some (.int k' b))(ha:a=n)(hb:b=n)(hm:n*bytes≤140737488355328){nx:Nat}(hn:h.next=nx)(hg:met e g):Stp ⟨some d,.mksl sz z bytes x y,g⟩ e h ((d,some (.ref nx 0 n))::e) (h.put nx (.mem sz (List.replicate n z))):=by
 subst hn
 subst ha;subst hb
 refine Stp.ins (r:=some (.ref h.next 0 n)) (f := .new (.mem sz (List.replicate n z))) ?_ hg
 simp only [evalI,hx,hy]
 rw [z19 ⟨by omega,trivial,by omega⟩]
 simp
theorem Stp.faddr {o id i off:Nat}(hx:ev e x=some (.ptr id i off))(hg:met e g):Stp ⟨some d,.faddr o x,g⟩ e h ((d,some (.ptr id i (off+o)))::e) h :=
 Stp.ins (r:=some (.ptr id i (off+o))) (f := .none) (by simp [evalI,hx]) hg
theorem Stp.faddri {o s i off:Nat}{c:List (List AV)}(hx:ev e x=some (.iptr s c i off))(hg:met e g):Stp ⟨some d,.faddr o x,g⟩ e h ((d,some (.iptr s c i (off+o)))::e) h :=
 Stp.ins (r:=some (.iptr s c i (off+o))) (f := .none) (by simp [evalI,hx]) hg
theorem Stp.fld {off sz:Nat}{ag:Bool}{cells:List AV}(hx:ev e x=some (.agg cells))(hv:getC sz ag cells off=some v)(hg:met e g):Stp ⟨some d,.fld off sz ag x,g⟩ e h ((d,some v)::e) h :=
 Stp.ins (r:=some v) (f := .none) (by simp [evalI,hx,hv]) hg
theorem Stp.iaddrI {sz i:Nat}{c:List (List AV)}(hx:ev e x=some (.imm sz c))(hy:ev e y=some (.int k a))(ha:a=i)(hi:i < c.length)(hg:met e g):Stp ⟨some d,.iaddr sz x y,g⟩ e h ((d,some (.iptr sz c i 0))::e) h:=by
 subst ha
 refine Stp.ins (r:=some (.iptr sz c i 0)) (f := .none) ?_ hg
 simp only [evalI,hx,hy]
 rw [z19 ⟨trivial,by omega,by omega⟩]
 simp
theorem Stp.iaddrP {id gn sz i:Nat}{c:List (List AV)}(hx:ev e x=some (.app id gn sz c))(hy:ev e y=some (.int k a))(ha:a=i)(hi:i < c.length)(hg:met e g):Stp ⟨some d,.iaddr sz x y,g⟩ e h ((d,some (.iptr sz c i 0))::e) h:=by
 subst ha
 refine Stp.ins (r:=some (.iptr sz c i 0)) (f := .none) ?_ hg
 simp only [evalI,hx,hy]
 rw [z19 ⟨trivial,by omega,by omega⟩]
 simp
theorem Stp.iaddrR {id sz i off n:Nat}{c:List (List AV)}(hx:ev e x=some (.ref id off n))(hy:ev e y=some (.int k a))(hm:h.get id=some (.mem sz c))(ha:a=i)(hi:i < n)(hg:met e g):Stp ⟨some d,.iaddr sz x y,g⟩ e h ((d,some (.ptr id (off+i) 0))::e) h:=by
 subst ha
 refine Stp.ins (r:=some (.ptr id (off+i) 0)) (f := .none) ?_ hg
 simp only [evalI,hx,hy,hm]
 rw [z19 ⟨trivial,by omega,by omega⟩]
 simp
theorem Stp.iaddrA {n sz i id j off:Nat}(hx:ev e x=some (.ptr id j off))(hy:ev e y=some (.int k a))(ha:a=i)(hi:i < n)(hg:met e g):Stp ⟨some d,.iaddrA n sz x y,g⟩ e h ((d,some (.ptr id j (off+i*sz)))::e) h:=by
 subst ha
 refine Stp.ins (r:=some (.ptr id j (off+i*sz))) (f := .none) ?_ hg
 simp only [evalI,hx,hy]
 rw [z19 ⟨by omega,by omega⟩]
 simp
theorem Stp.ext {n:Nat}{vs:List AV}(hx:ev e x=some (.tup vs))(hv:vs[n]? = some v)(hg:met e g):Stp ⟨some d,.ext n x,g⟩ e h ((d,some v)::e) h :=
 Stp.ins (r:=some v) (f := .none) (by simp [evalI,hx,hv]) hg
theorem Stp.len {n:Nat}(hx:ev e x=some u)(hn:rdL h.get u=some n)(hg:met e g):Stp ⟨some d,.len x,g⟩ e h ((d,some (.int .i64 n))::e) h :=
 Stp.ins (r:=some (.int .i64 n)) (f := .none) (by simp [evalI,hx,hn]) hg
theorem Stp.app0 {sz bytes n:Nat}{c:List (List AV)}(hx:ev e x=some .nils)(hy:ev e y=some v)(hc:rdS h.get sz v=some c)(hb:c.length*bytes≤140737488355328)(hl:c.length=n){nx:Nat}(hn:h.next=nx)(hg:met e g):Stp ⟨some d,.app sz bytes x y,g⟩ e h ((d,some (.app nx 0 sz c))::e) (h.put nx (.tail 0 n)):=by
 subst hn hl
 exact Stp.ins (r:=some (.app h.next 0 sz c)) (f := .new (.tail 0 c.length)) (by simp only [evalI,hx,hy,hc];rw [z19 hb]) hg
theorem Stp.app1 {sz bytes id k n n':Nat}{c c':List (List AV)}(hx:ev e x=some (.app id k sz c'))(hy:ev e y=some v)(hc:rdS h.get sz v=some c)(ht:h.get id=some (.tail k n))(hl:c'.length=n)(hl':n+c.length=n')(hb:n'*bytes≤140737488355328)(hg:met e g):Stp ⟨some d,.app sz bytes x y,g⟩ e h ((d,some (.app id k sz (c'++c)))::e) (h.set id (some (.tail k n'))):=by
 subst hl' hl
 exact Stp.ins (r:=some (.app id k sz (c'++c))) (f := .set id (.tail k (c'.length+c.length))) (by simp only [evalI,hx,hy,hc,ht];rw [z19 ⟨trivial,trivial,trivial,hb⟩]) hg
theorem Stp.cpy {sz id off n:Nat}{c cs:List (List AV)}(hx:ev e x=some (.ref id off n))(hy:ev e y=some v)(hm:h.get id=some (.mem sz c))(hc:rdS h.get sz v=some cs)(hb:off+n≤c.length)(hg:met e g):Stp ⟨some d,.cpy sz x y,g⟩ e h ((d,some (.int .i64 ((min cs.length n:Nat):Int)))::e) (h.set id (some (.mem sz (c.take off++cs.take (min cs.length n)++c.drop (off+min cs.length n))))) :=
 Stp.ins (r:=some (.int .i64 ((min cs.length n:Nat):Int))) (f := .set id (.mem sz (c.take off++cs.take (min cs.length n)++c.drop (off+min cs.length n)))) (by simp only [evalI,hx,hy,hm,hc];rw [z19 ⟨trivial,hb⟩]) hg
theorem Stp.mn (hx:ev e x=some (.int k a))(hy:ev e y=some (.int k b))(hg:met e g):Stp ⟨some d,.mn x y,g⟩ e h ((d,some (.int k (if b < a then b else a)))::e) h :=
 Stp.ins (r:=some (.int k (if b < a then b else a))) (f := .none) (by simp [evalI,hx,hy]) hg
theorem Stp.slcI {sz i j:Nat}{lo hi:Option Opd}{c:List (List AV)}(hx:ev e x=some (.imm sz c))(hl:bnd e 0 lo=some i)(hh:bnd e c.length hi=some j)(h1:i≤j)(h2:j≤c.length)(hg:met e g):Stp ⟨some d,.slc sz x lo hi,g⟩ e h ((d,some (.imm sz ((c.take j).drop i)))::e) h :=
 Stp.ins (r:=some (.imm sz ((c.take j).drop i))) (f := .none) (by simp only [evalI,hx,hl,hh];rw [z19 ⟨trivial,h1,h2⟩]) hg
theorem Stp.slcN {sz i j:Nat}{lo hi:Option Opd}(hx:ev e x=some .nils)(hl:bnd e 0 lo=some i)(hh:bnd e 0 hi=some j)(h1:i=0)(h2:j=0)(hg:met e g):Stp ⟨some d,.slc sz x lo hi,g⟩ e h ((d,some .nils)::e) h:=by
 subst h1 h2
 exact Stp.ins (r:=some .nils) (f := .none) (by simp only [evalI,hx,hl,hh];rw [z19 ⟨trivial,trivial⟩]) hg
theorem Stp.slcP {id gn sz i j:Nat}{lo hi:Option Opd}{c:List (List AV)}(hx:ev e x=some (.app id gn sz c))(hl:bnd e 0 lo=some i)(hh:bnd e c.length hi=some j)(h1:i≤j)(h2:j≤c.length)(hg:met e g):Stp ⟨some d,.slc sz x lo hi,g⟩ e h ((d,some (.imm sz ((c.take j).drop i)))::e) h :=
 Stp.ins (r:=some (.imm sz ((c.take j).drop i))) (f := .none) (by simp only [evalI,hx,hl,hh];rw [z19 ⟨trivial,h1,h2⟩]) hg
theorem Stp.slcR {id off n sz i j:Nat}{lo hi:Option Opd}{c:List (List AV)}(hx:ev e x=some (.ref id off n))(hm:h.get id=some (.mem sz c))(hl:bnd e 0 lo=some i)(hh:bnd e n hi=some j)(h1:i≤j)(h2:j≤n)(hg:met e g):Stp ⟨some d,.slc sz x lo hi,g⟩ e h ((d,some (.ref id (off+i) (j - i)))::e) h :=
 Stp.ins (r:=some (.ref id (off+i) (j - i))) (f := .none) (by simp only [evalI,hx,hm,hl,hh];rw [z19 ⟨trivial,h1,h2⟩]) hg
theorem z1v {n:Nat}:bnd e n none=some n:=rfl
theorem zo {n i:Nat}(hx:ev e x=some (.int k a))(ha:a=i):bnd e n (some x)=some i:=by
 subst ha
 simp only [bnd,hx]
 rw [z19 (by omega)]
 simp

theorem z1z {k:IntKind}{n:Int}(hn:match k with | .i64 => -9223372036854775808≤n∧n≤9223372036854775807 | .u64=>0≤n∧n≤18446744073709551615 | .u8=>0≤n∧n≤255 | .u32=>0≤n∧n≤4294967295 | _=>False):k.wrap n=n:=by
 cases k <;> simp only at hn
 all_goals first
  | exact IntWalk.i64_in n hn
  | exact IntWalk.u64_in n hn
  | exact IntWalk.u8_in n hn
  | (unfold IntKind.wrap; simp [IntKind.bits, IntKind.signed]; omega)
  | exact hn.elim
theorem zn9 {a b:Int}(hn : -9223372036854775808≤a+b∧a+b≤9223372036854775807):binA .add .i64 a b=some (.int .i64 (a+b)):=by simp only [binA];rw [IntWalk.i64_in _ hn]
theorem zsa {a b:Int}(hn : -9223372036854775808≤a - b∧a - b≤9223372036854775807):binA .sub .i64 a b=some (.int .i64 (a - b)):=by simp only [binA];rw [IntWalk.i64_in _ hn]
theorem zsb {a b:Int}(hn : -9223372036854775808≤a*b∧a*b≤9223372036854775807):binA .mul .i64 a b=some (.int .i64 (a*b)):=by simp only [binA];rw [IntWalk.i64_in _ hn]
theorem zna {a b:Int}(ha:0≤a∧a≤9223372036854775807)(hb:0 < b):binA .quo .i64 a b=some (.int .i64 (a / b)):=by
 simp only [binA]
 rw [z19 (by omega),Int.tdiv_eq_ediv_of_nonneg ha.1,IntWalk.i64_in]
 have h1:=Int.ediv_nonneg ha.1 (by omega:0≤b)
 have h2:=Int.ediv_le_self b ha.1
 omega
theorem zsc {a b:Int}(ha:0≤a)(hb:0 < b):binA .rem .i64 a b=some (.int .i64 (a % b)):=by
 simp only [binA]
 rw [z19 (by omega),Int.tmod_eq_emod_of_nonneg ha]
theorem inc1 {k:Nat}(hk:k < 9223372036854775807):binA .add .i64 (k:Int) 1=some (.int .i64 ((k+1:Nat):Int)):=by rw [zn9 (by omega)];simp
theorem div2 {k:Nat}(hk:k < 9223372036854775808):binA .quo .i64 (k:Int) 2=some (.int .i64 ((k / 2:Nat):Int)):=by rw [zna (by omega) (by omega)];simp
theorem zsd {a b:Int}(hn:0≤a+b∧a+b≤18446744073709551615):binA .add .u64 a b=some (.int .u64 (a+b)):=by simp only [binA];rw [IntWalk.u64_in _ hn]
theorem zse {a b:Int}(hn:0≤a - b∧a - b≤18446744073709551615):binA .sub .u64 a b=some (.int .u64 (a - b)):=by simp only [binA];rw [IntWalk.u64_in _ hn]
theorem zsf {a b:Int}(hn:0≤a*b∧a*b≤18446744073709551615):binA .mul .u64 a b=some (.int .u64 (a*b)):=by simp only [binA];rw [IntWalk.u64_in _ hn]

theorem AW.condB {c:Opd}{x y:CC}{t:Bool}(hc:ev e c=some (.bool t))(h1:t=true→AW P N x Q e h)(h2:t=false→AW P N y Q e h):AW P N (.cond c x y) Q e h:=by
 cases t
 ·exact AW.condF hc (h2 rfl)
 ·exact AW.condT hc (h1 rfl)
theorem AL.pin {s:Nat}{t:Bool}(hc:lk s e=some (.bool t))(h1:t=true→AL P N l Q ((s,some (.bool true))::e) h)(h2:t=false→AL P N l Q ((s,some (.bool false))::e) h):AL P N l Q e h:=by
 have key:∀ b,t=b→∀ i v,lk i ((s,some (.bool b))::e)=some v→lk i e=some v:=fun b hb i v hi=>by
  simp only [z6,z1o] at hi
  split at hi
  ·rename_i e1;subst e1;rw [← hi,hc,hb]
  ·exact hi
 cases t
 ·exact AL.env (key false rfl) (h2 rfl)
 ·exact AL.env (key true rfl) (h1 rfl)
theorem z3 {id nm:Nat}{x:AObj}{r:Option AObj}(hne:id≠nm)(hr:h.get id=r):(h.put nm x).get id=r:=(zf8 hne).trans hr
theorem z1 {id nm:Nat}{x r:Option AObj}(hne:id≠nm)(hr:h.get id=r):(h.set nm x).get id=r:=(z98 hne).trans hr
theorem z2k {nm:Nat}{x:AObj}(hn:h.next=nm):(h.put nm x).next=nm+1:=by subst hn;simp [AHeap.put]
theorem z2l {nm n:Nat}{x:Option AObj}(hn:h.next=n):(h.set nm x).next=n:=hn
theorem ze {sz:Nat}{cells:List AV}{off:Nat}(hx:cells[off]? = some v)(h1:sz=1):getC sz false cells off=some v:=by
 have:=(List.getElem?_eq_some_iff.1 hx).1
 subst h1
 simp only [getC]
 rw [if_pos (by omega)]
 simpa using hx
theorem zy {sz:Nat}{cells:List AV}(hl:cells.length=sz):getC sz true cells 0=some (.agg cells):=by
 subst hl;simp [getC]
theorem z4 {sz off:Nat}{cells cs:List AV}(hl:off+sz≤cells.length)(hc:(cells.drop off).take sz=cs):getC sz true cells off=some (.agg cs):=by
 subst hc;simp [getC,hl]
theorem AL.auto {c:CI}{e':Env}{h':AHeap}(hs:Stp c e h e' h')(k:AL P N l Q e' h'):AL P N (c::l) Q e h:=AL.step hs.ok k
theorem AL.split {dd:Option Nat}{i:Ins}{s:Nat}{b t:Bool}(hc:lk s e=some (.bool t))(h1:t=true→AL P N (⟨dd,i,some (s,b)⟩::l) Q ((s,some (.bool true))::e) h)(h2:t=false→AL P N (⟨dd,i,some (s,b)⟩::l) Q ((s,some (.bool false))::e) h):AL P N (⟨dd,i,some (s,b)⟩::l) Q e h:=AL.pin hc h1 h2
theorem clo_i {h h1:AHeap}{k:IntKind}{a b:Int}(hab:a=b):Fz h h1 (fin [.int k a]) (.int k b):=by subst hab;exact .clo _ (.int _ _)
theorem z62 {g:Nat→Option AObj}{id sz off len:Nat}{c:List (List AV)}(hg:g id=some (.mem sz c)):rdS g sz (.ref id off len)=some ((c.drop off).take len):=by
 simp [rdS,hg]
theorem zsg {α:Type}{x:α}:[x].length=1:=rfl
theorem zsh {α β:Type}{f:α→β}{xs:List α}:(xs.map f).length=xs.length:=List.length_map ..
theorem zu7 {α:Type}{x:α}{n:Nat}:n+[x].length=n+1:=rfl
theorem zu8 {α β:Type}{f:α→β}{xs:List α}{n:Nat}:n+(xs.map f).length=n+xs.length:=by simp
theorem zsi {α:Type}{g:Nat→Option AObj}{sz:Nat}{f:α→List AV}{xs:List α}:rdL g (.imm sz (xs.map f))=some xs.length:=by simp [rdL]
theorem zqw {α:Type}{g:Nat→Option AObj}{id gn sz:Nat}{f:α→List AV}{xs:List α}:rdL g (.app id gn sz (xs.map f))=some xs.length:=by simp [rdL]
theorem ix2 (k:Nat):(2:Int)*(k:Int)=((2*k:Nat):Int):=by omega
theorem ix21 (k:Nat):(2:Int)*(k:Int)+1=((2*k+1:Nat):Int):=by omega
theorem z30 {α:Type}{f:α→List AV}{xs:List α}{i:Nat}{x:α}(hx:xs[i]? = some x):(xs.map f)[i]? = some (f x):=by simp [hx]
theorem zcm {α:Type}{f:α→List AV}{xs ys:List α}:xs.map f++ys.map f=(xs++ys).map f:=by simp
theorem AL.callM {dd:Option Nat}{f:Nat}{xs:List Opd}{vs:List AV}(hv:evL e xs=some vs)(hg:met e g)(hac:AC P f vs h (fun r h'=>AL P N l Q (putR dd (some r) e) h')):AL P N (⟨dd,.call f xs,g⟩::l) Q e h:=by
 cases g with
 | none => exact AL.call hv hac
 | some sb => exact AL.gcall hg hv hac
end
end Go.Abs

namespace Go.Abs
open Go

section
variable {e e':Env}{h h':AHeap}
theorem gH {i:Nat}{x:Option AObj}(p:h.get i=x:=by repeat first | with_reducible exact get_put_same | with_reducible exact za | assumption | with_reducible apply z3 (by omega) | with_reducible apply z1 (by omega) | with_reducible apply zik | exact get_put_same | exact za):h.get i=x:=p
theorem gN {n:Nat}(p:h.next=n:=by repeat first | with_reducible apply z2k | with_reducible apply z2l | assumption | exact rfl):h.next=n:=p
theorem Stp.auto {c:CI}(hs:Stp c e h e' h':=by
  first | (apply Stp.mov;exact rfl;exact (by first | exact True.intro | exact rfl)) | (apply Stp.unmet;exact rfl;exact rfl) | (apply Stp.unmet0;exact rfl;exact rfl) | (apply Stp.grp 1;exact rfl;first | (apply Stp.ext;exact rfl;exact rfl;exact (by first | exact True.intro | exact rfl)) | (apply Stp.nilck;exact rfl;exact (by first | exact True.intro | exact rfl)) | (apply Stp.nilckp0;exact rfl;exact (by first | exact True.intro | exact rfl)) | (apply Stp.nilcki;exact rfl;exact (by first | exact True.intro | exact rfl)) | (apply Stp.faddr;exact rfl;exact (by first | exact True.intro | exact rfl)) | (apply Stp.faddri;exact rfl;exact (by first | exact True.intro | exact rfl)) | (apply Stp.len;exact rfl;exact (by first | exact zsi | exact zqw | exact rfl);exact (by first | exact True.intro | exact rfl)) | (apply Stp.fld;exact rfl;exact (by first | exact ze rfl rfl | exact zy rfl | exact z4 (Nat.le_of_ble_eq_true rfl) (by first | (simp only [putC,AV.cs,encP,encN,encI,encS,encA,List.take_succ_cons,List.take_zero,List.take_nil,List.drop_succ_cons,List.drop_zero,List.drop_nil,List.cons_append,List.nil_append,List.append_nil,List.length_cons,List.length_nil,Nat.zero_add,Nat.add_zero,Nat.reduceAdd];exact rfl) | exact rfl) | exact z4 (by simp) (by first | (simp only [putC,AV.cs,encP,encN,encI,encS,encA,List.take_succ_cons,List.take_zero,List.take_nil,List.drop_succ_cons,List.drop_zero,List.drop_nil,List.cons_append,List.nil_append,List.append_nil,List.length_cons,List.length_nil,Nat.zero_add,Nat.add_zero,Nat.reduceAdd];exact rfl) | exact rfl));exact (by first | exact True.intro | exact rfl)) | (apply Stp.nilckf;exact rfl;exact (by first | exact True.intro | exact rfl)) | (apply Stp.nilck0;exact rfl;exact (by first | exact True.intro | exact rfl))) | (apply Stp.grp 2;exact rfl;first | (apply Stp.loadi;exact rfl;exact (by first | exact z30 (List.getElem?_eq_getElem (by omega)) | exact z30 (List.getElem?_range (by omega)) | exact List.getElem?_eq_getElem (by omega) | exact rfl);exact (by first | exact ze rfl rfl | exact zy rfl | exact z4 (Nat.le_of_ble_eq_true rfl) (by first | (simp only [putC,AV.cs,encP,encN,encI,encS,encA,List.take_succ_cons,List.take_zero,List.take_nil,List.drop_succ_cons,List.drop_zero,List.drop_nil,List.cons_append,List.nil_append,List.append_nil,List.length_cons,List.length_nil,Nat.zero_add,Nat.add_zero,Nat.reduceAdd];exact rfl) | exact rfl) | exact z4 (by simp) (by first | (simp only [putC,AV.cs,encP,encN,encI,encS,encA,List.take_succ_cons,List.take_zero,List.take_nil,List.drop_succ_cons,List.drop_zero,List.drop_nil,List.cons_append,List.nil_append,List.append_nil,List.length_cons,List.length_nil,Nat.zero_add,Nat.add_zero,Nat.reduceAdd];exact rfl) | exact rfl));exact (by first | exact True.intro | exact rfl)) | (apply Stp.load1;exact rfl;exact gH;exact (by first | exact ze rfl rfl | exact zy rfl | exact z4 (Nat.le_of_ble_eq_true rfl) (by first | (simp only [putC,AV.cs,encP,encN,encI,encS,encA,List.take_succ_cons,List.take_zero,List.take_nil,List.drop_succ_cons,List.drop_zero,List.drop_nil,List.cons_append,List.nil_append,List.append_nil,List.length_cons,List.length_nil,Nat.zero_add,Nat.add_zero,Nat.reduceAdd];exact rfl) | exact rfl) | exact z4 (by simp) (by first | (simp only [putC,AV.cs,encP,encN,encI,encS,encA,List.take_succ_cons,List.take_zero,List.take_nil,List.drop_succ_cons,List.drop_zero,List.drop_nil,List.cons_append,List.nil_append,List.append_nil,List.length_cons,List.length_nil,Nat.zero_add,Nat.add_zero,Nat.reduceAdd];exact rfl) | exact rfl));exact (by first | exact True.intro | exact rfl)) | (apply Stp.loadp;exact rfl;exact gH;exact (by first | exact z30 (List.getElem?_eq_getElem (by omega)) | exact z30 (List.getElem?_range (by omega)) | exact List.getElem?_eq_getElem (by omega) | exact rfl);exact (by first | exact ze rfl rfl | exact zy rfl | exact z4 (Nat.le_of_ble_eq_true rfl) (by first | (simp only [putC,AV.cs,encP,encN,encI,encS,encA,List.take_succ_cons,List.take_zero,List.take_nil,List.drop_succ_cons,List.drop_zero,List.drop_nil,List.cons_append,List.nil_append,List.append_nil,List.length_cons,List.length_nil,Nat.zero_add,Nat.add_zero,Nat.reduceAdd];exact rfl) | exact rfl) | exact z4 (by simp) (by first | (simp only [putC,AV.cs,encP,encN,encI,encS,encA,List.take_succ_cons,List.take_zero,List.take_nil,List.drop_succ_cons,List.drop_zero,List.drop_nil,List.cons_append,List.nil_append,List.append_nil,List.length_cons,List.length_nil,Nat.zero_add,Nat.add_zero,Nat.reduceAdd];exact rfl) | exact rfl));exact (by first | exact True.intro | exact rfl))) | (apply Stp.grp 3;exact rfl;first | (apply Stp.bin;exact rfl;exact rfl;exact (by first | with_reducible exact inc1 (by omega) | with_reducible exact zn9 (by omega) | with_reducible exact zsa (by omega) | with_reducible exact zsb (by omega) | with_reducible exact div2 (by omega) | with_reducible exact zna (by omega) (by omega) | with_reducible exact zsc (by omega) (by omega) | with_reducible exact zsd (by omega) | with_reducible exact zse (by omega) | with_reducible exact zsf (by omega) | with_reducible exact xor1 _ (by omega) | with_reducible exact and1 _ (by omega) | exact rfl);exact (by first | exact True.intro | exact rfl)) | (apply Stp.conv;exact rfl;exact (by first | exact z1z (And.intro (by omega) (by omega)) | rfl);exact (by first | exact True.intro | exact rfl)) | (apply Stp.pickT;exact rfl;exact rfl;exact (by first | exact True.intro | exact rfl)) | (apply Stp.pickF;exact rfl;exact rfl;exact (by first | exact True.intro | exact rfl)) | (apply Stp.sh;exact rfl;exact rfl;exact rfl;exact (by first | exact True.intro | exact rfl)) | (apply Stp.eqvT;exact rfl;exact rfl;exact rfl;exact (by first | exact True.intro | exact rfl)) | (apply Stp.eqvF;exact rfl;exact rfl;exact rfl;exact (by first | exact True.intro | exact rfl)) | (apply Stp.not;exact rfl;exact (by first | exact True.intro | exact rfl)) | (apply Stp.mn;exact rfl;exact rfl;exact (by first | exact True.intro | exact rfl))) | (apply Stp.grp 4;exact rfl;first | (apply Stp.store1N;exact rfl;exact rfl;exact gH;exact rfl;exact (by first | exact Nat.le_of_ble_eq_true rfl | (simp;done) | (simp;omega));exact rfl;exact (by first | (simp only [putC,AV.cs,encP,encN,encI,encS,encA,List.take_succ_cons,List.take_zero,List.take_nil,List.drop_succ_cons,List.drop_zero,List.drop_nil,List.cons_append,List.nil_append,List.append_nil,List.length_cons,List.length_nil,Nat.zero_add,Nat.add_zero,Nat.reduceAdd];exact rfl) | exact rfl);exact (by first | exact True.intro | exact rfl)) | (apply Stp.storeN;exact rfl;exact rfl;exact gH;exact (by first | exact z30 (List.getElem?_eq_getElem (by omega)) | exact z30 (List.getElem?_range (by omega)) | exact List.getElem?_eq_getElem (by omega) | exact rfl);exact rfl;exact (by first | exact Nat.le_of_ble_eq_true rfl | (simp;done) | (simp;omega));exact rfl;exact (by first | (simp only [putC,AV.cs,encP,encN,encI,encS,encA,List.take_succ_cons,List.take_zero,List.take_nil,List.drop_succ_cons,List.drop_zero,List.drop_nil,List.cons_append,List.nil_append,List.append_nil,List.length_cons,List.length_nil,Nat.zero_add,Nat.add_zero,Nat.reduceAdd];exact rfl) | exact rfl);exact (by first | exact True.intro | exact rfl)) | (apply Stp.allocN;exact gN;exact (by first | (simp only [putC,AV.cs,encP,encN,encI,encS,encA,List.take_succ_cons,List.take_zero,List.take_nil,List.drop_succ_cons,List.drop_zero,List.drop_nil,List.cons_append,List.nil_append,List.append_nil,List.length_cons,List.length_nil,Nat.zero_add,Nat.add_zero,Nat.reduceAdd];exact rfl) | exact rfl);exact (by first | exact True.intro | exact rfl)) | (apply Stp.buildN;exact rfl;exact (by rfl);exact (by first | (simp only [putC,AV.cs,encP,encN,encI,encS,encA,List.take_succ_cons,List.take_zero,List.take_nil,List.drop_succ_cons,List.drop_zero,List.drop_nil,List.cons_append,List.nil_append,List.append_nil,List.length_cons,List.length_nil,Nat.zero_add,Nat.add_zero,Nat.reduceAdd];exact rfl) | exact rfl);exact (by first | exact True.intro | exact rfl)) | (apply Stp.boxN;exact rfl;exact rfl;exact rfl;exact gN;exact (by first | (simp only [putC,AV.cs,encP,encN,encI,encS,encA,List.take_succ_cons,List.take_zero,List.take_nil,List.drop_succ_cons,List.drop_zero,List.drop_nil,List.cons_append,List.nil_append,List.append_nil,List.length_cons,List.length_nil,Nat.zero_add,Nat.add_zero,Nat.reduceAdd];exact rfl) | exact rfl);exact (by first | exact True.intro | exact rfl)) | (apply Stp.bsl0;exact (by first | exact True.intro | exact rfl)) | (apply Stp.bslN;exact rfl;exact rfl;exact (by first | (simp only [putC,AV.cs,encP,encN,encI,encS,encA,List.take_succ_cons,List.take_zero,List.take_nil,List.drop_succ_cons,List.drop_zero,List.drop_nil,List.cons_append,List.nil_append,List.append_nil,List.length_cons,List.length_nil,Nat.zero_add,Nat.add_zero,Nat.reduceAdd];exact rfl) | exact rfl);exact (by first | exact True.intro | exact rfl))) | (apply Stp.grp 5;exact rfl;first | (apply Stp.iaddrI;exact rfl;exact rfl;exact (by first | with_reducible exact ix2 _ | with_reducible exact ix21 _ | rfl | exact (Int.toNat_of_nonneg (by omega)).symm);exact (by first | omega | (simp;done) | (simp;omega));exact (by first | exact True.intro | exact rfl)) | (apply Stp.iaddrP;exact rfl;exact rfl;exact (by first | with_reducible exact ix2 _ | with_reducible exact ix21 _ | rfl | exact (Int.toNat_of_nonneg (by omega)).symm);exact (by first | omega | (simp;done) | (simp;omega));exact (by first | exact True.intro | exact rfl)) | (apply Stp.iaddrA;exact rfl;exact rfl;exact (by first | with_reducible exact ix2 _ | with_reducible exact ix21 _ | rfl | exact (Int.toNat_of_nonneg (by omega)).symm);exact (by first | omega | (simp;done) | (simp;omega));exact (by first | exact True.intro | exact rfl)) | (apply Stp.iaddrAi;exact rfl;exact rfl;exact (by first | with_reducible exact ix2 _ | with_reducible exact ix21 _ | rfl | exact (Int.toNat_of_nonneg (by omega)).symm);exact (by first | omega | (simp;done) | (simp;omega));exact (by first | exact True.intro | exact rfl)) | (apply Stp.app0;exact rfl;exact rfl;exact (by first | rfl | exact z62 gH);exact (by first | omega | (simp;done) | (simp;omega));exact (by first | exact zsg | exact zsh | exact rfl);exact gN;exact (by first | exact True.intro | exact rfl)) | (apply Stp.app1;exact rfl;exact rfl;exact (by first | rfl | exact z62 gH);exact gH;exact (by first | rfl | exact List.length_map _ | (simp;done) | (simp;omega));exact (by first | exact zu7 | exact zu8 | exact rfl);exact (by first | omega | (simp;done) | (simp;omega));exact (by first | exact True.intro | exact rfl)) | (apply Stp.slcI;exact rfl;exact (by first | exact z1v | exact zo rfl rfl | exact zo rfl (Int.toNat_of_nonneg (by omega)).symm);exact (by first | exact z1v | exact zo rfl rfl | exact zo rfl (Int.toNat_of_nonneg (by omega)).symm);exact (by first | omega | (simp;done) | (simp;omega));exact (by first | omega | (simp;done) | (simp;omega));exact (by first | exact True.intro | exact rfl)) | (apply Stp.slcN;exact rfl;exact (by first | exact z1v | exact zo rfl rfl | exact zo rfl (Int.toNat_of_nonneg (by omega)).symm);exact (by first | exact z1v | exact zo rfl rfl | exact zo rfl (Int.toNat_of_nonneg (by omega)).symm);exact rfl;exact rfl;exact (by first | exact True.intro | exact rfl)) | (apply Stp.slcP;exact rfl;exact (by first | exact z1v | exact zo rfl rfl | exact zo rfl (Int.toNat_of_nonneg (by omega)).symm);exact (by first | exact z1v | exact zo rfl rfl | exact zo rfl (Int.toNat_of_nonneg (by omega)).symm);exact (by first | omega | (simp;done) | (simp;omega));exact (by first | omega | (simp;done) | (simp;omega));exact (by first | exact True.intro | exact rfl)) | (apply Stp.slcR;exact rfl;exact gH;exact (by first | exact z1v | exact zo rfl rfl | exact zo rfl (Int.toNat_of_nonneg (by omega)).symm);exact (by first | exact z1v | exact zo rfl rfl | exact zo rfl (Int.toNat_of_nonneg (by omega)).symm);exact (by first | omega | (simp;done) | (simp;omega));exact (by first | omega | (simp;done) | (simp;omega));exact (by first | exact True.intro | exact rfl)) | (apply Stp.iaddrR;exact rfl;exact rfl;exact gH;exact (by first | with_reducible exact ix2 _ | with_reducible exact ix21 _ | rfl | exact (Int.toNat_of_nonneg (by omega)).symm);exact (by first | omega | (simp;done) | (simp;omega));exact (by first | exact True.intro | exact rfl)) | (apply Stp.cpy;exact rfl;exact rfl;exact gH;exact (by first | rfl | exact z62 gH);exact (by first | omega | (simp;done) | (simp;omega));exact (by first | exact True.intro | exact rfl)) | (apply Stp.cpy0;exact rfl;exact rfl;exact gH;exact (by first | rfl | exact z62 gH);exact (by first | omega | (simp;done) | (simp;omega));exact (by first | exact True.intro | exact rfl)) | (apply Stp.mksl;exact rfl;exact rfl;exact (by first | with_reducible exact ix2 _ | with_reducible exact ix21 _ | rfl | exact (Int.toNat_of_nonneg (by omega)).symm);exact (by first | with_reducible exact ix2 _ | with_reducible exact ix21 _ | rfl | exact (Int.toNat_of_nonneg (by omega)).symm);exact (by first | omega | (simp;done) | (simp;omega));exact gN;exact (by first | exact True.intro | exact rfl)) | (apply Stp.mkf;exact rfl;exact rfl;exact (by first | exact True.intro | exact rfl)) | (apply Stp.b2s;exact rfl;exact (by first | rfl | exact z62 gH);exact (by first | exact zn8 | exact rfl);exact (by first | exact True.intro | exact rfl)))):Stp c e h e' h':=hs
end
end Go.Abs

namespace Go.Abs
open Go

section
variable {P:Program}{N:Nat}{Q:Exit→Env→AHeap→Prop}{e e' e'':Env}{h h' h'':AHeap}{l:List CI}{c:CC}

def Cvt (e:Env)(h:AHeap)(e':Env)(h':AHeap):Prop :=
 ∀ (N:Nat) (m:Inj) (w:World) (a:Act),HR m h w→ER N m h w e a→∃ m',HR m' h' w∧ER N m' h' w e' a∧Step m h w m' h' w
theorem AW.cvt (hc:Cvt e h e' h')(hw:AW P N c Q e' h'):AW P N c Q e h:=fun code hcc m w a hr he=>by
 obtain ⟨m1,r1,e1,s1⟩:=hc N m w a hr he
 exact wp_mono (hw code hcc m1 w a r1 e1) fun _ _ _ hp=>PA.from s1 hp
theorem AL.cvt (hc:Cvt e h e' h')(hw:AL P N l Q e' h'):AL P N l Q e h:=fun ops idx h1 h2 m w a hr he=>by
 obtain ⟨m1,r1,e1,s1⟩:=hc N m w a hr he
 exact z15 (fun _ _ _ hp=>PA.from s1 hp) idx _ _ (hw ops idx h1 h2 m1 w a r1 e1)
theorem Cvt.sub (hs:subE e' e):Cvt e h e' h:=fun _ m _ _ hr he=>⟨m,hr,⟨he.size,he.defers,fun i v hi=>he.val i v (hs i v hi)⟩,Step.refl _ _ _⟩
theorem Cvt.put {i:Nat}{v:AV}(hv:∀ (N:Nat) (m:Inj) (w:World) (a:Act),HR m h w→ER N m h w e a→VR m h w v (a.tmps.getD i undef)):Cvt e h ((i,some v)::e) h:=fun N m w a hr he =>
 ⟨m,hr,⟨he.size,he.defers,fun j u hj=>by
  simp only [z6,z1o] at hj
  split at hj
  ·rename_i e1;subst e1;cases hj;exact hv N m w a hr he
  ·exact he.val j u hj⟩,Step.refl _ _ _⟩

theorem z4n {id g n:Nat}{p:Prop}(hp:p):TokC (h.put id (.tail g n)) id g n p:=fun g' n' hg=>by
 simp only [AHeap.put,if_true,Option.some.injEq,AObj.tail.injEq] at hg
 exact ⟨by omega,fun _=>⟨by omega,fun _=>hp⟩⟩
theorem zsj {id g n:Nat}{p:Prop}(hp:p):TokC (h.set id (some (.tail g n))) id g n p:=fun g' n' hg=>by
 simp only [AHeap.set,if_true,Option.some.injEq,AObj.tail.injEq] at hg
 exact ⟨by omega,fun _=>⟨by omega,fun _=>hp⟩⟩
theorem Cvt.adopt {s nx:Nat}(sz:Nat)(hs:lk s e=some .nils)(hn:h.next=nx):Cvt e h ((s,some (.app nx 0 sz []))::e) (h.put nx (.tail 0 0)):=fun N m w a hr he=>by
 subst hn
 have hf:=z11 hr
 have st:=z3f hr hf
 refine ⟨_,hr.putv hf,?_,st⟩
 have he':=he.step st
 refine ⟨he'.size,he'.defers,fun i v hi => ?_⟩
 simp only [z6,z1o] at hi
 split at hi
 ·rename_i e1
  subst e1
  cases hi
  have hv:=he.val i _ hs
  generalize a.tmps.getD i undef=x at hv
  cases hv with
  | nils0 => exact .app0 _ _ _ z2 (z4n (by simp [upd]))
  | nils1 a => exact .app1 _ _ _ _ z2 (z4n (by simp [upd]))
 ·exact he'.val i v hi

theorem zsk {m:Inj}{w:World}{id off len sz:Nat}{c:List (List AV)}(hr:HR m h w)(hg:h.get id=some (.mem sz c)){v:Value}(hv:VR m h w (.ref id off len) v):VR m (h.set id none) w (.imm sz ((c.drop off).take len)) v:=by
 have st:=z2a (m:=m) (h:=h) (w:=w) id
 cases hv with
 | ref _ _ _ cap a hu' hcap ha =>
  obtain ⟨b,hb,hle,had,cc,T,hcc,hsz⟩:=ha _ _ hg
  obtain ⟨b',cc',T',q1,q2,q3,q4⟩:=hr.obj _ _ hg
  rw [hb] at q1
  cases q1
  have hlen:((c.drop off).take len).length=len:=by simp;omega
  rcases Nat.eq_zero_or_pos len with h0 | h0
  ·subst h0
   simp only [List.take_zero]
   exact .imm1 _ _ _
  ·rcases had with h00 | rfl
   ·omega
   ·have hrow:=(q4.drop off).take len
    have:=VR.imm (m:=m) (h:=h.set id none) (w:=w) sz ((c.drop off).take len) b (off*sz) cap (fun k=>cc'.getD (off*sz+k) undef) (fun k hk=>⟨?_,?_⟩) hrow.1 hrow.2.1 (fun i cells hi j v hj=>(hrow.2.2 i cells hi j v hj).step st) (by omega)
    ·rwa [hlen] at this
    ·rw [hlen] at hk
     have h5:(off+len)*sz≤c.length*sz:=Nat.mul_le_mul_right _ hle
     rw [Nat.add_mul] at h5
     rw [cell_of_row w b _ cc' T' (0,0) q2]
     simp [Array.getD_eq_getD_getElem?,show off*sz+k < cc'.size by omega]
    ·rintro ⟨j,t,⟨x,hx⟩,hm,_⟩
     by_cases e1:j=id
     ·simp [AHeap.set,e1] at hx
     ·simp only [AHeap.set,if_neg e1] at hx
      exact e1 (hr.inj j id x _ b t 0 hx hg hm hb)
theorem Cvt.frz {s id off len sz:Nat}{cc:List (List AV)}(hs:lk s e=some (.ref id off len))(hg:h.get id=some (.mem sz cc)):Cvt e h ((s,some (.imm sz ((cc.drop off).take len)))::e) (h.set id none):=fun N m w a hr he=>by
 refine ⟨m,hr.del id,?_,z2a id⟩
 have he':=he.step (z2a id)
 refine ⟨he'.size,he'.defers,fun i v hi => ?_⟩
 simp only [z6,z1o] at hi
 split at hi
 ·rename_i e1
  subst e1
  cases hi
  exact zsk hr hg (he.val i _ hs)
 ·exact he'.val i v hi
theorem AW.loopE {σ:Type}(E:σ→Env)(I:σ→AHeap→Prop)(μ:σ→Nat)(s₀:σ)(he:subE (E s₀) e)(h₀:I s₀ h)
  (round:∀ s h,I s h→AW P N c (thenQ (fun e' h'=>∃ s',subE (E s') e'∧I s' h'∧μ s' < μ s) Q) (E s) h):AW P N (.loop c) Q e h:=by
 refine AW.loop (fun s e h=>subE (E s) e∧I s h) μ s₀ ⟨he,h₀⟩ fun s e h ⟨q1,q2⟩=>AW.cvt (Cvt.sub q1) ?_
 refine (round s h q2).mono fun ex e' h' hq => ?_
 cases ex <;> first
  | exact hq
  | (obtain ⟨s', g1, g2, g3⟩ := hq; exact ⟨s', ⟨g1, g2⟩, g3⟩)
theorem thenN {K:Env→AHeap→Prop}(hk:K e h):thenQ K Q .normal e h:=hk
theorem leN {m n:Nat}(hn:h.next=n)(hl:m≤n):m≤h.next:=by omega
theorem ltN {id n:Nat}(hn:h.next=n)(hl:id < n):id < h.next:=by omega
end
end Go.Abs

namespace Go.Abs
open Go

section
variable {P:Program}{N f:Nat}{e:Env}{h h1:AHeap}{cc:CC}{rcs:List RC}{vs rs:List AV}{v r:AV}

theorem ze3 {g:Nat→Option AObj}:resA g e []=some []:=rfl
theorem zkk {g:Nat→Option AObj}{n:Nat}{rc:List RC}(hv:lk n e=some v)(hr:resA g e rc=some rs):resA g e (.t n::rc)=some (v::rs):=by simp [resA,zb3,hv,hr]
theorem zkl {n sz s id off:Nat}{ag:Bool}{cells:List AV}{rc:List RC}(hn:lk n e=some (.ptr id 0 off))(hg:h.get id=some (.mem s [cells]))(hc:getC sz ag cells off=some v)(hr:resA h.get e rc=some rs):resA h.get e (.cell n sz ag::rc)=some (v::rs):=by
 simp [resA,zb3,hn,rdP,hg,hc,hr]

structure PureQ (h:AHeap)(rcs:List RC)(r:AV)(ex:Exit)(e:Env)(h1:AHeap):Prop where
 ex:ex = .ret∨ex = .normal
 keeps:Keeps h h1
 res:∃ rs,resA h1.get e rcs=some rs∧Fz h h1 (fin rs) r
theorem PureQ.fin {x:Exit}(hex:x = .ret∨x = .normal)(hk:Keeps h h1)(hr:resA h1.get e rcs=some rs)(hf:Fz h h1 (Go.Abs.fin rs) r):PureQ h rcs r x e h1:=⟨hex,hk,rs,hr,hf⟩
theorem AE.pureQ (hfn:FnIs P f N cc rcs)(hn:vs.length≤N)(hw:AW P N cc (PureQ h rcs r) (argE 0 vs) h):AE P f vs h r h :=
 AE.pure hfn hn (hw.mono fun _ _ _ q=>⟨q.ex,q.keeps,q.res⟩)

theorem Fz.tup2 {a b a' b':AV}(ha:Fz h h1 a a')(hb:Fz h h1 b b'):Fz h h1 (.tup [a,b]) (.tup [a',b']) :=
 .tup _ _ rfl fun i x y hx hy=>by
  rcases i with _ | _ | i
  ·simp at hx hy;subst hx;subst hy;exact ha
  ·simp at hx hy;subst hx;subst hy;exact hb
  ·simp at hx
theorem Fz.tup3 {a b c a' b' c':AV}(ha:Fz h h1 a a')(hb:Fz h h1 b b')(hc:Fz h h1 c c'):Fz h h1 (.tup [a,b,c]) (.tup [a',b',c']) :=
 .tup _ _ rfl fun i x y hx hy=>by
  rcases i with _ | _ | _ | i
  ·simp at hx hy;subst hx;subst hy;exact ha
  ·simp at hx hy;subst hx;subst hy;exact hb
  ·simp at hx hy;subst hx;subst hy;exact hc
  ·simp at hx
theorem fz_b {a b:Bool}(hab:a=b):Fz h h1 (.bool a) (.bool b):=by subst hab;exact .clo _ (.bool _)
theorem fz_i {k:IntKind}{a b:Int}(hab:a=b):Fz h h1 (.int k a) (.int k b):=by subst hab;exact .clo _ (.int _ _)
def AV.flat:AV→Bool
 | .bool _ | .int _ _ | .str _ => true
 | _ => false
theorem z13 {u:Nat→Prop}(hv:AV.flat v=true):Clo u v:=by
 cases v <;> first | (simp [AV.flat] at hv;done) | exact .bool _ | exact .int _ _ | exact .str _
theorem zd {xs ys:List AV}(hab:xs=ys)(hf:∀ v∈xs,AV.flat v=true):Fz h h1 (.agg xs) (.agg ys):=by
 subst hab;exact .clo _ (.agg _ fun v hv=>z13 (hf v hv))
def flatC (c:List (List AV)):Prop:=∀ x∈c,∀ v∈x,AV.flat v=true
theorem z83 {id gn sz:Nat}{c c':List (List AV)}(hc:c=c')(hf:flatC c):Fz h h1 (.app id gn sz c) (.imm sz c'):=by
 subst hc;exact .app _ _ _ _ fun x hx v hv=>z13 (hf x hx v hv)
theorem zkm {sz:Nat}{c c':List (List AV)}(hc:c=c')(hf:flatC c):Fz h h1 (.imm sz c) (.imm sz c'):=by
 subst hc;exact .clo _ (.imm _ _ fun x hx v hv=>z13 (hf x hx v hv))
theorem zb5 {id n sz:Nat}{c c':List (List AV)}(hg:h1.get id=some (.mem sz c))(hu:h.next≤id)(hl:c.length=n)(hc:c=c')(hf:flatC c):Fz h h1 (.ref id 0 n) (.imm sz c'):=by
 subst hc;subst hl
 have:=Fz.ref (h:=h) id 0 c.length sz c hg (fun hu'=>by have:=hu'.1;omega) fun x hx v hv=>z13 (hf x hx v hv)
 simpa using this
theorem clo_imm {u:Nat→Prop}{sz:Nat}{c:List (List AV)}(hf:flatC c):Clo u (.imm sz c) := .imm _ _ fun x hx v hv=>z13 (hf x hx v hv)
theorem z2m {α:Type}{f:α→List AV}{l:List α}(hf:∀ a,∀ v∈f a,AV.flat v=true):flatC (l.map f):=by
 intro x hx v hv
 obtain ⟨a,_,rfl⟩:=List.mem_map.1 hx
 exact hf a v hv

end
end Go.Abs

namespace Go.Abs
open Go

def zh:Opd→List Nat
 | .t n => [n]
 | .c _ => []
def z1p:List Opd→List Nat
 | [] => []
 | x :: xs => zh x ++ z1p xs
def zb6:List (Nat×Nat×Opd)→List Nat
 | [] => []
 | (_, _, x) :: xs => zh x ++ zb6 xs
def z4y:Option Opd→List Nat
 | some x => zh x
 | none => []
def z10:Ex→List Nat
 | .mkmap => []
 | .look _ _ _ m k => zh m ++ zh k
 | .mput _ m k v => zh m ++ (zh k ++ zh v)
 | .mlen x | .s2b x | .caps x => zh x
 | .slc3 _ x lo hi mx => zh x ++ (z4y lo ++ (z4y hi ++ zh mx))
 | .callx _ xs => z1p xs
 | .strish x | .mkif _ x | .asrt _ _ _ x | .clr _ _ x => zh x
 | .appz _ _ _ s n => zh s ++ zh n
 | .inv _ x xs => zh x ++ z1p xs
def z16:Ins→List Nat
 | .mov x | .box _ x | .load _ _ x | .nilck x | .isnil _ x | .not x | .conv _ x | .b2s x | .faddr _ x | .fld _ _ _ x | .ext _ x | .len x => zh x
 | .pick c a b => zh c ++ (zh a ++ zh b)
 | .alloc _ | .bsl0 | .bad => []
 | .build _ ps => zb6 ps
 | .bsl _ xs => z1p xs
 | .store _ p x => zh p ++ zh x
 | .bin _ x y | .sh _ x y | .eqv _ _ x y | .iaddr _ x y | .iaddrA _ _ x y | .app _ _ x y | .cpy _ x y | .mn x y => zh x ++ zh y
 | .mksl _ _ _ l c => zh l ++ zh c
 | .mkf _ xs ys => z1p xs ++ z1p ys
 | .slc _ x lo hi => zh x ++ (z4y lo ++ z4y hi)
 | .call _ xs => z1p xs
 | .callv x xs => zh x ++ z1p xs
 | .raw x => z10 x
def zk (c:CI):List Nat:=match c.g with
 | some (s, _) => s :: z16 c.i
 | none => z16 c.i

section
variable {P:Program}{N:Nat}{e e2 e':Env}{h h':AHeap}

theorem z5 {x:Opd}(hs:∀ s∈zh x,lk s e2=lk s e):ev e2 x=ev e x:=by
 cases x with
 | t n => exact hs n (by simp [zh])
 | c v => rfl
theorem z25:∀ {xs:List Opd},(∀ s∈z1p xs,lk s e2=lk s e)→evL e2 xs=evL e xs
 | [], _ => rfl
 | x :: xs, hs => by
  simp only [evL]
  rw [z5 fun s h=>hs s (by simp [z1p,h]),z25 fun s h=>hs s (by simp [z1p,h])]
theorem zi9:∀ {xs:List (Nat×Nat×Opd)},(∀ s∈zb6 xs,lk s e2=lk s e)→evP e2 xs=evP e xs
  | [], _ => rfl
  | (_, _, x) :: xs, hs => by
    simp only [evP]
    rw [z5 fun s h=>hs s (by simp [zb6,h]),zi9 fun s h=>hs s (by simp [zb6,h])]
theorem zia {n:Nat}{x:Option Opd}(hs:∀ s∈z4y x,lk s e2=lk s e):bnd e2 n x=bnd e n x:=by
 cases x with
 | none => rfl
 | some x => simp only [bnd]; rw [z5 hs]

theorem zme {nm:Nat}{g:Nat→Option AObj}{i:Ins}(hs:∀ s∈z16 i,lk s e2=lk s e):evalI nm i e2 g=evalI nm i e g:=by
  cases i <;> simp only [z16,List.mem_append] at hs <;> simp only [evalI] <;> first
    | rfl
    | (rw [z5 fun s h => hs s (.inl h), z5 fun s h => hs s (.inr (.inl h)), z5 fun s h => hs s (.inr (.inr h))]; done)
    | (rw [z5 fun s h => hs s (.inl h), z5 fun s h => hs s (.inr h)]; done)
    | (rw [z25 fun s h => hs s (.inl h), z25 fun s h => hs s (.inr h)]; done)
    | (rw [z5 hs]; done)
    | (rw [z25 hs]; done)
    | (rw [zi9 hs]; done)
    | (rw [z5 fun s h => hs s (.inl h)]
       simp only [zia fun s h=>hs s (.inr (.inl h)),zia fun s h=>hs s (.inr (.inr h))];done)
    | skip

def free0:Ins→Bool
 | .mov _ | .pick _ _ _ | .build _ _ | .bsl0 | .bsl _ _ | .nilck _ | .bin _ _ _ | .sh _ _ _ | .eqv _ _ _ _ | .isnil _ _ | .not _ | .conv _ _ | .mkf _ _ _ | .faddr _ _ | .fld _ _ _ _ | .iaddrA _ _ _ _ | .ext _ _ | .len _ | .mn _ _ => true
 | _ => false
theorem rdL_g {g g':Nat→Option AObj}{v:AV}:rdL g v=rdL g' v:=by cases v <;> rfl
theorem zoa {i:Ins}(hf:free0 i=true)(nm nm':Nat)(g g':Nat→Option AObj):evalI nm i e g=evalI nm' i e g':=by
 cases i <;> first
  | (simp [free0] at hf; done)
  | rfl
  | (simp only [evalI]; simp only [rdL_g (g := g) (g' := g')]; done)
theorem zob {i:Ins}(hf:free0 i=true){nm:Nat}{g:Nat→Option AObj}{r:Option AV}{f:Eff}(hx:evalI nm i e g=some (r,f)):f = .none:=by
  cases i <;> first
    | (simp [free0] at hf; done)
    | (simp only [evalI] at hx
       repeat' split at hx
       all_goals first
         | (cases hx; done)
         | (injection hx with hx; injection hx with h1 h2; exact h2.symm)
         | (unfold req at hx; split at hx <;> cases hx <;> rfl))

def FX (P:Program)(N:Nat)(c:CI)(e:Env)(h:AHeap)(r:Option AV)(h':AHeap):Prop :=
 ∀ (ops:Array Oper) (i:Nat) (o:Oper),ops[i]? = some o→compI P N ops o=c→∀ e2,(∀ s∈zk c,lk s e2=lk s e)→∀ (m:Inj) (w:World) (a:Act) (K:Act→World→Prop) (Q:Exit→Act→World→Prop),
  HR m h w→ER N m h w e2 a→(∀ m' w' a',HR m' h' w'→ER N m' h' w' (putR c.d r e2) a'→Step m h w m' h' w'→K a' w')→wpOp P ops Q i K a w

theorem zmf {o:Oper}{c:CI}(hco:c.d=o.dst)(hdst:∀ d,o.dst=some d→d < N)(hcomp:c.i.plain=true→zb P N o=some c.i){r:Option AV}{f:Eff}(hev:evalI h.next c.i e h.get=some (r,f))
  {m:Inj} {w:World} {a:Act} {K:Act→World→Prop} {Q:Exit→Act→World→Prop} (hr:HR m h w) (he:ER N m h w e a) (hk:∀ m' w' a',HR m' (f.on h.next h) w'→ER N m' (f.on h.next h) w' (putR c.d r e) a'→Step m h w m' (f.on h.next h) w'→K a' w') :
  o.wp P a w K Q:=by
 obtain ⟨m',w',hr',st,hres⟩:=ze2 hr (z11 hr) he (hcomp (zdd hev)) hev
 unfold Oper.wp
 cases r with
 | some v =>
  obtain ⟨cv,hrun,hv⟩:=hres
  rw [hrun,Oper.upon_value]
  refine hk m' w' _ hr' ?_ st
  rw [hco]
  exact (he.step st).putR hdst hv
 | none =>
  rw [hres,Oper.upon_skip]
  refine hk m' w' _ hr' ?_ st
  rw [hco]
  exact (he.step st).skipR _ _

theorem FX.ins {c:CI}{r:Option AV}{f:Eff}(hg:met e c.g)(hev:evalI h.next c.i e h.get=some (r,f)):FX P N c e h r (f.on h.next h):=by
 intro ops i o ho hc e2 hs m w a K Q hr he hk
 rcases zx hc with ⟨hb1,hb2⟩ | ⟨hd,hdst,hcomp,hgd⟩
 ·rw [hb1] at hev;simp [evalI] at hev
 ·obtain ⟨w1,w2⟩:=zl he hgd
  have hi:∀ s∈z16 c.i,lk s e2=lk s e:=fun s h=>hs s (by unfold zk;split <;> simp [h])
  have hw:Region.wanted o (yielded ops a.tmps)=true:=by
   cases hgc:c.g with
   | none => exact w1 hgc
   | some sb =>
    obtain ⟨s,b⟩:=sb
    rw [hgc] at hg
    have hl:lk s e2=some (.bool b):=(hs s (by simp [zk,hgc])).trans hg
    rw [w2 s b b hgc hl];simp
  simp only [wpOp,ho]
  rw [if_pos hw]
  exact .inl (zmf hd hdst hcomp (by rw [zme hi];exact hev) hr he hk)
theorem FX.skip {c:CI}{s:Nat}{b t:Bool}(hcg:c.g=some (s,b))(hl:lk s e=some (.bool t))(ht:t≠b):FX P N c e h none h:=by
 intro ops i o ho hc e2 hs m w a K Q hr he hk
 rcases zx hc with ⟨hb1,hb2⟩ | ⟨hd,hdst,hcomp,hgd⟩
 ·rw [hb2] at hcg;cases hcg
 ·obtain ⟨w1,w2⟩:=zl he hgd
  simp only [wpOp,ho]
  rw [w2 s b t hcg ((hs s (by simp [zk,hcg])).trans hl),if_neg (by simp [ht])]
  refine hk m w _ hr ?_ (Step.refl _ _ _)
  rw [hd]
  exact he.skipR _ _
theorem FX.call {d:Option Nat}{f:Nat}{xs:List Opd}{g:Option (Nat×Bool)}{vs:List AV}{r:AV}(hg:met e g)(hv:evL e xs=some vs)(hac:AE P f vs h r h'):FX P N ⟨d,.call f xs,g⟩ e h (some r) h':=by
 intro ops i o ho hc e2 hs m w a K Q hr he hk
 rcases zx hc with ⟨hb1,hb2⟩ | ⟨hd,hdst,hcomp,hgd⟩
 ·simp at hb1
 ·obtain ⟨w1,w2⟩:=zl he hgd
  have hi:∀ s∈z1p xs,lk s e2=lk s e:=fun s h=>hs s (by unfold zk;split <;> simp [h,z16])
  have hw:Region.wanted o (yielded ops a.tmps)=true:=by
   cases g with
   | none => exact w1 rfl
   | some sb =>
    obtain ⟨s,b⟩:=sb
    have hl:lk s e2=some (.bool b):=(hs s (by simp [zk])).trans hg
    rw [w2 s b b rfl hl];simp
  simp only [wpOp,ho]
  rw [if_pos hw]
  left
  have hco:=hcomp rfl
  obtain ⟨c,hop,hcal,hfn,hxs⟩:=z3p hco
  obtain ⟨hl1,hl2⟩:=he.evalL hxs ((z25 hi).trans hv)
  have hrun:(execOp a.eval o).run P w = .ok (.enter f (c.args.map a.eval)) w:=by
   simp [execOp,hop,resolve,hcal,Act.eval,Deferred.ofValue,invoke,z1b hfn]
  refine z3g hrun hr (by simpa using hl1) (fun j v hj=>by
   have:=hl2 j v hj
   simpa [Array.getD_eq_getD_getElem?,List.getD_eq_getElem?_getD] using this) hac fun v w' m' r1 h1 g1 g2 g3 ⟨g4,g5⟩ => ?_
  subst g4;subst g5
  refine hk m' w' _ g1 ?_ g3
  have hd':d=o.dst:=hd
  show ER N m' h1 w' (putR d (some r1) e2) _
  rw [hd']
  exact (he.step g3).putR hdst g2

theorem FX.of_stp {c:CI}(hs:Stp c e h e' h'):∃ r,e'=putR c.d r e∧FX P N c e h r h'∧(free0 c.i=true→h'=h∧∀ h2,FX P N c e h2 r h2):=by
 have hok:=hs.ok
 unfold z4x at hok
 have ex:∀ (hg:met e c.g),z3o c e h=some (e',h')→∃ r,e'=putR c.d r e∧FX P N c e h r h'∧(free0 c.i=true→h'=h∧∀ h2,FX P N c e h2 r h2):=fun hg hx=>by
  unfold z3o at hx
  split at hx
  ·rename_i r f hev
   cases hx
   refine ⟨r,rfl,FX.ins hg hev,fun hf => ?_⟩
   have hn:=zob hf hev
   subst hn
   exact ⟨rfl,fun h2=>FX.ins (f := .none) hg ((zoa hf _ _ _ _).trans hev)⟩
  ·cases hx
 split at hok
 ·rename_i hgn
  exact ex (by rw [hgn];trivial) hok
 ·rename_i s b hgs
  split at hok
  ·rename_i t hlk
   split at hok
   ·rename_i htb
    exact ex (by rw [hgs];simp only [met];rw [hlk,htb]) hok
   ·rename_i htb
    cases hok
    exact ⟨none,rfl,FX.skip hgs hlk htb,fun _=>⟨rfl,fun h2=>FX.skip hgs hlk htb⟩⟩
  ·cases hok
end
end Go.Abs

namespace Go.Abs
open Go

def ancs (es:List (List Nat))(acc:List Nat):List Nat :=
 match es with
 | [] => acc
 | ps :: es => ancs es (acc ++ [ps.foldl (fun s k => s ||| (2 ^ k ||| acc.getD k 0)) 0])
inductive Reach (es:List (List Nat)):Nat→Nat→Prop
 | one {k j : Nat} (hk : k ∈ es.getD j []) : Reach es k j
 | more {i k j : Nat} (hk : k ∈ es.getD j []) (hr : Reach es i k) : Reach es i j

theorem zf9 (acc:List Nat):∀ (ps:List Nat) (s i:Nat),(ps.foldl (fun s k=>s ||| (2 ^ k ||| acc.getD k 0)) s).testBit i=true→s.testBit i=true∨∃ k∈ps,i=k∨(acc.getD k 0).testBit i=true
 | [], s, i, h => .inl h
 | p :: ps, s, i, h => by
  rcases zf9 acc ps _ i h with h1 | ⟨k,hk,h1⟩
  ·rw [Nat.testBit_or,Nat.testBit_or,Bool.or_eq_true,Bool.or_eq_true] at h1
   rcases h1 with h1 | h1 | h1
   ·exact .inl h1
   ·rw [Nat.testBit_two_pow] at h1
    exact .inr ⟨p,by simp,.inl (of_decide_eq_true h1).symm⟩
   ·exact .inr ⟨p,by simp,.inr h1⟩
  ·exact .inr ⟨k,by simp [hk],h1⟩
theorem zcn (full:List (List Nat)):∀ (es:List (List Nat)) (acc:List Nat),full.drop acc.length=es→(∀ j i,(acc.getD j 0).testBit i=true→Reach full i j)→∀ j i,((ancs es acc).getD j 0).testBit i=true→Reach full i j
 | [], acc, _, hi => hi
 | ps :: es, acc, hd, hi => by
  have hps:full.getD acc.length []=ps:=by
   have:=congrArg (fun l=>l[0]?) hd
   simp at this
   simp [List.getD_eq_getElem?_getD,this]
  refine zcn full es _ (by simpa using congrArg List.tail hd) fun j i hb => ?_
  rcases Nat.lt_trichotomy j acc.length with hlt | rfl | hgt
  ·refine hi j i ?_
   simpa [List.getD_eq_getElem?_getD,List.getElem?_append_left hlt] using hb
  ·have hb':(ps.foldl (fun s k=>s ||| (2 ^ k ||| acc.getD k 0)) 0).testBit i=true:=by
    simpa [List.getD_eq_getElem?_getD] using hb
   rcases zf9 acc ps 0 i hb' with h1 | ⟨k,hk,h1⟩
   ·simp at h1
   ·rw [← hps] at hk
    rcases h1 with rfl | h1
    ·exact .one hk
    ·exact .more hk (hi k i h1)
  ·have:(acc++[ps.foldl (fun s k=>s ||| (2 ^ k ||| acc.getD k 0)) 0]).getD j 0=0:=by
    rw [List.getD_eq_getElem?_getD,List.getElem?_eq_none (by simp;omega)];rfl
   rw [this] at hb
   simp at hb

def dslot (c:CI)(s:Nat):Bool:=c.d==some s
def heapy (l:List CI)(ws fs:List Nat)(j:Nat):Bool:=ws.contains j || !(free0 (l.getD j default).i || fs.contains j)
def touch (l:List CI)(ws fs:List Nat)(i j:Nat):Bool :=
 (zk (l.getD j default)).any (dslot (l.getD i default)) || (zk (l.getD i default)).any (dslot (l.getD j default)) ||
 ((l.getD i default).d.isSome&&(l.getD i default).d==(l.getD j default).d) ||
 ((ws.contains i || ws.contains j)&&heapy l ws fs i&&heapy l ws fs j)
def chkD (l:List CI)(es:List (List Nat))(ws fs:List Nat):Bool :=
 es.length==l.length&&(List.range l.length).all fun j=>(es.getD j []).all (fun k=>k < j)&&(List.range j).all fun i => !touch l ws fs i j || ((ancs es []).getD j 0).testBit i

inductive DW (P:Program) (N:Nat) (Φ:AHeap→Prop) (ws fs:List Nat) (K:Env→AHeap→Prop):Nat→List CI→Env→AHeap→Prop
 | nil {j : Nat} {e e' : Env} {h : AHeap} (hs : subE e' e) (hk : K e' h) : DW P N Φ ws fs K j [] e h
 | fx {j : Nat} {c : CI} {l : List CI} {e : Env} {h h' : AHeap} {r : Option AV} (hx : FX P N c e h r h') (h0 : free0 c.i = true → h' = h ∧ ∀ h2, FX P N c e h2 r h2) (hw : ws.contains j = false → h' = h) (hp : Φ h → Φ h') (hf : fs.contains j = true → ∀ h2, Φ h2 → FX P N c e h2 r h2)
   (k:DW P N Φ ws fs K (j+1) l (putR c.d r e) h'):DW P N Φ ws fs K j (c::l) e h

section
variable {P:Program}{N:Nat}{e:Env}{h:AHeap}{Φ:AHeap→Prop}{ws fs:List Nat}{K:Env→AHeap→Prop}{l:List CI}{es:List (List Nat)}

structure Tr (P:Program)(N:Nat)(Φ:AHeap→Prop)(ws fs:List Nat)(c:Nat→CI)(ee:Nat→Env)(hh:Nat→AHeap)(rr:Nat→Option AV)(j:Nat):Prop where
 fx:FX P N (c j) (ee j) (hh j) (rr j) (hh (j+1))
 zero:free0 (c j).i=true→hh (j+1)=hh j∧∀ h2,FX P N (c j) (ee j) h2 (rr j) h2
 keep:ws.contains j=false→hh (j+1)=hh j
 phi:Φ (hh j)→Φ (hh (j+1))
 free:fs.contains j=true→∀ h2,Φ h2→FX P N (c j) (ee j) h2 (rr j) h2
 env:ee (j+1)=putR (c j).d (rr j) (ee j)

theorem DW.trace:∀ {j:Nat} {l:List CI} {e:Env} {h:AHeap},DW P N Φ ws fs K j l e h →
  ∃ (ee:Nat→Env) (hh:Nat→AHeap) (rr:Nat→Option AV),ee j=e∧hh j=h∧(∃ e',subE e' (ee (j+l.length))∧K e' (hh (j+l.length)))∧∀ i,j≤i→i < j+l.length→Tr P N Φ ws fs (fun k=>l.getD (k - j) default) ee hh rr i:=by
 intro j l e h hd
 induction hd with
 | nil hs hk => exact ⟨fun _ => _, fun _ => _, fun _ => none, rfl, rfl, ⟨_, hs, hk⟩, fun i h1 h2 => by simp at h2; omega⟩
 | @fx j c l e h h' r hx h0 hw hp hf k ih =>
  obtain ⟨ee,hh,rr,q1,q2,q3,q4⟩:=ih
  refine ⟨fun i=>if i=j then e else ee i,fun i=>if i=j then h else hh i,fun i=>if i=j then r else rr i,by simp,by simp,?_,fun i h1 h2 => ?_⟩
  ·have hne:¬ (j+1+l.length=j):=by omega
   have:j+(c::l).length=j+1+l.length:=by simp;omega
   simp only [this,hne,if_false]
   exact q3
  ·rcases Nat.eq_or_lt_of_le h1 with rfl | hlt
   ·have e1:((c::l).getD (j - j) default)=c:=by simp
    have e2:¬ (j+1=j):=by omega
    exact {
     fx:=by simp only [e1,e2,if_false,if_true,q2];exact hx
     zero:=by simp only [e1,e2,if_false,if_true,q2];exact h0
     keep:=by simp only [e2,if_false,if_true,q2];exact hw
     phi:=by simp only [e2,if_false,if_true,q2];exact hp
     free:=by simp only [e1,if_true];exact hf
     env:=by simp only [e1,e2,if_false,if_true,q1] }
   ·have t:=q4 i hlt (by simp at h2;omega)
    have e1:((c::l).getD (i - j) default)=l.getD (i - (j+1)) default:=by
     have:i - j=(i - (j+1))+1:=by omega
     rw [this];simp
    have e2:¬ (i+1=j):=by omega
    have e3:¬ (i=j):=by omega
    exact {
     fx:=by simpa only [e1,e2,e3,if_false] using t.fx
     zero:=by simpa only [e1,e2,e3,if_false] using t.zero
     keep:=by simpa only [e2,e3,if_false] using t.keep
     phi:=by simpa only [e2,e3,if_false] using t.phi
     free:=by simpa only [e1,e3,if_false] using t.free
     env:=by simpa only [e1,e2,e3,if_false] using t.env }

theorem zz {d:Option Nat}{r:Option AV}{s:Nat}(hne:d≠some s):lk s (putR d r e)=lk s e:=by
 cases d with
 | none => rfl
 | some d => simp only [putR, z6]; rw [if_neg fun e1 => hne (by rw [e1])]
theorem zf {r:Option AV}{s:Nat}:lk s (putR (some s) r e)=r:=by simp [putR,z6]

def eD (c:Nat→CI)(rr:Nat→Option AV)(e:Env)(D:Nat→Bool):Nat→Env
 | 0 => e
 | j + 1 => if D j then putR (c j).d (rr j) (eD c rr e D j) else eD c rr e D j
def hD (ws:List Nat)(hh:Nat→AHeap)(h:AHeap)(D:Nat→Bool):Nat→AHeap
 | 0 => h
 | j + 1 => if D j && ws.contains j then hh (j + 1) else hD ws hh h D j

theorem z2f {c:Nat→CI}{rr:Nat→Option AV}{D:Nat→Bool}{s i:Nat}:∀ n,i≤n→(∀ k,i≤k→k < n→(c k).d=some s→D k=false)→lk s (eD c rr e D n)=lk s (eD c rr e D i)
  | 0, hi, _ => by have : i = 0 := by omega
                   subst this;rfl
  | n + 1, hi, hk => by
    rcases Nat.eq_or_lt_of_le hi with rfl | hlt
    · rfl
    · rw [← z2f n (by omega) fun k h1 h2=>hk k h1 (by omega)]
      simp only [eD]
      split
      · rename_i hd
        refine zz fun e1 => ?_
        rw [hk n (by omega) (by omega) e1] at hd
        cases hd
      · rfl
theorem z4o {c:Nat→CI}{rr:Nat→Option AV}{ee:Nat→Env}{D:Nat→Bool}{s n:Nat}(h0:ee 0=e)(hs:∀ j,j < n→ee (j+1)=putR (c j).d (rr j) (ee j)):∀ i,i≤n→(∀ k,k < i→(c k).d=some s→D k=true)→lk s (eD c rr e D i)=lk s (ee i)
 | 0, _, _ => by rw [h0]; rfl
 | i + 1, hi, hk => by
  rw [hs i (by omega)]
  simp only [eD]
  have ih:=z4o h0 hs i (by omega) fun k h1=>hk k (by omega)
  by_cases hd:(c i).d=some s
  ·rw [hk i (by omega) hd,if_pos rfl,hd,zf,zf]
  ·rw [zz hd]
   split
   ·rw [zz hd];exact ih
   ·exact ih
theorem zco {hh:Nat→AHeap}{D:Nat→Bool}{i:Nat}:∀ n,i≤n→(∀ k,i≤k→k < n→ws.contains k=true→D k=false)→hD ws hh h D n=hD ws hh h D i
  | 0, hi, _ => by have : i = 0 := by omega
                   subst this;rfl
  | n + 1, hi, hk => by
    rcases Nat.eq_or_lt_of_le hi with rfl | hlt
    · rfl
    · rw [← zco n (by omega) fun k h1 h2=>hk k h1 (by omega)]
      simp only [hD]
      split
      · rename_i hd
        rw [Bool.and_eq_true] at hd
        rw [hk n (by omega) (by omega) hd.2] at hd
        cases hd.1
      · rfl
theorem zh3 {hh:Nat→AHeap}{D:Nat→Bool}{n:Nat}(h0:hh 0=h)(hs:∀ j,j < n→ws.contains j=false→hh (j+1)=hh j):∀ i,i≤n→(∀ k,k < i→ws.contains k=true→D k=true)→hD ws hh h D i=hh i
 | 0, _, _ => by rw [h0]; rfl
 | i + 1, hi, hk => by
  simp only [hD]
  cases hw:ws.contains i
  ·simp only [Bool.and_false,Bool.false_eq_true,if_false]
   rw [hs i (by omega) hw]
   exact zh3 h0 hs i (by omega) fun k h1=>hk k (by omega)
  ·simp [hk i (by omega) hw]
theorem znb {hh:Nat→AHeap}{D:Nat→Bool}(h0:hh 0=h):∀ n,∃ i,i≤n∧hD ws hh h D n=hh i
 | 0 => ⟨0, Nat.le_refl _, by rw [h0]; rfl⟩
 | n + 1 => by
  simp only [hD]
  split
  ·exact ⟨n+1,Nat.le_refl _,rfl⟩
  ·obtain ⟨i,h1,h2⟩:=znb (D:=D) h0 n
   exact ⟨i,by omega,h2⟩
theorem znc {hh:Nat→AHeap}{D D':Nat→Bool}:∀ n,(∀ k,k < n→ws.contains k=true→D' k=D k)→hD ws hh h D' n=hD ws hh h D n
 | 0, _ => rfl
 | n + 1, hk => by
  simp only [hD]
  rw [znc n fun k h1=>hk k (by omega)]
  cases hw:ws.contains n
  ·simp
  ·rw [hk n (by omega) hw]

theorem z26 (n j:Nat):(Array.replicate n false).getD j false=false:=by
 rw [Array.getD_eq_getD_getElem?,Array.getElem?_replicate];split <;> rfl

theorem Reach.done {D:Nat→Bool}(hcl:∀ j,D j=true→∀ k∈es.getD j [],D k=true){i j:Nat}(hr:Reach es i j):(∀ k∈es.getD j [],D k=true)→D i=true:=by
 induction hr with
 | one hk => exact fun h => h _ hk
 | more hk _ ih => exact fun h => ih (hcl _ (h _ hk))

theorem AW.dreg {Q:Exit→Env→AHeap→Prop}(hm:P.follows .mixedOrders=true)(hc:chkD l es ws fs=true)(hphi:Φ h)(hd:DW P N Φ ws fs (fun e h=>Q .normal e h) 0 l e h):AW P N (.dreg l es) Q e h:=by
 intro code hcode m w a hr he
 cases code <;> simp only [compC] at hcode <;> try (cases hcode;done)
 ·rename_i id ops dr
  split at hcode
  ·rename_i hdr
   subst hdr
   injection hcode with hl hes
   refine wp_region_any hm ?_
   obtain ⟨ee,hh,rr,q1,q2,q3,q4⟩:=hd.trace
   simp only [Nat.zero_add] at q3 q4
   have hn:ops.size=l.length:=by rw [← hl];simp [compR]
   -- the checks
   simp only [chkD,Bool.and_eq_true,List.all_eq_true,List.mem_range,beq_iff_eq,decide_eq_true_eq] at hc
   obtain ⟨hlen,hchk⟩:=hc
   have hback:∀ j,j < l.length→∀ k∈es.getD j [],k < j:=fun j hj k hk=>by simpa using (hchk j hj).1 k hk
   have htouch:∀ i j,i < j→j < l.length→touch l ws fs i j=true→Reach es i j:=fun i j hij hj ht=>by
    have:=(hchk j hj).2 i hij
    rw [ht] at this
    exact zcn es es [] rfl (fun j i hb=>by simp at hb) j i (by simpa using this)
   have hes':∀ j (hj:j < ops.size),es.getD j []=((ops[j]).after.toList.filter (Region.binds .any)).map (·.on):=fun j hj=>by
    rw [← hes];simp [zf5,List.getD_eq_getElem?_getD,hj]
   have hci:∀ j (hj:j < ops.size),compI P N ops (ops[j])=l.getD j default:=fun j hj=>by
    rw [← hl];simp [compR,List.getD_eq_getElem?_getD,hj]
   have henv:∀ j,j < l.length→ee (j+1)=putR (l.getD j default).d (rr j) (ee j):=fun j hj=>(q4 j (Nat.zero_le _) hj).env
   have hkeep:∀ j,j < l.length→ws.contains j=false→hh (j+1)=hh j:=fun j hj=>(q4 j (Nat.zero_le _) hj).keep
   have hphi':∀ i,i≤l.length→Φ (hh i):=fun i=>by
    induction i with
    | zero => intro _; rw [q2]; exact hphi
    | succ i ih => intro hi; exact (q4 i (Nat.zero_le _) (by omega)).phi (ih (by omega))
   obtain ⟨ez,q3s,q3⟩:=q3
   obtain ⟨c,hcc'⟩:∃ c:Nat→CI,∀ k,l.getD k default=c k:=⟨_,fun _=>rfl⟩
   have ecc:(fun k=>l.getD (k - 0) default)=c:=funext fun k=>by rw [Nat.sub_zero,hcc']
   rw [ecc] at q4
   simp only [hcc'] at henv hci
   -- the induction
   suffices H:∀ (fuel:Nat) (listed:Array Bool) (U:List Nat) (m1:Inj) (w1:World) (a1:Act),listed.size=l.length→U.length≤fuel→U.Nodup→(∀ j,j < l.length→(listed.getD j false=false ↔ j∈U)) →
     (∀ j,listed.getD j false=true→∀ k∈es.getD j [],listed.getD k false=true) →
     HR m1 (hD ws hh h (fun j=>listed.getD j false) l.length) w1→ER N m1 (hD ws hh h (fun j=>listed.getD j false) l.length) w1 (eD c rr e (fun j=>listed.getD j false) l.length) a1 →
     Step m h w m1 (hD ws hh h (fun j=>listed.getD j false) l.length) w1→wpAny P .any ops (PA N Q m h w) fuel listed a1 w1 by
    have st:=step_drew (m:=m) (h:=h) (w:=w)
    refine H ops.size (Array.replicate ops.size false) (List.range l.length) m { w with drawn:=w.drawn+1 } a (by simp [hn]) (by simp [hn]) List.nodup_range (fun j hj=>by simp [List.getD,hn,hj]) (fun j hj => ?_) ?_ ?_ ?_
    ·rw [z26] at hj;cases hj
    all_goals
     have e1:hD ws hh h (fun j=>(Array.replicate ops.size false).getD j false) l.length=h:=zco (i:=0) l.length (Nat.zero_le _) fun k _ _ _=>z26 _ _
    ·rw [e1];exact hr.drew
    ·rw [e1]
     have e2:∀ s,lk s (eD c rr e (fun j=>(Array.replicate ops.size false).getD j false) l.length)=lk s e:=fun s=>z2f (i:=0) l.length (Nat.zero_le _) fun k _ _ _=>z26 _ _
     have he':=he.step st
     exact ⟨he'.size,he'.defers,fun i v hv=>he'.val i v (by rw [← e2];exact hv)⟩
    ·rw [e1];exact st
   intro fuel
   -- all is done
   have fin:∀ (listed:Array Bool) (m1:Inj) (w1:World) (a1:Act),listed.size=l.length→Region.ready .any ops listed=[] →
     HR m1 (hD ws hh h (fun j=>listed.getD j false) l.length) w1→ER N m1 (hD ws hh h (fun j=>listed.getD j false) l.length) w1 (eD c rr e (fun j=>listed.getD j false) l.length) a1 →
     Step m h w m1 (hD ws hh h (fun j=>listed.getD j false) l.length) w1→PA N Q m h w .normal a1 w1:=fun listed m1 w1 a1 hsz hrd h1 h2 h3=>by
    have hall:∀ j,j < l.length→listed.getD j false=true:=fun j=>by
     induction j using Nat.strongRecOn with
     | ind j ih =>
      intro hj
      cases hx:listed.getD j false
      ·have:j∈Region.ready .any ops listed:=mem_ready.2 ⟨by simpa [Array.getD_eq_getD_getElem?,hsz,hj] using hx,ops[j]'(by omega),by simp [hn,hj],fun ed hed hb => ?_⟩
       ·rw [hrd] at this;cases this
       ·have hk:ed.on∈es.getD j []:=by
         rw [hes' j (by omega)]
         exact List.mem_map.2 ⟨ed,List.mem_filter.2 ⟨by simpa using hed,hb⟩,rfl⟩
        have:=hback j hj _ hk
        exact ih _ this (by omega)
      ·rfl
    have e1:hD ws hh h (fun j=>listed.getD j false) l.length=hh l.length:=zh3 q2 hkeep l.length (Nat.le_refl _) fun k hk _=>hall k hk
    have e2:∀ s,lk s (eD c rr e (fun j=>listed.getD j false) l.length)=lk s (ee l.length):=fun s=>z4o q1 henv l.length (Nat.le_refl _) fun k hk _=>hall k hk
    rw [e1] at h1 h2 h3
    exact ⟨m1,ez,hh l.length,h1,⟨h2.size,h2.defers,fun i v hv=>h2.val i v (by rw [e2];exact q3s i v hv)⟩,h3,q3⟩
   induction fuel with
   | zero =>
    intro listed U m1 w1 a1 hsz hU hnd hmem hcl h1 h2 h3
    have hU0:U=[]:=List.length_eq_zero_iff.1 (by omega)
    subst hU0
    have hrd:Region.ready .any ops listed=[]:=List.eq_nil_iff_forall_not_mem.2 fun j hj=>by
     obtain ⟨g0,o,g1,_⟩:=mem_ready.1 hj
     have hj':j < l.length:=by rw [← hn];exact (Array.getElem?_eq_some_iff.1 g1).1
     have:=(hmem j hj').1 (by simpa [Array.getD_eq_getD_getElem?,hsz,hj'] using g0)
     cases this
    exact ⟨hrd,fin listed m1 w1 a1 hsz hrd h1 h2 h3⟩
   | succ fuel ih =>
    intro listed U m1 w1 a1 hsz hU hnd hmem hcl h1 h2 h3
    refine ⟨fun hrd=>fin listed m1 w1 a1 hsz hrd h1 h2 h3,fun i hi => ?_⟩
    obtain ⟨g0,o,g1,g2⟩:=mem_ready.1 hi
    have hi':i < l.length:=by rw [← hn];exact (Array.getElem?_eq_some_iff.1 g1).1
    have hio:i < ops.size:=by omega
    have ho:ops[i]=o:=(Array.getElem?_eq_some_iff.1 g1).2
    have hDi:listed.getD i false=false:=by simpa [Array.getD_eq_getD_getElem?,hsz,hi'] using g0
    have hpre:∀ k∈es.getD i [],listed.getD k false=true:=fun k hk=>by
     rw [hes' i hio,ho] at hk
     obtain ⟨ed,hed,rfl⟩:=List.mem_map.1 hk
     obtain ⟨he1,he2⟩:=List.mem_filter.1 hed
     exact g2 ed (by simpa using he1) he2
    -- ahead: done; behind: not done
    have ahead:∀ k,k < i→touch l ws fs k i=true→listed.getD k false=true:=fun k hk ht=>(htouch k i hk hi' ht).done (D:=fun j=>listed.getD j false) hcl hpre
    have behind:∀ k,i < k→k < l.length→touch l ws fs i k=true→listed.getD k false=false:=fun k hk hkl ht=>by
     cases hx:listed.getD k false
     ·rfl
     ·have:=(htouch i k hk hkl ht).done (D:=fun j=>listed.getD j false) hcl (hcl k hx)
      rw [hDi] at this;cases this
    have t:=q4 i (Nat.zero_le _) hi'
    -- the slots
    have hsl:∀ s∈zk (c i),lk s (eD c rr e (fun j=>listed.getD j false) l.length)=lk s (ee i):=fun s hs=>by
     rw [z2f (i:=i) l.length (by omega) fun k hk1 hk2 hkd => ?_]
     ·exact z4o q1 henv i (by omega) fun k hk1 hkd=>ahead k hk1 (by
       simp only [touch,hcc',Bool.or_eq_true]
       exact .inl (.inl (.inl (List.any_eq_true.2 ⟨s,hs,by simp [dslot,hkd]⟩))))
     ·rcases Nat.eq_or_lt_of_le hk1 with rfl | hlt
      ·exact hDi
      ·exact behind k hlt hk2 (by
        simp only [touch,hcc',Bool.or_eq_true]
        exact .inl (.inl (.inr (List.any_eq_true.2 ⟨s,hs,by simp [dslot,hkd]⟩))))
    -- the heap
    have hheap:heapy l ws fs i=true→hD ws hh h (fun j=>listed.getD j false) l.length=hh i:=fun hy=>by
     rw [zco (i:=i) l.length (by omega) fun k hk1 hk2 hkw => ?_]
     ·exact zh3 q2 hkeep i (by omega) fun k hk1 hkw=>ahead k hk1 (by
       have:heapy l ws fs k=true:=by unfold heapy;rw [hkw];rfl
       simp only [touch,hkw,hy,this,Bool.or_eq_true]
       exact .inr (by simp))
     ·rcases Nat.eq_or_lt_of_le hk1 with rfl | hlt
      ·exact hDi
      ·exact behind k hlt hk2 (by
        have:heapy l ws fs k=true:=by unfold heapy;rw [hkw];rfl
        simp only [touch,hkw,hy,this,Bool.or_eq_true]
        exact .inr (by simp))
    have hnew:∀ k,(listed.setIfInBounds i true).getD k false=(if k=i then true else listed.getD k false):=fun k=>by
     by_cases hk:k=i
     ·subst hk;simp [hsz,hi']
     ·rw [if_neg hk];exact getD_set_ne false (Ne.symm hk)
    have hDn:(fun k=>(listed.setIfInBounds i true).getD k false)=fun k=>if k=i then true else listed.getD k false:=funext hnew
    -- what holds behind it
    have go:∀ h',hD ws hh h (fun k=>if k=i then true else listed.getD k false) l.length=h'→FX P N (c i) (ee i) (hD ws hh h (fun j=>listed.getD j false) l.length) (rr i) h' →
      wpOp P ops (PA N Q m h w) i (wpAny P .any ops (PA N Q m h w) fuel (listed.setIfInBounds i true)) a1 w1:=fun h' hh' hfx=>by
     refine hfx ops i o g1 (by rw [← ho,hci i hio]) _ hsl m1 w1 a1 _ _ h1 h2 fun m2 w2 a2 r1 r2 r3 => ?_
     refine ih (listed.setIfInBounds i true) (U.erase i) m2 w2 a2 (by simp [hsz]) ?_ (hnd.erase i) (fun j hj => ?_) (fun j hj => ?_) ?_ ?_ ?_
     ·rw [List.length_erase_of_mem ((hmem i hi').1 hDi)];omega
     ·rw [hnew,hnd.mem_erase_iff]
      by_cases hji:j=i
      ·simp [hji]
      ·simp [hji,← hmem j hj]
     ·intro k hk
      rw [hnew] at hj ⊢
      by_cases hki:k=i
      ·simp [hki]
      ·rw [if_neg hki]
       by_cases hji:j=i
       ·subst hji;exact hpre k hk
       ·rw [if_neg hji] at hj;exact hcl j hj k hk
     ·rw [hDn,hh'];exact r1
     ·rw [hDn,hh']
      refine ⟨r2.size,r2.defers,fun s v hv=>r2.val s v ?_⟩
      rw [← hv]
      by_cases hds:(c i).d=some s
      ·rw [hds,zf]
       rw [z2f (i:=i+1) l.length (by omega) fun k hk1 hk2 hkd => ?_]
       ·simp only [eD,if_true,hds,zf]
       ·have:¬ k=i:=by omega
        simp only [this,if_false]
        exact behind k (by omega) hk2 (by
         simp only [touch,hcc',Bool.or_eq_true]
         exact .inl (.inr (by simp [hds,hkd])))
      ·rw [zz hds]
       have key:∀ n,lk s (eD c rr e (fun j=>listed.getD j false) n)=lk s (eD c rr e (fun k=>if k=i then true else listed.getD k false) n):=fun n=>by
        induction n with
        | zero => rfl
        | succ n ihn =>
         simp only [eD]
         by_cases hni:n=i
         ·subst hni
          simp only [if_true,hDi,Bool.false_eq_true,if_false]
          rw [zz hds];exact ihn
         ·simp only [hni,if_false]
          split
          ·by_cases hdn:(c n).d=some s
           ·rw [hdn,zf,zf]
           ·rw [zz hdn,zz hdn];exact ihn
          ·exact ihn
       exact key _
     ·rw [hDn,hh'];exact h3.trans r3
    have hlater:ws.contains i=false→hD ws hh h (fun k=>if k=i then true else listed.getD k false) l.length=hD ws hh h (fun j=>listed.getD j false) l.length:=fun hwi=>znc l.length fun k hk hkw=>by
     have:¬ k=i:=fun e1=>by rw [e1,hwi] at hkw;cases hkw
     simp [this]
    cases hwi:ws.contains i
    ·-- the heap stays
     cases hf0:free0 (c i).i
     ·cases hff:fs.contains i
      ·have hy:heapy l ws fs i=true:=by unfold heapy;rw [hwi,hcc',hf0,hff];rfl
       have e1:=hheap hy
       refine go _ (hlater hwi) ?_
       rw [e1]
       have:=t.fx
       rwa [t.keep hwi] at this
      ·obtain ⟨i0,hi0,e1⟩:=znb (ws:=ws) (D:=fun j=>listed.getD j false) q2 l.length
       refine go _ (hlater hwi) ?_
       rw [e1]
       exact t.free hff _ (hphi' i0 hi0)
     ·exact go _ (hlater hwi) ((t.zero hf0).2 _)
    ·have hy:heapy l ws fs i=true:=by unfold heapy;rw [hwi];rfl
     have e1:=hheap hy
     refine go (hh (i+1)) ?_ ?_
     ·rw [zco (i:=i+1) l.length (by omega) fun k hk1 hk2 hkw => ?_]
      ·simp only [hD,if_true,hwi,Bool.and_self]
      ·have:¬ k=i:=by omega
       simp only [this,if_false]
       exact behind k (by omega) hk2 (by
        have hky:heapy l ws fs k=true:=by unfold heapy;rw [hkw];rfl
        simp only [touch,hkw,hy,hky,Bool.or_eq_true]
        exact .inr (by simp))
     ·rw [e1];exact t.fx
  ·cases hcode
 ·split at hcode <;> cases hcode
 ·split at hcode <;> cases hcode
end
end Go.Abs

namespace Go.Abs
open Go

section
variable {P:Program}{N:Nat}{e e' e2:Env}{h h':AHeap}{Φ:AHeap→Prop}{ws fs:List Nat}{K:Env→AHeap→Prop}{l:List CI}{j:Nat}

theorem FX.env {c:CI}{r:Option AV}(hs:∀ s,lk s e2=lk s e)(hx:FX P N c e2 h r h'):FX P N c e h r h' :=
 fun ops i o ho hc e3 h3=>hx ops i o ho hc e3 fun s hs'=>(h3 s hs').trans (hs s).symm
theorem z36 {d:Option Nat}{r:Option AV}(hs:∀ s,lk s e2=lk s e):∀ s,lk s (putR d r e2)=lk s (putR d r e):=fun s=>by
 by_cases hd:d=some s
 ·subst hd;rw [zf,zf]
 ·rw [zz hd,zz hd,hs]
theorem DW.env (hd:DW P N Φ ws fs K j l e2 h):∀ {e:Env},(∀ s,lk s e2=lk s e)→DW P N Φ ws fs K j l e h:=by
 induction hd with
 | nil hs hk => exact fun he => .nil (fun i v hv => (he i) ▸ hs i v hv) hk
 | fx hx h0 hw hp hf _ ih => exact fun he => .fx (hx.env he) (fun hz => ⟨(h0 hz).1, fun h2 => ((h0 hz).2 h2).env he⟩) hw hp (fun hz h2 hp2 => (hf hz h2 hp2).env he) (ih (z36 he))
theorem DW.pin {s:Nat}{t:Bool}(hc:lk s e=some (.bool t))(h1:t=true→DW P N Φ ws fs K j l ((s,some (.bool true))::e) h)(h2:t=false→DW P N Φ ws fs K j l ((s,some (.bool false))::e) h):DW P N Φ ws fs K j l e h:=by
 have key:∀ b,t=b→∀ i,lk i ((s,some (.bool b))::e)=lk i e:=fun b hb i=>by
  simp only [z6,z1o]
  split
  ·rename_i e1;subst e1;rw [hc,hb]
  ·rfl
 cases t
 ·exact (h2 rfl).env (key false rfl)
 ·exact (h1 rfl).env (key true rfl)
theorem DW.split {dd:Option Nat}{i:Ins}{s:Nat}{b t:Bool}(hc:lk s e=some (.bool t))(h1:t=true→DW P N Φ ws fs K j (⟨dd,i,some (s,b)⟩::l) ((s,some (.bool true))::e) h)(h2:t=false→DW P N Φ ws fs K j (⟨dd,i,some (s,b)⟩::l) ((s,some (.bool false))::e) h):DW P N Φ ws fs K j (⟨dd,i,some (s,b)⟩::l) e h:=DW.pin hc h1 h2

theorem DW.endL (hk:K e h):DW P N Φ ws fs K j [] e h := .nil (fun _ _ hv=>hv) hk
theorem DW.one {c:CI}(hs:Stp c e h e' h)(hf:fs.contains j=false)(k:DW P N Φ ws fs K (j+1) l e' h):DW P N Φ ws fs K j (c::l) e h:=by
 obtain ⟨r,he,hx,h0⟩:=FX.of_stp (P:=P) (N:=N) hs
 subst he
 exact .fx hx h0 (fun _=>rfl) id (fun hz=>by rw [hf] at hz;cases hz) k
theorem DW.oneF {c:CI}(hp:Φ h)(hs:∀ h2,Φ h2→Stp c e h2 e' h2)(k:DW P N Φ ws fs K (j+1) l e' h):DW P N Φ ws fs K j (c::l) e h:=by
 have key:∀ h2,Φ h2→∃ r,e'=putR c.d r e∧FX P N c e h2 r h2∧(free0 c.i=true→h2=h2∧∀ h3,FX P N c e h3 r h3):=fun h2 h3=>FX.of_stp (hs h2 h3)
 obtain ⟨r,he,hx,h0⟩:=key h hp
 subst he
 refine .fx hx h0 (fun _=>rfl) id (fun _ h2 h3 => ?_) k
 obtain ⟨r2,he2,hx2,_⟩:=key h2 h3
 have:FX P N c e h2 r h2:=by
  cases hd:c.d with
  | none =>
   intro ops i o ho hc e3 hs3 m w a KK QQ hr he hk
   exact hx2 ops i o ho hc e3 hs3 m w a KK QQ hr he (by rw [hd] at hk ⊢;exact hk)
  | some d =>
   rw [hd] at he2
   simp only [putR,List.cons.injEq,Prod.mk.injEq,true_and,and_true] at he2
   rw [he2];exact hx2
 exact this
theorem DW.oneW {c:CI}(hw:ws.contains j=true)(hp:Φ h→Φ h')(hs:Stp c e h e' h')(hf:fs.contains j=false)(k:DW P N Φ ws fs K (j+1) l e' h'):DW P N Φ ws fs K j (c::l) e h:=by
 obtain ⟨r,he,hx,h0⟩:=FX.of_stp (P:=P) (N:=N) hs
 subst he
 exact .fx hx h0 (fun hz=>by rw [hw] at hz;cases hz) hp (fun hz=>by rw [hf] at hz;cases hz) k
theorem DW.call {d:Option Nat}{f:Nat}{xs:List Opd}{g:Option (Nat×Bool)}{vs:List AV}{r:AV}(hv:evL e xs=some vs)(hg:met e g)(hf:fs.contains j=false)(hac:AE P f vs h r h)(k:DW P N Φ ws fs K (j+1) l (putR d (some r) e) h):DW P N Φ ws fs K j (⟨d,.call f xs,g⟩::l) e h :=
 .fx (FX.call hg hv hac) (fun hz=>by simp [free0] at hz) (fun _=>rfl) id (fun hz=>by rw [hf] at hz;cases hz) k
theorem DW.callF {d:Option Nat}{f:Nat}{xs:List Opd}{g:Option (Nat×Bool)}{vs:List AV}{r:AV}(hp:Φ h)(hv:evL e xs=some vs)(hg:met e g)(hac:∀ h2,Φ h2→AE P f vs h2 r h2)(k:DW P N Φ ws fs K (j+1) l (putR d (some r) e) h):DW P N Φ ws fs K j (⟨d,.call f xs,g⟩::l) e h :=
 .fx (FX.call hg hv (hac h hp)) (fun hz=>by simp [free0] at hz) (fun _=>rfl) id (fun _ h2 h3=>FX.call hg hv (hac h2 h3)) k
theorem DW.callW {d:Option Nat}{f:Nat}{xs:List Opd}{g:Option (Nat×Bool)}{vs:List AV}{r:AV}(hv:evL e xs=some vs)(hg:met e g)(hf:fs.contains j=false)(hw:ws.contains j=true)(hp:Φ h→Φ h')(hac:AE P f vs h r h')(k:DW P N Φ ws fs K (j+1) l (putR d (some r) e) h'):DW P N Φ ws fs K j (⟨d,.call f xs,g⟩::l) e h :=
 .fx (FX.call hg hv hac) (fun hz=>by simp [free0] at hz) (fun hz=>by rw [hw] at hz;cases hz) hp (fun hz=>by rw [hf] at hz;cases hz) k
theorem DW.go {c:CI}{e':Env}(k:DW P N Φ ws fs K (j+1) l e' h)(hs:Stp c e h e' h:=by exact Stp.auto)(hf:fs.contains j=false:=by exact rfl):DW P N Φ ws fs K j (c::l) e h:=DW.one hs hf k
theorem DW.goW {c:CI}{e':Env}{h':AHeap}(k:DW P N Φ ws fs K (j+1) l e' h')(hp:Φ h→Φ h')(hs:Stp c e h e' h':=by exact Stp.auto)(hf:fs.contains j=false:=by exact rfl)(hw:ws.contains j=true:=by exact rfl):DW P N Φ ws fs K j (c::l) e h:=DW.oneW hw hp hs hf k
end
end Go.Abs

namespace Go.Abs
open Go

inductive CS where
 | i (k : IntKind)
 | b
 | s
 | sl (row : List CS)
 deriving Inhabited
inductive Typ:CS→AV→Prop
 | i (k : IntKind) (n : Int) (hw : (Lit.int k n).wf = true) : Typ (.i k) (.int k n)
 | b (t : Bool) : Typ .b (.bool t)
 | s (l : List UInt8) (hl : l.length ≤ maxLen) : Typ .s (.str l)
 | sl (row : List CS) (c : List (List AV)) (hl : c.length ≤ maxLen) (hc : ∀ cells ∈ c, cells.length = row.length) (ht : ∀ cells ∈ c, ∀ (j : Nat) (cs : CS) (v : AV), row[j]? = some cs → cells[j]? = some v → Typ cs v) : Typ (.sl row) (.imm row.length c)
def TypL (row:List CS)(cells:List AV):Prop:=cells.length=row.length∧∀ (j:Nat) (cs:CS) (v:AV),row[j]? = some cs→cells[j]? = some v→Typ cs v

theorem Typ.int_inv {k:IntKind}{v:AV}(h:Typ (.i k) v):∃ n,v = .int k n∧(Lit.int k n).wf=true:=by cases h with | i _ n hw=>exact ⟨n,rfl,hw⟩
theorem Typ.sl_inv {row:List CS}{v:AV}(h:Typ (.sl row) v):∃ c,v = .imm row.length c∧c.length≤maxLen∧∀ cells∈c,TypL row cells:=by
 cases h with | sl _ c hl hc ht=>exact ⟨c,rfl,hl,fun cells hm=>⟨hc cells hm,ht cells hm⟩⟩
theorem TypL.nil_inv {cells:List AV}(h:TypL [] cells):cells=[]:=List.length_eq_zero_iff.1 h.1
theorem TypL.cons_inv {c:CS}{row:List CS}{cells:List AV}(h:TypL (c::row) cells):∃ v vs,cells=v::vs∧Typ c v∧TypL row vs:=by
 obtain ⟨h1,h2⟩:=h
 cases cells with
 | nil => simp at h1
 | cons v vs => exact ⟨v, vs, rfl, h2 0 c v rfl rfl, by simpa using h1, fun j cs u hj hu => h2 (j + 1) cs u (by simpa using hj) (by simpa using hu)⟩
theorem TypL.append {r1 r2:List CS}{v1 v2:List AV}(h1:TypL r1 v1)(h2:TypL r2 v2):TypL (r1++r2) (v1++v2) :=
 ⟨by simp [h1.1,h2.1],fun j cs u hj hu=>by
  by_cases hlt:j < r1.length
  ·rw [List.getElem?_append_left hlt] at hj
   rw [List.getElem?_append_left (by rw [h1.1];exact hlt)] at hu
   exact h1.2 j cs u hj hu
  ·rw [List.getElem?_append_right (by omega)] at hj
   rw [List.getElem?_append_right (by rw [h1.1];omega),h1.1] at hu
   exact h2.2 _ cs u hj hu⟩
theorem zpg {α:Type}{f:α→List AV}{p:List AV→Prop}(hp:∀ cells,p cells→∃ a,cells=f a):∀ {c:List (List AV)},(∀ cells∈c,p cells)→∃ l:List α,c=l.map f
 | [], _ => ⟨[], rfl⟩
 | x :: c, h => by
  obtain ⟨a,ha⟩:=hp x (h x (by simp))
  obtain ⟨l,hl⟩:=zpg hp (c:=c) fun y hy=>h y (by simp [hy])
  exact ⟨a::l,by simp [ha,hl]⟩

def csF (cs:TypeId→Option (List CS))(P:Program):Nat→List Field→Option (List CS)
 | _, [] => some []
 | o, f :: fs => match cs f.type with
  | some row => if f.offset = o ∧ P.cellsOf f.type = row.length then (csF cs P (o + row.length) fs).map (row ++ ·) else none
  | none => none
def csN (row:List CS):Nat→List CS
 | 0 => []
 | n + 1 => row ++ csN row n
def csOf (P:Program):Nat→TypeId→Option (List CS)
 | 0, _ => none
 | d + 1, t => match P.underlying t with
  | some (.int k) => some [.i k]
  | some .bool => some [.b]
  | some .string => some [.s]
  | some (.slice e) => match csOf P d e with
   | some row => if 0 < row.length ∧ P.cellsOf e = row.length then some [.sl row] else none
   | none => none
  | some (.struct fs) => match csF (csOf P d) P 0 fs.toList with
   | some row => if P.cellsOf t = row.length then some row else none
   | none => none
  | some (.array n e) => match csOf P d e with
   | some row => if P.cellsOf e = row.length ∧ P.cellsOf t = n * row.length then some (csN row n) else none
   | none => none
  | _ => none
section
variable {H:Type}{enc:TypeId×Value→H}{P:Program}{w:World}{base:Nat}{spare:Nat→Bool}{held:Bool}{m:Inj}{h:AHeap}

def RdC (m:Inj)(h:AHeap)(w:World)(row:List CS)(cs:List Value):Prop :=
 cs.length=row.length∧∃ avs,TypL row avs∧∀ (j:Nat) (v:AV),avs[j]? = some v→VR m h w v (cs.getD j undef)
theorem Typ.scalar {c:CS}{v:AV}(h:Typ c v):v.scalar=true:=by cases h <;> rfl
theorem TypL.scalar {row:List CS}{cells:List AV}(h:TypL row cells):∀ v∈cells,v.scalar=true:=fun v hv=>by
 obtain ⟨j,hj⟩:=List.getElem?_of_mem hv
 have hlt:j < row.length:=by rw [← h.1];exact (List.getElem?_eq_some_iff.1 hj).1
 exact (h.2 j _ v (List.getElem?_eq_getElem hlt) hj).scalar

theorem RdC.append {r1 r2:List CS}{c1 c2:List Value}(h1:RdC m h w r1 c1)(h2:RdC m h w r2 c2):RdC m h w (r1++r2) (c1++c2):=by
 obtain ⟨l1,a1,t1,v1⟩:=h1
 obtain ⟨l2,a2,t2,v2⟩:=h2
 refine ⟨by simp [l1,l2],a1++a2,t1.append t2,fun j v hj => ?_⟩
 by_cases hlt:j < a1.length
 ·rw [List.getElem?_append_left hlt] at hj
  have:=v1 j v hj
  rw [List.getD_eq_getElem?_getD,List.getElem?_append_left (by rw [l1,← t1.1];exact hlt),← List.getD_eq_getElem?_getD]
  exact this
 ·rw [List.getElem?_append_right (by omega)] at hj
  have:=v2 _ v hj
  rw [List.getD_eq_getElem?_getD,List.getElem?_append_right (by rw [l1,← t1.1];omega),l1,← t1.1,← List.getD_eq_getElem?_getD]
  exact this

theorem zph {α:Type}{Good:Nat→α→Prop}:∀ n,(∀ i,i < n→∃ x,Good i x)→∃ l:List α,l.length=n∧∀ (i:Nat) (x:α),l[i]? = some x→Good i x
 | 0, _ => ⟨[], rfl, fun i x hx => by simp at hx⟩
 | n + 1, hg => by
  obtain ⟨l,hl,hi⟩:=zph n fun i hi=>hg i (by omega)
  obtain ⟨x,hx⟩:=hg n (by omega)
  refine ⟨l++[x],by simp [hl],fun i y hy => ?_⟩
  by_cases hlt:i < l.length
  ·rw [List.getElem?_append_left hlt] at hy;exact hi i y hy
  ·have hlt2:=(List.getElem?_eq_some_iff.1 hy).1
   simp at hlt2
   have:i=n:=by omega
   subst this
   rw [List.getElem?_append_right (by omega),hl] at hy
   simp at hy
   subst hy;exact hx

theorem zib (hown:∀ b o,¬ Own m h b o){csd:TypeId→Option (List CS)}{n:Nat}(ih:∀ t row cs x,csd t=some row→DataW.trod enc P w base spare held n t cs=some x→RdC m h w row cs){cs:List Value} :
  ∀ (fs:List Field) (o:Nat) (row:List CS),csF csd P o fs=some row→o+row.length≤cs.length→(∀ f∈fs,∃ x,DataW.trod enc P w base spare held n f.type ((cs.drop f.offset).take (P.cellsOf f.type))=some x)→RdC m h w row ((cs.drop o).take row.length)
 | [], o, row, hc, _, _ => by simp [csF] at hc; subst hc; exact ⟨by simp, [], ⟨rfl, by simp⟩, by simp⟩
 | f :: fs, o, row, hc, hl, hx => by
  simp only [csF] at hc
  split at hc
  ·rename_i r1 hr1
   split at hc
   ·rename_i hcond
    obtain ⟨ho,hcell⟩:=hcond
    rw [Option.map_eq_some_iff] at hc
    obtain ⟨r2,hr2,rfl⟩:=hc
    obtain ⟨x,hx1⟩:=hx f (by simp)
    have h1:=ih _ _ _ _ hr1 hx1
    rw [ho,hcell] at h1
    have h2:=zib hown ih fs (o+r1.length) r2 hr2 (by simp at hl;omega) fun g hg=>hx g (by simp [hg])
    have:(cs.drop o).take (r1++r2).length=(cs.drop o).take r1.length++(cs.drop (o+r1.length)).take r2.length:=by
     rw [List.length_append,List.take_add,List.drop_drop]
    rw [this]
    exact h1.append h2
   ·cases hc
  ·cases hc
theorem zkn {csd:List CS}{cs:List Value}:∀ (k o:Nat),o+k*csd.length≤cs.length→(∀ i,i < k→RdC m h w csd ((cs.drop (o+i*csd.length)).take csd.length))→RdC m h w (csN csd k) ((cs.drop o).take (k*csd.length))
 | 0, o, _, _ => by simp [csN]; exact ⟨by simp, [], ⟨rfl, by simp⟩, by simp⟩
 | k + 1, o, hl, hx => by
  have h1:=hx 0 (by omega)
  have h2:=zkn (csd:=csd) (cs:=cs) k (o+csd.length) (by rw [Nat.add_mul] at hl;omega) fun i hi=>by
   have:=hx (i+1) (by omega)
   rwa [Nat.add_mul,Nat.one_mul,Nat.add_comm (i*csd.length),← Nat.add_assoc] at this
  have e:(cs.drop o).take ((k+1)*csd.length)=(cs.drop o).take csd.length++(cs.drop (o+csd.length)).take (k*csd.length):=by
   rw [Nat.add_mul,Nat.one_mul,Nat.add_comm,List.take_add,List.drop_drop]
  rw [e]
  simp only [Nat.zero_mul,Nat.add_zero] at h1
  exact h1.append h2

theorem zko (b o n:Nat):(⟨b,o,none⟩:Addr).add n=⟨b,o+n,none⟩:=by
 unfold Addr.add
 split
 ·rename_i e;have:n=0:=by simpa using e
  subst this;rfl
 ·rfl
theorem zcp (hown:∀ b o,¬ Own m h b o):∀ (d:Nat) (t:TypeId) (row:List CS) (n:Nat) (cs:List Value) (x:DataW H×List MemPlace),csOf P d t=some row→DataW.trod enc P w base spare held n t cs=some x→RdC m h w row cs
 | 0, _, _, _, _, _, hc, _ => by simp [csOf] at hc
 | d + 1, t, row, n, cs, x, hc, hx => by
  have one:∀ (c:CS) (v:AV) (u:Value),Typ c v→VR m h w v u→RdC m h w [c] [u]:=fun c v u h1 h2 =>
   ⟨rfl,[v],⟨rfl,fun j cs' v' hj hv=>by
    cases j with
    | zero => simp at hj hv; subst hj; subst hv; exact h1
    | succ j => simp at hj⟩, fun j v' hv => by
    cases j with
    | zero => simp at hv; subst hv; simpa using h2
    | succ j => simp at hv⟩
  simp only [csOf] at hc
  split at hc
  ·rename_i k ht
   cases hc
   obtain ⟨z,rfl,_,hw⟩:=DataW.trod_int ht hx
   exact one _ _ _ (.i k z hw) (.int k z)
  ·rename_i ht
   cases hc
   obtain ⟨z,rfl,_⟩:=DataW.trod_bool ht hx
   exact one _ _ _ (.b z) (.bool z)
  ·rename_i ht
   cases hc
   obtain ⟨z,rfl,_,hl⟩:=DataW.trod_string ht hx
   exact one _ _ _ (.s z.data.toList (by simpa using hl)) (.str z.data.toList)
  ·rename_i e ht
   split at hc
   ·rename_i er her
    split at hc
    ·rename_i hcond
     obtain ⟨hpos,hcell⟩:=hcond
     cases hc
     rcases DataW.trod_slice ht hx with ⟨rfl,_⟩ | ⟨a,len,cap,elems,rest,n',rfl,rfl,_,hb,hl,hm,hlen,hel,_,_⟩
     ·exact one _ _ _ (.sl er [] (by simp) (by simp) (by simp)) (.imm0 _)
     ·rcases Nat.eq_zero_or_pos len with h0 | h0
      ·subst h0
       exact one _ _ _ (.sl er [] (by simp) (by simp) (by simp)) (.imm1 _ _ _)
      ·have hspot:a.spot=none:=by
        have h1:=hel 0 h0
        rw [List.getElem?_eq_getElem (by omega),Option.bind_eq_some_iff] at h1
        obtain ⟨ci,hci,htr⟩:=h1
        obtain ⟨_,q1,hcell2⟩:=World.cells?_some hci
        have h2:=hcell2 0 (by omega)
        rw [List.getElem?_eq_getElem (by omega)] at h2
        have h3:=World.cell?_spot h2
        have e0:∀ a:Addr,a.add 0=a:=fun a=>by simp [Addr.add]
        rwa [Nat.zero_mul,e0,e0] at h3
       obtain ⟨ab,ao,asp⟩:=a
       simp only at hspot
       subst hspot
       have each:∀ i,i < len→∃ cells:List AV,TypL er cells∧∀ j,j < er.length→∃ u,w.cell? ⟨ab,ao+(i*er.length+j),none⟩=some u∧∀ v,cells[j]? = some v→VR m h w v u:=fun i hi=>by
        have h1:=hel i hi
        rw [List.getElem?_eq_getElem (by omega),Option.bind_eq_some_iff] at h1
        obtain ⟨ci,hci,htr⟩:=h1
        obtain ⟨q1,avs,q2,q3⟩:=zcp hown d e er n' ci _ her htr
        obtain ⟨_,_,hcell2⟩:=World.cells?_some hci
        refine ⟨avs,q2,fun j hj => ?_⟩
        have h2:=hcell2 j (by rw [hcell];exact hj)
        rw [List.getElem?_eq_getElem (by omega),zko,zko,hcell,Nat.add_assoc] at h2
        refine ⟨ci[j],h2,fun v hv => ?_⟩
        have:=q3 j v hv
        rwa [List.getD_eq_getElem?_getD,List.getElem?_eq_getElem (by omega)] at this
       obtain ⟨c,hcl,hcg⟩:=zph len each
       have hmem:∀ cells∈c,TypL er cells:=fun cells hm=>by
        obtain ⟨i,hi⟩:=List.getElem?_of_mem hm
        exact (hcg i cells hi).1
       refine one _ _ _ (.sl er c (by omega) (fun cells hm=>(hmem cells hm).1) fun cells hm=>(hmem cells hm).2) ?_
       rw [← hcl]
       refine VR.imm er.length c ab ao cap (fun k=>(w.cell? ⟨ab,ao+k,none⟩).getD undef) (fun k hk=>⟨?_,hown _ _⟩) (fun cells hm=>(hmem cells hm).1) (fun cells hm=>(hmem cells hm).scalar) (fun i cells hi j v hj => ?_) (by omega)
       ·have hk':k / er.length < len:=by
         rw [hcl] at hk
         exact Nat.div_lt_of_lt_mul (by rw [Nat.mul_comm];exact hk)
        have hlt:k / er.length < c.length:=by omega
        obtain ⟨u,hu,_⟩:=(hcg _ _ (List.getElem?_eq_getElem hlt)).2 (k % er.length) (Nat.mod_lt _ hpos)
        rw [Nat.mul_comm,Nat.div_add_mod] at hu
        simp only [hu,Option.getD_some]
       ·have ht:=(hcg i cells hi)
        have hj':j < er.length:=by rw [← ht.1.1];exact (List.getElem?_eq_some_iff.1 hj).1
        obtain ⟨u,hu,hv⟩:=ht.2 j hj'
        show VR m h w v ((w.cell? ⟨ab,ao+(i*er.length+j),none⟩).getD undef)
        rw [hu]
        exact hv v hj
    ·cases hc
   ·cases hc
  ·rename_i fs ht
   split at hc
   ·rename_i r hr
    split at hc
    ·rename_i hcell
     cases hc
     obtain ⟨xs,n',rfl,_,hcl,hxl,hf⟩:=DataW.trod_struct ht hx
     have:=zib hown (csd:=csOf P d) (n:=n') (fun t row cs x h1 h2=>zcp hown d t row n' cs x h1 h2) (cs:=cs) fs.toList 0 row hr (by omega) fun f hf'=>by
      obtain ⟨i,hi⟩:=List.getElem?_of_mem hf'
      have hi':fs[i]? = some f:=by simpa using hi
      have hlt:i < xs.length:=by rw [hxl];exact (Array.getElem?_eq_some_iff.1 hi').1
      exact ⟨xs[i],by rw [hf i f hi',List.getElem?_eq_getElem hlt]⟩
     rw [List.drop_zero,List.take_of_length_le (by omega)] at this
     exact this
    ·cases hc
   ·cases hc
  ·rename_i k e ht
   split at hc
   ·rename_i r hr
    split at hc
    ·rename_i hcond
     obtain ⟨hcell,hcellt⟩:=hcond
     cases hc
     obtain ⟨xs,n',rfl,_,hcl,hxl,hf⟩:=DataW.trod_array ht hx
     have:=zkn (m:=m) (h:=h) (w:=w) (csd:=r) (cs:=cs) k 0 (by omega) fun i hi=>by
      have h1:=hf i hi
      rw [List.getElem?_eq_getElem (by omega),hcell] at h1
      rw [Nat.zero_add]
      exact zcp hown d e r n' _ _ hr h1
     rw [List.drop_zero,List.take_of_length_le (by omega)] at this
     exact this
    ·cases hc
   ·cases hc
  ·cases hc

def z20:AHeap:=⟨fun _=>none,0,fun _=>false⟩
theorem noOwn (m:Inj)(b o:Nat):¬ Own m z20 b o:=fun ⟨_,_,⟨_,hx⟩,_⟩=>by cases hx
theorem noHR (m:Inj)(w:World):HR m z20 w:=⟨(fun _ h=>nomatch h),(fun _ _ h=>nomatch h),(fun _ _ _ _ _ _ _ h=>nomatch h),(fun _ _ h=>nomatch h)⟩
theorem Step.below {m':Inj}{h':AHeap}{w':World}(s:Step m z20 w m' h' w'):RowKit.Below w.heap.size w w' :=
 ⟨s.os,s.tape,s.output,s.size,fun k hk=>(s.free k hk fun _ _ _ hg=>by cases hg).1⟩

theorem rd_arg {d:Nat}{t:TypeId}{row:List CS}{v:Value}{x:DataW H}{ps:List MemPlace}{r:_root_.Go.Reach}{b0:Nat}(hc:csOf P d t=some row)(hx:DataW.Trod enc P w base spare held t v x ps)(hv:Value.okWide P w r b0 t v) :
  ∃ avs,TypL row avs∧VR (fun _=>none) z20 w (match P.underlying t with | some (.struct _) | some (.array _ _) => .agg avs | _=>avs.headD .nilp) v:=by
 obtain ⟨fuel,hf⟩:=hx
 obtain ⟨hl,avs,ht,hvr⟩:=zcp (m:=fun _=>none) (h:=z20) (noOwn _) d t row fuel _ _ hc hf
 have agg:∀ cs:Array Value,v = .agg cs→VR (fun _=>none) z20 w (.agg avs) v:=fun cs e=>by
  subst e
  simp only [Value.cells] at hl hvr
  refine .agg avs cs (by rw [ht.1,← hl];simp) ht.scalar fun i u hu => ?_
  have:=hvr i u hu
  simpa [Array.getD_eq_getD_getElem?,List.getD_eq_getElem?_getD] using this
 have sc:row.length=1→(∀ cs,v≠.agg cs)→VR (fun _=>none) z20 w (avs.headD .nilp) v:=fun h1 hn=>by
  have:v.cells=#[v]:=by
   cases v <;> first
    | rfl
    | exact absurd rfl (hn _)
  rw [this] at hvr hl
  cases avs with
  | nil => have := ht.1; simp at this; omega
  | cons a avs => simpa using hvr 0 a rfl
 cases d with
 | zero => simp [csOf] at hc
 | succ d =>
  simp only [csOf] at hc
  split at hc
  ·rename_i k hu
   cases hc
   obtain ⟨n,rfl⟩:=WideShapes.okWide_int hu hv
   simp only [hu]
   exact ⟨avs,ht,sc rfl (by intro cs h;cases h)⟩
  ·rename_i hu
   cases hc
   obtain ⟨n,rfl⟩:=WideShapes.okWide_bool hu hv
   simp only [hu]
   exact ⟨avs,ht,sc rfl (by intro cs h;cases h)⟩
  ·rename_i hu
   cases hc
   obtain ⟨n,rfl⟩:=WideShapes.okWide_string hu hv
   simp only [hu]
   exact ⟨avs,ht,sc rfl (by intro cs h;cases h)⟩
  ·rename_i e hu
   obtain ⟨a,len,cap,rfl⟩:=WideShapes.okWide_slice hu hv
   split at hc
   ·split at hc
    ·cases hc
     simp only [hu]
     exact ⟨avs,ht,sc rfl (by intro cs h;cases h)⟩
    ·cases hc
   ·cases hc
  ·rename_i fs hu
   obtain ⟨cs,rfl,_⟩:=WideShapes.okWide_struct hu hv
   simp only [hu]
   exact ⟨avs,ht,agg cs rfl⟩
  ·rename_i k e hu
   have hv':=hv
   simp only [Value.okWide,hu] at hv'
   obtain ⟨cs,rfl,_⟩:=hv'
   simp only [hu]
   exact ⟨avs,ht,agg cs rfl⟩
  ·cases hc
theorem law_calls {f:Nat}{avs:List AV}{vs:Array Value}{W:World}(hac:AE P f avs z20 (.bool true) z20)(hl:avs.length=vs.size)(hv:∀ (i:Nat) (v:AV),avs[i]? = some v→VR (fun _=>none) z20 W v (vs.getD i undef)) :
  Calls P f vs W fun e W'=>e = .returned (.bool true)∧RowKit.Below W.heap.size W W':=by
 refine (hac _ W vs (noHR _ W) hl hv).mono fun ex W' ⟨v,m',r,h',e1,g1,g2,g3,e2,e3⟩ => ?_
 subst e2
 have:=z2r g2
 subst this
 exact ⟨e1,g3.below⟩
end
end Go.Abs


set_option maxRecDepth 100000
namespace Go.Abs
abbrev qQ (d:Nat)(i:Ins):CI:=⟨some d,i,none⟩
abbrev qR (i:Ins):CI:=⟨none,i,none⟩
abbrev qM (d:Nat)(x:Opd):CI:=⟨some d,.mov x,none⟩
abbrev qG (d:Nat)(i:Ins)(s:Nat)(b:Bool):CI:=⟨some d,i,some (s,b)⟩
theorem gM {e:Env}{g:Option (Nat×Bool)}(p:met e g:=by first | exact True.intro | exact rfl):met e g:=p
end Go.Abs
namespace Go.Proofs.YthblcmnhiccnhaaGreat
open Go Go.Abs

def z6a:CC := .seq (.reg [qM 2 (.c .nilp),qM 3 (.c (.int .i64 0))]) (.seq (.block 0 (.seq (.reg [qM 12 (.t 0),qQ 13 (.eqv .p false (.t 12) (.c .nilp)),qM 11 (.t 13)]) (.cond (.t 11) (.seq (.reg [qM 2 (.c .nilp),qM 3 (.c (.int .i64 1))]) .ret) (.seq (.reg [qM 15 (.t 0),qQ 16 (.nilck (.t 15)),qQ 17 (.faddr 1 (.t 16)),qQ 18 (.load 1 false (.t 17)),qQ 19 (.call 71 [.t 18]),qQ 20 (.not (.t 19)),qM 21 (.t 20),qG 22 (.mov (.t 0)) 21 false,qG 23 (.nilck (.t 22)) 21 false,qG 24 (.faddr 4 (.t 23)) 21 false,qG 25 (.load 1 false (.t 24)) 21 false,qG 26 (.call 72 [.t 25]) 21 false,qG 27 (.not (.t 26)) 21 false,qQ 28 (.pick (.t 21) (.c (.bool true)) (.t 27)),qM 14 (.t 28)]) (.cond (.t 14) (.seq (.reg [qM 2 (.c .nilp),qM 3 (.c (.int .i64 7))]) .ret) .skip))))) (.seq (.reg [qM 30 (.t 0),qQ 31 (.call 73 [.t 30]),qM 29 (.t 31),qQ 32 (.ext 0 (.t 29)),qQ 33 (.ext 1 (.t 29)),qM 4 (.t 32),qM 5 (.t 33)]) (.seq (.seq (.reg [qM 34 (.t 5),qQ 35 (.bin .neq (.t 34) (.c (.int .i64 0)))]) (.cond (.t 35) (.seq (.reg [qM 36 (.t 5),qM 2 (.c .nilp),qM 3 (.t 36)]) .ret) .skip)) (.seq (.reg [qM 38 (.t 0),qQ 39 (.nilck (.t 38)),qQ 40 (.faddr 4 (.t 39)),qQ 41 (.load 1 false (.t 40)),qQ 42 (.call 75 [.t 41]),qQ 43 (.call 74 [.t 42]),qM 37 (.t 43),qQ 44 (.ext 0 (.t 37)),qQ 45 (.ext 1 (.t 37)),qM 6 (.t 44),qM 5 (.t 45)]) (.seq (.seq (.reg [qM 46 (.t 5),qQ 47 (.bin .neq (.t 46) (.c (.int .i64 0)))]) (.cond (.t 47) (.seq (.reg [qM 48 (.t 5),qM 2 (.c .nilp),qM 3 (.t 48)]) .ret) .skip)) (.seq (.reg [qM 49 (.t 0),qM 50 (.t 6),qM 51 (.t 4),qM 52 (.t 4),qQ 53 (.call 76 [.t 52]),qQ 54 (.call 77 []),qQ 55 (.build [.nilp,.nilp,.nils,.nils,.nilp,.bool false] [(0,1,.t 49),(1,1,.t 50),(2,1,.t 51),(3,1,.t 53),(4,1,.t 54)]),qQ 56 (.box 6 (.t 55)),qM 7 (.t 56)]) (.seq (.seq (.reg [qM 57 (.t 4),qQ 58 (.len (.t 57)),qM 59 (.c (.int .i64 0))]) (.block 1 (.loop (.seq (.reg [qQ 60 (.bin .lss (.t 59) (.t 58))]) (.seq (.cond (.t 60) .skip (.exit 1)) (.seq (.block 2 (.seq (.reg [qM 61 (.t 59),qQ 62 (.iaddr 8 (.t 57) (.t 59)),qQ 63 (.load 8 true (.t 62)),qQ 9 (.alloc [.int .i64 0,.bool false,.int .i64 0,.int .u32 0,.int .u32 0,.int .u64 0,.int .u64 0,.int .u64 0]),qM 8 (.t 61),qR (.store 8 (.t 9) (.t 63))]) (.seq (.reg [qQ 64 (.faddr 0 (.t 9)),qQ 65 (.load 1 false (.t 64)),qQ 66 (.bin .neq (.t 65) (.c (.int .i64 0)))]) (.cond (.t 66) (.reg [qM 67 (.t 7),qQ 68 (.nilck (.t 67)),qQ 69 (.faddr 4 (.t 68)),qQ 70 (.load 1 false (.t 69)),qM 71 (.t 8),qQ 72 (.call 78 [.t 70,.t 71])]) .skip)))) (.reg [qQ 73 (.bin .add (.t 59) (.c (.int .i64 1))),qM 59 (.t 73)]))))))) (.seq (.seq (.reg [qM 74 (.t 7),qQ 75 (.call 79 [.t 74]),qM 10 (.t 75)]) (.seq (.reg [qM 76 (.t 10),qQ 77 (.bin .neq (.t 76) (.c (.int .i64 0)))]) (.cond (.t 77) (.seq (.reg [qM 78 (.t 10),qM 2 (.c .nilp),qM 3 (.t 78)]) .ret) .skip))) (.seq (.reg [qM 79 (.t 7),qM 2 (.t 79),qM 3 (.c (.int .i64 0))]) .ret)))))))))
theorem za1:FnIs Tryz.prog 23 80 z6a [.t 2,.t 3]:=⟨Tryz.f23,_,Tryz.func23,rfl,rfl,by kernel_rfl,by kernel_rfl⟩

def z44:CC := .seq (.reg [qM 2 (.c (.bool false))]) (.seq (.seq (.reg [qM 5 (.t 0),qQ 6 (.eqv .p false (.t 5) (.c .nilp)),qM 7 (.t 6),qG 8 (.mov (.t 0)) 7 false,qG 9 (.nilck (.t 8)) 7 false,qG 10 (.faddr 0 (.t 9)) 7 false,qG 11 (.load 1 false (.t 10)) 7 false,qG 12 (.call 90 [.t 11]) 7 false,qG 13 (.not (.t 12)) 7 false,qQ 14 (.pick (.t 7) (.c (.bool true)) (.t 13))]) (.cond (.t 14) (.seq (.reg [qM 2 (.c (.bool false))]) .ret) .skip)) (.seq (.seq (.reg [qM 15 (.t 0),qQ 16 (.nilck (.t 15)),qQ 17 (.faddr 33 (.t 16)),qQ 18 (.load 1 false (.t 17)),qQ 19 (.len (.t 18)),qM 20 (.c (.int .i64 0))]) (.block 0 (.loop (.seq (.reg [qQ 21 (.bin .lss (.t 20) (.t 19))]) (.seq (.cond (.t 21) .skip (.exit 0)) (.seq (.block 1 (.seq (.reg [qQ 22 (.iaddr 2 (.t 18) (.t 20)),qQ 23 (.load 2 true (.t 22)),qQ 4 (.alloc [.int .i64 0,.nils]),qR (.store 2 (.t 4) (.t 23))]) (.dreg [qM 24 (.t 0),qQ 25 (.faddr 0 (.t 4)),qQ 26 (.load 1 false (.t 25)),qQ 27 (.faddr 1 (.t 4)),qQ 28 (.load 1 false (.t 27)),qQ 29 (.nilck (.t 24)),qQ 30 (.faddr 1 (.t 29)),qQ 31 (.iaddrA 32 1 (.t 30) (.t 26)),qR (.store 1 (.t 31) (.t 28))] [[],[],[1],[],[3],[0],[5],[6,2,0,1,2,3,4],[7,4,0,1,2,3,4]]))) (.reg [qQ 32 (.bin .add (.t 20) (.c (.int .i64 1))),qM 20 (.t 32)]))))))) (.seq (.reg [qM 33 (.t 0),qQ 34 (.nilck (.t 33)),qQ 35 (.faddr 33 (.t 34)),qR (.store 1 (.t 35) (.c .nils))]) (.seq (.reg [qM 36 (.t 0),qM 37 (.t 0),qQ 38 (.nilck (.t 37)),qQ 39 (.faddr 34 (.t 38)),qQ 40 (.load 1 false (.t 39)),qQ 41 (.build [.int .i64 0,.nils] [(0,1,.c (.int .i64 (-1)))]),qQ 42 (.bsl 2 [.t 41]),qQ 43 (.app 2 32 (.t 40) (.t 42)),qQ 44 (.nilck (.t 36)),qQ 45 (.faddr 34 (.t 44)),qR (.store 1 (.t 45) (.t 43))]) (.seq (.reg [qM 2 (.c (.bool true))]) .ret)))))
theorem z99:FnIs Tryz.prog 36 46 z44 [.t 2]:=⟨Tryz.f36,_,Tryz.func36,rfl,rfl,by kernel_rfl,by kernel_rfl⟩

def z3q:CC := .seq (.reg [qM 2 (.c .nils)]) (.seq (.seq (.reg [qM 3 (.t 0),qQ 4 (.eqv .p false (.t 3) (.c .nilp))]) (.cond (.t 4) (.seq (.reg [qM 2 (.c .nils)]) .ret) .skip)) (.seq (.reg [qM 5 (.t 0),qQ 6 (.nilck (.t 5)),qQ 7 (.faddr 2 (.t 6)),qQ 8 (.load 1 false (.t 7)),qQ 9 (.call 76 [.t 8]),qM 2 (.t 9)]) .ret))
theorem z84:FnIs Tryz.prog 31 10 z3q [.t 2]:=⟨Tryz.f31,_,Tryz.func31,rfl,rfl,by kernel_rfl,by kernel_rfl⟩

def z1l:CC := .seq (.reg [qM 2 (.c .nils)]) (.seq (.seq (.reg [qM 3 (.t 0),qQ 4 (.isnil false (.t 3))]) (.cond (.t 4) (.seq (.reg [qM 2 (.c .nils)]) .ret) .skip)) (.seq (.reg [qQ 5 (.bsl0),qM 6 (.t 0),qQ 7 (.app 8 56 (.t 5) (.t 6)),qM 2 (.t 7)]) .ret))
theorem z38:FnIs Tryz.prog 76 8 z1l [.t 2]:=⟨Tryz.f76,_,Tryz.func76,rfl,rfl,by kernel_rfl,by kernel_rfl⟩

def zic:CC := .seq (.reg [qM 0 (.c .nilp)]) (.seq (.reg [qQ 2 (.build [.int .i64 0,.int .i64 0,.int .i64 0,.int .i64 0,.int .i64 0,.int .i64 0,.int .i64 0,.int .i64 0,.int .i64 0,.int .i64 0,.int .i64 0,.int .i64 0,.int .i64 0,.int .i64 0,.int .i64 0,.int .i64 0,.int .i64 0,.nilp] []),qQ 3 (.box 18 (.t 2)),qM 1 (.t 3)]) (.seq (.reg [qM 4 (.t 1),qM 5 (.t 1),qQ 6 (.mkf (.func 125) [.t 5] []),qQ 7 (.build [.nils,.nilf] [(1,1,.t 6)]),qQ 8 (.box 2 (.t 7)),qQ 9 (.nilck (.t 4)),qQ 10 (.faddr 17 (.t 9)),qR (.store 1 (.t 10) (.t 8))]) (.seq (.reg [qM 11 (.t 1),qM 0 (.t 11)]) .ret)))
theorem zoc:FnIs Tryz.prog 77 12 zic [.t 0]:=⟨Tryz.f77,_,Tryz.func77,rfl,rfl,by kernel_rfl,by kernel_rfl⟩

def z72:CC := .seq (.reg [qM 4 (.c (.bool false))]) (.seq (.seq (.reg [qM 5 (.t 0),qQ 6 (.eqv .p false (.t 5) (.c .nilp)),qM 7 (.t 6),qG 8 (.mov (.t 1)) 7 false,qG 9 (.bin .lss (.t 8) (.c (.int .i64 0))) 7 false,qQ 10 (.pick (.t 7) (.c (.bool true)) (.t 9)),qM 11 (.t 10),qG 12 (.mov (.t 1)) 11 false,qG 13 (.bin .geq (.t 12) (.c (.int .i64 16))) 11 false,qQ 14 (.pick (.t 11) (.c (.bool true)) (.t 13))]) (.cond (.t 14) (.seq (.reg [qM 4 (.c (.bool false))]) .ret) .skip)) (.seq (.reg [qM 15 (.t 0),qM 16 (.t 1),qQ 17 (.call 126 [.t 15,.t 16])]) (.seq (.reg [qM 18 (.t 0),qQ 19 (.nilck (.t 18)),qQ 20 (.faddr 16 (.t 19)),qQ 21 (.load 1 false (.t 20)),qQ 22 (.bin .add (.t 21) (.c (.int .i64 1))),qQ 23 (.nilck (.t 18)),qQ 24 (.faddr 16 (.t 23)),qR (.store 1 (.t 24) (.t 22))]) (.seq (.dreg [qM 25 (.t 0),qM 26 (.t 1),qM 27 (.t 0),qQ 28 (.nilck (.t 27)),qQ 29 (.faddr 16 (.t 28)),qQ 30 (.load 1 false (.t 29)),qQ 31 (.nilck (.t 25)),qQ 32 (.faddr 0 (.t 31)),qQ 33 (.iaddrA 16 1 (.t 32) (.t 26)),qR (.store 1 (.t 33) (.t 30))] [[],[],[],[2],[3],[4],[0],[6],[7,1,0,1,2,3,4,5],[8,5,0,1,2,3,4,5]]) (.seq (.reg [qM 34 (.t 0),qQ 35 (.nilck (.t 34)),qQ 36 (.faddr 17 (.t 35)),qQ 37 (.load 1 false (.t 36)),qQ 38 (.raw (Ex.mkif 215 (.t 37))),qM 39 (.t 1),qQ 40 (.raw (Ex.mkif 3 (.t 39))),qQ 41 (.call 127 [.t 38,.t 40])]) (.seq (.reg [qM 4 (.c (.bool true))]) .ret))))))
theorem ze4:FnIs Tryz.prog 78 42 z72 [.t 4]:=⟨Tryz.f78,_,Tryz.func78,rfl,rfl,by kernel_rfl,by kernel_rfl⟩

def z3r:CC := .seq (.reg [qM 2 (.c (.int .i64 0))]) (.seq (.seq (.reg [qM 4 (.t 0),qQ 5 (.nilck (.t 4)),qQ 6 (.faddr 0 (.t 5)),qQ 7 (.load 1 false (.t 6)),qQ 8 (.nilck (.t 7)),qQ 9 (.faddr 5 (.t 8)),qQ 10 (.load 1 false (.t 9)),qQ 11 (.call 34 [.t 10]),qQ 12 (.len (.t 11)),qQ 13 (.bin .lss (.t 12) (.c (.int .i64 2)))]) (.cond (.t 13) (.seq (.reg [qM 2 (.c (.int .i64 0))]) .ret) .skip)) (.seq (.seq (.reg [qM 14 (.t 0),qQ 15 (.call 128 [.t 14]),qM 3 (.t 15)]) (.seq (.reg [qM 16 (.t 3),qQ 17 (.bin .neq (.t 16) (.c (.int .i64 0)))]) (.cond (.t 17) (.seq (.reg [qM 18 (.t 3),qM 2 (.t 18)]) .ret) .skip))) (.seq (.reg [qM 19 (.t 0),qQ 20 (.call 129 [.t 19]),qM 2 (.t 20)]) .ret)))
theorem z85:FnIs Tryz.prog 79 21 z3r [.t 2]:=⟨Tryz.f79,_,Tryz.func79,rfl,rfl,by kernel_rfl,by kernel_rfl⟩

def z39:CC := .seq (.reg [qQ 3 (.box 3 (.t 1)),qQ 4 (.alloc [.int .i64 0,.nils])]) (.seq (.block 0 (.seq (.reg [qM 7 (.t 0),qQ 8 (.eqv .p false (.t 7) (.c .nilp)),qM 6 (.t 8)]) (.cond (.t 6) (.seq (.reg [qQ 9 (.build [.int .i64 0,.nils] [(0,1,.c (.int .i64 1))]),qR (.store 2 (.t 4) (.t 9))]) .ret) (.seq (.reg [qM 11 (.t 0),qQ 12 (.nilck (.t 11)),qQ 13 (.faddr 0 (.t 12)),qQ 14 (.load 1 false (.t 13)),qQ 15 (.nilck (.t 14)),qQ 16 (.faddr 1 (.t 15)),qQ 17 (.load 1 false (.t 16)),qQ 18 (.call 71 [.t 17]),qQ 19 (.not (.t 18)),qM 10 (.t 19)]) (.cond (.t 10) (.seq (.reg [qQ 20 (.build [.int .i64 0,.nils] [(0,1,.c (.int .i64 7))]),qR (.store 2 (.t 4) (.t 20))]) .ret) (.seq (.reg [qM 22 (.t 0),qQ 23 (.nilck (.t 22)),qQ 24 (.faddr 5 (.t 23)),qQ 25 (.load 1 false (.t 24)),qM 21 (.t 25)]) (.cond (.t 21) (.seq (.reg [qQ 26 (.build [.int .i64 0,.nils] [(0,1,.c (.int .i64 4))]),qR (.store 2 (.t 4) (.t 26))]) .ret) (.seq (.reg [qQ 28 (.load 3 true (.t 3)),qQ 29 (.call 80 [.t 28]),qQ 30 (.not (.t 29)),qM 27 (.t 30)]) (.cond (.t 27) (.seq (.reg [qQ 31 (.build [.int .i64 0,.nils] [(0,1,.c (.int .i64 1))]),qR (.store 2 (.t 4) (.t 31))]) .ret) .skip))))))))) (.seq (.reg [qQ 32 (.raw Ex.mkmap),qR (.raw (Ex.mput MK.i (.t 32) (.c (.int .i64 1)) (.c (.func (.func 81) [] [])))),qR (.raw (Ex.mput MK.i (.t 32) (.c (.int .i64 2)) (.c (.func (.func 82) [] [])))),qR (.raw (Ex.mput MK.i (.t 32) (.c (.int .i64 3)) (.c (.func (.func 83) [] [])))),qR (.raw (Ex.mput MK.i (.t 32) (.c (.int .i64 4)) (.c (.func (.func 84) [] [])))),qR (.raw (Ex.mput MK.i (.t 32) (.c (.int .i64 5)) (.c (.func (.func 85) [] [])))),qM 33 (.t 32),qM 5 (.t 33)]) (.seq (.reg [qM 34 (.t 5),qQ 35 (.faddr 0 (.t 3)),qQ 36 (.load 1 false (.t 35)),qQ 37 (.raw (Ex.look MK.i .nilf false (.t 34) (.t 36))),qM 38 (.t 0),qQ 39 (.load 3 true (.t 3)),qQ 40 (.callv (.t 37) [.t 38,.t 39]),qR (.store 2 (.t 4) (.t 40))]) .ret)))
theorem z5j:FnIs Tryz.prog 25 41 z39 [.cell 4 2 true]:=⟨Tryz.f25,_,Tryz.func25,rfl,rfl,by kernel_rfl,by kernel_rfl⟩

def z73:CC := .seq (.reg [qM 6 (.c (.bool false))]) (.seq (.dreg [qM 7 (.t 0),qM 8 (.t 1),qQ 9 (.nilck (.t 7)),qQ 10 (.faddr 0 (.t 9)),qQ 11 (.iaddrA 16 1 (.t 10) (.t 8)),qQ 12 (.load 1 false (.t 11)),qM 13 (.t 0),qM 14 (.t 2),qQ 15 (.nilck (.t 13)),qQ 16 (.faddr 0 (.t 15)),qQ 17 (.iaddrA 16 1 (.t 16) (.t 14)),qQ 18 (.load 1 false (.t 17)),qQ 19 (.bin .lss (.t 12) (.t 18)),qM 6 (.t 19)] [[],[],[0],[2],[3,1],[4],[],[],[6],[8],[9,7],[10],[5,11],[12,0,1,2,3,4,5,6,7,8,9,10,11,12]]) .ret)
theorem ze5:FnIs Tryz.prog 125 20 z73 [.t 6]:=⟨Tryz.f125,_,Tryz.func125,rfl,rfl,by kernel_rfl,by kernel_rfl⟩

def z86:CC := .seq (.reg [qM 4 (.c (.bool false))]) (.seq (.seq (.reg [qM 6 (.t 0),qQ 7 (.eqv .p false (.t 6) (.c .nilp))]) (.cond (.t 7) (.seq (.reg [qM 4 (.c (.bool false))]) .ret) .skip)) (.seq (.reg [qM 8 (.t 0),qQ 9 (.nilck (.t 8)),qQ 10 (.faddr 17 (.t 9)),qQ 11 (.load 1 false (.t 10)),qQ 12 (.nilck (.t 11)),qQ 13 (.faddr 0 (.t 12)),qQ 14 (.load 1 false (.t 13)),qM 15 (.t 1),qQ 16 (.call 189 [.t 14,.t 15]),qM 5 (.t 16)]) (.seq (.seq (.reg [qM 17 (.t 5),qQ 18 (.bin .lss (.t 17) (.c (.int .i64 0)))]) (.cond (.t 18) (.seq (.reg [qM 4 (.c (.bool false))]) .ret) .skip)) (.seq (.reg [qM 19 (.t 0),qQ 20 (.nilck (.t 19)),qQ 21 (.faddr 17 (.t 20)),qQ 22 (.load 1 false (.t 21)),qQ 23 (.raw (Ex.mkif 215 (.t 22))),qM 24 (.t 5),qQ 25 (.call 190 [.t 23,.t 24])]) (.seq (.reg [qM 4 (.c (.bool true))]) .ret)))))
theorem zfa:FnIs Tryz.prog 126 26 z86 [.t 4]:=⟨Tryz.f126,_,Tryz.func126,rfl,rfl,by kernel_rfl,by kernel_rfl⟩

def z3h : CC := .seq (.reg [qM 4 (.t 0),qM 5 (.t 1),qQ 6 (.raw (Ex.inv "Push" (.t 4) [.t 5]))]) (.reg [qM 7 (.t 0),qM 8 (.t 0),qQ 9 (.raw (Ex.inv "Len" (.t 8) [])),qQ 10 (.bin .sub (.t 9) (.c (.int .i64 1))),qQ 11 (.call 191 [.t 7,.t 10])])
theorem z7s:FnIs Tryz.prog 127 12 z3h []:=⟨Tryz.f127,_,Tryz.func127,rfl,rfl,by kernel_rfl,by kernel_rfl⟩

def z45:CC := .seq (.reg [qM 2 (.c (.int .i64 0))]) (.seq (.reg [qM 3 (.c (.bool false))]) (.seq (.seq (.reg [qM 7 (.t 0),qQ 8 (.nilck (.t 7)),qQ 9 (.faddr 2 (.t 8)),qQ 10 (.load 1 false (.t 9)),qQ 11 (.len (.t 10)),qM 12 (.c (.int .i64 0))]) (.block 0 (.loop (.seq (.reg [qQ 13 (.bin .lss (.t 12) (.t 11))]) (.seq (.cond (.t 13) .skip (.exit 0)) (.seq (.block 1 (.seq (.reg [qM 14 (.t 12),qQ 15 (.iaddr 8 (.t 10) (.t 12)),qQ 16 (.load 8 true (.t 15)),qQ 5 (.alloc [.int .i64 0,.bool false,.int .i64 0,.int .u32 0,.int .u32 0,.int .u64 0,.int .u64 0,.int .u64 0]),qM 4 (.t 14),qR (.store 8 (.t 5) (.t 16))]) (.seq (.seq (.reg [qQ 17 (.faddr 1 (.t 5)),qQ 18 (.load 1 false (.t 17)),qQ 19 (.not (.t 18))]) (.cond (.t 19) (.exit 1) .skip)) (.seq (.seq (.reg [qM 20 (.t 0),qM 21 (.t 4),qQ 22 (.call 192 [.t 20,.t 21]),qM 6 (.t 22)]) (.seq (.reg [qM 23 (.t 6),qQ 24 (.bin .neq (.t 23) (.c (.int .i64 0)))]) (.cond (.t 24) (.seq (.reg [qM 25 (.t 6),qM 2 (.t 25)]) .ret) .skip))) (.reg [qM 3 (.c (.bool true))]))))) (.reg [qQ 26 (.bin .add (.t 12) (.c (.int .i64 1))),qM 12 (.t 26)]))))))) (.seq (.seq (.reg [qM 27 (.t 3),qM 28 (.t 27),qG 29 (.mov (.t 0)) 28 true,qG 30 (.nilck (.t 29)) 28 true,qG 31 (.faddr 0 (.t 30)) 28 true,qG 32 (.load 1 false (.t 31)) 28 true,qG 33 (.nilck (.t 32)) 28 true,qG 34 (.faddr 3 (.t 33)) 28 true,qG 35 (.load 1 false (.t 34)) 28 true,qG 36 (.call 36 [.t 35]) 28 true,qG 37 (.not (.t 36)) 28 true,qQ 38 (.pick (.t 28) (.t 37) (.c (.bool false)))]) (.cond (.t 38) (.seq (.reg [qM 2 (.c (.int .i64 7))]) .ret) .skip)) (.seq (.reg [qM 39 (.t 0),qM 40 (.t 0),qQ 41 (.nilck (.t 40)),qQ 42 (.faddr 2 (.t 41)),qQ 43 (.load 1 false (.t 42)),qQ 44 (.len (.t 43)),qQ 45 (.mksl 8 [.int .i64 0,.bool false,.int .i64 0,.int .u32 0,.int .u32 0,.int .u64 0,.int .u64 0,.int .u64 0] 56 (.t 44) (.t 44)),qQ 46 (.nilck (.t 39)),qQ 47 (.faddr 2 (.t 46)),qR (.store 1 (.t 47) (.t 45))]) (.seq (.reg [qM 48 (.t 0),qQ 49 (.call 77 []),qQ 50 (.nilck (.t 48)),qQ 51 (.faddr 4 (.t 50)),qR (.store 1 (.t 51) (.t 49))]) (.seq (.reg [qM 2 (.c (.int .i64 0))]) .ret))))))
theorem z9a:FnIs Tryz.prog 128 52 z45 [.t 2]:=⟨Tryz.f128,_,Tryz.func128,rfl,rfl,by kernel_rfl,by kernel_rfl⟩

def z3s:CC := .seq (.reg [qM 2 (.c (.int .i64 0))]) (.seq (.seq (.reg [qM 4 (.t 0),qQ 5 (.call 138 [.t 4]),qM 3 (.t 5)]) (.seq (.reg [qM 6 (.t 3),qQ 7 (.bin .neq (.t 6) (.c (.int .i64 0)))]) (.cond (.t 7) (.seq (.reg [qM 8 (.t 3),qM 2 (.t 8)]) .ret) .skip))) (.seq (.seq (.dreg [qM 9 (.t 0),qQ 10 (.nilck (.t 9)),qQ 11 (.faddr 0 (.t 10)),qQ 12 (.load 1 false (.t 11)),qQ 13 (.nilck (.t 12)),qQ 14 (.faddr 5 (.t 13)),qQ 15 (.load 1 false (.t 14)),qM 16 (.t 0),qQ 17 (.nilck (.t 16)),qQ 18 (.faddr 0 (.t 17)),qQ 19 (.load 1 false (.t 18)),qQ 20 (.nilck (.t 19)),qQ 21 (.faddr 5 (.t 20)),qQ 22 (.load 1 false (.t 21)),qQ 23 (.call 30 [.t 22]),qQ 24 (.call 193 [.t 15,.t 23]),qQ 25 (.not (.t 24))] [[],[0],[1],[2],[3],[4],[5],[],[7],[8],[9],[10],[11],[12],[13],[6,14,14],[15]]) (.cond (.t 25) (.seq (.reg [qM 2 (.c (.int .i64 7))]) .ret) .skip)) (.seq (.reg [qM 2 (.c (.int .i64 0))]) .ret)))
theorem z87:FnIs Tryz.prog 129 26 z3s [.t 2]:=⟨Tryz.f129,_,Tryz.func129,rfl,rfl,by kernel_rfl,by kernel_rfl⟩

def z3t:CC := .seq (.reg [qQ 1 (.box 3 (.t 0)),qM 2 (.c (.bool false))]) (.seq (.seq (.reg [qQ 3 (.faddr 0 (.t 1)),qQ 4 (.load 1 false (.t 3))]) (.block 0 (.seq (.seq (.reg [qQ 6 (.bin .eql (.t 4) (.c (.int .i64 1))),qM 5 (.t 6)]) (.cond (.t 5) .skip (.reg [qQ 7 (.bin .eql (.t 4) (.c (.int .i64 4))),qM 5 (.t 7)]))) (.cond (.t 5) (.seq (.reg [qQ 8 (.faddr 1 (.t 1)),qQ 9 (.load 1 false (.t 8)),qQ 10 (.call 130 [.t 9]),qM 2 (.t 10)]) .ret) (.seq (.reg [qQ 12 (.bin .eql (.t 4) (.c (.int .i64 2))),qM 11 (.t 12)]) (.cond (.t 11) (.seq (.reg [qQ 13 (.faddr 1 (.t 1)),qQ 14 (.load 1 false (.t 13)),qQ 15 (.call 130 [.t 14]),qM 16 (.t 15),qG 17 (.faddr 2 (.t 1)) 16 true,qG 18 (.load 1 false (.t 17)) 16 true,qG 19 (.len (.t 18)) 16 true,qG 20 (.bin .eql (.t 19) (.c (.int .i64 32))) 16 true,qQ 21 (.pick (.t 16) (.t 20) (.c (.bool false))),qM 2 (.t 21)]) .ret) (.seq (.seq (.reg [qQ 23 (.bin .eql (.t 4) (.c (.int .i64 3))),qM 22 (.t 23)]) (.cond (.t 22) .skip (.reg [qQ 24 (.bin .eql (.t 4) (.c (.int .i64 5))),qM 22 (.t 24)]))) (.cond (.t 22) (.seq (.reg [qM 2 (.c (.bool true))]) .ret) .skip)))))))) (.seq (.reg [qM 2 (.c (.bool false))]) .ret))
theorem z4v:FnIs Tryz.prog 80 25 z3t [.t 2]:=⟨Tryz.f80,_,Tryz.func80,rfl,rfl,by kernel_rfl,by kernel_rfl⟩

def z4z:CC := .seq (.reg [qQ 3 (.box 3 (.t 1)),qQ 4 (.alloc [.int .i64 0,.nils])]) (.seq (.seq (.reg [qM 13 (.t 0),qQ 14 (.faddr 1 (.t 3)),qQ 15 (.load 1 false (.t 14)),qQ 16 (.call 131 [.t 13,.t 15]),qM 5 (.t 16)]) (.seq (.reg [qM 17 (.t 5),qQ 18 (.bin .geq (.t 17) (.c (.int .i64 0)))]) (.cond (.t 18) (.seq (.reg [qM 20 (.t 0),qM 21 (.t 5),qQ 22 (.call 132 [.t 20,.t 21]),qM 19 (.t 22),qQ 23 (.ext 0 (.t 19)),qQ 24 (.ext 1 (.t 19)),qM 6 (.t 23),qM 7 (.t 24)]) (.seq (.seq (.reg [qM 25 (.t 7),qQ 26 (.bin .neq (.t 25) (.c (.int .i64 0)))]) (.cond (.t 26) (.seq (.reg [qM 27 (.t 7),qQ 28 (.build [.int .i64 0,.nils] [(0,1,.t 27)]),qR (.store 2 (.t 4) (.t 28))]) .ret) .skip)) (.seq (.reg [qM 29 (.t 0),qQ 30 (.nilck (.t 29)),qQ 31 (.faddr 4 (.t 30)),qQ 32 (.load 1 false (.t 31)),qM 33 (.t 5),qQ 34 (.call 78 [.t 32,.t 33])]) (.seq (.reg [qM 35 (.t 6),qQ 36 (.build [.int .i64 0,.nils] [(1,1,.t 35)]),qR (.store 2 (.t 4) (.t 36))]) .ret)))) .skip))) (.seq (.dreg [qM 38 (.t 0),qQ 39 (.nilck (.t 38)),qQ 40 (.faddr 0 (.t 39)),qQ 41 (.load 1 false (.t 40)),qQ 42 (.nilck (.t 41)),qQ 43 (.faddr 3 (.t 42)),qQ 44 (.load 1 false (.t 43)),qQ 45 (.faddr 1 (.t 3)),qQ 46 (.load 1 false (.t 45)),qQ 47 (.call 32 [.t 44,.t 46]),qM 37 (.t 47),qQ 48 (.ext 0 (.t 37)),qQ 49 (.ext 1 (.t 37)),qM 8 (.t 48),qM 9 (.t 49)] [[],[0],[1],[2],[3],[4],[5],[],[7],[6,8],[9],[10],[10],[11,9,0,1,2,3,4,5,6,7,8,9,10,11],[12,13,0,1,2,3,4,5,6,7,8,9,10,11,12,13]]) (.seq (.seq (.reg [qM 50 (.t 9),qQ 51 (.not (.t 50))]) (.cond (.t 51) (.seq (.reg [qQ 52 (.build [.int .i64 0,.nils] [(0,1,.c (.int .i64 7))]),qR (.store 2 (.t 4) (.t 52))]) .ret) .skip)) (.seq (.seq (.reg [qM 53 (.t 0),qQ 54 (.call 133 [.t 53]),qQ 55 (.bin .lss (.t 54) (.c (.int .i64 0))),qM 56 (.t 55),qG 57 (.mov (.t 0)) 56 false,qG 58 (.nilck (.t 57)) 56 false,qG 59 (.faddr 1 (.t 58)) 56 false,qG 60 (.load 1 false (.t 59)) 56 false,qG 61 (.call 134 [.t 60]) 56 false,qG 62 (.bin .eql (.t 61) (.c (.int .i64 0))) 56 false,qQ 63 (.pick (.t 56) (.c (.bool true)) (.t 62))]) (.cond (.t 63) (.seq (.reg [qM 64 (.t 8),qQ 65 (.build [.int .i64 0,.nils] [(1,1,.t 64)]),qR (.store 2 (.t 4) (.t 65))]) .ret) .skip)) (.seq (.reg [qM 67 (.t 0),qQ 68 (.faddr 1 (.t 3)),qQ 69 (.load 1 false (.t 68)),qM 70 (.t 8),qQ 71 (.call 135 [.t 67,.t 69,.t 70,.c (.bool false)]),qM 66 (.t 71),qQ 72 (.ext 0 (.t 66)),qQ 73 (.ext 1 (.t 66)),qQ 74 (.ext 2 (.t 66)),qQ 11 (.alloc [.int .i64 0,.bool false,.int .i64 0,.int .u32 0,.int .u32 0,.int .u64 0,.int .u64 0,.int .u64 0]),qM 10 (.t 72),qR (.store 8 (.t 11) (.t 73)),qM 12 (.t 74)]) (.seq (.seq (.reg [qM 75 (.t 12),qQ 76 (.bin .neq (.t 75) (.c (.int .i64 0)))]) (.cond (.t 76) (.seq (.reg [qM 77 (.t 12),qQ 78 (.build [.int .i64 0,.nils] [(0,1,.t 77)]),qR (.store 2 (.t 4) (.t 78))]) .ret) .skip)) (.seq (.reg [qM 79 (.t 0),qM 80 (.t 10),qQ 81 (.load 8 true (.t 11)),qQ 82 (.call 136 [.t 79,.t 80,.t 81])]) (.seq (.reg [qM 83 (.t 8),qQ 84 (.build [.int .i64 0,.nils] [(1,1,.t 83)]),qR (.store 2 (.t 4) (.t 84))]) .ret))))))))
theorem zaq:FnIs Tryz.prog 81 85 z4z [.cell 4 2 true]:=⟨Tryz.f81,_,Tryz.func81,rfl,rfl,by kernel_rfl,by kernel_rfl⟩

def z46:CC := .seq (.reg [qQ 3 (.box 3 (.t 1)),qQ 4 (.alloc [.int .i64 0,.nils])]) (.seq (.seq (.reg [qM 9 (.t 0),qQ 10 (.call 137 [.t 9]),qM 5 (.t 10)]) (.seq (.reg [qM 11 (.t 5),qQ 12 (.bin .neq (.t 11) (.c (.int .i64 0)))]) (.cond (.t 12) (.seq (.reg [qM 13 (.t 5),qQ 14 (.build [.int .i64 0,.nils] [(0,1,.t 13)]),qR (.store 2 (.t 4) (.t 14))]) .ret) .skip))) (.seq (.reg [qM 16 (.t 0),qQ 17 (.faddr 1 (.t 3)),qQ 18 (.load 1 false (.t 17)),qQ 19 (.faddr 2 (.t 3)),qQ 20 (.load 1 false (.t 19)),qQ 21 (.call 135 [.t 16,.t 18,.t 20,.c (.bool true)]),qM 15 (.t 21),qQ 22 (.ext 0 (.t 15)),qQ 23 (.ext 1 (.t 15)),qQ 24 (.ext 2 (.t 15)),qQ 7 (.alloc [.int .i64 0,.bool false,.int .i64 0,.int .u32 0,.int .u32 0,.int .u64 0,.int .u64 0,.int .u64 0]),qM 6 (.t 22),qR (.store 8 (.t 7) (.t 23)),qM 8 (.t 24)]) (.seq (.seq (.reg [qM 25 (.t 8),qQ 26 (.bin .neq (.t 25) (.c (.int .i64 0)))]) (.cond (.t 26) (.seq (.reg [qM 27 (.t 8),qQ 28 (.build [.int .i64 0,.nils] [(0,1,.t 27)]),qR (.store 2 (.t 4) (.t 28))]) .ret) .skip)) (.seq (.reg [qM 29 (.t 0),qM 30 (.t 6),qQ 31 (.load 8 true (.t 7)),qQ 32 (.call 136 [.t 29,.t 30,.t 31])]) (.seq (.reg [qQ 33 (.build [.int .i64 0,.nils] []),qR (.store 2 (.t 4) (.t 33))]) .ret)))))
theorem z9b:FnIs Tryz.prog 82 34 z46 [.cell 4 2 true]:=⟨Tryz.f82,_,Tryz.func82,rfl,rfl,by kernel_rfl,by kernel_rfl⟩

def z47:CC := .seq (.reg [qQ 3 (.box 3 (.t 1)),qQ 4 (.alloc [.int .i64 0,.nils])]) (.seq (.reg [qM 5 (.t 0),qQ 6 (.call 138 [.t 5]),qQ 7 (.build [.int .i64 0,.nils] [(0,1,.t 6)]),qR (.store 2 (.t 4) (.t 7))]) .ret)
theorem z9c:FnIs Tryz.prog 83 8 z47 [.cell 4 2 true]:=⟨Tryz.f83,_,Tryz.func83,rfl,rfl,by kernel_rfl,by kernel_rfl⟩

def z3i:CC := .seq (.reg [qQ 3 (.box 3 (.t 1)),qQ 4 (.alloc [.int .i64 0,.nils])]) (.seq (.seq (.reg [qM 6 (.t 0),qQ 7 (.call 137 [.t 6]),qM 5 (.t 7)]) (.seq (.reg [qM 8 (.t 5),qQ 9 (.bin .neq (.t 8) (.c (.int .i64 0)))]) (.cond (.t 9) (.seq (.reg [qM 10 (.t 5),qQ 11 (.build [.int .i64 0,.nils] [(0,1,.t 10)]),qR (.store 2 (.t 4) (.t 11))]) .ret) .skip))) (.seq (.dreg [qM 12 (.t 0),qM 13 (.t 0),qQ 14 (.call 133 [.t 13]),qQ 15 (.faddr 1 (.t 3)),qQ 16 (.load 1 false (.t 15)),qQ 17 (.build [.int .i64 0,.bool false,.int .i64 0,.int .u32 0,.int .u32 0,.int .u64 0,.int .u64 0,.int .u64 0] [(0,1,.c (.int .i64 2)),(1,1,.c (.bool true)),(2,1,.t 16)]),qQ 18 (.call 136 [.t 12,.t 14,.t 17])] [[],[],[1],[],[3],[4],[0,2,5,2]]) (.seq (.reg [qQ 19 (.build [.int .i64 0,.nils] []),qR (.store 2 (.t 4) (.t 19))]) .ret)))
theorem z7t:FnIs Tryz.prog 84 20 z3i [.cell 4 2 true]:=⟨Tryz.f84,_,Tryz.func84,rfl,rfl,by kernel_rfl,by kernel_rfl⟩

def z3u:CC := .seq (.reg [qQ 3 (.box 3 (.t 1)),qQ 4 (.alloc [.int .i64 0,.nils])]) (.seq (.seq (.reg [qM 7 (.t 0),qQ 8 (.call 138 [.t 7]),qM 5 (.t 8)]) (.seq (.reg [qM 9 (.t 5),qQ 10 (.bin .neq (.t 9) (.c (.int .i64 0)))]) (.cond (.t 10) (.seq (.reg [qM 11 (.t 5),qQ 12 (.build [.int .i64 0,.nils] [(0,1,.t 11)]),qR (.store 2 (.t 4) (.t 12))]) .ret) .skip))) (.seq (.seq (.reg [qM 13 (.t 0),qQ 14 (.call 128 [.t 13]),qM 6 (.t 14)]) (.seq (.reg [qM 15 (.t 6),qQ 16 (.bin .neq (.t 15) (.c (.int .i64 0)))]) (.cond (.t 16) (.seq (.reg [qM 17 (.t 6),qQ 18 (.build [.int .i64 0,.nils] [(0,1,.t 17)]),qR (.store 2 (.t 4) (.t 18))]) .ret) .skip))) (.seq (.seq (.reg [qM 19 (.t 0),qQ 20 (.nilck (.t 19)),qQ 21 (.faddr 0 (.t 20)),qQ 22 (.load 1 false (.t 21)),qQ 23 (.nilck (.t 22)),qQ 24 (.faddr 5 (.t 23)),qQ 25 (.load 1 false (.t 24)),qQ 26 (.call 139 [.t 25]),qQ 27 (.not (.t 26))]) (.cond (.t 27) (.seq (.reg [qQ 28 (.build [.int .i64 0,.nils] [(0,1,.c (.int .i64 7))]),qR (.store 2 (.t 4) (.t 28))]) .ret) .skip)) (.seq (.reg [qM 29 (.t 0),qQ 30 (.call 129 [.t 29]),qQ 31 (.build [.int .i64 0,.nils] [(0,1,.t 30)]),qR (.store 2 (.t 4) (.t 31))]) .ret))))
theorem z88:FnIs Tryz.prog 85 32 z3u [.cell 4 2 true]:=⟨Tryz.f85,_,Tryz.func85,rfl,rfl,by kernel_rfl,by kernel_rfl⟩

def z21:CC := .seq (.reg [qM 4 (.c (.int .i64 0))]) (.seq (.seq (.reg [qM 6 (.t 0),qQ 7 (.len (.t 6)),qM 8 (.c (.int .i64 0))]) (.block 0 (.loop (.seq (.reg [qQ 9 (.bin .lss (.t 8) (.t 7))]) (.seq (.cond (.t 9) .skip (.exit 0)) (.seq (.block 1 (.seq (.reg [qM 10 (.t 8),qM 5 (.t 10)]) (.seq (.reg [qM 11 (.t 1),qM 12 (.t 0),qM 13 (.t 5),qQ 14 (.iaddr 1 (.t 12) (.t 13)),qQ 15 (.load 1 false (.t 14)),qQ 16 (.bin .eql (.t 11) (.t 15))]) (.cond (.t 16) (.seq (.reg [qM 17 (.t 5),qM 4 (.t 17)]) .ret) .skip)))) (.reg [qQ 18 (.bin .add (.t 8) (.c (.int .i64 1))),qM 8 (.t 18)]))))))) (.seq (.reg [qM 4 (.c (.int .i64 (-1)))]) .ret))
theorem z31:FnIs Tryz.prog 189 19 z21 [.t 4]:=⟨Tryz.f189,_,Tryz.func189,rfl,rfl,by kernel_rfl,by kernel_rfl⟩

def z2u : CC := .seq (.reg [qM 4 (.c .nili)]) (.seq (.reg [qM 6 (.t 0),qQ 7 (.raw (Ex.inv "Len" (.t 6) [])),qQ 8 (.bin .sub (.t 7) (.c (.int .i64 1))),qM 5 (.t 8)]) (.seq (.seq (.reg [qM 9 (.t 5),qM 10 (.t 1),qQ 11 (.bin .neq (.t 9) (.t 10))]) (.cond (.t 11) (.seq (.reg [qM 12 (.t 0),qM 13 (.t 1),qM 14 (.t 5),qQ 15 (.raw (Ex.inv "Swap" (.t 12) [.t 13,.t 14]))]) (.seq (.reg [qM 16 (.t 0),qM 17 (.t 1),qM 18 (.t 5),qQ 19 (.call 249 [.t 16,.t 17,.t 18]),qQ 20 (.not (.t 19))]) (.cond (.t 20) (.reg [qM 21 (.t 0),qM 22 (.t 1),qQ 23 (.call 191 [.t 21,.t 22])]) .skip))) .skip)) (.seq (.reg [qM 24 (.t 0),qQ 25 (.raw (Ex.inv "Pop" (.t 24) [])),qM 4 (.t 25)]) .ret)))
theorem z6b:FnIs Tryz.prog 190 26 z2u [.t 4]:=⟨Tryz.f190,_,Tryz.func190,rfl,rfl,by kernel_rfl,by kernel_rfl⟩

def z48 : CC := .block 0 (.loop (.block 1 (.seq (.reg [qM 5 (.t 1),qQ 6 (.bin .sub (.t 5) (.c (.int .i64 1))),qQ 7 (.bin .quo (.t 6) (.c (.int .i64 2))),qM 4 (.t 7)]) (.seq (.seq (.reg [qM 8 (.t 4),qM 9 (.t 1),qQ 10 (.bin .eql (.t 8) (.t 9)),qM 11 (.t 10),qG 12 (.mov (.t 0)) 11 false,qG 13 (.mov (.t 1)) 11 false,qG 14 (.mov (.t 4)) 11 false,qG 15 (.raw (Ex.inv "Less" (.t 12) [.t 13,.t 14])) 11 false,qG 16 (.not (.t 15)) 11 false,qQ 17 (.pick (.t 11) (.c (.bool true)) (.t 16))]) (.cond (.t 17) (.exit 0) .skip)) (.seq (.reg [qM 18 (.t 0),qM 19 (.t 4),qM 20 (.t 1),qQ 21 (.raw (Ex.inv "Swap" (.t 18) [.t 19,.t 20]))]) (.reg [qM 22 (.t 4),qM 1 (.t 22)]))))))
theorem z9d:FnIs Tryz.prog 191 23 z48 []:=⟨Tryz.f191,_,Tryz.func191,rfl,rfl,by kernel_rfl,by kernel_rfl⟩

def z49:CC := .seq (.reg [qM 4 (.c (.int .i64 0))]) (.seq (.reg [qM 8 (.t 0),qM 9 (.t 1),qQ 10 (.call 132 [.t 8,.t 9]),qM 7 (.t 10),qQ 11 (.ext 0 (.t 7)),qQ 12 (.ext 1 (.t 7)),qM 5 (.t 11),qM 6 (.t 12)]) (.seq (.seq (.reg [qM 13 (.t 6),qQ 14 (.bin .neq (.t 13) (.c (.int .i64 0)))]) (.cond (.t 14) (.seq (.reg [qM 15 (.t 6),qM 4 (.t 15)]) .ret) .skip)) (.seq (.block 0 (.seq (.dreg [qM 17 (.t 0),qQ 18 (.nilck (.t 17)),qQ 19 (.faddr 0 (.t 18)),qQ 20 (.load 1 false (.t 19)),qQ 21 (.nilck (.t 20)),qQ 22 (.faddr 3 (.t 21)),qQ 23 (.load 1 false (.t 22)),qM 24 (.t 0),qQ 25 (.nilck (.t 24)),qQ 26 (.faddr 2 (.t 25)),qQ 27 (.load 1 false (.t 26)),qM 28 (.t 1),qQ 29 (.iaddr 8 (.t 27) (.t 28)),qQ 30 (.faddr 2 (.t 29)),qQ 31 (.load 1 false (.t 30)),qM 32 (.t 5),qQ 33 (.call 35 [.t 23,.t 31,.t 32]),qM 16 (.t 33)] [[],[0],[1],[2],[3],[4],[5],[],[7],[8],[9],[],[10,11],[12],[13],[],[6,14,15],[16,16]]) (.cond (.t 16) (.seq (.reg [qM 4 (.c (.int .i64 0))]) .ret) (.seq (.reg [qM 35 (.t 0),qQ 36 (.nilck (.t 35)),qQ 37 (.faddr 0 (.t 36)),qQ 38 (.load 1 false (.t 37)),qQ 39 (.nilck (.t 38)),qQ 40 (.faddr 1 (.t 39)),qQ 41 (.load 1 false (.t 40)),qQ 42 (.call 71 [.t 41]),qM 34 (.t 42)]) (.cond (.t 34) (.seq (.reg [qM 4 (.c (.int .i64 5))]) .ret) .skip))))) (.seq (.reg [qM 4 (.c (.int .i64 7))]) .ret))))
theorem z9e:FnIs Tryz.prog 192 43 z49 [.t 4]:=⟨Tryz.f192,_,Tryz.func192,rfl,rfl,by kernel_rfl,by kernel_rfl⟩

def z3v:CC := .seq (.reg [qM 2 (.c (.int .i64 0))]) (.seq (.dreg [qM 4 (.t 0),qQ 5 (.nilck (.t 4)),qQ 6 (.faddr 0 (.t 5)),qQ 7 (.load 1 false (.t 6)),qM 8 (.t 0),qQ 9 (.nilck (.t 8)),qQ 10 (.faddr 1 (.t 9)),qQ 11 (.load 1 false (.t 10)),qM 12 (.t 0),qQ 13 (.nilck (.t 12)),qQ 14 (.faddr 2 (.t 13)),qQ 15 (.load 1 false (.t 14)),qQ 16 (.call 205 [.t 7,.t 11,.t 15]),qM 3 (.t 16)] [[],[0],[1],[2],[],[4],[5],[6],[],[8],[9],[10],[3,7,11],[12,12,0,1,2,3,4,5,6,7,8,9,10,11,12]]) (.seq (.seq (.reg [qM 17 (.t 3),qQ 18 (.bin .eql (.t 17) (.c (.int .i64 0)))]) (.cond (.t 18) (.reg [qM 19 (.t 0),qM 20 (.t 0),qQ 21 (.nilck (.t 20)),qQ 22 (.faddr 2 (.t 21)),qQ 23 (.load 1 false (.t 22)),qQ 24 (.call 76 [.t 23]),qQ 25 (.nilck (.t 19)),qQ 26 (.faddr 3 (.t 25)),qR (.store 1 (.t 26) (.t 24))]) .skip)) (.seq (.reg [qM 27 (.t 3),qM 2 (.t 27)]) .ret)))
theorem z89:FnIs Tryz.prog 138 28 z3v [.t 2]:=⟨Tryz.f138,_,Tryz.func138,rfl,rfl,by kernel_rfl,by kernel_rfl⟩

def za2:CC := .seq (.reg [qM 2 (.c (.bool false))]) (.seq (.reg [qM 3 (.t 0),qQ 4 (.bin .geq (.t 3) (.c (.int .i64 0))),qM 5 (.t 4),qG 6 (.mov (.t 0)) 5 true,qG 7 (.bin .lss (.t 6) (.c (.int .i64 32))) 5 true,qQ 8 (.pick (.t 5) (.t 7) (.c (.bool false))),qM 2 (.t 8)]) .ret)
theorem zh4:FnIs Tryz.prog 130 9 za2 [.t 2]:=⟨Tryz.f130,_,Tryz.func130,rfl,rfl,by kernel_rfl,by kernel_rfl⟩

def z50:CC := .seq (.reg [qQ 3 (.box 1 (.t 1)),qM 4 (.c (.int .i64 0))]) (.seq (.reg [qM 5 (.t 0),qQ 6 (.nilck (.t 5)),qQ 7 (.faddr 2 (.t 6)),qQ 8 (.load 1 false (.t 7)),qQ 9 (.mkf (.func 195) [] [.t 3]),qQ 10 (.call 194 [.t 8,.t 9]),qM 4 (.t 10)]) .ret)
theorem zar:FnIs Tryz.prog 131 11 z50 [.t 4]:=⟨Tryz.f131,_,Tryz.func131,rfl,rfl,by kernel_rfl,by kernel_rfl⟩

def z4a:CC := .seq (.reg [qM 4 (.c .nils),qM 5 (.c (.int .i64 0))]) (.seq (.reg [qM 10 (.t 0),qQ 11 (.nilck (.t 10)),qQ 12 (.faddr 2 (.t 11)),qQ 13 (.load 1 false (.t 12)),qM 14 (.t 1),qQ 15 (.iaddr 8 (.t 13) (.t 14)),qQ 16 (.load 8 true (.t 15)),qQ 6 (.alloc [.int .i64 0,.bool false,.int .i64 0,.int .u32 0,.int .u32 0,.int .u64 0,.int .u64 0,.int .u64 0]),qR (.store 8 (.t 6) (.t 16))]) (.seq (.seq (.reg [qQ 17 (.faddr 0 (.t 6)),qQ 18 (.load 1 false (.t 17)),qQ 19 (.bin .eql (.t 18) (.c (.int .i64 2)))]) (.cond (.t 19) (.seq (.reg [qQ 20 (.mksl 1 [.int .u8 0] 1 (.c (.int .i64 32)) (.c (.int .i64 32))),qM 4 (.t 20),qM 5 (.c (.int .i64 0))]) .ret) .skip)) (.seq (.dreg [qM 22 (.t 0),qQ 23 (.nilck (.t 22)),qQ 24 (.faddr 0 (.t 23)),qQ 25 (.load 1 false (.t 24)),qQ 26 (.nilck (.t 25)),qQ 27 (.faddr 2 (.t 26)),qQ 28 (.load 1 false (.t 27)),qM 29 (.t 0),qQ 30 (.nilck (.t 29)),qQ 31 (.faddr 0 (.t 30)),qQ 32 (.load 1 false (.t 31)),qQ 33 (.nilck (.t 32)),qQ 34 (.faddr 0 (.t 33)),qQ 35 (.load 1 true (.t 34)),qM 36 (.t 1),qQ 37 (.call 196 [.t 35,.t 36]),qQ 38 (.call 182 [.t 28,.t 37,.c (.int .i64 32)]),qM 21 (.t 38),qQ 39 (.ext 0 (.t 21)),qQ 40 (.ext 1 (.t 21)),qM 7 (.t 39),qM 8 (.t 40)] [[],[0],[1],[2],[3],[4],[5],[],[7],[8],[9],[10],[11],[12],[],[13,14],[6,15,15],[16],[17],[17],[18,16,0,1,2,3,4,5,6,7,8,9,10,11,12,13,14,15,16,17,18],[19,20,0,1,2,3,4,5,6,7,8,9,10,11,12,13,14,15,16,17,18,19,20]]) (.seq (.seq (.reg [qM 41 (.t 8),qQ 42 (.not (.t 41))]) (.cond (.t 42) (.seq (.reg [qM 4 (.c .nils),qM 5 (.c (.int .i64 7))]) .ret) .skip)) (.seq (.dreg [qM 44 (.t 0),qQ 45 (.nilck (.t 44)),qQ 46 (.faddr 0 (.t 45)),qQ 47 (.load 1 false (.t 46)),qQ 48 (.nilck (.t 47)),qQ 49 (.faddr 5 (.t 48)),qQ 50 (.load 1 false (.t 49)),qQ 51 (.faddr 3 (.t 6)),qQ 52 (.faddr 0 (.t 51)),qQ 53 (.load 1 false (.t 52)),qQ 54 (.call 58 [.t 50,.t 53]),qM 43 (.t 54),qQ 55 (.ext 0 (.t 43)),qQ 56 (.ext 1 (.t 43)),qQ 9 (.alloc [.int .u64 0,.int .u64 0]),qR (.store 2 (.t 9) (.t 55)),qM 8 (.t 56)] [[],[0],[1],[2],[3],[4],[5],[],[7],[8],[6,9],[10],[11],[11],[],[14,12,10,0,1,2,3,4,5,6,7,8,9,10,11,12,14],[13,15,0,1,2,3,4,5,6,7,8,9,10,11,12,13,14,15]]) (.seq (.seq (.reg [qM 57 (.t 8)]) (.cond (.t 57) (.dreg [qM 59 (.t 0),qQ 60 (.nilck (.t 59)),qQ 61 (.faddr 0 (.t 60)),qQ 62 (.load 1 false (.t 61)),qQ 63 (.nilck (.t 62)),qQ 64 (.faddr 6 (.t 63)),qQ 65 (.load 1 false (.t 64)),qQ 66 (.load 2 true (.t 9)),qQ 67 (.faddr 3 (.t 6)),qQ 68 (.load 3 true (.t 67)),qQ 69 (.faddr 2 (.t 6)),qQ 70 (.load 1 false (.t 69)),qQ 71 (.call 198 [.t 70]),qM 72 (.t 7),qQ 73 (.faddr 6 (.t 6)),qQ 74 (.load 2 true (.t 73)),qQ 75 (.build [.nils,.int .u64 0,.int .u64 0] [(0,1,.t 72),(1,2,.t 74)]),qQ 76 (.call 197 [.t 65,.t 66,.t 68,.t 71,.t 75]),qM 58 (.t 76),qQ 77 (.ext 0 (.t 58)),qQ 78 (.ext 1 (.t 58)),qM 7 (.t 77),qM 8 (.t 78)] [[],[0],[1],[2],[3],[4],[5],[],[],[8],[],[10],[11],[],[],[14],[13,15],[6,7,9,12,16,12],[17],[18],[18],[19,17,0,1,2,3,4,5,6,7,8,9,10,11,12,13,14,15,16,17,18,19],[20,21,0,1,2,3,4,5,6,7,8,9,10,11,12,13,14,15,16,17,18,19,20,21]]) .skip)) (.seq (.seq (.reg [qM 79 (.t 8),qQ 80 (.not (.t 79))]) (.cond (.t 80) (.seq (.reg [qM 81 (.t 0),qQ 82 (.nilck (.t 81)),qQ 83 (.faddr 5 (.t 82)),qR (.store 1 (.t 83) (.c (.bool true)))]) (.seq (.reg [qM 4 (.c .nils),qM 5 (.c (.int .i64 3))]) .ret)) .skip)) (.seq (.reg [qM 84 (.t 7),qM 4 (.t 84),qM 5 (.c (.int .i64 0))]) .ret))))))))
theorem z9f:FnIs Tryz.prog 132 85 z4a [.t 4,.t 5]:=⟨Tryz.f132,_,Tryz.func132,rfl,rfl,by kernel_rfl,by kernel_rfl⟩

def z51:CC := .seq (.reg [qM 2 (.c (.int .i64 0))]) (.seq (.seq (.reg [qM 4 (.t 0),qQ 5 (.nilck (.t 4)),qQ 6 (.faddr 2 (.t 5)),qQ 7 (.load 1 false (.t 6)),qQ 8 (.len (.t 7)),qM 9 (.c (.int .i64 0))]) (.block 0 (.loop (.seq (.reg [qQ 10 (.bin .lss (.t 9) (.t 8))]) (.seq (.cond (.t 10) .skip (.exit 0)) (.seq (.block 1 (.seq (.reg [qM 11 (.t 9),qM 3 (.t 11)]) (.seq (.reg [qM 12 (.t 0),qM 13 (.t 3),qQ 14 (.call 88 [.t 12,.t 13])]) (.cond (.t 14) (.seq (.reg [qM 15 (.t 3),qM 2 (.t 15)]) .ret) .skip)))) (.reg [qQ 16 (.bin .add (.t 9) (.c (.int .i64 1))),qM 9 (.t 16)]))))))) (.seq (.reg [qM 2 (.c (.int .i64 (-1)))]) .ret))
theorem zas:FnIs Tryz.prog 133 17 z51 [.t 2]:=⟨Tryz.f133,_,Tryz.func133,rfl,rfl,by kernel_rfl,by kernel_rfl⟩

def z5k:CC := .seq (.reg [qM 8 (.c (.int .i64 0)),qQ 9 (.alloc [.int .i64 0,.bool false,.int .i64 0,.int .u32 0,.int .u32 0,.int .u64 0,.int .u64 0,.int .u64 0]),qM 10 (.c (.int .i64 0))]) (.seq (.reg [qM 18 (.t 0),qQ 19 (.call 133 [.t 18]),qM 11 (.t 19)]) (.seq (.reg [qM 21 (.t 0),qQ 22 (.nilck (.t 21)),qQ 23 (.faddr 0 (.t 22)),qQ 24 (.load 1 false (.t 23)),qQ 25 (.call 199 [.t 24]),qM 20 (.t 25),qQ 26 (.ext 0 (.t 20)),qQ 27 (.ext 1 (.t 20)),qQ 13 (.alloc [.int .u64 0,.int .u64 0]),qM 12 (.t 26),qR (.store 2 (.t 13) (.t 27))]) (.seq (.reg [qM 29 (.t 0),qQ 30 (.nilck (.t 29)),qQ 31 (.faddr 1 (.t 30)),qQ 32 (.load 1 false (.t 31)),qM 33 (.t 12),qM 34 (.t 11),qQ 35 (.call 200 [.t 32,.t 33,.t 34]),qM 28 (.t 35),qQ 36 (.ext 0 (.t 28)),qQ 37 (.ext 1 (.t 28)),qQ 14 (.alloc [.int .u32 0,.int .u32 0,.int .u64 0]),qR (.store 3 (.t 14) (.t 36)),qM 15 (.t 37)]) (.seq (.seq (.reg [qM 38 (.t 15),qQ 39 (.bin .neq (.t 38) (.c (.int .i64 0)))]) (.cond (.t 39) (.seq (.reg [qQ 40 (.build [.int .i64 0,.bool false,.int .i64 0,.int .u32 0,.int .u32 0,.int .u64 0,.int .u64 0,.int .u64 0] []),qM 41 (.t 15),qM 8 (.c (.int .i64 (-1))),qR (.store 8 (.t 9) (.t 40)),qM 10 (.t 41)]) .ret) .skip)) (.seq (.dreg [qM 43 (.t 0),qQ 44 (.nilck (.t 43)),qQ 45 (.faddr 0 (.t 44)),qQ 46 (.load 1 false (.t 45)),qQ 47 (.nilck (.t 46)),qQ 48 (.faddr 6 (.t 47)),qQ 49 (.load 1 false (.t 48)),qQ 50 (.load 2 true (.t 13)),qQ 51 (.load 3 true (.t 14)),qM 52 (.t 1),qQ 53 (.call 198 [.t 52]),qM 54 (.t 2),qQ 55 (.call 201 [.t 49,.t 50,.t 51,.t 53,.t 54]),qM 42 (.t 55),qQ 56 (.ext 0 (.t 42)),qQ 57 (.ext 1 (.t 42)),qQ 16 (.alloc [.nils,.int .u64 0,.int .u64 0]),qR (.store 3 (.t 16) (.t 56)),qM 17 (.t 57)] [[],[0],[1],[2],[3],[4],[5],[],[],[],[9],[],[6,7,8,10,11,10],[12],[13],[13],[],[16,14,12,0,1,2,3,4,5,6,7,8,9,10,11,12,13,14,16],[15,17,0,1,2,3,4,5,6,7,8,9,10,11,12,13,14,15,16,17]]) (.seq (.seq (.dreg [qM 58 (.t 0),qQ 59 (.nilck (.t 58)),qQ 60 (.faddr 0 (.t 59)),qQ 61 (.load 1 false (.t 60)),qQ 62 (.nilck (.t 61)),qQ 63 (.faddr 2 (.t 62)),qQ 64 (.load 1 false (.t 63)),qM 65 (.t 0),qQ 66 (.nilck (.t 65)),qQ 67 (.faddr 0 (.t 66)),qQ 68 (.load 1 false (.t 67)),qQ 69 (.nilck (.t 68)),qQ 70 (.faddr 0 (.t 69)),qQ 71 (.load 1 true (.t 70)),qM 72 (.t 11),qQ 73 (.call 196 [.t 71,.t 72]),qQ 74 (.faddr 0 (.t 16)),qQ 75 (.load 1 false (.t 74)),qQ 76 (.call 202 [.t 64,.t 73,.t 75]),qQ 77 (.not (.t 76))] [[],[0],[1],[2],[3],[4],[5],[],[7],[8],[9],[10],[11],[12],[],[13,14],[],[16],[6,15,17,15],[18]]) (.cond (.t 77) (.seq (.reg [qQ 78 (.build [.int .i64 0,.bool false,.int .i64 0,.int .u32 0,.int .u32 0,.int .u64 0,.int .u64 0,.int .u64 0] []),qM 8 (.c (.int .i64 (-1))),qR (.store 8 (.t 9) (.t 78)),qM 10 (.c (.int .i64 7))]) .ret) .skip)) (.seq (.dreg [qM 79 (.t 11),qM 80 (.t 3),qM 81 (.t 1),qQ 82 (.load 3 true (.t 14)),qQ 83 (.faddr 1 (.t 16)),qQ 84 (.load 2 true (.t 83)),qQ 85 (.build [.int .i64 0,.bool false,.int .i64 0,.int .u32 0,.int .u32 0,.int .u64 0,.int .u64 0,.int .u64 0] [(0,1,.c (.int .i64 1)),(1,1,.t 80),(2,1,.t 81),(3,3,.t 82),(6,2,.t 84)]),qM 8 (.t 79),qR (.store 8 (.t 9) (.t 85)),qM 10 (.c (.int .i64 0))] [[],[],[],[],[],[4],[1,2,3,5],[0,0],[6,7,0,1,2,3,4,5,6,7],[8,0,1,2,3,4,5,6,7,8]]) .ret)))))))
theorem zb7:FnIs Tryz.prog 135 86 z5k [.t 8,.cell 9 8 true,.t 10]:=⟨Tryz.f135,_,Tryz.func135,rfl,rfl,by kernel_rfl,by kernel_rfl⟩

def z52:CC := .seq (.reg [qQ 5 (.box 8 (.t 2))]) (.seq (.reg [qM 7 (.t 0),qQ 8 (.faddr 2 (.t 5)),qQ 9 (.load 1 false (.t 8)),qQ 10 (.call 131 [.t 7,.t 9]),qM 6 (.t 10)]) (.seq (.dreg [qM 11 (.t 0),qQ 12 (.nilck (.t 11)),qQ 13 (.faddr 2 (.t 12)),qQ 14 (.load 1 false (.t 13)),qM 15 (.t 1),qQ 16 (.load 8 true (.t 5)),qQ 17 (.iaddr 8 (.t 14) (.t 15)),qR (.store 8 (.t 17) (.t 16))] [[],[0],[1],[2],[],[],[3,4,0,1,2,3,4,5],[6,5,0,1,2,3,4,5]]) (.seq (.reg [qM 18 (.t 0),qQ 19 (.nilck (.t 18)),qQ 20 (.faddr 4 (.t 19)),qQ 21 (.load 1 false (.t 20)),qM 22 (.t 1),qQ 23 (.call 78 [.t 21,.t 22])]) (.seq (.reg [qM 24 (.t 6),qQ 25 (.bin .geq (.t 24) (.c (.int .i64 0)))]) (.cond (.t 25) (.reg [qM 26 (.t 0),qM 27 (.t 6),qQ 28 (.call 203 [.t 26,.t 27])]) .skip)))))
theorem zat:FnIs Tryz.prog 136 29 z52 []:=⟨Tryz.f136,_,Tryz.func136,rfl,rfl,by kernel_rfl,by kernel_rfl⟩

def z53:CC := .seq (.reg [qM 2 (.c (.int .i64 0))]) (.seq (.seq (.reg [qM 4 (.t 0),qQ 5 (.call 133 [.t 4]),qQ 6 (.bin .geq (.t 5) (.c (.int .i64 0)))]) (.cond (.t 6) (.seq (.reg [qM 2 (.c (.int .i64 0))]) .ret) .skip)) (.seq (.seq (.reg [qM 7 (.t 0),qQ 8 (.call 138 [.t 7]),qM 3 (.t 8)]) (.seq (.reg [qM 9 (.t 3),qQ 10 (.bin .neq (.t 9) (.c (.int .i64 0)))]) (.cond (.t 10) (.seq (.reg [qM 11 (.t 3),qM 2 (.t 11)]) .ret) .skip))) (.seq (.seq (.reg [qM 12 (.t 0),qQ 13 (.call 133 [.t 12]),qQ 14 (.bin .geq (.t 13) (.c (.int .i64 0)))]) (.cond (.t 14) (.seq (.reg [qM 2 (.c (.int .i64 0))]) .ret) .skip)) (.seq (.reg [qM 15 (.t 0),qQ 16 (.call 204 [.t 15]),qM 2 (.t 16)]) .ret))))
theorem zau:FnIs Tryz.prog 137 17 z53 [.t 2]:=⟨Tryz.f137,_,Tryz.func137,rfl,rfl,by kernel_rfl,by kernel_rfl⟩

def z3j : CC := .seq (.reg [qM 6 (.c (.bool false))]) (.seq (.reg [qM 11 (.t 1),qM 7 (.t 11)]) (.seq (.block 0 (.loop (.block 1 (.seq (.reg [qM 12 (.t 7),qQ 13 (.bin .mul (.c (.int .i64 2)) (.t 12)),qQ 14 (.bin .add (.t 13) (.c (.int .i64 1))),qM 8 (.t 14)]) (.seq (.seq (.reg [qM 15 (.t 8),qM 16 (.t 2),qQ 17 (.bin .geq (.t 15) (.t 16)),qM 18 (.t 17),qG 19 (.mov (.t 8)) 18 false,qG 20 (.bin .lss (.t 19) (.c (.int .i64 0))) 18 false,qQ 21 (.pick (.t 18) (.c (.bool true)) (.t 20))]) (.cond (.t 21) (.exit 0) .skip)) (.seq (.reg [qM 22 (.t 8),qM 9 (.t 22)]) (.seq (.seq (.reg [qM 23 (.t 8),qQ 24 (.bin .add (.t 23) (.c (.int .i64 1))),qM 10 (.t 24)]) (.seq (.reg [qM 25 (.t 10),qM 26 (.t 2),qQ 27 (.bin .lss (.t 25) (.t 26)),qM 28 (.t 27),qG 29 (.mov (.t 0)) 28 true,qG 30 (.mov (.t 10)) 28 true,qG 31 (.mov (.t 8)) 28 true,qG 32 (.raw (Ex.inv "Less" (.t 29) [.t 30,.t 31])) 28 true,qQ 33 (.pick (.t 28) (.t 32) (.c (.bool false)))]) (.cond (.t 33) (.reg [qM 34 (.t 10),qM 9 (.t 34)]) .skip))) (.seq (.seq (.reg [qM 35 (.t 0),qM 36 (.t 9),qM 37 (.t 7),qQ 38 (.raw (Ex.inv "Less" (.t 35) [.t 36,.t 37])),qQ 39 (.not (.t 38))]) (.cond (.t 39) (.exit 0) .skip)) (.seq (.reg [qM 40 (.t 0),qM 41 (.t 7),qM 42 (.t 9),qQ 43 (.raw (Ex.inv "Swap" (.t 40) [.t 41,.t 42]))]) (.reg [qM 44 (.t 9),qM 7 (.t 44)])))))))))) (.seq (.reg [qM 45 (.t 7),qM 46 (.t 1),qQ 47 (.bin .gtr (.t 45) (.t 46)),qM 6 (.t 47)]) .ret)))
theorem z7u:FnIs Tryz.prog 249 48 z3j [.t 6]:=⟨Tryz.f249,_,Tryz.func249,rfl,rfl,by kernel_rfl,by kernel_rfl⟩

def z1d:CC := .seq (.reg [qM 4 (.c (.int .i64 0))]) (.seq (.seq (.reg [qM 6 (.t 0),qQ 7 (.len (.t 6)),qM 8 (.c (.int .i64 0))]) (.block 0 (.loop (.seq (.reg [qQ 9 (.bin .lss (.t 8) (.t 7))]) (.seq (.cond (.t 9) .skip (.exit 0)) (.seq (.block 1 (.seq (.reg [qM 10 (.t 8),qM 5 (.t 10)]) (.seq (.reg [qM 11 (.t 1),qM 12 (.t 0),qM 13 (.t 5),qQ 14 (.iaddr 8 (.t 12) (.t 13)),qQ 15 (.load 8 true (.t 14)),qQ 16 (.callv (.t 11) [.t 15])]) (.cond (.t 16) (.seq (.reg [qM 17 (.t 5),qM 4 (.t 17)]) .ret) .skip)))) (.reg [qQ 18 (.bin .add (.t 8) (.c (.int .i64 1))),qM 8 (.t 18)]))))))) (.seq (.reg [qM 4 (.c (.int .i64 (-1)))]) .ret))
theorem z2n:FnIs Tryz.prog 194 19 z1d [.t 4]:=⟨Tryz.f194,_,Tryz.func194,rfl,rfl,by kernel_rfl,by kernel_rfl⟩

def z3w:CC := .seq (.reg [qQ 2 (.box 8 (.t 0)),qM 3 (.c (.bool false))]) (.seq (.reg [qQ 4 (.faddr 0 (.t 2)),qQ 5 (.load 1 false (.t 4)),qQ 6 (.bin .neq (.t 5) (.c (.int .i64 0))),qM 7 (.t 6),qG 8 (.faddr 2 (.t 2)) 7 true,qG 9 (.load 1 false (.t 8)) 7 true,qG 10 (.load 1 false (.t 1)) 7 true,qG 11 (.bin .eql (.t 9) (.t 10)) 7 true,qQ 12 (.pick (.t 7) (.t 11) (.c (.bool false))),qM 3 (.t 12)]) .ret)
theorem z8a:FnIs Tryz.prog 195 13 z3w [.t 3]:=⟨Tryz.f195,_,Tryz.func195,rfl,rfl,by kernel_rfl,by kernel_rfl⟩

def z6c:CC := .seq (.reg [qQ 2 (.box 1 (.t 0)),qM 4 (.c (.int .i64 0))]) (.seq (.seq (.reg [qQ 5 (.load 1 true (.t 2)),qM 6 (.t 1),qQ 7 (.faddr 0 (.t 2)),qQ 8 (.load 1 false (.t 7)),qQ 9 (.call 180 [.t 5,.t 6,.t 8]),qQ 10 (.not (.t 9))]) (.cond (.t 10) (.seq (.reg [qM 4 (.c (.int .i64 (-1)))]) .ret) .skip)) (.seq (.reg [qM 11 (.t 1),qQ 12 (.bin .mul (.t 11) (.c (.int .i64 32))),qM 4 (.t 12)]) .ret))
theorem zcy:FnIs Tryz.prog 196 13 z6c [.t 4]:=⟨Tryz.f196,_,Tryz.func196,rfl,rfl,by kernel_rfl,by kernel_rfl⟩

def zb8:CC := .seq (.reg [qM 2 (.c .nils)]) (.seq (.reg [qM 3 (.t 0),qQ 4 (.conv .u64 (.t 3)),qQ 5 (.call 173 [.t 4,.c (.int .i64 2)]),qM 2 (.t 5)]) .ret)
theorem zj7:FnIs Tryz.prog 198 6 zb8 [.t 2]:=⟨Tryz.f198,_,Tryz.func198,rfl,rfl,by kernel_rfl,by kernel_rfl⟩

def z3x:CC := .seq (.reg [qM 4 (.c (.bool false))]) (.seq (.reg [qM 5 (.t 0),qQ 6 (.nilck (.t 5)),qQ 7 (.faddr 2 (.t 6)),qQ 8 (.load 1 false (.t 7)),qM 9 (.t 1),qQ 10 (.iaddr 8 (.t 8) (.t 9)),qQ 11 (.faddr 0 (.t 10)),qQ 12 (.load 1 false (.t 11)),qQ 13 (.bin .eql (.t 12) (.c (.int .i64 0))),qM 14 (.t 13),qG 15 (.mov (.t 0)) 14 true,qG 16 (.nilck (.t 15)) 14 true,qG 17 (.faddr 3 (.t 16)) 14 true,qG 18 (.load 1 false (.t 17)) 14 true,qG 19 (.mov (.t 1)) 14 true,qG 20 (.iaddr 8 (.t 18) (.t 19)) 14 true,qG 21 (.faddr 0 (.t 20)) 14 true,qG 22 (.load 1 false (.t 21)) 14 true,qG 23 (.bin .eql (.t 22) (.c (.int .i64 0))) 14 true,qQ 24 (.pick (.t 14) (.t 23) (.c (.bool false))),qM 4 (.t 24)]) .ret)
theorem z8b:FnIs Tryz.prog 88 25 z3x [.t 4]:=⟨Tryz.f88,_,Tryz.func88,rfl,rfl,by kernel_rfl,by kernel_rfl⟩

def z4b:CC := .seq (.reg [qM 4 (.t 0),qQ 5 (.nilck (.t 4)),qQ 6 (.faddr 2 (.t 5)),qQ 7 (.load 1 false (.t 6)),qM 8 (.t 1),qQ 9 (.build [.int .i64 0,.bool false,.int .i64 0,.int .u32 0,.int .u32 0,.int .u64 0,.int .u64 0,.int .u64 0] []),qQ 10 (.iaddr 8 (.t 7) (.t 8)),qR (.store 8 (.t 10) (.t 9))]) (.reg [qM 11 (.t 0),qQ 12 (.nilck (.t 11)),qQ 13 (.faddr 4 (.t 12)),qQ 14 (.load 1 false (.t 13)),qM 15 (.t 1),qQ 16 (.call 126 [.t 14,.t 15])])
theorem z9g:FnIs Tryz.prog 203 17 z4b []:=⟨Tryz.f203,_,Tryz.func203,rfl,rfl,by kernel_rfl,by kernel_rfl⟩

def z4c:CC := .seq (.reg [qM 2 (.c (.int .i64 0))]) (.seq (.reg [qM 7 (.t 0),qQ 8 (.nilck (.t 7)),qQ 9 (.faddr 4 (.t 8)),qQ 10 (.load 1 false (.t 9)),qQ 11 (.call 252 [.t 10]),qM 6 (.t 11),qQ 12 (.ext 0 (.t 6)),qQ 13 (.ext 1 (.t 6)),qM 3 (.t 12),qM 4 (.t 13)]) (.seq (.seq (.reg [qM 14 (.t 0),qQ 15 (.nilck (.t 14)),qQ 16 (.faddr 2 (.t 15)),qQ 17 (.load 1 false (.t 16)),qM 18 (.t 3),qQ 19 (.iaddr 8 (.t 17) (.t 18)),qQ 20 (.faddr 1 (.t 19)),qQ 21 (.load 1 false (.t 20))]) (.cond (.t 21) (.seq (.seq (.reg [qM 22 (.t 0),qM 23 (.t 3),qQ 24 (.call 192 [.t 22,.t 23]),qM 5 (.t 24)]) (.seq (.reg [qM 25 (.t 5),qQ 26 (.bin .neq (.t 25) (.c (.int .i64 0)))]) (.cond (.t 26) (.seq (.reg [qM 27 (.t 5),qM 2 (.t 27)]) .ret) .skip))) (.seq (.reg [qM 28 (.t 0),qQ 29 (.nilck (.t 28)),qQ 30 (.faddr 0 (.t 29)),qQ 31 (.load 1 false (.t 30)),qQ 32 (.nilck (.t 31)),qQ 33 (.faddr 3 (.t 32)),qQ 34 (.load 1 false (.t 33)),qQ 35 (.call 36 [.t 34]),qQ 36 (.not (.t 35))]) (.cond (.t 36) (.seq (.reg [qM 2 (.c (.int .i64 7))]) .ret) .skip))) .skip)) (.seq (.reg [qM 37 (.t 0),qM 38 (.t 3),qQ 39 (.call 203 [.t 37,.t 38])]) (.seq (.reg [qM 40 (.t 0),qQ 41 (.call 138 [.t 40]),qM 2 (.t 41)]) .ret))))
theorem z9h:FnIs Tryz.prog 204 42 z4c [.t 2]:=⟨Tryz.f204,_,Tryz.func204,rfl,rfl,by kernel_rfl,by kernel_rfl⟩

def z6d:CC := .seq (.reg [qM 2 (.c (.int .i64 0)),qM 3 (.c (.bool false))]) (.seq (.seq (.reg [qM 4 (.t 0),qQ 5 (.call 283 [.t 4]),qQ 6 (.bin .eql (.t 5) (.c (.int .i64 0)))]) (.cond (.t 6) (.seq (.reg [qM 2 (.c (.int .i64 0)),qM 3 (.c (.bool false))]) .ret) .skip)) (.seq (.reg [qM 7 (.t 0),qQ 8 (.nilck (.t 7)),qQ 9 (.faddr 17 (.t 8)),qQ 10 (.load 1 false (.t 9)),qQ 11 (.nilck (.t 10)),qQ 12 (.faddr 0 (.t 11)),qQ 13 (.load 1 false (.t 12)),qQ 14 (.iaddr 1 (.t 13) (.c (.int .i64 0))),qQ 15 (.load 1 false (.t 14)),qM 2 (.t 15),qM 3 (.c (.bool true))]) .ret))
theorem zcz:FnIs Tryz.prog 252 16 z6d [.t 2,.t 3]:=⟨Tryz.f252,_,Tryz.func252,rfl,rfl,by kernel_rfl,by kernel_rfl⟩

def za3:CC := .seq (.reg [qM 2 (.c (.int .i64 0))]) (.seq (.seq (.reg [qM 3 (.t 0),qQ 4 (.eqv .p false (.t 3) (.c .nilp))]) (.cond (.t 4) (.seq (.reg [qM 2 (.c (.int .i64 0))]) .ret) .skip)) (.seq (.reg [qM 5 (.t 0),qQ 6 (.nilck (.t 5)),qQ 7 (.faddr 17 (.t 6)),qQ 8 (.load 1 false (.t 7)),qQ 9 (.call 296 [.t 8]),qM 2 (.t 9)]) .ret))
theorem zh5:FnIs Tryz.prog 283 10 za3 [.t 2]:=⟨Tryz.f283,_,Tryz.func283,rfl,rfl,by kernel_rfl,by kernel_rfl⟩

def z74:CC := .seq (.reg [qM 2 (.c (.int .i64 0))]) (.seq (.reg [qM 3 (.t 0),qQ 4 (.nilck (.t 3)),qQ 5 (.faddr 0 (.t 4)),qQ 6 (.load 1 false (.t 5)),qQ 7 (.len (.t 6)),qM 2 (.t 7)]) .ret)
theorem ze6:FnIs Tryz.prog 296 8 z74 [.t 2]:=⟨Tryz.f296,_,Tryz.func296,rfl,rfl,by kernel_rfl,by kernel_rfl⟩

def z6e:CC := .seq (.reg [qM 6 (.c (.bool false))]) (.seq (.dreg [qM 7 (.t 0),qQ 8 (.nilck (.t 7)),qQ 9 (.faddr 1 (.t 8)),qQ 10 (.load 1 false (.t 9)),qM 11 (.t 0),qQ 12 (.nilck (.t 11)),qQ 13 (.faddr 0 (.t 12)),qQ 14 (.load 1 false (.t 13)),qM 15 (.t 1),qQ 16 (.iaddr 1 (.t 14) (.t 15)),qQ 17 (.load 1 false (.t 16)),qM 18 (.t 0),qQ 19 (.nilck (.t 18)),qQ 20 (.faddr 0 (.t 19)),qQ 21 (.load 1 false (.t 20)),qM 22 (.t 2),qQ 23 (.iaddr 1 (.t 21) (.t 22)),qQ 24 (.load 1 false (.t 23)),qQ 25 (.callv (.t 10) [.t 17,.t 24]),qM 6 (.t 25)] [[],[0],[1],[2],[],[4],[5],[6],[],[7,8],[9],[],[11],[12],[13],[],[14,15],[16],[3,10,17],[18,18,0,1,2,3,4,5,6,7,8,9,10,11,12,13,14,15,16,17,18]]) .ret)
theorem zd0:FnIs Tryz.prog 329 26 z6e [.t 6]:=⟨Tryz.f329,_,Tryz.func329,rfl,rfl,by kernel_rfl,by kernel_rfl⟩

def z75:CC := .seq (.reg [qM 2 (.c .nili)]) (.seq (.reg [qM 5 (.t 0),qQ 6 (.nilck (.t 5)),qQ 7 (.faddr 0 (.t 6)),qQ 8 (.load 1 false (.t 7)),qQ 9 (.len (.t 8)),qQ 10 (.bin .sub (.t 9) (.c (.int .i64 1))),qM 3 (.t 10)]) (.seq (.reg [qM 11 (.t 0),qQ 12 (.nilck (.t 11)),qQ 13 (.faddr 0 (.t 12)),qQ 14 (.load 1 false (.t 13)),qM 15 (.t 3),qQ 16 (.iaddr 1 (.t 14) (.t 15)),qQ 17 (.load 1 false (.t 16)),qM 4 (.t 17)]) (.seq (.reg [qM 18 (.t 0),qM 19 (.t 0),qQ 20 (.nilck (.t 19)),qQ 21 (.faddr 0 (.t 20)),qQ 22 (.load 1 false (.t 21)),qM 23 (.t 3),qQ 24 (.slc 1 (.t 22) none (some (.t 23))),qQ 25 (.nilck (.t 18)),qQ 26 (.faddr 0 (.t 25)),qR (.store 1 (.t 26) (.t 24))]) (.seq (.reg [qM 27 (.t 4),qQ 28 (.raw (Ex.mkif 3 (.t 27))),qM 2 (.t 28)]) .ret))))
theorem ze7:FnIs Tryz.prog 330 29 z75 [.t 2]:=⟨Tryz.f330,_,Tryz.func330,rfl,rfl,by kernel_rfl,by kernel_rfl⟩

def z6f:CC := .seq (.reg [qM 7 (.t 1),qQ 8 (.raw (Ex.asrt 3 true (.int .i64 0) (.t 7))),qM 6 (.t 8),qQ 9 (.ext 0 (.t 6)),qQ 10 (.ext 1 (.t 6)),qM 4 (.t 9),qM 5 (.t 10)]) (.reg [qM 11 (.t 0),qM 12 (.t 0),qQ 13 (.nilck (.t 12)),qQ 14 (.faddr 0 (.t 13)),qQ 15 (.load 1 false (.t 14)),qM 16 (.t 4),qQ 17 (.bsl 1 [.t 16]),qQ 18 (.app 1 8 (.t 15) (.t 17)),qQ 19 (.nilck (.t 11)),qQ 20 (.faddr 0 (.t 19)),qR (.store 1 (.t 20) (.t 18))])
theorem zd1:FnIs Tryz.prog 331 21 z6f []:=⟨Tryz.f331,_,Tryz.func331,rfl,rfl,by kernel_rfl,by kernel_rfl⟩

def z6g:CC := .dreg [qM 6 (.t 0),qQ 7 (.nilck (.t 6)),qQ 8 (.faddr 0 (.t 7)),qQ 9 (.load 1 false (.t 8)),qM 10 (.t 1),qM 11 (.t 0),qQ 12 (.nilck (.t 11)),qQ 13 (.faddr 0 (.t 12)),qQ 14 (.load 1 false (.t 13)),qM 15 (.t 2),qM 16 (.t 0),qQ 17 (.nilck (.t 16)),qQ 18 (.faddr 0 (.t 17)),qQ 19 (.load 1 false (.t 18)),qM 20 (.t 2),qQ 21 (.iaddr 1 (.t 19) (.t 20)),qQ 22 (.load 1 false (.t 21)),qM 23 (.t 0),qQ 24 (.nilck (.t 23)),qQ 25 (.faddr 0 (.t 24)),qQ 26 (.load 1 false (.t 25)),qM 27 (.t 1),qQ 28 (.iaddr 1 (.t 26) (.t 27)),qQ 29 (.load 1 false (.t 28)),qQ 30 (.iaddr 1 (.t 9) (.t 10)),qR (.store 1 (.t 30) (.t 22)),qQ 31 (.iaddr 1 (.t 14) (.t 15)),qR (.store 1 (.t 31) (.t 29))] [[],[0],[1],[2],[],[],[5],[6],[7],[],[],[10],[11],[12],[],[13,14],[15],[],[17],[18],[19],[],[20,21],[22],[3,4,0,1,2,3,4,8,10,11,12,13,14,15,16,20,23],[24,16,0,1,2,3,4,8,10,11,12,13,14,15,16,20,23],[8,9,0,1,2,3,4,5,6,7,8,9,10,11,12,13,14,15,16,17,18,19,20,21,22,23,24,25],[26,23,25,0,1,2,3,4,5,6,7,8,9,10,11,12,13,14,15,16,17,18,19,20,21,22,23,24,25]]
theorem zd2:FnIs Tryz.prog 332 32 z6g []:=⟨Tryz.f332,_,Tryz.func332,rfl,rfl,by kernel_rfl,by kernel_rfl⟩

end Go.Proofs.YthblcmnhiccnhaaGreat


set_option maxRecDepth 100000
namespace Go.Proofs.YthblcmnhiccnhaaGreat
open Go Go.Abs

def zfb:CC := .seq (.reg [qQ 4 (.box 2 (.t 0)),qQ 5 (.box 3 (.t 1)),qQ 8 (.alloc [.nils,.int .u64 0,.int .u64 0]),qM 9 (.c (.bool false))]) (.seq (.seq (.reg [qM 12 (.t 2),qM 13 (.t 3),qQ 14 (.call 167 [.t 12,.t 13]),qQ 15 (.not (.t 14))]) (.cond (.t 15) (.seq (.reg [qQ 16 (.build [.nils,.int .u64 0,.int .u64 0] []),qR (.store 3 (.t 8) (.t 16)),qM 9 (.c (.bool false))]) .ret) .skip)) (.seq (.reg [qQ 17 (.load 2 true (.t 4)),qQ 18 (.load 3 true (.t 5)),qQ 19 (.call 168 [.t 17,.t 18]),qQ 10 (.alloc [.int .u64 0,.int .u64 0]),qR (.store 2 (.t 10) (.t 19))]) (.seq (.reg [qM 20 (.t 3),qQ 21 (.load 2 true (.t 10)),qM 22 (.t 3),qQ 23 (.len (.t 22)),qQ 24 (.call 170 [.t 21,.t 23]),qQ 25 (.call 169 [.t 20,.t 24]),qM 11 (.t 25)]) (.seq (.reg [qM 26 (.t 11),qQ 27 (.load 2 true (.t 10)),qM 28 (.t 2),qM 29 (.t 11),qQ 30 (.call 171 [.t 27,.t 28,.t 29]),qQ 31 (.build [.nils,.int .u64 0,.int .u64 0] [(0,1,.t 26),(1,2,.t 30)]),qR (.store 3 (.t 8) (.t 31)),qM 9 (.c (.bool true))]) .ret))))
theorem zmg:FnIs Tryz.prog 113 32 zfb [.cell 8 3 true,.t 9]:=⟨Tryz.f113,_,Tryz.func113,rfl,rfl,by kernel_rfl,by kernel_rfl⟩

def zfc:CC := .seq (.reg [qQ 4 (.box 2 (.t 0)),qQ 5 (.box 3 (.t 1)),qQ 7 (.box 3 (.t 3)),qM 8 (.c .nils),qM 9 (.c (.bool false))]) (.seq (.reg [qQ 11 (.load 2 true (.t 4)),qQ 12 (.load 3 true (.t 5)),qQ 13 (.call 168 [.t 11,.t 12]),qQ 10 (.alloc [.int .u64 0,.int .u64 0]),qR (.store 2 (.t 10) (.t 13))]) (.seq (.seq (.dreg [qM 14 (.t 2),qQ 15 (.faddr 0 (.t 7)),qQ 16 (.load 1 false (.t 15)),qQ 17 (.call 167 [.t 14,.t 16]),qQ 18 (.not (.t 17)),qM 19 (.t 18),qG 20 (.load 2 true (.t 10)) 19 false,qG 21 (.mov (.t 2)) 19 false,qG 22 (.faddr 0 (.t 7)) 19 false,qG 23 (.load 1 false (.t 22)) 19 false,qG 24 (.call 171 [.t 20,.t 21,.t 23]) 19 false,qG 25 (.faddr 1 (.t 7)) 19 false,qG 26 (.load 2 true (.t 25)) 19 false,qG 27 (.eqv (.a [.i,.i]) true (.t 24) (.t 26)) 19 false,qQ 28 (.pick (.t 19) (.c (.bool true)) (.t 27))] [[],[],[1],[0,2],[3],[4,3],[5],[5],[5],[8,5],[6,7,9,5,5],[5],[11,5],[10,12,5],[5,13]]) (.cond (.t 28) (.seq (.reg [qM 8 (.c .nils),qM 9 (.c (.bool false))]) .ret) .skip)) (.seq (.dreg [qQ 29 (.faddr 0 (.t 7)),qQ 30 (.load 1 false (.t 29)),qQ 31 (.load 2 true (.t 10)),qQ 32 (.faddr 0 (.t 7)),qQ 33 (.load 1 false (.t 32)),qQ 34 (.len (.t 33)),qQ 35 (.call 170 [.t 31,.t 34]),qQ 36 (.call 169 [.t 30,.t 35]),qM 8 (.t 36),qM 9 (.c (.bool true))] [[],[0],[],[],[3],[4],[2,5],[1,6,6],[7,7,0,1,2,3,4,5,6,7],[8,0,1,2,3,4,5,6,7,8]]) .ret)))
theorem zmh:FnIs Tryz.prog 114 37 zfc [.t 8,.t 9]:=⟨Tryz.f114,_,Tryz.func114,rfl,rfl,by kernel_rfl,by kernel_rfl⟩

def zid:CC := .seq (.reg [qM 4 (.c (.bool false))]) (.seq (.reg [qM 5 (.t 0),qQ 6 (.len (.t 5)),qQ 7 (.bin .leq (.t 6) (.c (.int .i64 4000))),qM 8 (.t 7),qG 9 (.mov (.t 1)) 8 true,qG 10 (.len (.t 9)) 8 true,qG 11 (.bin .leq (.t 10) (.c (.int .i64 4000))) 8 true,qQ 12 (.pick (.t 8) (.t 11) (.c (.bool false))),qM 4 (.t 12)]) .ret)
theorem zod:FnIs Tryz.prog 167 13 zid [.t 4]:=⟨Tryz.f167,_,Tryz.func167,rfl,rfl,by kernel_rfl,by kernel_rfl⟩

def zie:CC := .seq (.reg [qQ 3 (.box 2 (.t 0)),qQ 6 (.alloc [.int .u64 0,.int .u64 0])]) (.seq (.reg [qM 9 (.t 1),qQ 10 (.call 233 [.t 9]),qM 11 (.t 2),qQ 12 (.call 233 [.t 11]),qQ 13 (.app 2 16 (.t 10) (.t 12)),qM 7 (.t 13)]) (.seq (.reg [qM 14 (.t 7),qM 15 (.t 1),qQ 16 (.len (.t 15)),qQ 17 (.conv .u64 (.t 16)),qM 18 (.t 2),qQ 19 (.len (.t 18)),qQ 20 (.conv .u64 (.t 19)),qQ 21 (.build [.int .u64 0,.int .u64 0] [(0,1,.t 17),(1,1,.t 20)]),qQ 22 (.bsl 2 [.t 21]),qQ 23 (.app 2 16 (.t 14) (.t 22)),qM 7 (.t 23)]) (.seq (.reg [qQ 24 (.load 2 true (.t 3)),qQ 25 (.build [.int .u64 0,.int .u64 0] [(0,1,.c (.int .u64 0)),(1,1,.c (.int .u64 1))]),qQ 26 (.call 165 [.t 24,.t 25]),qQ 8 (.alloc [.int .u64 0,.int .u64 0]),qR (.store 2 (.t 8) (.t 26))]) (.seq (.dreg [qQ 27 (.load 2 true (.t 8)),qM 28 (.t 7),qQ 29 (.call 235 [.t 27,.t 28]),qQ 30 (.load 2 true (.t 3)),qQ 31 (.build [.int .u64 0,.int .u64 0] []),qQ 32 (.call 165 [.t 30,.t 31]),qQ 33 (.call 234 [.t 29,.t 32]),qR (.store 2 (.t 6) (.t 33))] [[],[],[0,1],[],[],[3,4,2],[2,5,5],[6,6,0,1,2,3,4,5,6]]) .ret))))
theorem zoe:FnIs Tryz.prog 171 34 zie [.cell 6 2 true]:=⟨Tryz.f171,_,Tryz.func171,rfl,rfl,by kernel_rfl,by kernel_rfl⟩

def zde:CC := .seq (.reg [qM 2 (.c .nils)]) (.seq (.reg [qM 3 (.c .nils)]) (.seq (.block 0 (.loop (.seq (.seq (.reg [qM 8 (.t 0),qQ 9 (.len (.t 8)),qQ 10 (.bin .gtr (.t 9) (.c (.int .i64 0)))]) (.cond (.t 10) .skip (.exit 0))) (.block 1 (.seq (.reg [qQ 11 (.mksl 1 [.int .u8 0] 1 (.c (.int .i64 16)) (.c (.int .i64 16))),qM 4 (.t 11)]) (.seq (.reg [qM 12 (.t 4),qM 13 (.t 0),qQ 14 (.cpy 1 (.t 12) (.t 13)),qM 5 (.t 14)]) (.seq (.reg [qM 15 (.t 0),qM 16 (.t 5),qQ 17 (.slc 1 (.t 15) (some (.t 16)) none),qM 0 (.t 17)]) (.seq (.reg [qM 19 (.t 4),qQ 20 (.call 175 [.t 19]),qM 18 (.t 20),qQ 21 (.ext 0 (.t 18)),qQ 22 (.ext 1 (.t 18)),qQ 6 (.alloc [.int .u64 0,.int .u64 0]),qR (.store 2 (.t 6) (.t 21)),qM 7 (.t 22)]) (.reg [qM 23 (.t 3),qQ 24 (.load 2 true (.t 6)),qQ 25 (.bsl 2 [.t 24]),qQ 26 (.app 2 16 (.t 23) (.t 25)),qM 3 (.t 26)]))))))))) (.seq (.reg [qM 27 (.t 3),qM 2 (.t 27)]) .ret)))
theorem zkp:FnIs Tryz.prog 233 28 zde [.t 2]:=⟨Tryz.f233,_,Tryz.func233,rfl,rfl,by kernel_rfl,by kernel_rfl⟩

def zb9:CC := .seq (.reg [qQ 2 (.alloc [.int .u64 0,.int .u64 0])]) (.seq (.reg [qM 9 (.t 0),qQ 10 (.call 172 [.t 9]),qQ 11 (.bsl 1 [.c (.int .u8 128)]),qQ 12 (.app 1 1 (.t 10) (.t 11)),qM 3 (.t 12)]) (.seq (.reg [qM 13 (.t 3),qQ 14 (.len (.t 13)),qQ 15 (.bin .sub (.t 14) (.c (.int .i64 1))),qM 4 (.t 15)]) (.seq (.block 0 (.loop (.seq (.seq (.reg [qM 16 (.t 3),qQ 17 (.len (.t 16)),qQ 18 (.bin .rem (.t 17) (.c (.int .i64 16))),qQ 19 (.bin .neq (.t 18) (.c (.int .i64 8)))]) (.cond (.t 19) .skip (.exit 0))) (.block 1 (.reg [qM 20 (.t 3),qQ 21 (.bsl 1 [.c (.int .u8 0)]),qQ 22 (.app 1 1 (.t 20) (.t 21)),qM 3 (.t 22)]))))) (.seq (.reg [qM 23 (.t 3),qM 24 (.t 4),qQ 25 (.conv .u64 (.t 24)),qQ 26 (.call 173 [.t 25,.c (.int .i64 8)]),qQ 27 (.app 1 1 (.t 23) (.t 26)),qM 3 (.t 27)]) (.seq (.reg [qQ 28 (.build [.int .u64 0,.int .u64 0] [(0,1,.c (.int .u64 7640891576956012808)),(1,1,.c (.int .u64 13503953896175478587))]),qQ 5 (.alloc [.int .u64 0,.int .u64 0]),qR (.store 2 (.t 5) (.t 28))]) (.seq (.seq (.reg [qM 29 (.t 3),qQ 30 (.call 174 [.t 29,.c (.int .i64 16)])]) (.block 2 (.rangeF (.t 30) [31] (.reg [qM 6 (.t 31)]) (.block 3 (.seq (.reg [qM 33 (.t 6),qQ 34 (.call 175 [.t 33]),qM 32 (.t 34),qQ 35 (.ext 0 (.t 32)),qQ 36 (.ext 1 (.t 32)),qQ 7 (.alloc [.int .u64 0,.int .u64 0]),qR (.store 2 (.t 7) (.t 35)),qM 8 (.t 36)]) (.reg [qQ 37 (.load 2 true (.t 5)),qQ 38 (.load 2 true (.t 7)),qQ 39 (.call 176 [.t 37,.t 38]),qR (.store 2 (.t 5) (.t 39))])))))) (.seq (.reg [qQ 40 (.load 2 true (.t 5)),qR (.store 2 (.t 2) (.t 40))]) .ret)))))))
theorem zj8:FnIs Tryz.prog 115 41 zb9 [.cell 2 2 true]:=⟨Tryz.f115,_,Tryz.func115,rfl,rfl,by kernel_rfl,by kernel_rfl⟩

def za4:CC := .seq (.reg [qQ 2 (.box 2 (.t 0)),qQ 3 (.box 2 (.t 1)),qQ 4 (.alloc [.int .u64 0,.int .u64 0])]) (.seq (.reg [qQ 6 (.load 2 true (.t 3)),qQ 7 (.load 2 true (.t 2)),qQ 8 (.call 165 [.t 6,.t 7]),qQ 5 (.alloc [.int .u64 0,.int .u64 0]),qR (.store 2 (.t 5) (.t 8))]) (.seq (.reg [qQ 9 (.iaddrA 2 1 (.t 5) (.c (.int .i64 0))),qQ 10 (.load 1 false (.t 9)),qQ 11 (.iaddrA 2 1 (.t 2) (.c (.int .i64 0))),qQ 12 (.load 1 false (.t 11)),qQ 13 (.bin .xor (.t 10) (.t 12)),qQ 14 (.iaddrA 2 1 (.t 5) (.c (.int .i64 1))),qQ 15 (.load 1 false (.t 14)),qQ 16 (.iaddrA 2 1 (.t 2) (.c (.int .i64 1))),qQ 17 (.load 1 false (.t 16)),qQ 18 (.bin .xor (.t 15) (.t 17)),qQ 19 (.build [.int .u64 0,.int .u64 0] [(0,1,.t 13),(1,1,.t 18)]),qR (.store 2 (.t 4) (.t 19))]) .ret))
theorem zh6:FnIs Tryz.prog 176 20 za4 [.cell 4 2 true]:=⟨Tryz.f176,_,Tryz.func176,rfl,rfl,by kernel_rfl,by kernel_rfl⟩

def zfd:CC := .seq (.reg [qQ 2 (.box 2 (.t 0)),qQ 3 (.box 3 (.t 1)),qQ 4 (.alloc [.int .u64 0,.int .u64 0])]) (.seq (.reg [qQ 5 (.load 2 true (.t 2)),qQ 6 (.faddr 0 (.t 3)),qQ 7 (.load 1 false (.t 6)),qQ 8 (.conv .u64 (.t 7)),qQ 9 (.sh .shl (.t 8) (.c (.int .u64 32))),qQ 10 (.faddr 1 (.t 3)),qQ 11 (.load 1 false (.t 10)),qQ 12 (.conv .u64 (.t 11)),qQ 13 (.bin .or (.t 9) (.t 12)),qQ 14 (.faddr 2 (.t 3)),qQ 15 (.load 1 false (.t 14)),qQ 16 (.build [.int .u64 0,.int .u64 0] [(0,1,.t 13),(1,1,.t 15)]),qQ 17 (.call 165 [.t 5,.t 16]),qR (.store 2 (.t 4) (.t 17))]) .ret)
theorem zmi:FnIs Tryz.prog 168 18 zfd [.cell 4 2 true]:=⟨Tryz.f168,_,Tryz.func168,rfl,rfl,by kernel_rfl,by kernel_rfl⟩

def zfe:CC := .seq (.reg [qM 4 (.c .nils)]) (.seq (.reg [qM 7 (.t 0),qQ 8 (.len (.t 7)),qM 9 (.t 1),qQ 10 (.len (.t 9)),qQ 11 (.mn (.t 8) (.t 10)),qQ 12 (.mksl 1 [.int .u8 0] 1 (.t 11) (.t 11)),qM 5 (.t 12)]) (.seq (.seq (.reg [qM 13 (.t 5),qQ 14 (.len (.t 13)),qM 15 (.c (.int .i64 0))]) (.block 0 (.loop (.seq (.reg [qQ 16 (.bin .lss (.t 15) (.t 14))]) (.seq (.cond (.t 16) .skip (.exit 0)) (.seq (.block 1 (.seq (.reg [qM 17 (.t 15),qM 6 (.t 17)]) (.dreg [qM 18 (.t 5),qM 19 (.t 6),qM 20 (.t 0),qM 21 (.t 6),qQ 22 (.iaddr 1 (.t 20) (.t 21)),qQ 23 (.load 1 false (.t 22)),qM 24 (.t 1),qM 25 (.t 6),qQ 26 (.iaddr 1 (.t 24) (.t 25)),qQ 27 (.load 1 false (.t 26)),qQ 28 (.bin .xor (.t 23) (.t 27)),qQ 29 (.iaddr 1 (.t 18) (.t 19)),qR (.store 1 (.t 29) (.t 28))] [[],[],[],[],[2,3],[4],[],[],[6,7],[8],[5,9],[0,1,0,1,2,3,4,5,6,7,8,9,10],[11,10,0,1,2,3,4,5,6,7,8,9,10]]))) (.reg [qQ 30 (.bin .add (.t 15) (.c (.int .i64 1))),qM 15 (.t 30)]))))))) (.seq (.reg [qM 31 (.t 5),qM 4 (.t 31)]) .ret)))
theorem zmj:FnIs Tryz.prog 169 32 zfe [.t 4]:=⟨Tryz.f169,_,Tryz.func169,rfl,rfl,by kernel_rfl,by kernel_rfl⟩

def zba:CC := .seq (.reg [qQ 2 (.box 2 (.t 0)),qM 4 (.c .nils)]) (.seq (.seq (.reg [qM 7 (.t 1),qQ 8 (.bin .lss (.t 7) (.c (.int .i64 0))),qM 9 (.t 8),qG 10 (.mov (.t 1)) 9 false,qG 11 (.bin .gtr (.t 10) (.c (.int .i64 4000))) 9 false,qQ 12 (.pick (.t 9) (.c (.bool true)) (.t 11))]) (.cond (.t 12) (.seq (.reg [qM 4 (.c .nils)]) .ret) .skip)) (.seq (.reg [qM 5 (.c .nils)]) (.seq (.seq (.reg [qM 6 (.c (.int .u64 1))]) (.block 0 (.loop (.seq (.seq (.reg [qM 13 (.t 5),qQ 14 (.len (.t 13)),qM 15 (.t 1),qQ 16 (.bin .lss (.t 14) (.t 15))]) (.cond (.t 16) .skip (.exit 0))) (.seq (.block 1 (.reg [qM 19 (.t 5),qQ 20 (.load 2 true (.t 2)),qM 21 (.t 6),qQ 22 (.build [.int .u64 0,.int .u64 0] [(0,1,.t 21),(1,1,.c (.int .u64 0))]),qQ 23 (.call 165 [.t 20,.t 22]),qQ 24 (.call 232 [.t 23]),qQ 25 (.app 1 1 (.t 19) (.t 24)),qM 5 (.t 25)])) (.reg [qM 17 (.t 6),qQ 18 (.bin .add (.t 17) (.c (.int .u64 1))),qM 6 (.t 18)])))))) (.seq (.reg [qM 26 (.t 5),qM 27 (.t 1),qQ 28 (.slc 1 (.t 26) none (some (.t 27))),qM 4 (.t 28)]) .ret))))
theorem zj9:FnIs Tryz.prog 170 29 zba [.t 4]:=⟨Tryz.f170,_,Tryz.func170,rfl,rfl,by kernel_rfl,by kernel_rfl⟩

def zdf:CC := .seq (.reg [qQ 2 (.box 2 (.t 0)),qQ 3 (.box 2 (.t 1)),qQ 4 (.alloc [.int .u64 0,.int .u64 0])]) (.seq (.reg [qQ 5 (.iaddrA 2 1 (.t 2) (.c (.int .i64 0))),qQ 6 (.load 1 false (.t 5)),qQ 7 (.iaddrA 2 1 (.t 3) (.c (.int .i64 0))),qQ 8 (.load 1 false (.t 7)),qQ 9 (.bin .xor (.t 6) (.t 8)),qQ 10 (.iaddrA 2 1 (.t 2) (.c (.int .i64 1))),qQ 11 (.load 1 false (.t 10)),qQ 12 (.iaddrA 2 1 (.t 3) (.c (.int .i64 1))),qQ 13 (.load 1 false (.t 12)),qQ 14 (.bin .xor (.t 11) (.t 13)),qQ 15 (.build [.int .u64 0,.int .u64 0] [(0,1,.t 9),(1,1,.t 14)]),qR (.store 2 (.t 4) (.t 15))]) .ret)
theorem zkq:FnIs Tryz.prog 234 16 zdf [.cell 4 2 true]:=⟨Tryz.f234,_,Tryz.func234,rfl,rfl,by kernel_rfl,by kernel_rfl⟩

def zbb:CC := .seq (.reg [qQ 2 (.box 2 (.t 0)),qQ 4 (.alloc [.int .u64 0,.int .u64 0])]) (.seq (.reg [qQ 5 (.alloc [.int .u64 0,.int .u64 0])]) (.seq (.seq (.reg [qM 8 (.t 1),qQ 9 (.len (.t 8)),qM 10 (.c (.int .i64 0))]) (.block 0 (.loop (.seq (.reg [qQ 11 (.bin .lss (.t 10) (.t 9))]) (.seq (.cond (.t 11) .skip (.exit 0)) (.seq (.block 1 (.seq (.reg [qQ 12 (.iaddr 2 (.t 8) (.t 10)),qQ 13 (.load 2 true (.t 12)),qQ 7 (.alloc [.int .u64 0,.int .u64 0]),qR (.store 2 (.t 7) (.t 13))]) (.dreg [qQ 14 (.load 2 true (.t 7)),qQ 15 (.load 2 true (.t 5)),qQ 16 (.call 234 [.t 14,.t 15]),qQ 17 (.load 2 true (.t 2)),qQ 18 (.call 277 [.t 16,.t 17]),qR (.store 2 (.t 5) (.t 18))] [[],[],[0,1],[],[2,3,2],[4,4,0,1,2,3,4]]))) (.reg [qQ 19 (.bin .add (.t 10) (.c (.int .i64 1))),qM 10 (.t 19)]))))))) (.seq (.reg [qQ 20 (.load 2 true (.t 5)),qR (.store 2 (.t 4) (.t 20))]) .ret)))
theorem zja:FnIs Tryz.prog 235 21 zbb [.cell 4 2 true]:=⟨Tryz.f235,_,Tryz.func235,rfl,rfl,by kernel_rfl,by kernel_rfl⟩

def zdg:CC := .seq (.reg [qQ 2 (.box 2 (.t 0)),qQ 3 (.box 2 (.t 1)),qQ 4 (.alloc [.int .u64 0,.int .u64 0])]) (.seq (.reg [qQ 5 (.alloc [.int .u64 0,.int .u64 0])]) (.seq (.seq (.reg [qM 7 (.c (.int .i64 0))]) (.block 0 (.loop (.seq (.reg [qQ 8 (.bin .lss (.t 7) (.c (.int .i64 128)))]) (.seq (.cond (.t 8) .skip (.exit 0)) (.seq (.block 1 (.seq (.reg [qM 9 (.t 7),qM 6 (.t 9)]) (.seq (.reg [qQ 10 (.load 2 true (.t 5)),qQ 11 (.call 295 [.t 10]),qR (.store 2 (.t 5) (.t 11))]) (.seq (.reg [qM 12 (.t 6),qQ 13 (.bin .quo (.t 12) (.c (.int .i64 64))),qQ 14 (.iaddrA 2 1 (.t 3) (.t 13)),qQ 15 (.load 1 false (.t 14)),qM 16 (.t 6),qQ 17 (.bin .rem (.t 16) (.c (.int .i64 64))),qQ 18 (.bin .sub (.c (.int .i64 63)) (.t 17)),qQ 19 (.sh .shr (.t 15) (.t 18)),qQ 20 (.bin .and (.t 19) (.c (.int .u64 1))),qQ 21 (.bin .eql (.t 20) (.c (.int .u64 1)))]) (.cond (.t 21) (.reg [qQ 22 (.load 2 true (.t 5)),qQ 23 (.load 2 true (.t 2)),qQ 24 (.call 234 [.t 22,.t 23]),qR (.store 2 (.t 5) (.t 24))]) .skip))))) (.reg [qQ 25 (.bin .add (.t 7) (.c (.int .i64 1))),qM 7 (.t 25)]))))))) (.seq (.reg [qQ 26 (.load 2 true (.t 5)),qR (.store 2 (.t 4) (.t 26))]) .ret)))
theorem zkr:FnIs Tryz.prog 277 27 zdg [.cell 4 2 true]:=⟨Tryz.f277,_,Tryz.func277,rfl,rfl,by kernel_rfl,by kernel_rfl⟩

def z8c:CC := .seq (.reg [qQ 1 (.box 2 (.t 0)),qQ 2 (.alloc [.int .u64 0,.int .u64 0])]) (.seq (.reg [qQ 4 (.iaddrA 2 1 (.t 1) (.c (.int .i64 0))),qQ 5 (.load 1 false (.t 4)),qQ 6 (.sh .shl (.t 5) (.c (.int .u64 1))),qQ 7 (.iaddrA 2 1 (.t 1) (.c (.int .i64 1))),qQ 8 (.load 1 false (.t 7)),qQ 9 (.sh .shr (.t 8) (.c (.int .u64 63))),qQ 10 (.bin .or (.t 6) (.t 9)),qQ 11 (.iaddrA 2 1 (.t 1) (.c (.int .i64 1))),qQ 12 (.load 1 false (.t 11)),qQ 13 (.sh .shl (.t 12) (.c (.int .u64 1))),qQ 14 (.build [.int .u64 0,.int .u64 0] [(0,1,.t 10),(1,1,.t 13)]),qQ 3 (.alloc [.int .u64 0,.int .u64 0]),qR (.store 2 (.t 3) (.t 14))]) (.seq (.seq (.reg [qQ 15 (.iaddrA 2 1 (.t 1) (.c (.int .i64 0))),qQ 16 (.load 1 false (.t 15)),qQ 17 (.sh .shr (.t 16) (.c (.int .u64 63))),qQ 18 (.bin .eql (.t 17) (.c (.int .u64 1)))]) (.cond (.t 18) (.reg [qQ 19 (.iaddrA 2 1 (.t 3) (.c (.int .i64 1))),qQ 20 (.load 1 false (.t 19)),qQ 21 (.bin .xor (.t 20) (.c (.int .u64 135))),qQ 22 (.iaddrA 2 1 (.t 3) (.c (.int .i64 1))),qR (.store 1 (.t 22) (.t 21))]) .skip)) (.seq (.reg [qQ 23 (.load 2 true (.t 3)),qR (.store 2 (.t 2) (.t 23))]) .ret)))
theorem zff:FnIs Tryz.prog 295 24 z8c [.cell 2 2 true]:=⟨Tryz.f295,_,Tryz.func295,rfl,rfl,by kernel_rfl,by kernel_rfl⟩

def z76:CC := .seq (.reg [qQ 2 (.box 2 (.t 0)),qQ 3 (.box 2 (.t 1)),qQ 4 (.alloc [.int .u64 0,.int .u64 0])]) (.seq (.dreg [qQ 9 (.iaddrA 2 1 (.t 3) (.c (.int .i64 0))),qQ 10 (.load 1 false (.t 9)),qQ 11 (.iaddrA 2 1 (.t 3) (.c (.int .i64 1))),qQ 12 (.load 1 false (.t 11)),qM 5 (.t 10),qM 6 (.t 12)] [[],[0],[],[2],[1,0,1],[3,4,0,1,2,3,4]]) (.seq (.seq (.reg [qQ 13 (.load 2 true (.t 2)),qQ 14 (.call 230 [.t 13]),qQ 15 (.len (.t 14)),qM 16 (.c (.int .i64 0))]) (.block 0 (.loop (.seq (.reg [qQ 17 (.bin .lss (.t 16) (.t 15))]) (.seq (.cond (.t 17) .skip (.exit 0)) (.seq (.block 1 (.seq (.reg [qQ 18 (.iaddr 1 (.t 14) (.t 16)),qQ 19 (.load 1 false (.t 18)),qM 8 (.t 19)]) (.reg [qM 21 (.t 5),qM 22 (.t 6),qM 23 (.t 8),qQ 24 (.call 231 [.t 21,.t 22,.t 23]),qM 20 (.t 24),qQ 25 (.ext 0 (.t 20)),qQ 26 (.ext 1 (.t 20)),qM 5 (.t 25),qM 6 (.t 26)]))) (.reg [qQ 27 (.bin .add (.t 16) (.c (.int .i64 1))),qM 16 (.t 27)]))))))) (.seq (.reg [qM 28 (.t 5),qM 29 (.t 6),qQ 30 (.build [.int .u64 0,.int .u64 0] [(0,1,.t 28),(1,1,.t 29)]),qR (.store 2 (.t 4) (.t 30))]) .ret)))
theorem ze8:FnIs Tryz.prog 165 31 z76 [.cell 4 2 true]:=⟨Tryz.f165,_,Tryz.func165,rfl,rfl,by kernel_rfl,by kernel_rfl⟩

def zbc:CC := .seq (.reg [qQ 1 (.box 2 (.t 0)),qM 2 (.c .nils)]) (.seq (.dreg [qQ 7 (.iaddrA 2 1 (.t 1) (.c (.int .i64 0))),qQ 8 (.load 1 false (.t 7)),qQ 9 (.iaddrA 2 1 (.t 1) (.c (.int .i64 1))),qQ 10 (.load 1 false (.t 9)),qM 3 (.t 8),qM 4 (.t 10)] [[],[0],[],[2],[1,0,1],[3,4,0,1,2,3,4]]) (.seq (.reg [qM 5 (.c .nils)]) (.seq (.seq (.reg [qM 11 (.c (.int .u64 0))]) (.block 0 (.loop (.seq (.reg [qQ 12 (.bin .lss (.t 11) (.c (.int .u64 32)))]) (.seq (.cond (.t 12) .skip (.exit 0)) (.seq (.block 1 (.seq (.reg [qM 13 (.t 11),qM 6 (.t 13)]) (.seq (.reg [qM 14 (.t 5),qM 15 (.t 4),qQ 16 (.bsl 1 [.t 15]),qQ 17 (.app 1 8 (.t 14) (.t 16)),qM 5 (.t 17)]) (.reg [qM 19 (.t 3),qM 20 (.t 4),qM 21 (.t 6),qQ 22 (.call 231 [.t 19,.t 20,.t 21]),qM 18 (.t 22),qQ 23 (.ext 0 (.t 18)),qQ 24 (.ext 1 (.t 18)),qM 3 (.t 23),qM 4 (.t 24)])))) (.reg [qQ 25 (.bin .add (.t 11) (.c (.int .u64 1))),qM 11 (.t 25)]))))))) (.seq (.reg [qM 26 (.t 5),qM 2 (.t 26)]) .ret))))
theorem zjb:FnIs Tryz.prog 230 27 zbc [.t 2]:=⟨Tryz.f230,_,Tryz.func230,rfl,rfl,by kernel_rfl,by kernel_rfl⟩

def zdh:CC := .seq (.reg [qM 6 (.c (.int .u64 0)),qM 7 (.c (.int .u64 0))]) (.seq (.reg [qM 8 (.t 0),qQ 9 (.call 276 [.t 8,.c (.int .i64 (-8))]),qM 10 (.t 1),qQ 11 (.bin .add (.t 9) (.t 10)),qM 12 (.t 2),qQ 13 (.bin .xor (.t 11) (.t 12)),qM 0 (.t 13)]) (.seq (.reg [qM 14 (.t 0),qM 15 (.t 1),qQ 16 (.call 276 [.t 15,.c (.int .i64 3)]),qM 17 (.t 0),qQ 18 (.bin .xor (.t 16) (.t 17)),qM 6 (.t 14),qM 7 (.t 18)]) .ret))
theorem zks:FnIs Tryz.prog 231 19 zdh [.t 6,.t 7]:=⟨Tryz.f231,_,Tryz.func231,rfl,rfl,by kernel_rfl,by kernel_rfl⟩

def z2v:CC := .seq (.reg [qQ 2 (.box 1 (.t 0)),qQ 3 (.box 1 (.t 1)),qM 4 (.c .nilf)]) (.seq (.seq (.reg [qQ 5 (.load 1 false (.t 3)),qQ 6 (.bin .lss (.t 5) (.c (.int .i64 1)))]) (.cond (.t 6) (.reg [qQ 7 (.raw (Ex.mkif 9 (.c (.str [99,97,110,110,111,116,32,98,101,32,108,101,115,115,32,116,104,97,110,32,49])))),qR (.bad)]) .skip)) (.seq (.reg [qQ 8 (.mkf (.func 237) [] [.t 2,.t 3]),qM 4 (.t 8)]) .ret))
theorem z6h:FnIs Tryz.prog 174 9 z2v [.t 4]:=⟨Tryz.f174,_,Tryz.func174,rfl,rfl,by kernel_rfl,by kernel_rfl⟩

def z2g:CC := .seq (.reg [qM 4 (.c (.int .i64 0))]) (.block 0 (.loop (.seq (.seq (.reg [qM 6 (.t 4),qQ 7 (.load 1 false (.t 1)),qQ 8 (.len (.t 7)),qQ 9 (.bin .lss (.t 6) (.t 8))]) (.cond (.t 9) .skip (.exit 0))) (.seq (.block 1 (.seq (.dreg [qQ 13 (.load 1 false (.t 2)),qQ 14 (.load 1 false (.t 1)),qM 15 (.t 4),qQ 16 (.slc 1 (.t 14) (some (.t 15)) none),qQ 17 (.len (.t 16)),qQ 18 (.mn (.t 13) (.t 17)),qM 5 (.t 18)] [[],[],[],[1,2],[3],[0,4],[5,0,1,2,3,4,5]]) (.seq (.reg [qM 19 (.t 0),qQ 20 (.load 1 false (.t 1)),qM 21 (.t 4),qM 22 (.t 4),qM 23 (.t 5),qQ 24 (.bin .add (.t 22) (.t 23)),qM 25 (.t 4),qM 26 (.t 5),qQ 27 (.bin .add (.t 25) (.t 26)),qQ 28 (.raw (Ex.slc3 1 (.t 20) (some (.t 21)) (some (.t 24)) (.t 27))),qQ 29 (.callv (.t 19) [.t 28]),qQ 30 (.not (.t 29))]) (.cond (.t 30) .ret .skip)))) (.reg [qM 10 (.t 4),qQ 11 (.load 1 false (.t 2)),qQ 12 (.bin .add (.t 10) (.t 11)),qM 4 (.t 12)])))))
theorem z5d:FnIs Tryz.prog 237 31 z2g []:=⟨Tryz.f237,_,Tryz.func237,rfl,rfl,by kernel_rfl,by kernel_rfl⟩

def zfg:CC := .seq (.reg [qM 2 (.c (.int .u64 0)),qM 3 (.c (.bool false))]) (.seq (.seq (.reg [qM 7 (.t 0),qQ 8 (.len (.t 7)),qQ 9 (.bin .lss (.t 8) (.c (.int .i64 1))),qM 10 (.t 9),qG 11 (.mov (.t 0)) 10 false,qG 12 (.len (.t 11)) 10 false,qG 13 (.bin .gtr (.t 12) (.c (.int .i64 8))) 10 false,qQ 14 (.pick (.t 10) (.c (.bool true)) (.t 13))]) (.cond (.t 14) (.seq (.reg [qM 2 (.c (.int .u64 0)),qM 3 (.c (.bool false))]) .ret) .skip)) (.seq (.reg [qM 4 (.c (.int .u64 0))]) (.seq (.seq (.reg [qM 15 (.t 0),qQ 16 (.len (.t 15)),qM 17 (.c (.int .i64 0))]) (.block 0 (.loop (.seq (.reg [qQ 18 (.bin .lss (.t 17) (.t 16))]) (.seq (.cond (.t 18) .skip (.exit 0)) (.seq (.block 1 (.seq (.reg [qQ 19 (.iaddr 1 (.t 15) (.t 17)),qQ 20 (.load 1 false (.t 19)),qM 6 (.t 20)]) (.reg [qM 21 (.t 4),qQ 22 (.sh .shl (.t 21) (.c (.int .u64 8))),qM 23 (.t 6),qQ 24 (.conv .u64 (.t 23)),qQ 25 (.bin .or (.t 22) (.t 24)),qM 4 (.t 25)]))) (.reg [qQ 26 (.bin .add (.t 17) (.c (.int .i64 1))),qM 17 (.t 26)]))))))) (.seq (.reg [qM 27 (.t 4),qM 2 (.t 27),qM 3 (.c (.bool true))]) .ret))))
theorem zmk:FnIs Tryz.prog 238 28 zfg [.t 2,.t 3]:=⟨Tryz.f238,_,Tryz.func238,rfl,rfl,by kernel_rfl,by kernel_rfl⟩

def zdi:CC := .seq (.reg [qQ 2 (.alloc [.int .u64 0,.int .u64 0]),qM 3 (.c (.bool false))]) (.seq (.seq (.reg [qM 8 (.t 0),qQ 9 (.len (.t 8)),qQ 10 (.bin .neq (.t 9) (.c (.int .i64 16)))]) (.cond (.t 10) (.seq (.reg [qQ 11 (.build [.int .u64 0,.int .u64 0] []),qR (.store 2 (.t 2) (.t 11)),qM 3 (.c (.bool false))]) .ret) .skip)) (.seq (.reg [qM 13 (.t 0),qQ 14 (.slc 1 (.t 13) none (some (.c (.int .i64 8)))),qQ 15 (.call 238 [.t 14]),qM 12 (.t 15),qQ 16 (.ext 0 (.t 12)),qQ 17 (.ext 1 (.t 12)),qM 4 (.t 16),qM 5 (.t 17)]) (.seq (.reg [qM 19 (.t 0),qQ 20 (.slc 1 (.t 19) (some (.c (.int .i64 8))) none),qQ 21 (.call 238 [.t 20]),qM 18 (.t 21),qQ 22 (.ext 0 (.t 18)),qQ 23 (.ext 1 (.t 18)),qM 6 (.t 22),qM 7 (.t 23)]) (.seq (.reg [qM 24 (.t 4),qM 25 (.t 6),qQ 26 (.build [.int .u64 0,.int .u64 0] [(0,1,.t 24),(1,1,.t 25)]),qR (.store 2 (.t 2) (.t 26)),qM 3 (.c (.bool true))]) .ret))))
theorem zkt:FnIs Tryz.prog 175 27 zdi [.cell 2 2 true,.t 3]:=⟨Tryz.f175,_,Tryz.func175,rfl,rfl,by kernel_rfl,by kernel_rfl⟩

def z1g:CC := .seq (.reg [qM 4 (.c (.int .u64 0))]) (.seq (.reg [qM 6 (.t 1),qQ 7 (.conv .u64 (.t 6)),qQ 8 (.bin .and (.t 7) (.c (.int .u64 63))),qM 5 (.t 8)]) (.seq (.reg [qM 9 (.t 0),qM 10 (.t 5),qQ 11 (.sh .shl (.t 9) (.t 10)),qM 12 (.t 0),qM 13 (.t 5),qQ 14 (.bin .sub (.c (.int .u64 64)) (.t 13)),qQ 15 (.sh .shr (.t 12) (.t 14)),qQ 16 (.bin .or (.t 11) (.t 15)),qM 4 (.t 16)]) .ret))
theorem z2h:FnIs Tryz.prog 276 17 z1g [.t 4]:=⟨Tryz.f276,_,Tryz.func276,rfl,rfl,by kernel_rfl,by kernel_rfl⟩

end Go.Proofs.YthblcmnhiccnhaaGreat


