/- The abstract layer, part 19: regions whose order is drawn: what an instruction looks at; one step in any surrounding. -/
import Derived.Test.YtlddahcgaonlhaaA18
import Derived.Orders
set_option linter.all false
namespace Go.Abs
open Go

def oslots : Opd → List Nat
  | .t n => [n]
  | .c _ => []
def lslots : List Opd → List Nat
  | [] => []
  | x :: xs => oslots x ++ lslots xs
def pslots : List (Nat × Nat × Opd) → List Nat
  | [] => []
  | (_, _, x) :: xs => oslots x ++ pslots xs
def bslots : Option Opd → List Nat
  | some x => oslots x
  | none => []
def xslots : Ex → List Nat
  | .mkmap => []
  | .look _ _ _ m k => oslots m ++ oslots k
  | .mput _ m k v => oslots m ++ (oslots k ++ oslots v)
  | .mlen x | .s2b x | .caps x => oslots x
  | .slc3 _ x lo hi mx => oslots x ++ (bslots lo ++ (bslots hi ++ oslots mx))
  | .callx _ xs => lslots xs
  | .strish x | .mkif _ x | .asrt _ _ _ x | .clr _ _ x => oslots x
  | .appz _ _ _ s n => oslots s ++ oslots n
  | .inv _ x xs => oslots x ++ lslots xs
def islots : Ins → List Nat
  | .mov x | .box _ x | .load _ _ x | .nilck x | .isnil _ x | .not x | .conv _ x | .b2s x | .faddr _ x | .fld _ _ _ x | .ext _ x | .len x => oslots x
  | .pick c a b => oslots c ++ (oslots a ++ oslots b)
  | .alloc _ | .bsl0 | .bad => []
  | .build _ ps => pslots ps
  | .bsl _ xs => lslots xs
  | .store _ p x => oslots p ++ oslots x
  | .bin _ x y | .sh _ x y | .eqv _ _ x y | .iaddr _ x y | .iaddrA _ _ x y | .app _ _ x y | .cpy _ x y | .mn x y => oslots x ++ oslots y
  | .mksl _ _ _ l c => oslots l ++ oslots c
  | .mkf _ xs ys => lslots xs ++ lslots ys
  | .slc _ x lo hi => oslots x ++ (bslots lo ++ bslots hi)
  | .call _ xs => lslots xs
  | .callv x xs => oslots x ++ lslots xs
  | .raw x => xslots x
def cslots (c : CI) : List Nat := match c.g with
  | some (s, _) => s :: islots c.i
  | none => islots c.i

section
variable {P : Program} {N : Nat} {e e2 e' : Env} {h h' : AHeap}

theorem ev_congr {x : Opd} (hs : ∀ s ∈ oslots x, lk s e2 = lk s e) : ev e2 x = ev e x := by
  cases x with
  | t n => exact hs n (by simp [oslots])
  | c v => rfl
theorem evL_congr : ∀ {xs : List Opd}, (∀ s ∈ lslots xs, lk s e2 = lk s e) → evL e2 xs = evL e xs
  | [], _ => rfl
  | x :: xs, hs => by
    simp only [evL]
    rw [ev_congr fun s h => hs s (by simp [lslots, h]), evL_congr fun s h => hs s (by simp [lslots, h])]
theorem evP_congr : ∀ {xs : List (Nat × Nat × Opd)}, (∀ s ∈ pslots xs, lk s e2 = lk s e) → evP e2 xs = evP e xs
  | [], _ => rfl
  | (_, _, x) :: xs, hs => by
    simp only [evP]
    rw [ev_congr fun s h => hs s (by simp [pslots, h]), evP_congr fun s h => hs s (by simp [pslots, h])]
theorem bnd_congr {n : Nat} {x : Option Opd} (hs : ∀ s ∈ bslots x, lk s e2 = lk s e) : bnd e2 n x = bnd e n x := by
  cases x with
  | none => rfl
  | some x => simp only [bnd]; rw [ev_congr hs]

theorem evalI_congr {nm : Nat} {g : Nat → Option AObj} {i : Ins} (hs : ∀ s ∈ islots i, lk s e2 = lk s e) : evalI nm i e2 g = evalI nm i e g := by
  cases i <;> simp only [islots, List.mem_append] at hs <;> simp only [evalI] <;> first
    | rfl
    | (rw [ev_congr fun s h => hs s (.inl h), ev_congr fun s h => hs s (.inr (.inl h)), ev_congr fun s h => hs s (.inr (.inr h))]; done)
    | (rw [ev_congr fun s h => hs s (.inl h), ev_congr fun s h => hs s (.inr h)]; done)
    | (rw [evL_congr fun s h => hs s (.inl h), evL_congr fun s h => hs s (.inr h)]; done)
    | (rw [ev_congr hs]; done)
    | (rw [evL_congr hs]; done)
    | (rw [evP_congr hs]; done)
    | (rw [ev_congr fun s h => hs s (.inl h)]
       simp only [bnd_congr fun s h => hs s (.inr (.inl h)), bnd_congr fun s h => hs s (.inr (.inr h))]; done)
    | skip

/-- Instructions that don't look at the heap. -/
def free0 : Ins → Bool
  | .mov _ | .pick _ _ _ | .build _ _ | .bsl0 | .bsl _ _ | .nilck _ | .bin _ _ _ | .sh _ _ _ | .eqv _ _ _ _ | .isnil _ _ | .not _ | .conv _ _ | .mkf _ _ _ | .faddr _ _ | .fld _ _ _ _ | .iaddrA _ _ _ _ | .ext _ _ | .len _ | .mn _ _ => true
  | _ => false
theorem rdL_g {g g' : Nat → Option AObj} {v : AV} : rdL g v = rdL g' v := by cases v <;> rfl
theorem free0_same {i : Ins} (hf : free0 i = true) (nm nm' : Nat) (g g' : Nat → Option AObj) : evalI nm i e g = evalI nm' i e g' := by
  cases i <;> first
    | (simp [free0] at hf; done)
    | rfl
    | (simp only [evalI]; simp only [rdL_g (g := g) (g' := g')]; done)
theorem free0_none {i : Ins} (hf : free0 i = true) {nm : Nat} {g : Nat → Option AObj} {r : Option AV} {f : Eff} (hx : evalI nm i e g = some (r, f)) : f = .none := by
  cases i <;> first
    | (simp [free0] at hf; done)
    | (simp only [evalI] at hx
       repeat' split at hx
       all_goals first
         | (cases hx; done)
         | (injection hx with hx; injection hx with h1 h2; exact h2.symm)
         | (unfold req at hx; split at hx <;> cases hx <;> rfl))

/-- One operation, in any surrounding that has its slots. -/
def FX (P : Program) (N : Nat) (c : CI) (e : Env) (h : AHeap) (r : Option AV) (h' : AHeap) : Prop :=
  ∀ (ops : Array Oper) (i : Nat) (o : Oper), ops[i]? = some o → compI P N ops o = c → ∀ e2, (∀ s ∈ cslots c, lk s e2 = lk s e) → ∀ (m : Inj) (w : World) (a : Act) (K : Act → World → Prop) (Q : Exit → Act → World → Prop),
    HR m h w → ER N m h w e2 a → (∀ m' w' a', HR m' h' w' → ER N m' h' w' (putR c.d r e2) a' → Step m h w m' h' w' → K a' w') → wpOp P ops Q i K a w

theorem execCI_wpOp {o : Oper} {c : CI} (hco : c.d = o.dst) (hdst : ∀ d, o.dst = some d → d < N) (hcomp : c.i.plain = true → compileOp P N o = some c.i) {r : Option AV} {f : Eff} (hev : evalI h.next c.i e h.get = some (r, f))
    {m : Inj} {w : World} {a : Act} {K : Act → World → Prop} {Q : Exit → Act → World → Prop} (hr : HR m h w) (he : ER N m h w e a) (hk : ∀ m' w' a', HR m' (f.on h.next h) w' → ER N m' (f.on h.next h) w' (putR c.d r e) a' → Step m h w m' (f.on h.next h) w' → K a' w') :
    o.wp P a w K Q := by
  obtain ⟨m', w', hr', st, hres⟩ := evalI_ok hr (next_fresh hr) he (hcomp (evalI_plain hev)) hev
  unfold Oper.wp
  cases r with
  | some v =>
    obtain ⟨cv, hrun, hv⟩ := hres
    rw [hrun, Oper.upon_value]
    refine hk m' w' _ hr' ?_ st
    rw [hco]
    exact (he.step st).putR hdst hv
  | none =>
    rw [hres, Oper.upon_skip]
    refine hk m' w' _ hr' ?_ st
    rw [hco]
    exact (he.step st).skipR _ _

theorem FX.ins {c : CI} {r : Option AV} {f : Eff} (hg : met e c.g) (hev : evalI h.next c.i e h.get = some (r, f)) : FX P N c e h r (f.on h.next h) := by
  intro ops i o ho hc e2 hs m w a K Q hr he hk
  rcases compI_ok hc with ⟨hb1, hb2⟩ | ⟨hd, hdst, hcomp, hgd⟩
  · rw [hb1] at hev; simp [evalI] at hev
  · obtain ⟨w1, w2⟩ := wanted_of he hgd
    have hi : ∀ s ∈ islots c.i, lk s e2 = lk s e := fun s h => hs s (by unfold cslots; split <;> simp [h])
    have hw : Region.wanted o (yielded ops a.tmps) = true := by
      cases hgc : c.g with
      | none => exact w1 hgc
      | some sb =>
        obtain ⟨s, b⟩ := sb
        rw [hgc] at hg
        have hl : lk s e2 = some (.bool b) := (hs s (by simp [cslots, hgc])).trans hg
        rw [w2 s b b hgc hl]; simp
    simp only [wpOp, ho]
    rw [if_pos hw]
    exact .inl (execCI_wpOp hd hdst hcomp (by rw [evalI_congr hi]; exact hev) hr he hk)
theorem FX.skip {c : CI} {s : Nat} {b t : Bool} (hcg : c.g = some (s, b)) (hl : lk s e = some (.bool t)) (ht : t ≠ b) : FX P N c e h none h := by
  intro ops i o ho hc e2 hs m w a K Q hr he hk
  rcases compI_ok hc with ⟨hb1, hb2⟩ | ⟨hd, hdst, hcomp, hgd⟩
  · rw [hb2] at hcg; cases hcg
  · obtain ⟨w1, w2⟩ := wanted_of he hgd
    simp only [wpOp, ho]
    rw [w2 s b t hcg ((hs s (by simp [cslots, hcg])).trans hl), if_neg (by simp [ht])]
    refine hk m w _ hr ?_ (Step.refl _ _ _)
    rw [hd]
    exact he.skipR _ _
theorem FX.call {d : Option Nat} {f : Nat} {xs : List Opd} {g : Option (Nat × Bool)} {vs : List AV} {r : AV} (hg : met e g) (hv : evL e xs = some vs) (hac : AE P f vs h r h') : FX P N ⟨d, .call f xs, g⟩ e h (some r) h' := by
  intro ops i o ho hc e2 hs m w a K Q hr he hk
  rcases compI_ok hc with ⟨hb1, hb2⟩ | ⟨hd, hdst, hcomp, hgd⟩
  · simp at hb1
  · obtain ⟨w1, w2⟩ := wanted_of he hgd
    have hi : ∀ s ∈ lslots xs, lk s e2 = lk s e := fun s h => hs s (by unfold cslots; split <;> simp [h, islots])
    have hw : Region.wanted o (yielded ops a.tmps) = true := by
      cases g with
      | none => exact w1 rfl
      | some sb =>
        obtain ⟨s, b⟩ := sb
        have hl : lk s e2 = some (.bool b) := (hs s (by simp [cslots])).trans hg
        rw [w2 s b b rfl hl]; simp
    simp only [wpOp, ho]
    rw [if_pos hw]
    left
    have hco := hcomp rfl
    obtain ⟨c, hop, hcal, hfn, hxs⟩ := compile_call hco
    obtain ⟨hl1, hl2⟩ := he.evalL hxs ((evL_congr hi).trans hv)
    have hrun : (execOp a.eval o).run P w = .ok (.enter f (c.args.map a.eval)) w := by
      simp [execOp, hop, resolve, hcal, Act.eval, Deferred.ofValue, invoke, run_callFunc hfn]
    refine call_wp hrun hr (by simpa using hl1) (fun j v hj => by
      have := hl2 j v hj
      simpa [Array.getD_eq_getD_getElem?, List.getD_eq_getElem?_getD] using this) hac fun v w' m' r1 h1 g1 g2 g3 ⟨g4, g5⟩ => ?_
    subst g4; subst g5
    refine hk m' w' _ g1 ?_ g3
    have hd' : d = o.dst := hd
    show ER N m' h1 w' (putR d (some r1) e2) _
    rw [hd']
    exact (he.step g3).putR hdst g2

theorem FX.of_stp {c : CI} (hs : Stp c e h e' h') : ∃ r, e' = putR c.d r e ∧ FX P N c e h r h' ∧ (free0 c.i = true → h' = h ∧ ∀ h2, FX P N c e h2 r h2) := by
  have hok := hs.ok
  unfold stepCI at hok
  have ex : ∀ (hg : met e c.g), execCI c e h = some (e', h') → ∃ r, e' = putR c.d r e ∧ FX P N c e h r h' ∧ (free0 c.i = true → h' = h ∧ ∀ h2, FX P N c e h2 r h2) := fun hg hx => by
    unfold execCI at hx
    split at hx
    · rename_i r f hev
      cases hx
      refine ⟨r, rfl, FX.ins hg hev, fun hf => ?_⟩
      have hn := free0_none hf hev
      subst hn
      exact ⟨rfl, fun h2 => FX.ins (f := .none) hg ((free0_same hf _ _ _ _).trans hev)⟩
    · cases hx
  split at hok
  · rename_i hgn
    exact ex (by rw [hgn]; trivial) hok
  · rename_i s b hgs
    split at hok
    · rename_i t hlk
      split at hok
      · rename_i htb
        exact ex (by rw [hgs]; simp only [met]; rw [hlk, htb]) hok
      · rename_i htb
        cases hok
        exact ⟨none, rfl, FX.skip hgs hlk htb, fun _ => ⟨rfl, fun h2 => FX.skip hgs hlk htb⟩⟩
    · cases hok
end
end Go.Abs
