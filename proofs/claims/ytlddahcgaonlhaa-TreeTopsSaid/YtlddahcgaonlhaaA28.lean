/- The abstract layer, part 28: walks in few words. -/
import Derived.Test.YtlddahcgaonlhaaA27
set_option linter.all false
namespace Go.Abs
open Go

theorem set_upto {f g : Nat → List AV} {x : List AV} {m i : Nat} (hx : x = f i) : ((List.range m).map (fun k => if k < i then f k else g k)).set i x = (List.range m).map (fun k => if k < i + 1 then f k else g k) := by
  refine List.ext_getElem (by simp) fun j h1 h2 => ?_
  rw [List.getElem_set]
  simp only [List.getElem_map, List.getElem_range]
  split
  · rename_i e; subst e; rw [if_pos (by omega)]; exact hx
  · by_cases h3 : j < i
    · rw [if_pos h3, if_pos (by omega)]
    · rw [if_neg h3, if_neg (by omega)]
theorem upto_none {f g : Nat → List AV} {m : Nat} {x : List AV} (hg : ∀ k, k < m → g k = x) : List.replicate m x = (List.range m).map (fun k => if k < 0 then f k else g k) := by
  refine List.ext_getElem (by simp) fun j h1 h2 => ?_
  simp at h1
  simp [hg j h1]
theorem upto_all {f g : Nat → List AV} {m i : Nat} (hi : m ≤ i) : (List.range m).map (fun k => if k < i then f k else g k) = (List.range m).map f := by
  refine List.map_congr_left fun k hk => ?_
  simp at hk
  rw [if_pos (by omega)]
theorem next_le_put {h : AHeap} {n nm : Nat} {x : AObj} (hn : n ≤ h.next) : n ≤ (h.put nm x).next := by simp only [AHeap.put]; split <;> omega
theorem next_le_set {h : AHeap} {n nm : Nat} {x : Option AObj} (hn : n ≤ h.next) : n ≤ (h.set nm x).next := hn
/-- The program's drawn orders are of every kind. -/
class MO (P : Program) : Prop where
  mo : P.follows .mixedOrders = true
/-- A test's truth, in both ways. -/
inductive BP : Bool → Prop → Prop → Prop
  | lt (a b : Int) : BP (decide (a < b)) (a < b) (b ≤ a)
  | le (a b : Int) : BP (decide (a ≤ b)) (a ≤ b) (b < a)
  | gt (a b : Int) : BP (decide (a > b)) (b < a) (a ≤ b)
  | ge (a b : Int) : BP (decide (a ≥ b)) (b ≤ a) (a < b)
  | eq (a b : Int) : BP (a == b) (a = b) (a ≠ b)
  | ne (a b : Int) : BP (a != b) (a ≠ b) (a = b)
  | dec (p : Prop) [Decidable p] : BP (decide p) p (¬ p)
  | eqL (a b : List UInt8) : BP (a == b) (a = b) (a ≠ b)
  | neL (a b : List UInt8) : BP (a != b) (a ≠ b) (a = b)
  | not (t : Bool) (p q : Prop) (h : BP t p q) : BP (!t) q p
  | var (t : Bool) : BP t (t = true) (t = false)
theorem BP.both {t : Bool} {p q : Prop} (h : BP t p q) : (t = true → p) ∧ (t = false → q) := by
  induction h with
  | lt a b => simp
  | le a b => simp
  | gt a b => simp
  | ge a b => simp
  | eq a b => simp
  | ne a b => simp
  | dec p => simp
  | eqL a b => simp
  | neL a b => simp
  | not t p q _ ih => cases t <;> simp_all
  | var t => exact ⟨id, id⟩

/-- Instructions that turn the heap. -/
def wsI : Ins → Bool
  | .alloc _ | .box _ _ | .store _ _ _ | .mksl _ _ _ _ _ | .app _ _ _ _ | .cpy _ _ _ => true
  | .raw x => match x with
    | .look _ _ _ _ _ | .mlen _ | .caps _ | .slc3 _ _ _ _ _ | .mkif _ _ | .s2b _ | .asrt _ _ _ _ => false
    | _ => true
  | _ => false
def wsL (l : List CI) (xs : List Nat) : List Nat := (List.range l.length).filter fun i => wsI (l.getD i default).i || xs.contains i
def fsL (l : List CI) (ws : List Nat) : List Nat := (List.range l.length).filter fun i => !(ws.contains i) && !(free0 (l.getD i default).i)
/-- All but W's objects are as they were. -/
def PhiW (n : Nat) (W : List Nat) (h0 h2 : AHeap) : Prop := ∀ id, id < n → id ∉ W → h2.get id = h0.get id

section
variable {P : Program} {N : Nat} {e e' : Env} {h h' : AHeap} {Q : Exit → Env → AHeap → Prop} {l : List CI} {Φ : AHeap → Prop} {ws fs : List Nat} {K : Env → AHeap → Prop} {j : Nat}

theorem get_put_tl {nm g n n' : Nat} (hn : n = n') : (h.put nm (.tail g n)).get nm = some (.tail g n') := by subst hn; exact get_put_same
theorem get_set_tl {nm g n n' : Nat} (hn : n = n') : (h.set nm (some (.tail g n))).get nm = some (.tail g n') := by subst hn; exact get_set_same
theorem PhiW.refl {n : Nat} {W : List Nat} : PhiW n W h h := fun _ _ _ => rfl
theorem PhiW.put {n nm : Nat} {W : List Nat} {h0 : AHeap} {x : AObj} (hn : n ≤ nm) (hp : PhiW n W h0 h) : PhiW n W h0 (h.put nm x) := fun id h1 h2 => by
  rw [get_put_ne (by omega)]; exact hp id h1 h2
theorem PhiW.setW {n i : Nat} {W : List Nat} {h0 : AHeap} {x : Option AObj} (hi : i ∈ W) (hp : PhiW n W h0 h) : PhiW n W h0 (h.set i x) := fun id h1 h2 => by
  have hne : id ≠ i := fun e => h2 (by rw [e]; exact hi)
  rw [get_set_ne hne]; exact hp id h1 h2
theorem PhiW.setN {n i : Nat} {W : List Nat} {h0 : AHeap} {x : Option AObj} (hi : n ≤ i) (hp : PhiW n W h0 h) : PhiW n W h0 (h.set i x) := fun id h1 h2 => by
  rw [get_set_ne (by omega)]; exact hp id h1 h2

/-- The walk's goals, under names that nothing looks through: a code, a region's list. -/
structure WW (P : Program) (N : Nat) (c : CC) (Q : Exit → Env → AHeap → Prop) (e : Env) (h : AHeap) : Prop where
  out : AW P N c Q e h
structure WL (P : Program) (N : Nat) (l : List CI) (Q : Exit → Env → AHeap → Prop) (e : Env) (h : AHeap) : Prop where
  out : AL P N l Q e h
theorem WW.mono {c : CC} {Q' : Exit → Env → AHeap → Prop} (hw : WW P N c Q e h) (hq : ∀ ex e h, Q ex e h → Q' ex e h) : WW P N c Q' e h := ⟨hw.out.mono hq⟩
theorem WW.seq {x y : CC} (hw : WW P N x (thenQ (fun e h => WW P N y Q e h) Q) e h) : WW P N (.seq x y) Q e h :=
  ⟨AW.seq (hw.out.mono fun ex e h hq => by cases ex <;> first | exact hq.out | exact hq)⟩
theorem WW.skip (hq : Q .normal e h) : WW P N .skip Q e h := ⟨AW.skip hq⟩
theorem WW.exit {id : Nat} (hq : Q (.exit id) e h) : WW P N (.exit id) Q e h := ⟨AW.exit hq⟩
theorem WW.ret (hq : Q .ret e h) : WW P N .ret Q e h := ⟨AW.ret hq⟩
theorem WW.block {id : Nat} {x : CC} (hw : WW P N x (blockQ id Q) e h) : WW P N (.block id x) Q e h := ⟨AW.block hw.out⟩
theorem WW.reg {l : List CI} (hw : WL P N l Q e h) : WW P N (.reg l) Q e h := ⟨AW.reg hw.out⟩
theorem WW.condT {c : Opd} {x y : CC} (hc : ev e c = some (.bool true)) (hw : WW P N x Q e h) : WW P N (.cond c x y) Q e h := ⟨AW.condT hc hw.out⟩
theorem WW.condF {c : Opd} {x y : CC} (hc : ev e c = some (.bool false)) (hw : WW P N y Q e h) : WW P N (.cond c x y) Q e h := ⟨AW.condF hc hw.out⟩
theorem WW.ifB {c : Opd} {x y : CC} {t : Bool} {p q : Prop} (hc : ev e c = some (.bool t)) (h1 : p → WW P N x Q e h) (h2 : q → WW P N y Q e h)
    (hb : BP t p q := by first | exact BP.lt _ _ | exact BP.le _ _ | exact BP.gt _ _ | exact BP.ge _ _ | exact BP.eq _ _ | exact BP.ne _ _ | exact BP.eqL _ _ | exact BP.neL _ _ | exact BP.dec _ | exact BP.not _ _ _ (BP.lt _ _) | exact BP.not _ _ _ (BP.eq _ _) | exact BP.not _ _ _ (BP.eqL _ _) | exact BP.not _ _ _ (BP.dec _) | exact BP.not _ _ _ (BP.var _) | exact BP.var _) : WW P N (.cond c x y) Q e h :=
  ⟨AW.condB hc (fun ht => (h1 (hb.both.1 ht)).out) (fun ht => (h2 (hb.both.2 ht)).out)⟩
theorem WW.loopE {σ : Type} {c : CC} (E : σ → Env) (I : σ → AHeap → Prop) (μ : σ → Nat) (s₀ : σ) (he : subE (E s₀) e) (h₀ : I s₀ h)
    (round : ∀ s h, I s h → WW P N c (thenQ (fun e' h' => ∃ s', subE (E s') e' ∧ I s' h' ∧ μ s' < μ s) Q) (E s) h) : WW P N (.loop c) Q e h := ⟨AW.loopE E I μ s₀ he h₀ fun s h hi => (round s h hi).out⟩
theorem WW.cvt {c : CC} (hc : Cvt e h e' h') (hw : WW P N c Q e' h') : WW P N c Q e h := ⟨AW.cvt hc hw.out⟩
theorem WW.heap {c : CC} (s : HSub h' h) (hw : WW P N c Q e h') : WW P N c Q e h := ⟨AW.heap s hw.out⟩
theorem WW.env {c : CC} (hs : subE e' e) (hw : WW P N c Q e' h) : WW P N c Q e h := ⟨AW.env hs hw.out⟩
theorem WW.wf {c : CC} (hw : (∀ id x, h.get id = some x → id < h.next) → WW P N c Q e h) : WW P N c Q e h := ⟨fun code hcc m w a hr he =>
  (hw (fun id x hg => (hr.live id x hg).1)).out code hcc m w a hr he⟩
theorem WL.nil (hq : Q .normal e h) : WL P N [] Q e h := ⟨AL.nil hq⟩
theorem WL.auto {c : CI} (hs : Stp c e h e' h') (k : WL P N l Q e' h') : WL P N (c :: l) Q e h := ⟨AL.auto hs k.out⟩
theorem WL.fx {c : CI} {r : Option AV} (hx : FX P N c e h r h') (k : WL P N l Q (putR c.d r e) h') : WL P N (c :: l) Q e h := ⟨AL.fx hx k.out⟩
theorem WL.fq {c : CI} {R : Option AV → AHeap → Prop} (hx : FQ P N c e h R) (k : ∀ r h', R r h' → WL P N l Q (putR c.d r e) h') : WL P N (c :: l) Q e h := ⟨AL.fq hx fun r h' hR => (k r h' hR).out⟩
theorem WL.cvt (hc : Cvt e h e' h') (hw : WL P N l Q e' h') : WL P N l Q e h := ⟨AL.cvt hc hw.out⟩
theorem WL.spB {dd : Option Nat} {i : Ins} {s : Nat} {b t : Bool} {p q : Prop} (hc : lk s e = some (.bool t)) (h1 : p → WL P N (⟨dd, i, some (s, b)⟩ :: l) Q ((s, some (.bool true)) :: e) h) (h2 : q → WL P N (⟨dd, i, some (s, b)⟩ :: l) Q ((s, some (.bool false)) :: e) h)
    (hb : BP t p q := by first | exact BP.lt _ _ | exact BP.le _ _ | exact BP.gt _ _ | exact BP.ge _ _ | exact BP.eq _ _ | exact BP.ne _ _ | exact BP.eqL _ _ | exact BP.neL _ _ | exact BP.dec _ | exact BP.not _ _ _ (BP.lt _ _) | exact BP.not _ _ _ (BP.eq _ _) | exact BP.not _ _ _ (BP.eqL _ _) | exact BP.not _ _ _ (BP.dec _) | exact BP.not _ _ _ (BP.var _) | exact BP.var _) : WL P N (⟨dd, i, some (s, b)⟩ :: l) Q e h :=
  ⟨AL.split hc (fun ht => (h1 (hb.both.1 ht)).out) (fun ht => (h2 (hb.both.2 ht)).out)⟩
theorem WL.call {dd : Nat} {f : Nat} {xs : List Opd} {g : Option (Nat × Bool)} {vs us : List AV} {r : AV} (hv : evL e xs = some us) (hg : met e g) (hs : SubL us vs) (hac : AE P f vs h r h') (k : WL P N l Q ((dd, some r) :: e) h') : WL P N (⟨some dd, .call f xs, g⟩ :: l) Q e h :=
  ⟨AL.callM hv hg ((hac.sub hs).use k.out)⟩
/-- A call whose contract says what it answers, not just one thing. -/
theorem WL.callA {dd : Nat} {f : Nat} {xs : List Opd} {g : Option (Nat × Bool)} {vs us : List AV} {R : AV → AHeap → Prop} (hv : evL e xs = some us) (hg : met e g) (hs : SubL us vs) (hac : AC P f vs h R) (k : ∀ r h', R r h' → WL P N l Q ((dd, some r) :: e) h') : WL P N (⟨some dd, .call f xs, g⟩ :: l) Q e h :=
  ⟨AL.callM hv hg ((hac.sub hs).mono fun r h' hR => (k r h' hR).out)⟩
theorem AC.wf {f : Nat} {vs : List AV} {R : AV → AHeap → Prop} (hw : (∀ id x, h.get id = some x → id < h.next) → AC P f vs h R) : AC P f vs h R := fun m w cargs hr =>
  hw (fun id x hg => (hr.live id x hg).1) m w cargs hr
theorem AE.wf {f : Nat} {vs : List AV} {r : AV} (hw : (∀ id x, h.get id = some x → id < h.next) → AE P f vs h r h') : AE P f vs h r h' := AC.wf hw
theorem AE.pureW {f : Nat} {cc : CC} {rcs : List RC} {vs : List AV} {r : AV} (hfn : FnIs P f N cc rcs) (hn : vs.length ≤ N) (hw : WW P N cc (PureQ h rcs r) (argE 0 vs) h) : AE P f vs h r h := AE.pureQ hfn hn hw.out
theorem AE.effW {f : Nat} {cc : CC} {rcs : List RC} {vs : List AV} {r : AV} (hfn : FnIs P f N cc rcs) (hn : vs.length ≤ N) (hx : Ext h h') (hw : WW P N cc (EffQ h' rcs r) (argE 0 vs) h) : AE P f vs h r h' := AE.effQ hfn hn hx hw.out
theorem AC.effW {f : Nat} {cc : CC} {rcs : List RC} {vs : List AV} {R : AV → AHeap → Prop} (hfn : FnIs P f N cc rcs) (hn : vs.length ≤ N)
    (hw : WW P N cc (fun ex e h1 => ∃ r h', Ext h h' ∧ EffQ h' rcs r ex e h1 ∧ R r h') (argE 0 vs) h) : AC P f vs h R := AC.eff hfn hn hw.out
/-- The exact end: the heap as the walk leaves it. -/
theorem AC.introW {f : Nat} {cc : CC} {rcs : List RC} {vs : List AV} {R : AV → AHeap → Prop} (hfn : FnIs P f N cc rcs) (hn : vs.length ≤ N)
    (hw : WW P N cc (fun ex e h1 => (ex = .ret ∨ ex = .normal) ∧ ∃ rs, resA h1.get e rcs = some rs ∧ R (fin rs) h1) (argE 0 vs) h) : AC P f vs h R := AC.intro hfn hn hw.out
theorem DW.spB {dd : Option Nat} {i : Ins} {s : Nat} {b t : Bool} {p q : Prop} (hc : lk s e = some (.bool t)) (h1 : p → DW P N Φ ws fs K j (⟨dd, i, some (s, b)⟩ :: l) ((s, some (.bool true)) :: e) h) (h2 : q → DW P N Φ ws fs K j (⟨dd, i, some (s, b)⟩ :: l) ((s, some (.bool false)) :: e) h)
    (hb : BP t p q := by first | exact BP.lt _ _ | exact BP.le _ _ | exact BP.gt _ _ | exact BP.ge _ _ | exact BP.eq _ _ | exact BP.ne _ _ | exact BP.eqL _ _ | exact BP.neL _ _ | exact BP.dec _ | exact BP.not _ _ _ (BP.lt _ _) | exact BP.not _ _ _ (BP.eq _ _) | exact BP.not _ _ _ (BP.eqL _ _) | exact BP.not _ _ _ (BP.dec _) | exact BP.not _ _ _ (BP.var _) | exact BP.var _) : DW P N Φ ws fs K j (⟨dd, i, some (s, b)⟩ :: l) e h :=
  DW.split hc (fun ht => h1 (hb.both.1 ht)) (fun ht => h2 (hb.both.2 ht))

/-- A drawn region in which each operation that turns the heap is ordered against all that look at it (xs: calls that turn it). -/
theorem WW.dreg0 [MO P] {es : List (List Nat)} (xs : List Nat) (hc : chkD l es (wsL l xs) [] = true) (hd : DW P N (fun _ => True) (wsL l xs) [] (fun e h => Q .normal e h) 0 l e h) : WW P N (.dreg l es) Q e h := ⟨AW.dreg MO.mo hc trivial hd⟩
/-- One in which what is looked at is not turned (but for W, which is ordered). -/
theorem WW.dregW [MO P] {es : List (List Nat)} (xs W : List Nat) {n : Nat} (hn : h.next = n) (hc : chkD l es (wsL l xs) (fsL l (wsL l xs)) = true) (hd : DW P N (PhiW n W h) (wsL l xs) (fsL l (wsL l xs)) (fun e h => Q .normal e h) 0 l e h) : WW P N (.dreg l es) Q e h := ⟨AW.dreg MO.mo hc PhiW.refl hd⟩
/-- An operation of a drawn region, told by FX. -/
theorem DW.fx0 {c : CI} {r : Option AV} (hx : FX P N c e h r h') (h0 : free0 c.i = false) (hw : ws.contains j = true) (hp : Φ h → Φ h') (hf : fs.contains j = false) (k : DW P N Φ ws fs K (j + 1) l (putR c.d r e) h') : DW P N Φ ws fs K j (c :: l) e h :=
  .fx hx (fun hz => by rw [h0] at hz; cases hz) (fun hz => by rw [hw] at hz; cases hz) hp (fun hz => by rw [hf] at hz; cases hz) k
theorem DW.fxR {c : CI} {r : Option AV} (hx : FX P N c e h r h) (h0 : free0 c.i = false) (hf : fs.contains j = false) (k : DW P N Φ ws fs K (j + 1) l (putR c.d r e) h) : DW P N Φ ws fs K j (c :: l) e h :=
  .fx hx (fun hz => by rw [h0] at hz; cases hz) (fun _ => rfl) id (fun hz => by rw [hf] at hz; cases hz) k
theorem DW.fxF {c : CI} {r : Option AV} (hx : ∀ h2, Φ h2 → FX P N c e h2 r h2) (h0 : free0 c.i = false) (hp : Φ h) (k : DW P N Φ ws fs K (j + 1) l (putR c.d r e) h) : DW P N Φ ws fs K j (c :: l) e h :=
  .fx (hx h hp) (fun hz => by rw [h0] at hz; cases hz) (fun _ => rfl) id (fun _ => hx) k
theorem WL.call0 {f : Nat} {xs : List Opd} {g : Option (Nat × Bool)} {vs us : List AV} {r : AV} (hv : evL e xs = some us) (hg : met e g) (hs : SubL us vs) (hac : AE P f vs h r h') (k : WL P N l Q e h') : WL P N (⟨none, .call f xs, g⟩ :: l) Q e h :=
  ⟨AL.callM hv hg ((hac.sub hs).use k.out)⟩
theorem DW.callS {d : Option Nat} {f : Nat} {xs : List Opd} {g : Option (Nat × Bool)} {vs us : List AV} {r : AV} (hv : evL e xs = some us) (hg : met e g) (hs : SubL us vs) (hf : fs.contains j = false) (hac : AE P f vs h r h) (k : DW P N Φ ws fs K (j + 1) l (putR d (some r) e) h) : DW P N Φ ws fs K j (⟨d, .call f xs, g⟩ :: l) e h :=
  DW.call hv hg hf (hac.sub hs) k
theorem DW.callSF {d : Option Nat} {f : Nat} {xs : List Opd} {g : Option (Nat × Bool)} {vs us : List AV} {r : AV} (hp : Φ h) (hv : evL e xs = some us) (hg : met e g) (hs : SubL us vs) (hac : ∀ h2, Φ h2 → AE P f vs h2 r h2) (k : DW P N Φ ws fs K (j + 1) l (putR d (some r) e) h) : DW P N Φ ws fs K j (⟨d, .call f xs, g⟩ :: l) e h :=
  DW.callF hp hv hg (fun h2 h3 => (hac h2 h3).sub hs) k
theorem DW.callSW {d : Option Nat} {f : Nat} {xs : List Opd} {g : Option (Nat × Bool)} {vs us : List AV} {r : AV} (hv : evL e xs = some us) (hg : met e g) (hs : SubL us vs) (hf : fs.contains j = false) (hw : ws.contains j = true) (hp : Φ h → Φ h') (hac : AE P f vs h r h') (k : DW P N Φ ws fs K (j + 1) l (putR d (some r) e) h') : DW P N Φ ws fs K j (⟨d, .call f xs, g⟩ :: l) e h :=
  DW.callW hv hg hf hw hp (hac.sub hs) k
/-- The next instruction of a region in text order. -/
theorem WL.go {c : CI} (k : WL P N l Q e' h') (hs : Stp c e h e' h' := by exact Stp.auto) : WL P N (c :: l) Q e h := ⟨AL.step hs.ok k.out⟩

/-- A function that only computes returns. -/
theorem PureQ.finD {rcs : List RC} {r : AV} {h1 : AHeap} {rs : List AV} (hf : Fz h h1 (Go.Abs.fin rs) r) (hk : Keeps h h1 := by
    repeat first | with_reducible exact Keeps.refl _ | with_reducible refine Keeps.put ?_ (by omega) _ | with_reducible refine Keeps.set ?_ (by omega) _ | assumption)
    (hr : resA h1.get e rcs = some rs := by
    repeat first | exact resA_nil | (apply resA_t; exact rfl) | (apply resA_c; exact rfl; exact gH; exact (by first | exact getC_at rfl rfl | exact getC_all rfl | exact getC_sub (Nat.le_of_ble_eq_true rfl) (by first | (simp only [putC, AV.cs, encP, encN, encI, encS, encA, List.take_succ_cons, List.take_zero, List.take_nil, List.drop_succ_cons, List.drop_zero, List.drop_nil, List.cons_append, List.nil_append, List.append_nil, List.length_cons, List.length_nil, Nat.zero_add, Nat.add_zero, Nat.reduceAdd]; exact rfl) | exact rfl) | exact getC_sub (by simp) (by first | (simp only [putC, AV.cs, encP, encN, encI, encS, encA, List.take_succ_cons, List.take_zero, List.take_nil, List.drop_succ_cons, List.drop_zero, List.drop_nil, List.cons_append, List.nil_append, List.append_nil, List.length_cons, List.length_nil, Nat.zero_add, Nat.add_zero, Nat.reduceAdd]; exact rfl) | exact rfl)))) : PureQ h rcs r .ret e h1 := PureQ.fin (.inl rfl) hk hr hf
/-- A function that writes returns. -/
theorem EffQ.finD {rcs : List RC} {r : AV} {h1 : AHeap} {rs : List AV} (hk : Keeps h' h1) (hf : Fz h' h1 (Go.Abs.fin rs) r)
    (hr : resA h1.get e rcs = some rs := by
    repeat first | exact resA_nil | (apply resA_t; exact rfl) | (apply resA_c; exact rfl; exact gH; exact (by first | exact getC_at rfl rfl | exact getC_all rfl | exact getC_sub (Nat.le_of_ble_eq_true rfl) (by first | (simp only [putC, AV.cs, encP, encN, encI, encS, encA, List.take_succ_cons, List.take_zero, List.take_nil, List.drop_succ_cons, List.drop_zero, List.drop_nil, List.cons_append, List.nil_append, List.append_nil, List.length_cons, List.length_nil, Nat.zero_add, Nat.add_zero, Nat.reduceAdd]; exact rfl) | exact rfl) | exact getC_sub (by simp) (by first | (simp only [putC, AV.cs, encP, encN, encI, encS, encA, List.take_succ_cons, List.take_zero, List.take_nil, List.drop_succ_cons, List.drop_zero, List.drop_nil, List.cons_append, List.nil_append, List.append_nil, List.length_cons, List.length_nil, Nat.zero_add, Nat.add_zero, Nat.reduceAdd]; exact rfl) | exact rfl)))) : EffQ h' rcs r .ret e h1 := EffQ.fin (.inl rfl) hk hr hf

theorem WW.dregX [MO P] {es : List (List Nat)} (ws fs W : List Nat) {n : Nat} (hn : h.next = n) (hc : chkD l es ws fs = true) (hd : DW P N (PhiW n W h) ws fs (fun e h => Q .normal e h) 0 l e h) : WW P N (.dreg l es) Q e h := ⟨AW.dreg MO.mo hc PhiW.refl hd⟩
/-- An append to nothing, in a drawn region. -/
theorem DW.goI {d : Option Nat} {sz bytes : Nat} {x y : Opd} {g : Option (Nat × Bool)} {v : AV} {c : List (List AV)} (k : DW P N Φ ws fs K (j + 1) l (putR d (some (.imm sz c)) e) h) (hx : ev e x = some .nils := by exact rfl) (hy : ev e y = some v := by exact rfl) (hc : rdS h.get sz v = some c := by exact rfl) (hb : c.length * bytes ≤ 140737488355328 := by first | omega | (simp; done) | (simp; omega)) (hg : met e g := by first | exact True.intro | exact rfl) (hf : fs.contains j = false := by exact rfl) :
    DW P N Φ ws fs K j (⟨d, .app sz bytes x y, g⟩ :: l) e h := DW.fxR (FX.appI hx hy hc hb hg) rfl hf k
theorem DW.goWP {c : CI} {n : Nat} {W : List Nat} {h0 : AHeap} (k : DW P N (PhiW n W h0) ws fs K (j + 1) l e' h') (hs : Stp c e h e' h' := by exact Stp.auto) (hf : fs.contains j = false := by exact rfl) (hw : ws.contains j = true := by exact rfl) (hp : PhiW n W h0 h → PhiW n W h0 h' := by first | exact PhiW.put (by omega) | exact PhiW.setW (by simp) | exact PhiW.setN (by omega)) : DW P N (PhiW n W h0) ws fs K j (c :: l) e h := DW.oneW hw hp hs hf k
/-- Loads wherever they are drawn. -/
theorem DW.goF {c : CI} {n : Nat} {W : List Nat} {h0 : AHeap} (k : DW P N (PhiW n W h0) ws fs K (j + 1) l e' h) (hs : ∀ h2, PhiW n W h0 h2 → Stp c e h2 e' h2 := by
    intro h2 hp2
    first
      | (apply Stp.load1; exact rfl; exact (hp2 _ (by omega) (by first | (simp; done) | (simp; omega))).trans gH; exact (by first | exact getC_at rfl rfl | exact getC_all rfl | exact getC_sub (Nat.le_of_ble_eq_true rfl) (by first | (simp only [putC, AV.cs, encP, encN, encI, encS, encA, List.take_succ_cons, List.take_zero, List.take_nil, List.drop_succ_cons, List.drop_zero, List.drop_nil, List.cons_append, List.nil_append, List.append_nil, List.length_cons, List.length_nil, Nat.zero_add, Nat.add_zero, Nat.reduceAdd]; exact rfl) | exact rfl) | exact getC_sub (by simp) (by first | (simp only [putC, AV.cs, encP, encN, encI, encS, encA, List.take_succ_cons, List.take_zero, List.take_nil, List.drop_succ_cons, List.drop_zero, List.drop_nil, List.cons_append, List.nil_append, List.append_nil, List.length_cons, List.length_nil, Nat.zero_add, Nat.add_zero, Nat.reduceAdd]; exact rfl) | exact rfl)); exact (by first | exact True.intro | exact rfl))
      | (apply Stp.loadp; exact rfl; exact (hp2 _ (by omega) (by first | (simp; done) | (simp; omega))).trans gH; exact (by first | exact map_at (List.getElem?_eq_getElem (by omega)) | exact map_at (List.getElem?_range (by omega)) | exact List.getElem?_eq_getElem (by omega) | exact rfl); exact (by first | exact getC_at rfl rfl | exact getC_all rfl | exact getC_sub (Nat.le_of_ble_eq_true rfl) (by first | (simp only [putC, AV.cs, encP, encN, encI, encS, encA, List.take_succ_cons, List.take_zero, List.take_nil, List.drop_succ_cons, List.drop_zero, List.drop_nil, List.cons_append, List.nil_append, List.append_nil, List.length_cons, List.length_nil, Nat.zero_add, Nat.add_zero, Nat.reduceAdd]; exact rfl) | exact rfl) | exact getC_sub (by simp) (by first | (simp only [putC, AV.cs, encP, encN, encI, encS, encA, List.take_succ_cons, List.take_zero, List.take_nil, List.drop_succ_cons, List.drop_zero, List.drop_nil, List.cons_append, List.nil_append, List.append_nil, List.length_cons, List.length_nil, Nat.zero_add, Nat.add_zero, Nat.reduceAdd]; exact rfl) | exact rfl)); exact (by first | exact True.intro | exact rfl))
      | exact Stp.auto) (hp : PhiW n W h0 h := by repeat first | exact PhiW.refl | refine PhiW.put (by omega) ?_ | refine PhiW.setW (by simp) ?_ | refine PhiW.setN (by omega) ?_) : DW P N (PhiW n W h0) ws fs K j (c :: l) e h := DW.oneF hp hs k
theorem FX.rawN {d : Option Nat} {x : Ex} {g : Option (Nat × Bool)} {r : Option AV} (hx : XOK P N x e h r .none) (hg : met e g) : FX P N ⟨d, .raw x, g⟩ e h r h := FX.raw hx hg
theorem FX.mkmap {d : Option Nat} {g : Option (Nat × Bool)} {nx : Nat} (hn : h.next = nx) (hg : met e g) : FX P N ⟨d, .raw .mkmap, g⟩ e h (some (.map nx)) (h.put nx (.map [])) := by subst hn; exact FX.raw XOK.mkmap hg
theorem FX.appz {d : Option Nat} {g : Option (Nat × Bool)} {sz bytes n nx : Nat} {zs : List AV} {x y : Opd} {k : IntKind} {a : Int} (hx : ev e x = some .nils) (hy : ev e y = some (.int k a)) (ha : a = n) (h0 : 0 < n) (hb : n * bytes ≤ 140737488355328) (hn : h.next = nx) (hg : met e g) :
    FX P N ⟨d, .raw (.appz sz bytes zs x y), g⟩ e h (some (.ref nx 0 n)) (h.put nx (.mem sz (List.replicate n zs))) := by subst hn; exact FX.raw (XOK.appz hx hy ha h0 hb) hg
theorem FX.strish {d : Option Nat} {g : Option (Nat × Bool)} {x : Opd} {id n : Nat} {c : List (List AV)} (hx : ev e x = some (.ref id 0 n)) (hm : h.get id = some (.mem 1 c)) (hl : c.length = n) (h0 : 0 < n) (hg : met e g) : FX P N ⟨d, .raw (.strish x), g⟩ e h (some (.imm 1 c)) (h.set id none) := FX.raw (XOK.strish hx hm hl h0) hg
theorem FX.mput {d : Option Nat} {g : Option (Nat × Bool)} {mk : MK} {x y z : Opd} {id : Nat} {a v : AV} {es : List (AV × AV)} {r : Option (Nat × AV)} (hx : ev e x = some (.map id)) (hy : ev e y = some a) (hz : ev e z = some v) (hm : h.get id = some (.map es)) (hk : keyOK mk a) (hf : findA a es 0 = some r) (hg : met e g) :
    FX P N ⟨d, .raw (.mput mk x y z), g⟩ e h none (h.set id (some (.map (putM es a v r)))) := FX.raw (XOK.mput hx hy hz hm hk hf) hg
theorem FX.look {d : Option Nat} {g : Option (Nat × Bool)} {mk : MK} {z : AV} {ok : Bool} {x y : Opd} {id : Nat} {a v : AV} {es : List (AV × AV)} {r : Option (Nat × AV)} (hx : ev e x = some (.map id)) (hy : ev e y = some a) (hm : h.get id = some (.map es)) (hk : keyOK mk a) (hf : findA a es 0 = some r) (hv : lookR z ok r = v) (hg : met e g) :
    FX P N ⟨d, .raw (.look mk z ok x y), g⟩ e h (some v) h := by subst hv; exact FX.raw (XOK.look hx hy hm hk hf) hg
theorem FX.bslN {d : Option Nat} {sz n nx : Nat} {xs : List Opd} {g : Option (Nat × Bool)} {vs : List AV} {c : List (List AV)} (hv : evL e xs = some vs) (hc : cellsL sz vs = some c) (hl : c.length = n) (hn : h.next = nx) (hg : met e g) : FX P N ⟨d, .bsl sz xs, g⟩ e h (some (.ref nx 0 n)) (h.put nx (.mem sz c)) := by subst hn; exact FX.bslM hv hc hl hg
theorem WL.fx1 {d : Nat} {i : Ins} {g : Option (Nat × Bool)} {v : AV} (hx : FX P N ⟨some d, i, g⟩ e h (some v) h') (k : WL P N l Q ((d, some v) :: e) h') : WL P N (⟨some d, i, g⟩ :: l) Q e h := WL.fx hx k
theorem WL.fx0 {i : Ins} {g : Option (Nat × Bool)} {r : Option AV} (hx : FX P N ⟨none, i, g⟩ e h r h') (k : WL P N l Q e h') : WL P N (⟨none, i, g⟩ :: l) Q e h := WL.fx hx k
theorem WL.fq1 {d : Nat} {i : Ins} {g : Option (Nat × Bool)} {R : Option AV → AHeap → Prop} (hx : FQ P N ⟨some d, i, g⟩ e h R) (k : ∀ r h', R r h' → WL P N l Q ((d, r) :: e) h') : WL P N (⟨some d, i, g⟩ :: l) Q e h := WL.fq hx k
/-- An operation beyond the plain ones, if it needs no thought. -/
theorem WL.gox {d : Nat} {i : Ins} {g : Option (Nat × Bool)} {v : AV} (k : WL P N l Q ((d, some v) :: e) h') (hx : FX P N ⟨some d, i, g⟩ e h (some v) h' := by
    first
      | (apply FX.mkmap; exact gN; exact (by first | exact True.intro | exact rfl))
      | (apply FX.rawN; apply XOK.mlen; exact rfl; exact gH; exact (by first | exact True.intro | exact rfl))
      | (apply FX.rawN; apply XOK.caps0; exact rfl; exact (by first | exact True.intro | exact rfl))
      | (apply FX.rawN; apply XOK.slc00; exact rfl; exact ⟨_, rfl⟩; exact rfl; exact rfl; exact (by first | exact True.intro | exact rfl))
      | (apply FX.rawN; apply XOK.slcNN; exact rfl; exact rfl; exact rfl; exact (by first | with_reducible exact ix2 _ | with_reducible exact ix21 _ | rfl | exact (Int.toNat_of_nonneg (by omega)).symm); exact (by first | with_reducible exact ix2 _ | with_reducible exact ix21 _ | rfl | exact (Int.toNat_of_nonneg (by omega)).symm); exact (by first | omega | (simp; done) | (simp; omega)); exact ⟨_, gH⟩; exact (by first | exact True.intro | exact rfl))
      | (apply FX.appz; exact rfl; exact rfl; exact (by first | with_reducible exact ix2 _ | with_reducible exact ix21 _ | rfl | exact (Int.toNat_of_nonneg (by omega)).symm); exact (by first | omega | (simp; done) | (simp; omega)); exact (by first | omega | (simp; done) | (simp; omega)); exact gN; exact (by first | exact True.intro | exact rfl))) : WL P N (⟨some d, i, g⟩ :: l) Q e h := WL.fx1 hx k

/-- The same in a drawn region. -/
theorem DW.gox {d : Nat} {i : Ins} {g : Option (Nat × Bool)} {v : AV} (k : DW P N Φ ws fs K (j + 1) l ((d, some v) :: e) h) (hx : FX P N ⟨some d, i, g⟩ e h (some v) h := by
    first
      | (apply FX.rawN; apply XOK.mlen; exact rfl; exact gH; exact (by first | exact True.intro | exact rfl))
      | (apply FX.rawN; apply XOK.caps0; exact rfl; exact (by first | exact True.intro | exact rfl))) (h0 : free0 i = false := by exact rfl) (hf : fs.contains j = false := by exact rfl) : DW P N Φ ws fs K j (⟨some d, i, g⟩ :: l) e h := DW.fxR hx h0 hf k
/-! ### what hangs on something that was passed over is passed over -/
structure WS (P : Program) (N : Nat) (S : List Nat) (l : List CI) (Q : Exit → Env → AHeap → Prop) (e : Env) (h : AHeap) : Prop where
  out : ∀ (ops : Array Oper) (idx : List Nat), (∀ i ∈ idx, i < ops.size) → idx.map (fun i => compI P N ops (ops.getD i default)) = l → ∀ m w a, HR m h w → ER N m h w e a → (∀ s ∈ S, a.tmps.getD s undef = undef) → wpOps P ops (PA N Q m h w) idx a w
section
variable {S : List Nat} {m : Inj} {w : World}
theorem WS.off (k : WL P N l Q e h) : WS P N S l Q e h := ⟨fun ops idx hlt hl m w a hr he _ => k.out ops idx hlt hl m w a hr he⟩
theorem put_undef {a : Go.Act} {d s : Nat} (hs : s = d ∨ a.tmps.getD s undef = undef) : (a.put (some d) undef).tmps.getD s undef = undef := by
  simp only [Act.put, Array.getD_eq_getD_getElem?] at hs ⊢
  rw [Array.getElem?_setIfInBounds]
  split
  · split
    · rfl
    · rfl
  · rename_i hne
    rcases hs with rfl | hs
    · exact absurd rfl hne
    · exact hs
theorem WS.skip {d s : Nat} {i : Ins} {b : Bool} (hsk : S.contains s = true ∨ ∃ t, lk s e = some (.bool t) ∧ (!b) = t) (k : WS P N (d :: S) l Q ((d, none) :: e) h) : WS P N S (⟨some d, i, some (s, b)⟩ :: l) Q e h := ⟨fun ops idx hlt hl m w a hr he hS => by
  cases idx with
  | nil => simp at hl
  | cons j idx =>
    simp only [List.map_cons, List.cons.injEq] at hl
    obtain ⟨hc, hl⟩ := hl
    have hilt := hlt j (by simp)
    have ho : ops[j]? = some ops[j] := Array.getElem?_eq_getElem hilt
    have hget : ops.getD j default = ops[j] := by simp [hilt]
    rw [hget] at hc
    have hlt' : ∀ j ∈ idx, j < ops.size := fun j hj => hlt j (by simp [hj])
    rcases compI_ok hc with ⟨hb1, hb2⟩ | ⟨hd, hdst, hcomp, hg⟩
    · cases hb2
    · have hw : Region.wanted ops[j] (yielded ops a.tmps) = false := by
        rcases hsk with hsk | ⟨t, h1, h2⟩
        · cases hgo : ops[j].guard with
          | none => simp only [hgo] at hg; cases hg
          | some jb =>
            obtain ⟨j0, b0⟩ := jb
            simp only [hgo] at hg
            obtain ⟨s0, hs0, hg0⟩ := hg
            cases hg0
            have hu := hS s (by simpa using hsk)
            have hy : yielded ops a.tmps j0 = none := by
              unfold yielded
              rw [hs0]
              simp only [Option.bind_some]
              cases hx : a.tmps[s]? with
              | none => rfl
              | some x => simp [hx] at hu; subst hu; rfl
            simp only [Region.wanted, hgo, hy]
            cases b <;> rfl
        · obtain ⟨w1, w2⟩ := wanted_of he hg
          rw [w2 s b t rfl h1]; subst h2; cases b <;> rfl
      have hd' : (some d : Option Nat) = ops[j].dst := hd
      simp only [wpOps, ho]
      rw [hw]
      simp only [Bool.false_eq_true, if_false]
      rw [← hd']
      refine k.out ops idx hlt' hl m w _ hr (he.skip d undef) fun s' hs' => ?_
      refine put_undef ?_
      rcases List.mem_cons.1 hs' with rfl | hs'
      · exact .inl rfl
      · exact .inr (hS s' hs')⟩
theorem WS.dead {d s : Nat} {i : Ins} {b : Bool} (hs : S.contains s = true) (k : WS P N (d :: S) l Q ((d, none) :: e) h) : WS P N S (⟨some d, i, some (s, b)⟩ :: l) Q e h := .skip (.inl hs) k
theorem WS.unmet {d s : Nat} {i : Ins} {b t : Bool} (h1 : lk s e = some (.bool t)) (h2 : (!b) = t) (k : WS P N (d :: S) l Q ((d, none) :: e) h) : WS P N S (⟨some d, i, some (s, b)⟩ :: l) Q e h := .skip (.inr ⟨t, h1, h2⟩) k
theorem WL.unS {d s : Nat} {i : Ins} {b t : Bool} (h1 : lk s e = some (.bool t)) (h2 : (!b) = t) (k : WS P N [d] l Q ((d, none) :: e) h) : WL P N (⟨some d, i, some (s, b)⟩ :: l) Q e h :=
  ⟨fun ops idx hlt hl m w a hr he => (WS.unmet (S := []) h1 h2 k).out ops idx hlt hl m w a hr he (by simp)⟩
end
theorem blkN {id : Nat} (hq : Q .normal e h) : blockQ id Q .normal e h := hq
/-- A goal that is left, in a wrapping that no search looks into. -/
structure BoxP (B : Prop) : Prop where
  out : B
/-- The walk as far as it needs no thought. -/
theorem go {A B : Prop} (k : B) (hs : BoxP B → A := by
    intro k
    repeat first | refine WL.unS rfl rfl ?_ | refine WS.dead rfl ?_ | refine WS.unmet rfl rfl ?_ | refine WS.off ?_ | refine WL.go ?_ | refine WW.seq ?_ | refine WW.reg ?_ | refine WL.nil ?_ | refine DW.go ?_ | refine DW.endL ?_ | refine WW.skip ?_ | refine WW.block ?_ | refine WW.exit ?_ | refine WW.condT rfl ?_ | refine WW.condF rfl ?_ | refine WL.gox ?_ | refine DW.gox ?_ | refine DW.goW ?_ (fun _ => True.intro) | refine DW.goWP ?_ | refine DW.goI ?_ | refine DW.goF ?_ | refine WW.dreg0 [] (by decide +kernel) ?_ | refine thenN ?_ | refine blkN ?_
    exact BoxP.out k) : A := hs ⟨k⟩
end
end Go.Abs
