/- The abstract layer, texts 31 to 36 in one. -/
import Derived.Test.YtlddahcgaonlhaaAC
set_option linter.all false
/- The abstract layer, part 31: regions whose order is drawn and in which new blocks stand in no order to what else turns the heap: their names are kept for them. -/
namespace Go.Abs
open Go

/-- k names are kept for later. -/
def AHeap.keep (h : AHeap) (k : Nat) : AHeap := { h with next := h.next + k, gap := fun j => h.gap j || (decide (h.next ≤ j) && decide (j < h.next + k)) }
theorem get_keepE {h : AHeap} {k id : Nat} {x : Option AObj} (hx : h.get id = x) : (h.keep k).get id = x := hx
theorem next_keepE {h : AHeap} {k n : Nat} (hn : h.next = n) : (h.keep k).next = n + k := by subst hn; rfl
theorem next_putK {h : AHeap} {id n : Nat} {x : AObj} (hl : id < n) (hn : h.next = n) : (h.put id x).next = n := by subst hn; simp [AHeap.put, hl]
theorem Keeps.keep {h h1 : AHeap} {k : Nat} (hk : Keeps h h1) : Keeps h (h1.keep k) := ⟨Nat.le_trans hk.1 (Nat.le_add_right _ _), hk.2⟩

section
variable {P : Program} {N : Nat} {e e' : Env} {h h' : AHeap} {l : List CI} {Q : Exit → Env → AHeap → Prop} {m : Inj} {w : World}

theorem used_keep {k id : Nat} (hu : h.used id) : (h.keep k).used id := by
  obtain ⟨h1, h2⟩ := hu
  refine ⟨by simp only [AHeap.keep]; omega, ?_⟩
  simp only [AHeap.keep, h2, Bool.false_or, Bool.and_eq_false_iff, decide_eq_false_iff_not]
  omega
theorem step_keep (k : Nat) : Step m h w m (h.keep k) w :=
  ⟨rfl, rfl, rfl, Nat.le_refl _, fun _ cc _ _ hb _ => ⟨cc, hb, rfl⟩, fun _ _ hf => ⟨rfl, hf⟩, fun _ _ _ hc hn => ⟨hc, hn⟩, fun _ hu => used_keep hu, fun _ x _ hg => ⟨x, hg, fun _ => rfl, Compat.refl x⟩⟩
theorem HR.keep (hr : HR m h w) (k : Nat) : HR m (h.keep k) w :=
  ⟨fun id hg => by
      simp only [AHeap.keep, Bool.or_eq_true, Bool.and_eq_true, decide_eq_true_eq] at hg ⊢
      rcases hg with hg | hg
      · have := hr.gapl id hg; omega
      · exact hg.2,
    fun id x hg => used_keep (hr.live id x hg), hr.inj, fun id x hg => (hr.obj id x hg).step (step_keep k) rfl fun _ _ _ => rfl⟩
theorem Cvt.keep (k : Nat) : Cvt e h e (h.keep k) := fun _ m _ _ hr he => ⟨m, hr.keep k, he.step (step_keep k), step_keep k⟩

theorem FX.ofN {nm : Nat} {d : Option Nat} {i : Ins} {g : Option (Nat × Bool)} {r : Option AV} {f : Eff} (hp : i.plain = true) (hg : met e g)
    (hx : ∀ (o : Oper), compileOp P N o = some i → ∀ e2, (∀ s ∈ islots i, lk s e2 = lk s e) → ∀ (m : Inj) (w : World) (a : Act), HR m h w → ER N m h w e2 a → OpOK P o a m h w nm r f) : FX P N ⟨d, i, g⟩ e h r (f.on nm h) := by
  intro ops j o ho hc e2 hs m w a K Q hr he hk
  have hraw := comp_plain hc hp
  rcases compI_ok hc with ⟨hb1, hb2⟩ | ⟨hd, hdst, _, hgd⟩
  · have hb : i = .bad := hb1
    subst hb; cases hp
  · obtain ⟨w1, w2⟩ := wanted_of he hgd
    have hi : ∀ s ∈ islots i, lk s e2 = lk s e := fun s h => hs s (by unfold cslots; split <;> simp [h])
    have hw : Region.wanted o (yielded ops a.tmps) = true := by
      cases g with
      | none => exact w1 rfl
      | some sb =>
        obtain ⟨s, b⟩ := sb
        have hl : lk s e2 = some (.bool b) := (hs s (by simp [cslots])).trans hg
        rw [w2 s b b rfl hl]; simp
    simp only [wpOp, ho]
    rw [if_pos hw]
    left
    obtain ⟨m', w', hr', st, hres⟩ := hx o hraw e2 hi m w a hr he
    have hd' : d = o.dst := hd
    unfold Oper.wp
    cases r with
    | some v =>
      obtain ⟨cv, hrun, hv⟩ := hres
      rw [hrun, Oper.upon_value]
      refine hk m' w' _ hr' ?_ st
      show ER N m' _ w' (putR d (some v) e2) _
      rw [hd']
      exact (he.step st).putR hdst hv
    | none =>
      rw [hres, Oper.upon_skip]
      refine hk m' w' _ hr' ?_ st
      show ER N m' _ w' (putR d none e2) _
      rw [hd']
      exact (he.step st).skipR _ _

theorem FX.allocN {d : Nat} {z : List AV} {g : Option (Nat × Bool)} {nm : Nat} (hf : ¬ h.used nm) (hg : met e g) : FX P N ⟨some d, .alloc z, g⟩ e h (some (.ptr nm 0 0)) (h.put nm (.mem z.length [z])) :=
  FX.ofN (r := some (.ptr nm 0 0)) (f := .new (.mem z.length [z])) rfl hg fun o hc e2 _ m w a hr he => evalI_ok hr hf he hc (by simp [evalI])

/-! ### what an operation does to the heap, told -/
inductive Up
  | put (nm : Nat) (x : AObj)
  | set (id : Nat) (x : Option AObj)
def Up.ap (h : AHeap) : Up → AHeap
  | .put nm x => h.put nm x
  | .set id x => h.set id x
def Up.id : Up → Nat
  | .put nm _ => nm
  | .set id _ => id
def Up.isSet : Up → Bool
  | .put _ _ => false
  | .set _ _ => true
def aps (h : AHeap) (us : List Up) : AHeap := us.foldl Up.ap h
theorem aps_cons {h : AHeap} {u : Up} {us : List Up} : aps h (u :: us) = aps (u.ap h) us := rfl

theorem put_next {h : AHeap} {nm : Nat} {x : AObj} : (h.put nm x).next = if nm < h.next then h.next else nm + 1 := rfl
theorem next_ap {h : AHeap} (u : Up) : h.next ≤ (u.ap h).next := by
  cases u with
  | put nm x => simp only [Up.ap, AHeap.put]; split <;> omega
  | set id x => exact Nat.le_refl _
theorem next_aps : ∀ {h : AHeap} (us : List Up), h.next ≤ (aps h us).next
  | h, [] => Nat.le_refl _
  | h, u :: us => Nat.le_trans (next_ap u) (next_aps us)
/-- Two heaps that read alike but for the kept names. -/
def Sim (n k : Nat) (h h2 : AHeap) : Prop := h2.next = h.next ∧ ∀ id, ¬ (n ≤ id ∧ id < n + k) → h2.get id = h.get id
theorem Sim.refl {n k : Nat} {h : AHeap} : Sim n k h h := ⟨rfl, fun _ _ => rfl⟩
theorem Sim.ap {n k : Nat} {h h2 : AHeap} (hs : Sim n k h h2) (u : Up) : Sim n k (u.ap h) (u.ap h2) := by
  obtain ⟨h1, h3⟩ := hs
  cases u with
  | put nm x => exact ⟨by simp only [Up.ap, AHeap.put, h1], fun id hi => by simp only [Up.ap, AHeap.put]; split <;> first | rfl | exact h3 id hi⟩
  | set nm x => exact ⟨h1, fun id hi => by simp only [Up.ap, AHeap.set]; split <;> first | rfl | exact h3 id hi⟩
theorem Sim.aps {n k : Nat} : ∀ {h h2 : AHeap} (us : List Up), Sim n k h h2 → Sim n k (aps h us) (aps h2 us)
  | _, _, [], hs => hs
  | _, _, u :: us, hs => Sim.aps us (hs.ap u)
theorem Sim.trans {n k : Nat} {h1 h2 h3 : AHeap} (a : Sim n k h1 h2) (b : Sim n k h2 h3) : Sim n k h1 h3 :=
  ⟨b.1.trans a.1, fun id hi => (b.2 id hi).trans (a.2 id hi)⟩
theorem Sim.symm {n k : Nat} {h1 h2 : AHeap} (a : Sim n k h1 h2) : Sim n k h2 h1 := ⟨a.1.symm, fun id hi => (a.2 id hi).symm⟩
theorem Sim.kept {n k a : Nat} {h : AHeap} {x : AObj} (ha : n ≤ a ∧ a < n + k) (hn : n + k ≤ h.next) : Sim n k h (h.put a x) := by
  refine ⟨?_, fun id hi => ?_⟩
  · simp only [AHeap.put]; rw [if_pos (by omega)]
  · simp only [AHeap.put]; rw [if_neg (by intro e; subst e; exact hi ha)]
theorem put_ap {a : Nat} {x : AObj} {u : Up} {h : AHeap} (hne : u.id ≠ a) (hn : a < h.next) : u.ap (h.put a x) = (u.ap h).put a x := by
  cases u with
  | put nm y =>
    have hne : nm ≠ a := hne
    have h1 := next_ap (h := h) (.put nm y)
    refine heap_ext (fun j => ?_) ?_ fun j => ?_
    · simp only [Up.ap, AHeap.put]; split <;> split <;> first | rfl | omega
    · simp only [Up.ap, put_next]
      repeat' split
      all_goals omega
    · simp only [Up.ap, AHeap.put]; split <;> split <;> first | rfl | omega
  | set nm y =>
    have hne : nm ≠ a := hne
    refine heap_ext (fun j => ?_) rfl fun j => rfl
    simp only [Up.ap, AHeap.put, AHeap.set]; split <;> split <;> first | rfl | omega
theorem put_aps {a : Nat} {x : AObj} : ∀ {us : List Up} {h : AHeap}, (∀ u ∈ us, u.id ≠ a) → a < h.next → aps (h.put a x) us = (aps h us).put a x
  | [], h, _, _ => rfl
  | u :: us, h, hu, hn => by
    rw [aps_cons, aps_cons, put_ap (hu u (by simp)) hn]
    exact put_aps (fun v hv => hu v (by simp [hv])) (Nat.lt_of_lt_of_le hn (next_ap u))
theorem gap_aps {a : Nat} : ∀ {us : List Up} {h : AHeap}, (∀ u ∈ us, u.isSet = true ∨ u.id ≠ a) → h.gap a = true → (aps h us).gap a = true
  | [], h, _, hg => hg
  | u :: us, h, hu, hg => by
    rw [aps_cons]
    refine gap_aps (us := us) (fun v hv => hu v (by simp [hv])) ?_
    have hne := hu u (by simp)
    cases u with
    | put nm y =>
      have hne : nm ≠ a := by
        rcases hne with h1 | h1
        · cases h1
        · exact h1
      simp only [Up.ap, AHeap.put]; rw [if_neg (Ne.symm hne)]; exact hg
    | set nm y => exact hg

/-- What is done to the heap when just D is done. -/
def hA (us : Nat → List Up) (h : AHeap) (D : Nat → Bool) : Nat → AHeap
  | 0 => h
  | j + 1 => if D j then aps (hA us h D j) (us j) else hA us h D j
theorem hA_le {us : Nat → List Up} {D : Nat → Bool} : ∀ n, h.next ≤ (hA us h D n).next
  | 0 => Nat.le_refl _
  | n + 1 => by
    simp only [hA]; split
    · exact Nat.le_trans (hA_le n) (next_aps _)
    · exact hA_le n
theorem hA_phi {us : Nat → List Up} {D : Nat → Bool} {Φ : AHeap → Prop} (h0 : Φ h) {n : Nat} (hp : ∀ j, j < n → ∀ h2, Φ h2 → Φ (aps h2 (us j))) : ∀ i, i ≤ n → Φ (hA us h D i)
  | 0, _ => h0
  | i + 1, hi => by
    simp only [hA]; split
    · exact hp i (by omega) _ (hA_phi h0 hp i (by omega))
    · exact hA_phi h0 hp i (by omega)
theorem hA_stop {us : Nat → List Up} {D : Nat → Bool} {i : Nat} : ∀ n, i ≤ n → (∀ k, i ≤ k → k < n → D k = true → us k = []) → hA us h D n = hA us h D i
  | 0, hi, _ => by have : i = 0 := by omega
                   subst this; rfl
  | n + 1, hi, hk => by
    rcases Nat.eq_or_lt_of_le hi with rfl | hlt
    · rfl
    · rw [← hA_stop n (by omega) fun k h1 h2 => hk k h1 (by omega)]
      simp only [hA]
      split
      · rename_i hd
        rw [hk n (by omega) (by omega) hd]; rfl
      · rfl
theorem hA_text {us : Nat → List Up} {D D' : Nat → Bool} : ∀ i, (∀ k, k < i → us k ≠ [] → D k = D' k) → hA us h D i = hA us h D' i
  | 0, _ => rfl
  | i + 1, hk => by
    simp only [hA]
    rw [hA_text i fun k h1 => hk k (by omega)]
    by_cases he : us i = []
    · rw [he]; split <;> split <;> rfl
    · rw [hk i (by omega) he]
theorem hA_ins {us : Nat → List Up} {D D' : Nat → Bool} {i m : Nat} (hm : m ≤ h.next) (hi : D i = false) (hD : ∀ k, D' k = if k = i then true else D k) : ∀ n, i < n → (∀ k, i < k → k < n → D k = true → ∀ h2 : AHeap, m ≤ h2.next → aps (aps h2 (us i)) (us k) = aps (aps h2 (us k)) (us i)) → hA us h D' n = aps (hA us h D n) (us i)
  | 0, hlt, _ => by omega
  | n + 1, hlt, hc => by
    by_cases e : n = i
    · subst e
      have h1 : hA us h D' n = hA us h D n := hA_text n fun k hk _ => by rw [hD, if_neg (by omega)]
      simp only [hA]
      rw [hD, if_pos rfl, if_pos rfl, hi, h1]; rfl
    · have ih := hA_ins hm hi hD n (by omega) fun k h1 h2 => hc k h1 (by omega)
      simp only [hA]
      rw [hD, if_neg e, ih]
      split
      · rename_i hd
        exact hc n (by omega) (by omega) hd _ (Nat.le_trans hm (hA_le n))
      · rfl
theorem hA_gap {us : Nat → List Up} {D : Nat → Bool} {a : Nat} (h0 : h.gap a = true) {n : Nat} (hk : ∀ k, k < n → D k = true → ∀ u ∈ us k, u.isSet = true ∨ u.id ≠ a) : ∀ i, i ≤ n → (hA us h D i).gap a = true
  | 0, _ => h0
  | i + 1, hi => by
    simp only [hA]; split
    · rename_i hd
      exact gap_aps (hk i (by omega) hd) (hA_gap h0 hk i (by omega))
    · exact hA_gap h0 hk i (by omega)
theorem hA_sim {us : Nat → List Up} {D D' : Nat → Bool} {n k : Nat} (hn : n + k ≤ h.next) : ∀ i, (∀ j, j < i → us j = [] ∨ D j = D' j ∨ ∃ a x, (n ≤ a ∧ a < n + k) ∧ us j = [.put a x]) → Sim n k (hA us h D i) (hA us h D' i)
  | 0, _ => Sim.refl
  | i + 1, hj => by
    have ih := hA_sim hn i fun j h1 => hj j (by omega)
    have l1 := hA_le (h := h) (us := us) (D := D) i
    have l2 := hA_le (h := h) (us := us) (D := D') i
    simp only [hA]
    rcases hj i (by omega) with h1 | h1 | ⟨a, x, ha, h1⟩
    · rw [h1]; split <;> split <;> exact ih
    · rw [h1]; split
      · exact ih.aps _
      · exact ih
    · rw [h1]
      have s1 : Sim n k (hA us h D i) (aps (hA us h D i) [.put a x]) := Sim.kept ha (by omega)
      have s2 : Sim n k (hA us h D' i) (aps (hA us h D' i) [.put a x]) := Sim.kept ha (by omega)
      split <;> split
      · exact (s1.symm.trans ih).trans s2
      · exact s1.symm.trans ih
      · exact ih.trans s2
      · exact ih

end
end Go.Abs

/- The abstract layer, part 32: the law of such regions. -/
namespace Go.Abs
open Go

def heapA (l : List CI) (fs al : List Nat) (j : Nat) : Bool := !(free0 (l.getD j default).i || fs.contains j || al.contains j)
def touchA (l : List CI) (al ws rs fs : List Nat) (i j : Nat) : Bool :=
  (cslots (l.getD j default)).any (dslot (l.getD i default)) || (cslots (l.getD i default)).any (dslot (l.getD j default)) ||
  ((l.getD i default).d.isSome && (l.getD i default).d == (l.getD j default).d) ||
  ((ws.contains i || ws.contains j) && heapA l fs al i && heapA l fs al j) ||
  (al.contains i && heapA l fs al j && !rs.contains j) || (al.contains j && heapA l fs al i && !rs.contains i)
def chkA (l : List CI) (es : List (List Nat)) (al ws rs fs : List Nat) : Bool :=
  es.length == l.length && (List.range l.length).all fun j => (es.getD j []).all (fun k => k < j) && (List.range j).all fun i => !touchA l al ws rs fs i j || ((ancs es []).getD j 0).testBit i

/-- The text's order, walked: al = new blocks whose names (n0 on) are kept; ws = what else turns the heap; rs = those of them that don't look at al's; fs = what reads alike wherever it is drawn. -/
inductive DA (P : Program) (N : Nat) (Φ : AHeap → Prop) (n0 : Nat) (al ws rs fs : List Nat) (K : Env → AHeap → Prop) : Nat → List CI → Env → AHeap → Prop
  | nil {j : Nat} {e e' : Env} {h : AHeap} (hs : subE e' e) (hk : K e' h) : DA P N Φ n0 al ws rs fs K j [] e h
  | fx {j : Nat} {c : CI} {l : List CI} {e : Env} {h : AHeap} {r : Option AV} (us : List Up) (hx : al.contains j = false → FX P N c e h r (aps h us)) (h0 : free0 c.i = true → al.contains j = true ∨ us = [] ∧ ∀ h2, FX P N c e h2 r h2)
      (hw : ws.contains j = false → al.contains j = false → us = []) (ha : al.contains j = true → ∃ x, us = [.put (n0 + al.idxOf j) x] ∧ ∀ h2 : AHeap, ¬ h2.used (n0 + al.idxOf j) → FX P N c e h2 r (aps h2 us))
      (hrs : rs.contains j = true → ∀ h2, Sim n0 al.length h h2 → FX P N c e h2 r (aps h2 us)) (hu : al.contains j = false → (∀ u ∈ us, u.isSet = true ∨ ¬ (n0 ≤ u.id ∧ u.id < n0 + al.length)) ∧ (rs.contains j = true → ∀ u ∈ us, ¬ (n0 ≤ u.id ∧ u.id < n0 + al.length)))
      (hp : ∀ h2, Φ h2 → Φ (aps h2 us)) (hf : fs.contains j = true → us = [] ∧ ∀ h2, Φ h2 → FX P N c e h2 r h2)
      (k : DA P N Φ n0 al ws rs fs K (j + 1) l (putR c.d r e) (aps h us)) : DA P N Φ n0 al ws rs fs K j (c :: l) e h

section
variable {P : Program} {N : Nat} {e : Env} {h : AHeap} {Φ : AHeap → Prop} {n0 : Nat} {al ws rs fs : List Nat} {K : Env → AHeap → Prop} {l : List CI} {es : List (List Nat)}

structure TrA (P : Program) (N : Nat) (Φ : AHeap → Prop) (n0 : Nat) (al ws rs fs : List Nat) (c : Nat → CI) (ee : Nat → Env) (hh : Nat → AHeap) (rr : Nat → Option AV) (us : Nat → List Up) (j : Nat) : Prop where
  fx : al.contains j = false → FX P N (c j) (ee j) (hh j) (rr j) (aps (hh j) (us j))
  zero : free0 (c j).i = true → al.contains j = true ∨ us j = [] ∧ ∀ h2, FX P N (c j) (ee j) h2 (rr j) h2
  keep : ws.contains j = false → al.contains j = false → us j = []
  new : al.contains j = true → ∃ x, us j = [.put (n0 + al.idxOf j) x] ∧ ∀ h2 : AHeap, ¬ h2.used (n0 + al.idxOf j) → FX P N (c j) (ee j) h2 (rr j) (aps h2 (us j))
  rob : rs.contains j = true → ∀ h2, Sim n0 al.length (hh j) h2 → FX P N (c j) (ee j) h2 (rr j) (aps h2 (us j))
  ids : al.contains j = false → (∀ u ∈ us j, u.isSet = true ∨ ¬ (n0 ≤ u.id ∧ u.id < n0 + al.length)) ∧ (rs.contains j = true → ∀ u ∈ us j, ¬ (n0 ≤ u.id ∧ u.id < n0 + al.length))
  phi : ∀ h2, Φ h2 → Φ (aps h2 (us j))
  free : fs.contains j = true → us j = [] ∧ ∀ h2, Φ h2 → FX P N (c j) (ee j) h2 (rr j) h2
  env : ee (j + 1) = putR (c j).d (rr j) (ee j)
  heap : hh (j + 1) = aps (hh j) (us j)

theorem DA.trace : ∀ {j : Nat} {l : List CI} {e : Env} {h : AHeap}, DA P N Φ n0 al ws rs fs K j l e h →
    ∃ (ee : Nat → Env) (hh : Nat → AHeap) (rr : Nat → Option AV) (us : Nat → List Up), ee j = e ∧ hh j = h ∧ (∃ e', subE e' (ee (j + l.length)) ∧ K e' (hh (j + l.length))) ∧ ∀ i, j ≤ i → i < j + l.length → TrA P N Φ n0 al ws rs fs (fun k => l.getD (k - j) default) ee hh rr us i := by
  intro j l e h hd
  induction hd with
  | nil hs hk => exact ⟨fun _ => _, fun _ => _, fun _ => none, fun _ => [], rfl, rfl, ⟨_, hs, hk⟩, fun i h1 h2 => by simp at h2; omega⟩
  | @fx j c l e h r u hx h0 hw ha hrs hu hp hf k ih =>
    obtain ⟨ee, hh, rr, us, q1, q2, q3, q4⟩ := ih
    refine ⟨fun i => if i = j then e else ee i, fun i => if i = j then h else hh i, fun i => if i = j then r else rr i, fun i => if i = j then u else us i, by simp, by simp, ?_, fun i h1 h2 => ?_⟩
    · have hne : ¬ (j + 1 + l.length = j) := by omega
      have : j + (c :: l).length = j + 1 + l.length := by simp; omega
      simp only [this, hne, if_false]
      exact q3
    · rcases Nat.eq_or_lt_of_le h1 with rfl | hlt
      · have e1 : ((c :: l).getD (j - j) default) = c := by simp
        have e2 : ¬ (j + 1 = j) := by omega
        exact {
          fx := by simp only [e1, if_true]; exact hx
          zero := by simp only [e1, if_true]; exact h0
          keep := by simp only [if_true]; exact hw
          new := by simp only [e1, if_true]; exact ha
          rob := by simp only [e1, if_true]; exact hrs
          ids := by simp only [if_true]; exact hu
          phi := by simp only [if_true]; exact hp
          free := by simp only [e1, if_true]; exact hf
          env := by simp only [e1, e2, if_false, if_true, q1]
          heap := by simp only [e2, if_false, if_true, q2] }
      · have t := q4 i hlt (by simp at h2; omega)
        have e1 : ((c :: l).getD (i - j) default) = l.getD (i - (j + 1)) default := by
          have : i - j = (i - (j + 1)) + 1 := by omega
          rw [this]; simp
        have e2 : ¬ (i + 1 = j) := by omega
        have e3 : ¬ (i = j) := by omega
        exact {
          fx := by simpa only [e1, e3, if_false] using t.fx
          zero := by simpa only [e1, e3, if_false] using t.zero
          keep := by simpa only [e3, if_false] using t.keep
          new := by simpa only [e1, e3, if_false] using t.new
          rob := by simpa only [e1, e3, if_false] using t.rob
          ids := by simpa only [e3, if_false] using t.ids
          phi := by simpa only [e3, if_false] using t.phi
          free := by simpa only [e1, e3, if_false] using t.free
          env := by simpa only [e1, e2, e3, if_false] using t.env
          heap := by simpa only [e2, e3, if_false] using t.heap }

theorem AW.dregA {Q : Exit → Env → AHeap → Prop} (hm : P.follows .mixedOrders = true) (hc : chkA l es al ws rs fs = true) (hn0 : n0 + al.length ≤ h.next) (hgap : ∀ id, n0 ≤ id → id < n0 + al.length → h.gap id = true) (hphi : Φ h) (hd : DA P N Φ n0 al ws rs fs (fun e h => Q .normal e h) 0 l e h) : AW P N (.dreg l es) Q e h := by
  intro code hcode m w a hr he
  cases code <;> simp only [compC] at hcode <;> try (cases hcode; done)
  · rename_i id ops dr
    split at hcode
    · rename_i hdr
      subst hdr
      injection hcode with hl hes
      refine wp_region_any hm ?_
      obtain ⟨ee, hh, rr, us, q1, q2, q3, q4⟩ := hd.trace
      simp only [Nat.zero_add] at q3 q4
      have hn : ops.size = l.length := by rw [← hl]; simp [compR]
      -- the checks
      simp only [chkA, Bool.and_eq_true, List.all_eq_true, List.mem_range, beq_iff_eq, decide_eq_true_eq] at hc
      obtain ⟨hlen, hchk⟩ := hc
      have hback : ∀ j, j < l.length → ∀ k ∈ es.getD j [], k < j := fun j hj k hk => by simpa using (hchk j hj).1 k hk
      have htouch : ∀ i j, i < j → j < l.length → touchA l al ws rs fs i j = true → Reach es i j := fun i j hij hj ht => by
        have := (hchk j hj).2 i hij
        rw [ht] at this
        exact ancs_ok es es [] rfl (fun j i hb => by simp at hb) j i (by simpa using this)
      have hes' : ∀ j (hj : j < ops.size), es.getD j [] = ((ops[j]).after.toList.filter (Region.binds .any)).map (·.on) := fun j hj => by
        rw [← hes]; simp [edgesR, List.getD_eq_getElem?_getD, hj]
      have hci : ∀ j (hj : j < ops.size), compI P N ops (ops[j]) = l.getD j default := fun j hj => by
        rw [← hl]; simp [compR, List.getD_eq_getElem?_getD, hj]
      have henv : ∀ j, j < l.length → ee (j + 1) = putR (l.getD j default).d (rr j) (ee j) := fun j hj => (q4 j (Nat.zero_le _) hj).env
      have hhT : ∀ i, i ≤ l.length → hh i = hA us h (fun _ => true) i := fun i => by
        induction i with
        | zero => intro _; exact q2
        | succ i ih => intro hi; rw [(q4 i (Nat.zero_le _) (by omega)).heap, ih (by omega)]; rfl
      obtain ⟨ez, q3s, q3⟩ := q3
      obtain ⟨c, hcc'⟩ : ∃ c : Nat → CI, ∀ k, l.getD k default = c k := ⟨_, fun _ => rfl⟩
      have ecc : (fun k => l.getD (k - 0) default) = c := funext fun k => by rw [Nat.sub_zero, hcc']
      rw [ecc] at q4
      simp only [hcc'] at henv hci
      -- the induction
      suffices H : ∀ (fuel : Nat) (listed : Array Bool) (U : List Nat) (m1 : Inj) (w1 : World) (a1 : Act), listed.size = l.length → U.length ≤ fuel → U.Nodup → (∀ j, j < l.length → (listed.getD j false = false ↔ j ∈ U)) →
          (∀ j, listed.getD j false = true → ∀ k ∈ es.getD j [], listed.getD k false = true) →
          HR m1 (hA us h (fun j => listed.getD j false) l.length) w1 → ER N m1 (hA us h (fun j => listed.getD j false) l.length) w1 (eD c rr e (fun j => listed.getD j false) l.length) a1 →
          Step m h w m1 (hA us h (fun j => listed.getD j false) l.length) w1 → wpAny P .any ops (PA N Q m h w) fuel listed a1 w1 by
        have st := step_drew (m := m) (h := h) (w := w)
        refine H ops.size (Array.replicate ops.size false) (List.range l.length) m { w with drawn := w.drawn + 1 } a (by simp [hn]) (by simp [hn]) List.nodup_range (fun j hj => by simp [List.getD, hn, hj]) (fun j hj => ?_) ?_ ?_ ?_
        · rw [rep_false] at hj; cases hj
        all_goals
          have e1 : hA us h (fun j => (Array.replicate ops.size false).getD j false) l.length = h := hA_stop (i := 0) l.length (Nat.zero_le _) fun k _ _ hd => by rw [rep_false] at hd; cases hd
        · rw [e1]; exact hr.drew
        · rw [e1]
          have e2 : ∀ s, lk s (eD c rr e (fun j => (Array.replicate ops.size false).getD j false) l.length) = lk s e := fun s => eD_stop (i := 0) l.length (Nat.zero_le _) fun k _ _ _ => rep_false _ _
          have he' := he.step st
          exact ⟨he'.size, he'.defers, fun i v hv => he'.val i v (by rw [← e2]; exact hv)⟩
        · rw [e1]; exact st
      intro fuel
      -- all is done
      have fin : ∀ (listed : Array Bool) (m1 : Inj) (w1 : World) (a1 : Act), listed.size = l.length → Region.ready .any ops listed = [] →
          HR m1 (hA us h (fun j => listed.getD j false) l.length) w1 → ER N m1 (hA us h (fun j => listed.getD j false) l.length) w1 (eD c rr e (fun j => listed.getD j false) l.length) a1 →
          Step m h w m1 (hA us h (fun j => listed.getD j false) l.length) w1 → PA N Q m h w .normal a1 w1 := fun listed m1 w1 a1 hsz hrd h1 h2 h3 => by
        have hall : ∀ j, j < l.length → listed.getD j false = true := fun j => by
          induction j using Nat.strongRecOn with
          | ind j ih =>
            intro hj
            cases hx : listed.getD j false
            · have : j ∈ Region.ready .any ops listed := mem_ready.2 ⟨by simpa [Array.getD_eq_getD_getElem?, hsz, hj] using hx, ops[j]'(by omega), by simp [hn, hj], fun ed hed hb => ?_⟩
              · rw [hrd] at this; cases this
              · have hk : ed.on ∈ es.getD j [] := by
                  rw [hes' j (by omega)]
                  exact List.mem_map.2 ⟨ed, List.mem_filter.2 ⟨by simpa using hed, hb⟩, rfl⟩
                have := hback j hj _ hk
                exact ih _ this (by omega)
            · rfl
        have e1 : hA us h (fun j => listed.getD j false) l.length = hh l.length := by rw [hhT _ (Nat.le_refl _)]; exact hA_text l.length fun k hk _ => hall k hk
        have e2 : ∀ s, lk s (eD c rr e (fun j => listed.getD j false) l.length) = lk s (ee l.length) := fun s => eD_text q1 henv l.length (Nat.le_refl _) fun k hk _ => hall k hk
        rw [e1] at h1 h2 h3
        exact ⟨m1, ez, hh l.length, h1, ⟨h2.size, h2.defers, fun i v hv => h2.val i v (by rw [e2]; exact q3s i v hv)⟩, h3, q3⟩
      induction fuel with
      | zero =>
        intro listed U m1 w1 a1 hsz hU hnd hmem hcl h1 h2 h3
        have hU0 : U = [] := List.length_eq_zero_iff.1 (by omega)
        subst hU0
        have hrd : Region.ready .any ops listed = [] := List.eq_nil_iff_forall_not_mem.2 fun j hj => by
          obtain ⟨g0, o, g1, _⟩ := mem_ready.1 hj
          have hj' : j < l.length := by rw [← hn]; exact (Array.getElem?_eq_some_iff.1 g1).1
          have := (hmem j hj').1 (by simpa [Array.getD_eq_getD_getElem?, hsz, hj'] using g0)
          cases this
        exact ⟨hrd, fin listed m1 w1 a1 hsz hrd h1 h2 h3⟩
      | succ fuel ih =>
        intro listed U m1 w1 a1 hsz hU hnd hmem hcl h1 h2 h3
        refine ⟨fun hrd => fin listed m1 w1 a1 hsz hrd h1 h2 h3, fun i hi => ?_⟩
        obtain ⟨g0, o, g1, g2⟩ := mem_ready.1 hi
        have hi' : i < l.length := by rw [← hn]; exact (Array.getElem?_eq_some_iff.1 g1).1
        have hio : i < ops.size := by omega
        have ho : ops[i] = o := (Array.getElem?_eq_some_iff.1 g1).2
        have hDi : listed.getD i false = false := by simpa [Array.getD_eq_getD_getElem?, hsz, hi'] using g0
        have hpre : ∀ k ∈ es.getD i [], listed.getD k false = true := fun k hk => by
          rw [hes' i hio, ho] at hk
          obtain ⟨ed, hed, rfl⟩ := List.mem_map.1 hk
          obtain ⟨he1, he2⟩ := List.mem_filter.1 hed
          exact g2 ed (by simpa using he1) he2
        -- ahead: done; behind: not done
        have ahead : ∀ k, k < i → touchA l al ws rs fs k i = true → listed.getD k false = true := fun k hk ht => (htouch k i hk hi' ht).done (D := fun j => listed.getD j false) hcl hpre
        have behind : ∀ k, i < k → k < l.length → touchA l al ws rs fs i k = true → listed.getD k false = false := fun k hk hkl ht => by
          cases hx : listed.getD k false
          · rfl
          · have := (htouch i k hk hkl ht).done (D := fun j => listed.getD j false) hcl (hcl k hx)
            rw [hDi] at this; cases this
        have t := q4 i (Nat.zero_le _) hi'
        -- the slots
        have hsl : ∀ s ∈ cslots (c i), lk s (eD c rr e (fun j => listed.getD j false) l.length) = lk s (ee i) := fun s hs => by
          rw [eD_stop (i := i) l.length (by omega) fun k hk1 hk2 hkd => ?_]
          · exact eD_text q1 henv i (by omega) fun k hk1 hkd => ahead k hk1 (by
              simp only [touchA, hcc', Bool.or_eq_true]
              refine .inl (.inl ?_)
              exact .inl (.inl (.inl (List.any_eq_true.2 ⟨s, hs, by simp [dslot, hkd]⟩))))
          · rcases Nat.eq_or_lt_of_le hk1 with rfl | hlt
            · exact hDi
            · exact behind k hlt hk2 (by
                simp only [touchA, hcc', Bool.or_eq_true]
                refine .inl (.inl ?_)
                exact .inl (.inl (.inr (List.any_eq_true.2 ⟨s, hs, by simp [dslot, hkd]⟩))))
        -- what turns the heap
        have hus : ∀ k, k < l.length → us k ≠ [] → al.contains k = false → ws.contains k = true ∧ heapA l fs al k = true := fun k hk hne ha => by
          have tk := q4 k (Nat.zero_le _) hk
          refine ⟨?_, ?_⟩
          · cases hw : ws.contains k
            · exact absurd (tk.keep hw ha) hne
            · rfl
          · cases hf0 : free0 (c k).i
            · cases hff : fs.contains k
              · unfold heapA; rw [hcc', hf0, hff, ha]; rfl
              · exact absurd (tk.free hff).1 hne
            · rcases tk.zero hf0 with h1 | h1
              · rw [ha] at h1; cases h1
              · exact absurd h1.1 hne
        have hname : ∀ k, al.contains k = true → n0 ≤ n0 + al.idxOf k ∧ n0 + al.idxOf k < n0 + al.length := fun k hk => ⟨Nat.le_add_right _ _, Nat.add_lt_add_left (List.idxOf_lt_length_of_mem (by simpa using hk)) _⟩
        have hinj : ∀ k k', al.contains k = true → al.contains k' = true → n0 + al.idxOf k = n0 + al.idxOf k' → k = k' := fun k k' h1 h2 h3 => by
          have a1 := List.getElem_idxOf (List.idxOf_lt_length_of_mem (by simpa using h1 : k ∈ al))
          have a2 := List.getElem_idxOf (List.idxOf_lt_length_of_mem (by simpa using h2 : k' ∈ al))
          have a3 : al.idxOf k = al.idxOf k' := by omega
          rw [← a1, ← a2]
          simp only [a3]
        have hcomm : ∀ k, i < k → k < l.length → listed.getD k false = true → ∀ h2 : AHeap, n0 + al.length ≤ h2.next → aps (aps h2 (us i)) (us k) = aps (aps h2 (us k)) (us i) := fun k hk hkl hdk h2 hn2 => by
          by_cases hie : us i = []
          · rw [hie]; rfl
          by_cases hke : us k = []
          · rw [hke]; rfl
          have tk := q4 k (Nat.zero_le _) hkl
          cases hai : al.contains i <;> cases hak : al.contains k
          · obtain ⟨w1, y1⟩ := hus i hi' hie hai
            obtain ⟨_, y2⟩ := hus k hkl hke hak
            have := behind k hk hkl (by
              simp only [touchA, w1, y1, y2, Bool.or_eq_true]
              exact .inl (.inl (.inr (by simp))))
            rw [this] at hdk; cases hdk
          · obtain ⟨x, hx, _⟩ := tk.new hak
            have hna := hname k hak
            obtain ⟨w1, y1⟩ := hus i hi' hie hai
            cases hri : rs.contains i
            · have := behind k hk hkl (by
                simp only [touchA, hak, y1, hri, Bool.or_eq_true]
                exact .inr (by simp))
              rw [this] at hdk; cases hdk
            · rw [hx]
              exact (put_aps (fun u hu e1 => (t.ids hai).2 hri u hu (by omega)) (by omega)).symm
          · obtain ⟨x, hx, _⟩ := t.new hai
            have hna := hname i hai
            obtain ⟨w1, y1⟩ := hus k hkl hke hak
            cases hrk : rs.contains k
            · have := behind k hk hkl (by
                simp only [touchA, hai, y1, hrk, Bool.or_eq_true]
                exact .inl (.inr (by simp)))
              rw [this] at hdk; cases hdk
            · rw [hx]
              exact put_aps (fun u hu e1 => (tk.ids hak).2 hrk u hu (by omega)) (by omega)
          · obtain ⟨x, hx, _⟩ := t.new hai
            obtain ⟨y, hy, _⟩ := tk.new hak
            have hna := hname i hai
            rw [hx, hy]
            exact put_ap (u := .put _ y) (fun e1 => absurd (hinj _ _ hak hai e1) (by omega)) (by omega)
        -- the heap, for what looks at it
        have hexact : heapA l fs al i = true → rs.contains i = false → hA us h (fun j => listed.getD j false) l.length = hh i := fun hy hri => by
          rw [hA_stop (i := i) l.length (by omega) fun k hk1 hk2 hkd => ?_, hhT i (by omega)]
          · refine hA_text i fun k hk1 hke => ahead k hk1 ?_
            cases hak : al.contains k
            · obtain ⟨w2, y2⟩ := hus k (by omega) hke hak
              simp only [touchA, w2, hy, y2, Bool.or_eq_true]
              exact .inl (.inl (.inr (by simp)))
            · simp only [touchA, hak, hy, hri, Bool.or_eq_true]
              exact .inl (.inr (by simp))
          · rcases Nat.eq_or_lt_of_le hk1 with rfl | hlt
            · rw [hDi] at hkd; cases hkd
            · refine Classical.byContradiction fun hke => ?_
              have := behind k hlt hk2 (by
                cases hak : al.contains k
                · obtain ⟨w2, y2⟩ := hus k (by omega) hke hak
                  simp only [touchA, w2, hy, y2, Bool.or_eq_true]
                  exact .inl (.inl (.inr (by simp)))
                · simp only [touchA, hak, hy, hri, Bool.or_eq_true]
                  exact .inr (by simp))
              rw [this] at hkd; cases hkd
        have hrobust : heapA l fs al i = true → Sim n0 al.length (hh i) (hA us h (fun j => listed.getD j false) l.length) := fun hy => by
          have e1 : hh i = hA us h (fun k => decide (k < i)) l.length := by
            rw [hhT i (by omega), hA_stop (i := i) (D := fun k => decide (k < i)) l.length (by omega) fun k hk1 _ hd => absurd (of_decide_eq_true hd) (by omega)]
            exact hA_text i fun k hk _ => by simp [hk]
          rw [e1]
          refine hA_sim hn0 l.length fun k hk => ?_
          by_cases hke : us k = []
          · exact .inl hke
          cases hak : al.contains k
          · refine .inr (.inl ?_)
            obtain ⟨w2, y2⟩ := hus k hk hke hak
            rcases Nat.lt_trichotomy k i with h1 | h1 | h1
            · rw [ahead k h1 (by
                simp only [touchA, w2, hy, y2, Bool.or_eq_true]
                exact .inl (.inl (.inr (by simp))))]
              simp [h1]
            · subst h1; rw [hDi]; simp
            · rw [behind k h1 hk (by
                simp only [touchA, w2, hy, y2, Bool.or_eq_true]
                exact .inl (.inl (.inr (by simp))))]
              simp; omega
          · obtain ⟨x, hx, _⟩ := (q4 k (Nat.zero_le _) hk).new hak
            exact .inr (.inr ⟨_, x, hname k hak, hx⟩)
        have hnew : ∀ k, (listed.setIfInBounds i true).getD k false = (if k = i then true else listed.getD k false) := fun k => by
          by_cases hk : k = i
          · subst hk; simp [hsz, hi']
          · rw [if_neg hk]; exact getD_set_ne false (Ne.symm hk)
        have hDn : (fun k => (listed.setIfInBounds i true).getD k false) = fun k => if k = i then true else listed.getD k false := funext hnew
        -- what holds behind it
        have go : ∀ h', hA us h (fun k => if k = i then true else listed.getD k false) l.length = h' → FX P N (c i) (ee i) (hA us h (fun j => listed.getD j false) l.length) (rr i) h' →
            wpOp P ops (PA N Q m h w) i (wpAny P .any ops (PA N Q m h w) fuel (listed.setIfInBounds i true)) a1 w1 := fun h' hh' hfx => by
          refine hfx ops i o g1 (by rw [← ho, hci i hio]) _ hsl m1 w1 a1 _ _ h1 h2 fun m2 w2 a2 r1 r2 r3 => ?_
          refine ih (listed.setIfInBounds i true) (U.erase i) m2 w2 a2 (by simp [hsz]) ?_ (hnd.erase i) (fun j hj => ?_) (fun j hj => ?_) ?_ ?_ ?_
          · rw [List.length_erase_of_mem ((hmem i hi').1 hDi)]; omega
          · rw [hnew, hnd.mem_erase_iff]
            by_cases hji : j = i
            · simp [hji]
            · simp [hji, ← hmem j hj]
          · intro k hk
            rw [hnew] at hj ⊢
            by_cases hki : k = i
            · simp [hki]
            · rw [if_neg hki]
              by_cases hji : j = i
              · subst hji; exact hpre k hk
              · rw [if_neg hji] at hj; exact hcl j hj k hk
          · rw [hDn, hh']; exact r1
          · rw [hDn, hh']
            refine ⟨r2.size, r2.defers, fun s v hv => r2.val s v ?_⟩
            rw [← hv]
            by_cases hds : (c i).d = some s
            · rw [hds, lk_putR_same]
              rw [eD_stop (i := i + 1) l.length (by omega) fun k hk1 hk2 hkd => ?_]
              · simp only [eD, if_true, hds, lk_putR_same]
              · have : ¬ k = i := by omega
                simp only [this, if_false]
                exact behind k (by omega) hk2 (by
                  simp only [touchA, hcc', Bool.or_eq_true]
                  refine .inl (.inl ?_)
                  exact .inl (.inr (by simp [hds, hkd])))
            · rw [lk_putR_ne hds]
              have key : ∀ n, lk s (eD c rr e (fun j => listed.getD j false) n) = lk s (eD c rr e (fun k => if k = i then true else listed.getD k false) n) := fun n => by
                induction n with
                | zero => rfl
                | succ n ihn =>
                  simp only [eD]
                  by_cases hni : n = i
                  · subst hni
                    simp only [if_true, hDi, Bool.false_eq_true, if_false]
                    rw [lk_putR_ne hds]; exact ihn
                  · simp only [hni, if_false]
                    split
                    · by_cases hdn : (c n).d = some s
                      · rw [hdn, lk_putR_same, lk_putR_same]
                      · rw [lk_putR_ne hdn, lk_putR_ne hdn]; exact ihn
                    · exact ihn
              exact key _
          · rw [hDn, hh']; exact h3.trans r3
        have hins : hA us h (fun k => if k = i then true else listed.getD k false) l.length = aps (hA us h (fun j => listed.getD j false) l.length) (us i) :=
          hA_ins hn0 hDi (fun _ => rfl) l.length hi' hcomm
        refine go _ hins ?_
        have hnew : al.contains i = true → FX P N (c i) (ee i) (hA us h (fun j => listed.getD j false) l.length) (rr i) (aps (hA us h (fun j => listed.getD j false) l.length) (us i)) := fun hai => by
          obtain ⟨x, _, hfx⟩ := t.new hai
          have hna := hname i hai
          refine hfx _ fun hu => ?_
          have := hA_gap (us := us) (D := fun j => listed.getD j false) (hgap _ hna.1 hna.2) (n := l.length) (fun k hk hdk u hu => by
            cases hak : al.contains k
            · rcases ((q4 k (Nat.zero_le _) hk).ids hak).1 u hu with h1 | h1
              · exact .inl h1
              · exact .inr fun e1 => h1 (by omega)
            · obtain ⟨y, hy, _⟩ := (q4 k (Nat.zero_le _) hk).new hak
              rw [hy, List.mem_singleton] at hu
              subst hu
              refine .inr fun e1 => ?_
              have := hinj _ _ hak hai e1
              subst this
              rw [hDi] at hdk; cases hdk) l.length (Nat.le_refl _)
          rw [hu.2] at this; cases this
        cases hf0 : free0 (c i).i
        · cases hff : fs.contains i
          · cases hai : al.contains i
            · have hy : heapA l fs al i = true := by unfold heapA; rw [hcc', hf0, hff, hai]; rfl
              cases hri : rs.contains i
              · rw [hexact hy hri]; exact t.fx hai
              · exact t.rob hri _ (hrobust hy)
            · exact hnew hai
          · rw [(t.free hff).1]
            exact (t.free hff).2 _ (hA_phi hphi (fun j hj => (q4 j (Nat.zero_le _) hj).phi) l.length (Nat.le_refl _))
        · rcases t.zero hf0 with hai | h1
          · exact hnew hai
          · rw [h1.1]
            exact h1.2 _
    · cases hcode
  · split at hcode <;> cases hcode
  · split at hcode <;> cases hcode
end
end Go.Abs

/- The abstract layer, part 33: the walk through such a region. -/
namespace Go.Abs
open Go

section
variable {P : Program} {N : Nat} {e e' e2 : Env} {h h' : AHeap} {Q : Exit → Env → AHeap → Prop} {l : List CI} {Φ : AHeap → Prop} {n0 : Nat} {al ws rs fs : List Nat} {K : Env → AHeap → Prop} {j : Nat}

theorem DA.env (hd : DA P N Φ n0 al ws rs fs K j l e2 h) : ∀ {e : Env}, (∀ s, lk s e2 = lk s e) → DA P N Φ n0 al ws rs fs K j l e h := by
  induction hd with
  | nil hs hk => exact fun he => .nil (fun i v hv => (he i) ▸ hs i v hv) hk
  | fx us hx h0 hw ha hr hu hp hf _ ih =>
    exact fun he => .fx us (fun hz => (hx hz).env he) (fun hz => (h0 hz).imp id fun h1 => ⟨h1.1, fun h2 => (h1.2 h2).env he⟩) hw (fun hz => by
      obtain ⟨x, h1, h2⟩ := ha hz
      exact ⟨x, h1, fun h3 h4 => (h2 h3 h4).env he⟩) (fun hz h2 h3 => (hr hz h2 h3).env he) hu hp (fun hz => ⟨(hf hz).1, fun h2 h3 => ((hf hz).2 h2 h3).env he⟩) (ih (lk_putR_congr he))
theorem DA.pin {s : Nat} {t : Bool} (hc : lk s e = some (.bool t)) (h1 : t = true → DA P N Φ n0 al ws rs fs K j l ((s, some (.bool true)) :: e) h) (h2 : t = false → DA P N Φ n0 al ws rs fs K j l ((s, some (.bool false)) :: e) h) : DA P N Φ n0 al ws rs fs K j l e h := by
  have key : ∀ b, t = b → ∀ i, lk i ((s, some (.bool b)) :: e) = lk i e := fun b hb i => by
    simp only [lk_cons, lk_nil]
    split
    · rename_i e1; subst e1; rw [hc, hb]
    · rfl
  cases t
  · exact (h2 rfl).env (key false rfl)
  · exact (h1 rfl).env (key true rfl)
theorem DA.endL (hk : K e h) : DA P N Φ n0 al ws rs fs K j [] e h := .nil (fun _ _ hv => hv) hk
/-- An operation that leaves the heap as it is. -/
theorem DA.go {c : CI} {e' : Env} (k : DA P N Φ n0 al ws rs fs K (j + 1) l e' h) (hs : Stp c e h e' h := by exact Stp.auto) (hf : fs.contains j = false := by exact rfl) (ha : al.contains j = false := by exact rfl) (hr : rs.contains j = false := by exact rfl) : DA P N Φ n0 al ws rs fs K j (c :: l) e h := by
  obtain ⟨r, he, hx, h0⟩ := FX.of_stp (P := P) (N := N) hs
  subst he
  exact .fx [] (fun _ => hx) (fun hz => .inr ⟨rfl, (h0 hz).2⟩) (fun _ _ => rfl) (fun hz => by rw [ha] at hz; cases hz) (fun hz => by rw [hr] at hz; cases hz) (fun _ => ⟨by simp, by simp⟩) (fun _ h2 => h2) (fun hz => by rw [hf] at hz; cases hz) k
/-- One that reads alike wherever it is drawn. -/
theorem DA.goF {c : CI} {n : Nat} {W : List Nat} {h0 : AHeap} (k : DA P N (PhiW n W h0) n0 al ws rs fs K (j + 1) l e' h) (hs : ∀ h2, PhiW n W h0 h2 → Stp c e h2 e' h2 := by
    intro h2 hp2
    first
      | (apply Stp.load1; exact rfl; exact (hp2 _ (by omega) (by simp)).trans gH; exact (by first | exact getC_at rfl rfl | exact getC_all rfl | exact getC_sub (Nat.le_of_ble_eq_true rfl) (by first | (simp only [putC, AV.cs, encP, encN, encI, encS, encA, List.take_succ_cons, List.take_zero, List.take_nil, List.drop_succ_cons, List.drop_zero, List.drop_nil, List.cons_append, List.nil_append, List.append_nil, List.length_cons, List.length_nil, Nat.zero_add, Nat.add_zero, Nat.reduceAdd]; exact rfl) | exact rfl) | exact getC_sub (by simp) (by first | (simp only [putC, AV.cs, encP, encN, encI, encS, encA, List.take_succ_cons, List.take_zero, List.take_nil, List.drop_succ_cons, List.drop_zero, List.drop_nil, List.cons_append, List.nil_append, List.append_nil, List.length_cons, List.length_nil, Nat.zero_add, Nat.add_zero, Nat.reduceAdd]; exact rfl) | exact rfl)); exact (by first | exact True.intro | exact rfl))
      | exact Stp.auto) (hp : PhiW n W h0 h := by repeat first | exact PhiW.refl | refine PhiW.put (by omega) ?_ | refine PhiW.setW (by simp) ?_ | refine PhiW.setN (by omega) ?_ | exact fun _ _ _ => rfl) (ha : al.contains j = false := by exact rfl) (hr : rs.contains j = false := by exact rfl) : DA P N (PhiW n W h0) n0 al ws rs fs K j (c :: l) e h := by
  have key : ∀ h2, PhiW n W h0 h2 → ∃ r, e' = putR c.d r e ∧ FX P N c e h2 r h2 ∧ (free0 c.i = true → h2 = h2 ∧ ∀ h3, FX P N c e h3 r h3) := fun h2 h3 => FX.of_stp (hs h2 h3)
  obtain ⟨r, he, hx, hz⟩ := key h hp
  subst he
  refine .fx [] (fun _ => hx) (fun hy => .inr ⟨rfl, (hz hy).2⟩) (fun _ _ => rfl) (fun hy => by rw [ha] at hy; cases hy) (fun hy => by rw [hr] at hy; cases hy) (fun _ => ⟨by simp, by simp⟩) (fun _ h2 => h2) (fun _ => ⟨rfl, fun h2 h3 => ?_⟩) k
  obtain ⟨r2, he2, hx2, _⟩ := key h2 h3
  cases hd : c.d with
  | none =>
    intro ops i o ho hc e3 hs3 m w a KK QQ hr2 he3 hk
    exact hx2 ops i o ho hc e3 hs3 m w a KK QQ hr2 he3 (by rw [hd] at hk ⊢; exact hk)
  | some d =>
    rw [hd] at he2
    simp only [putR, List.cons.injEq, Prod.mk.injEq, true_and, and_true] at he2
    rw [he2]; exact hx2
/-- A new block. -/
theorem DA.new {d : Nat} {z : List AV} {g : Option (Nat × Bool)} {i n : Nat} {W : List Nat} {h0 : AHeap} (k : DA P N (PhiW n W h0) n al ws rs fs K (j + 1) l ((d, some (.ptr (n + i) 0 0)) :: e) (h.put (n + i) (.mem z.length [z])))
    (hi : al.idxOf j = i := by first | exact (rfl : _ = 0) | exact (rfl : _ = 1) | exact (rfl : _ = 2) | exact (rfl : _ = 3) | exact (rfl : _ = 4)) (hg : met e g := by first | exact True.intro | exact rfl) (ha : al.contains j = true := by exact rfl) (hr : rs.contains j = false := by exact rfl) (hf : fs.contains j = false := by exact rfl) : DA P N (PhiW n W h0) n al ws rs fs K j (⟨some d, .alloc z, g⟩ :: l) e h := by
  subst hi
  exact .fx (r := some (.ptr (n + al.idxOf j) 0 0)) [.put (n + al.idxOf j) (.mem z.length [z])] (fun hz => by rw [ha] at hz; cases hz) (fun hz => by simp [free0] at hz) (fun _ hz => by rw [ha] at hz; cases hz) (fun _ => ⟨_, rfl, fun h2 hu => FX.allocN hu hg⟩) (fun hz => by rw [hr] at hz; cases hz)
    (fun hz => by rw [ha] at hz; cases hz) (fun h2 hp => PhiW.put (Nat.le_add_right _ _) hp) (fun hz => by rw [hf] at hz; cases hz) k
/-- A store, in its order. -/
theorem DA.set {c : CI} {n id : Nat} {W : List Nat} {h0 : AHeap} {x : Option AObj} (k : DA P N (PhiW n W h0) n0 al ws rs fs K (j + 1) l e' (h.set id x)) (hs : Stp c e h e' (h.set id x) := by exact Stp.auto) (hf : fs.contains j = false := by exact rfl) (hw : ws.contains j = true := by exact rfl) (ha : al.contains j = false := by exact rfl) (hr : rs.contains j = false := by exact rfl) (hz : free0 c.i = false := by exact rfl) (hp : ∀ h2, PhiW n W h0 h2 → PhiW n W h0 (h2.set id x) := by first | exact fun _ => PhiW.setN (by omega) | exact fun _ => PhiW.setW (by simp; done)) :
    DA P N (PhiW n W h0) n0 al ws rs fs K j (c :: l) e h := by
  obtain ⟨r, he, hx, _⟩ := FX.of_stp (P := P) (N := N) hs
  subst he
  exact .fx [.set id x] (fun _ => hx) (fun hy => by rw [hz] at hy; cases hy) (fun hy => by rw [hw] at hy; cases hy) (fun hy => by rw [ha] at hy; cases hy) (fun hy => by rw [hr] at hy; cases hy) (fun _ => ⟨by simp [Up.isSet], fun hy => by rw [hr] at hy; cases hy⟩) hp (fun hy => by rw [hf] at hy; cases hy) k
/-- A call that turns two objects and doesn't look at the new ones. -/
theorem DA.callSS {d : Option Nat} {f n i1 i2 : Nat} {x1 x2 : Option AObj} {W : List Nat} {h0 : AHeap} {xs : List Opd} {g : Option (Nat × Bool)} {vs us : List AV} {r : AV} (hv : evL e xs = some us) (hg : met e g) (hs : SubL us vs) (hf : fs.contains j = false) (hw : ws.contains j = true) (ha : al.contains j = false) (hp : ∀ h2, PhiW n W h0 h2 → PhiW n W h0 ((h2.set i1 x1).set i2 x2))
    (hn : i1 < n0 ∧ i2 < n0) (hac : ∀ h2, Sim n0 al.length h h2 → AE P f vs h2 r ((h2.set i1 x1).set i2 x2)) (k : DA P N (PhiW n W h0) n0 al ws rs fs K (j + 1) l (putR d (some r) e) ((h.set i1 x1).set i2 x2)) : DA P N (PhiW n W h0) n0 al ws rs fs K j (⟨d, .call f xs, g⟩ :: l) e h := by
  refine .fx [.set i1 x1, .set i2 x2] (fun _ => FX.call hg hv ((hac h Sim.refl).sub hs)) (fun hy => by simp [free0] at hy) (fun hy => by rw [hw] at hy; cases hy) (fun hy => by rw [ha] at hy; cases hy) (fun _ h2 h3 => FX.call hg hv ((hac h2 h3).sub hs)) (fun _ => ⟨by simp [Up.isSet], fun _ u hu => ?_⟩) hp (fun hy => by rw [hf] at hy; cases hy) k
  simp only [List.mem_cons, List.not_mem_nil, or_false] at hu
  rcases hu with rfl | rfl
  · show ¬ (n0 ≤ i1 ∧ _); omega
  · show ¬ (n0 ≤ i2 ∧ _); omega
theorem DA.callS {d : Option Nat} {f : Nat} {xs : List Opd} {g : Option (Nat × Bool)} {vs us : List AV} {r : AV} (hv : evL e xs = some us) (hg : met e g) (hs : SubL us vs) (hf : fs.contains j = false) (ha : al.contains j = false) (hr : rs.contains j = false) (hac : AE P f vs h r h) (k : DA P N Φ n0 al ws rs fs K (j + 1) l (putR d (some r) e) h) : DA P N Φ n0 al ws rs fs K j (⟨d, .call f xs, g⟩ :: l) e h :=
  .fx [] (fun _ => FX.call hg hv (hac.sub hs)) (fun hy => by simp [free0] at hy) (fun _ _ => rfl) (fun hy => by rw [ha] at hy; cases hy) (fun hy => by rw [hr] at hy; cases hy) (fun _ => ⟨by simp, by simp⟩) (fun _ h2 => h2) (fun hy => by rw [hf] at hy; cases hy) k
/-- Two codes, one behind the other, with what holds between them. -/
theorem WW.seqM {c1 c2 : CC} (I : Env → AHeap → Prop) (h1 : WW P N c1 (fun x e h => x = .normal ∧ I e h) e h) (h2 : ∀ e h, I e h → WW P N c2 Q e h) : WW P N (.seq c1 c2) Q e h :=
  WW.seq ⟨h1.out.mono fun x e h hq => by
    obtain ⟨rfl, hi⟩ := hq
    exact thenN (h2 e h hi)⟩
/-- The heap under a name of its own. -/
theorem WW.named {c : CC} (p : AHeap → Prop) (hp : p h) (k : ∀ h5, p h5 → WW P N c Q e h5) : WW P N c Q e h := k h hp
theorem WW.dregA [MO P] {es : List (List Nat)} (al ws rs fs W : List Nat) {n : Nat} (hn : h.next = n) (hc : chkA l es al ws rs fs = true) (hd : DA P N (PhiW n W h) n al ws rs fs (fun e h => Q .normal e h) 0 l e (h.keep al.length)) : WW P N (.dreg l es) Q e h := by
  subst hn
  refine WW.cvt (Cvt.keep al.length) ⟨AW.dregA MO.mo hc (Nat.le_refl _) (fun id h1 h2 => ?_) (fun _ _ _ => rfl) hd⟩
  simp only [AHeap.keep, Bool.or_eq_true, Bool.and_eq_true, decide_eq_true_eq]
  exact .inr ⟨h1, h2⟩
end
end Go.Abs

/- The abstract layer, part 34: an append to nothing whose row may be written by index afterwards. -/
namespace Go.Abs
open Go

section
variable {P : Program} {N : Nat} {e : Env} {h : AHeap} {m : Inj} {w : World} {nm : Nat}

theorem grown_mem (hr : HR m h w) (hf : ¬ h.used nm) {sz cap : Nat} {d : List (List AV)} {F : Nat → Value} {cc : Array Value} {T : TypeId} (hrow : RowF m h w sz d F) (hcap : d.length ≤ cap) (hcc : cap * sz ≤ cc.size)
    (hF : ∀ k, k < d.length * sz → cc[k]? = some (F k)) :
    HR (upd m nm (some (w.heap.size, 0))) (h.put nm (.mem sz d)) (w.drew.alloc (.cells cc T)) ∧ Step m h w (upd m nm (some (w.heap.size, 0))) (h.put nm (.mem sz d)) (w.drew.alloc (.cells cc T)) ∧
      VR (upd m nm (some (w.heap.size, 0))) (h.put nm (.mem sz d)) (w.drew.alloc (.cells cc T)) (.ref nm 0 d.length) (.slice (some ⟨w.heap.size, 0, none⟩) d.length cap) := by
  have hle : d.length * sz ≤ cap * sz := Nat.mul_le_mul_right _ hcap
  have hrow2 : RowF m h w.drew sz d (fun k => cc.getD k undef) := by
    refine ⟨hrow.1, hrow.2.1, fun i cells hi j v hj => ?_⟩
    have h1 : i < d.length := (List.getElem?_eq_some_iff.1 hi).1
    have h2 : j < sz := by
      have := hrow.1 cells (List.mem_of_getElem? hi)
      have := (List.getElem?_eq_some_iff.1 hj).1
      omega
    have h3 : i * sz + j < d.length * sz := by
      have : (i + 1) * sz ≤ d.length * sz := Nat.mul_le_mul_right _ h1
      rw [Nat.succ_mul] at this
      omega
    have h4 : cc.getD (i * sz + j) undef = F (i * sz + j) := by
      rw [Array.getD_eq_getD_getElem?, hF _ h3]; rfl
    show VR m h w.drew v (cc.getD (i * sz + j) undef)
    rw [h4]
    exact (hrow.2.2 i cells hi j v hj).step step_drew
  obtain ⟨r1, r2⟩ := new_row (T := T) (hr.drew) hf (by omega) hrow2
  refine ⟨r1, Step.trans step_drew r2, .ref nm 0 d.length cap _ put_used_nm hcap fun s c hg => ?_⟩
  simp only [AHeap.put, if_true, Option.some.injEq, AObj.mem.injEq] at hg
  obtain ⟨rfl, rfl⟩ := hg
  exact ⟨w.heap.size, by simp [upd], by omega, .inr (by simp), cc, T, heap_alloc_new w.drew _, by rw [Nat.zero_add]; exact hcc⟩
theorem append_mem (hr : HR m h w) (hf : ¬ h.used nm) {t ty el : TypeId} {i : TypeInfo} {z : Value} (hu : P.underlying t = some (.slice el)) (hi : P.info? el = some i) (hz : i.zero = some z) (hsz : 0 < i.size) (hb : 0 < i.bytes) (hzz : z.cells.size = i.size)
    {base : Option Addr} {x : AV} {cx : Value} (hx : VR m h w x cx) {d : List (List AV)} (hd : rdS h.get i.size x = some d) (hne : d ≠ []) (hbig : d.length * i.bytes ≤ 140737488355328) :
    ∃ m' w' cv, (Builtin.append_ #[t, t] ty #[.slice base 0 0, cx]).run P w = .ok cv w' ∧ HR m' (h.put nm (.mem i.size d)) w' ∧ Step m h w m' (h.put nm (.mem i.size d)) w' ∧ VR m' (h.put nm (.mem i.size d)) w' (.ref nm 0 d.length) cv := by
  obtain ⟨ad, cap, F, rfl, hcap, hrow, h1c, hcell⟩ := rdS_list hr hx hd
  obtain ⟨b, o', rfl, hc⟩ := hcell hne
  have hpos : 0 < d.length := List.length_pos_iff.2 hne
  have hn1 : d.length * 1 ≤ d.length * i.bytes := Nat.mul_le_mul_left _ hb
  have hg := grownCap_ge w d.length 0 el
  have hsize : ∀ n, d.length ≤ n → n * i.size ≤ (((List.range (d.length * i.size)).map F).toArray ++ Builtin.zeroCells z.cells (n - d.length)).size := by
    intro n hn
    simp only [Array.size_append, List.size_toArray, List.length_map, List.length_range, size_zeroCells, hzz, ← Nat.add_mul]
    exact Nat.mul_le_mul_right _ (by omega)
  obtain ⟨r1, r2, r3⟩ := grown_mem (T := el) hr hf hrow hg (hsize _ hg) (fun k hk => range_get F _ k hk _)
  cases base with
  | none =>
    exact ⟨_, _, _, run_append_nil (P := P) w t ty el i z hu hi hz ⟨b, o', none⟩ d.length cap _ (by simp) hc hpos (by omega) (by omega), r1, r2, r3⟩
  | some bb =>
    have hrun := run_append_grow (P := P) w t ty el i z hu hi hz bb 0 0 [] (by simp) (by simp) ⟨b, o', none⟩ d.length cap ((List.range (d.length * i.size)).map F) (by simp) hc (by omega) (by omega) (growslice_fits (by omega) (by rw [Nat.zero_add]; exact hbig))
    simp only [Nat.zero_add, Array.empty_append] at hrun
    exact ⟨_, _, _, hrun, r1, r2, r3⟩
/-- An append to nothing, as a row of its own. -/
theorem FX.appM {d : Option Nat} {sz bytes : Nat} {x y : Opd} {g : Option (Nat × Bool)} {v : AV} {c : List (List AV)} (hf : ¬ h.used nm) (hx : ev e x = some .nils) (hy : ev e y = some v) (hc : rdS h.get sz v = some c) (hne : c ≠ []) (hb : c.length * bytes ≤ 140737488355328) (hg : met e g) : FX P N ⟨d, .app sz bytes x y, g⟩ e h (some (.ref nm 0 c.length)) (h.put nm (.mem sz c)) := by
  refine FX.ofN (f := .new (.mem sz c)) rfl hg fun o ho e2 hs m w a hr he => ?_
  obtain ⟨cl, s, n, t, el, i, z, hop, hcal, hargs, hat, hu, h1, h2, hi, hz, p1, p2, p3, rfl, rfl⟩ := cx_app ho
  have hx2 : ev e2 x = some .nils := (ev_congr fun s h => hs s (by simp [islots, h])).trans hx
  have hy2 : ev e2 y = some v := (ev_congr fun s h => hs s (by simp [islots, h])).trans hy
  have ha' : cl.args = #[s, n] := by rw [← Array.toArray_toList (xs := cl.args), hargs]
  have hat' : cl.argTypes = #[t, t] := by rw [← Array.toArray_toList (xs := cl.argTypes), hat]
  have e1 := he.eval h1 hx2
  have e3 := he.eval h2 hy2
  have hbase : ∃ base, a.eval s = .slice base 0 0 := by
    generalize a.eval s = cx at e1
    cases e1 with
    | nils0 => exact ⟨_, rfl⟩
    | nils1 ad => exact ⟨_, rfl⟩
  obtain ⟨base, hcx⟩ := hbase
  obtain ⟨m', w', cv, q1, q2, q3, q4⟩ := append_mem (P := P) (ty := o.type) (base := base) hr hf hu hi hz p1 p2 p3 e3 hc hne hb
  exact ⟨m', w', q2, q3, cv, by simp [execOp, hop, resolve, hcal, ha', hat', invoke, builtin, hcx, q1], q4⟩
variable {n0 : Nat} {al ws rs fs : List Nat} {K : Env → AHeap → Prop} {l : List CI} {j : Nat}
/-- In a drawn region: an append to nothing as a row of its own, under a kept name. -/
theorem DA.appM {d : Nat} {sz bytes : Nat} {x y : Opd} {g : Option (Nat × Bool)} {v : AV} {c : List (List AV)} {i n : Nat} {W : List Nat} {h0 : AHeap} (hx : ev e x = some .nils) (hy : ev e y = some v) (hc : ∀ h2 : AHeap, rdS h2.get sz v = some c) (hne : c ≠ []) (hb : c.length * bytes ≤ 140737488355328) (hi : al.idxOf j = i) (hg : met e g) (ha : al.contains j = true) (hr : rs.contains j = false) (hf : fs.contains j = false)
    (k : DA P N (PhiW n W h0) n al ws rs fs K (j + 1) l ((d, some (.ref (n + i) 0 c.length)) :: e) (h.put (n + i) (.mem sz c))) : DA P N (PhiW n W h0) n al ws rs fs K j (⟨some d, .app sz bytes x y, g⟩ :: l) e h := by
  subst hi
  exact .fx (r := some (.ref (n + al.idxOf j) 0 c.length)) [.put (n + al.idxOf j) (.mem sz c)] (fun hz => by rw [ha] at hz; cases hz) (fun hz => by simp [free0] at hz) (fun _ hz => by rw [ha] at hz; cases hz) (fun _ => ⟨_, rfl, fun h2 hu => FX.appM hu hx hy (hc h2) hne hb hg⟩) (fun hz => by rw [hr] at hz; cases hz)
    (fun hz => by rw [ha] at hz; cases hz) (fun h2 hp => PhiW.put (Nat.le_add_right _ _) hp) (fun hz => by rw [hf] at hz; cases hz) k
/-- The same with a row that is not written: told wherever it is drawn. -/
theorem DA.appF {d : Nat} {sz bytes : Nat} {x y : Opd} {g : Option (Nat × Bool)} {v : AV} {c : List (List AV)} {n : Nat} {W : List Nat} {h0 : AHeap} (hx : ev e x = some .nils) (hy : ev e y = some v) (hc : ∀ h2 : AHeap, FX P N ⟨some d, .app sz bytes x y, g⟩ e h2 (some (.imm sz c)) h2) (hi : al.contains j = false) (hr : rs.contains j = false) (hf : fs.contains j = true)
    (k : DA P N (PhiW n W h0) n0 al ws rs fs K (j + 1) l ((d, some (.imm sz c)) :: e) h) : DA P N (PhiW n W h0) n0 al ws rs fs K j (⟨some d, .app sz bytes x y, g⟩ :: l) e h :=
  .fx (r := some (.imm sz c)) [] (fun _ => hc h) (fun hz => by simp [free0] at hz) (fun _ _ => rfl) (fun hz => by rw [hi] at hz; cases hz) (fun hz => by rw [hr] at hz; cases hz) (fun _ => ⟨by simp, by simp⟩) (fun _ hp => hp) (fun _ => ⟨rfl, fun h2 _ => hc h2⟩) k
/-- A struct's first cell is a row of memory that is written no more. -/
theorem Cvt.frzA {s id n sz : Nat} {cc : List (List AV)} {us : List AV} (hs : lk s e = some (.agg (.ref id 0 n :: us))) (hg : h.get id = some (.mem sz cc)) (hl : cc.length = n) : Cvt e h ((s, some (.agg (.imm sz cc :: us))) :: e) (h.set id none) := fun N m w a hr he => by
  refine ⟨m, hr.del id, ?_, step_del id⟩
  have he' := he.step (step_del id)
  refine ⟨he'.size, he'.defers, fun i v hi => ?_⟩
  simp only [lk_cons, lk_nil] at hi
  split at hi
  · rename_i e1
    subst e1
    cases hi
    have hv := he.val i _ hs
    generalize a.tmps.getD i undef = cv at hv
    cases hv with
    | agg vs cs h1 h2 h3 =>
      refine .agg _ _ (by simpa using h1) (fun v hv => ?_) fun k v hk => ?_
      · rcases List.mem_cons.1 hv with rfl | hv
        · rfl
        · exact h2 v (List.mem_cons_of_mem _ hv)
      · cases k with
        | zero =>
          simp only [List.getElem?_cons_zero, Option.some.injEq] at hk
          subst hk
          have := ref_imm hr hg (h3 0 _ rfl)
          simpa [hl, List.take_of_length_le (Nat.le_of_eq hl)] using this
        | succ k =>
          exact (h3 (k + 1) v (by simpa using hk)).step (step_del id)
  · exact he'.val i v hi
end
end Go.Abs

/- The abstract layer, part 35: appends under kept names; a row in a struct in memory that is written no more; halves of walks. -/
namespace Go.Abs
open Go

section
variable {P : Program} {N : Nat} {e : Env} {h : AHeap} {m : Inj} {w : World} {nm : Nat}
theorem FX.appN {d : Nat} {sz bytes : Nat} {x y : Opd} {g : Option (Nat × Bool)} {v : AV} {c : List (List AV)} (hf : ¬ h.used nm) (hx : ev e x = some .nils) (hy : ev e y = some v) (hc : rdS h.get sz v = some c) (hb : c.length * bytes ≤ 140737488355328) (hg : met e g) :
    FX P N ⟨some d, .app sz bytes x y, g⟩ e h (some (.app nm 0 sz c)) (h.put nm (.tail 0 c.length)) :=
  FX.ofN (r := some (.app nm 0 sz c)) (f := .new (.tail 0 c.length)) rfl hg fun o hcc e2 hs m w a hr he => by
    have hx2 : ev e2 x = some .nils := (ev_congr fun s h => hs s (by simp [islots, h])).trans hx
    have hy2 : ev e2 y = some v := (ev_congr fun s h => hs s (by simp [islots, h])).trans hy
    exact evalI_ok hr hf he hcc (by simp only [evalI, hx2, hy2, hc]; exact req_pos hb)
/-- A row of the text, as one that grows. -/
theorem new_app {m : Inj} {w : World} {nm : Nat} (hr : HR m h w) (hf : ¬ h.used nm) {sz : Nat} {d : List (List AV)} {cc : Array Value} {T : TypeId} (hrow : RowF m h w sz d (fun k => cc.getD k undef)) (hcc : d.length * sz ≤ cc.size) :
    HR (upd m nm (some (w.heap.size, d.length * sz))) (h.put nm (.tail 0 d.length)) (w.alloc (.cells cc T)) ∧ Step m h w (upd m nm (some (w.heap.size, d.length * sz))) (h.put nm (.tail 0 d.length)) (w.alloc (.cells cc T)) ∧
      VR (upd m nm (some (w.heap.size, d.length * sz))) (h.put nm (.tail 0 d.length)) (w.alloc (.cells cc T)) (.app nm 0 sz d) (.slice (some ⟨w.heap.size, 0, none⟩) d.length d.length) := by
  have st := step_put hr hf (.tail 0 d.length) (.cells cc T) (d.length * sz)
  have hrr := HR.put (t := d.length * sz) (o := .cells cc T) (x := .tail 0 d.length) hr hf (fun b s hb => by
    simp only [upd, if_true] at hb
    cases hb
    exact ⟨cc, T, heap_alloc_new w _⟩)
  refine ⟨hrr, st, .app nm 0 sz d w.heap.size d.length (fun k => cc.getD k undef) put_used_nm (fun k hk => ⟨?_, ?_⟩) hrow.1 hrow.2.1 (fun i cells hi j v hj => (hrow.2.2 i cells hi j v hj).step st) (Nat.le_refl _) fun g' n' hg => ?_⟩
  · rw [Nat.zero_add, World.cell?_alloc_new w cc T k]
    show cc[k]? = some (cc.getD k undef)
    rw [Array.getD_eq_getD_getElem?, Array.getElem?_eq_getElem (by omega)]
    rfl
  · rintro ⟨id, t, ⟨x, hx⟩, hmx, hle⟩
    by_cases e : id = nm
    · subst e; simp only [upd, if_true] at hmx; cases hmx; omega
    · simp only [AHeap.put, if_neg e] at hx
      simp only [upd, if_neg e] at hmx
      have := (hr.obj id x hx).lt hmx
      omega
  · simp only [AHeap.put, if_true, Option.some.injEq, AObj.tail.injEq] at hg
    obtain ⟨rfl, rfl⟩ := hg
    exact ⟨Nat.le_refl _, fun _ => ⟨Nat.le_refl _, fun _ => ⟨by simp [upd], cc, T, heap_alloc_new w _, hcc⟩⟩⟩
theorem FX.bslA {nm : Nat} {d : Option Nat} {sz n : Nat} {xs : List Opd} {g : Option (Nat × Bool)} {vs : List AV} {c : List (List AV)} (hf : ¬ h.used nm) (hv : evL e xs = some vs) (hc : cellsL sz vs = some c) (hl : c.length = n) (hg : met e g) : FX P N ⟨d, .bsl sz xs, g⟩ e h (some (.app nm 0 sz c)) (h.put nm (.tail 0 n)) := by
  subst hl
  refine FX.ofN (f := .new (.tail 0 c.length)) rfl hg fun o ho e2 hs m w a hr he => ?_
  obtain ⟨t, n', ps, el, i, z, hop, hu, hi, hz, hxs, p1, p2, p3, p4, p5, rfl⟩ := cx_bsl ho
  have hv2 : evL e2 xs = some vs := (evL_congr fun s h => hs s (by simp [islots, h])).trans hv
  have hev : evalI h.next (.bsl i.size xs) e2 h.get = some (some (.imm i.size c), .none) := by simp only [evalI, hv2, hc]
  obtain ⟨c', out, q1, q2, q3, q4, q5⟩ := bsl_run hr he hu hi hz hxs p1 p2 p3 p4 p5 hop hev
  cases q1
  subst q2
  obtain ⟨r1, r2, r3⟩ := new_app (T := el) (cc := out) hr hf q4 (by rw [q3]; exact Nat.le_refl _)
  exact ⟨_, _, r1, r2, _, q5, r3⟩
variable {n0 : Nat} {al ws rs fs : List Nat} {K : Env → AHeap → Prop} {l : List CI} {j : Nat}
/-- In a drawn region: an append to nothing as a row that grows, under a kept name. -/
theorem DA.appA {d : Nat} {sz bytes : Nat} {x y : Opd} {g : Option (Nat × Bool)} {v : AV} {c : List (List AV)} {i n len : Nat} {W : List Nat} {h0 : AHeap} (hx : ev e x = some .nils) (hy : ev e y = some v) (hc : ∀ h2 : AHeap, rdS h2.get sz v = some c) (hb : c.length * bytes ≤ 140737488355328) (hi : al.idxOf j = i) (hl : c.length = len) (hg : met e g) (ha : al.contains j = true) (hr : rs.contains j = false) (hf : fs.contains j = false)
    (k : DA P N (PhiW n W h0) n al ws rs fs K (j + 1) l ((d, some (.app (n + i) 0 sz c)) :: e) (h.put (n + i) (.tail 0 len))) : DA P N (PhiW n W h0) n al ws rs fs K j (⟨some d, .app sz bytes x y, g⟩ :: l) e h := by
  subst hi hl
  exact .fx (r := some (.app (n + al.idxOf j) 0 sz c)) [.put (n + al.idxOf j) (.tail 0 c.length)] (fun hz => by rw [ha] at hz; cases hz) (fun hz => by simp [free0] at hz) (fun _ hz => by rw [ha] at hz; cases hz) (fun _ => ⟨_, rfl, fun h2 hu => FX.appN hu hx hy (hc h2) hb hg⟩) (fun hz => by rw [hr] at hz; cases hz)
    (fun hz => by rw [ha] at hz; cases hz) (fun h2 hp => PhiW.put (Nat.le_add_right _ _) hp) (fun hz => by rw [hf] at hz; cases hz) k
/-- In a drawn region: a row of the text as one that grows, under a kept name. -/
theorem DA.bslA {d : Nat} {sz : Nat} {xs : List Opd} {g : Option (Nat × Bool)} {vs : List AV} {c : List (List AV)} {i n len : Nat} {W : List Nat} {h0 : AHeap} (hv : evL e xs = some vs) (hc : cellsL sz vs = some c) (hi : al.idxOf j = i) (hl : c.length = len) (hg : met e g) (ha : al.contains j = true) (hr : rs.contains j = false) (hf : fs.contains j = false)
    (k : DA P N (PhiW n W h0) n al ws rs fs K (j + 1) l ((d, some (.app (n + i) 0 sz c)) :: e) (h.put (n + i) (.tail 0 len))) : DA P N (PhiW n W h0) n al ws rs fs K j (⟨some d, .bsl sz xs, g⟩ :: l) e h := by
  subst hi hl
  exact .fx (r := some (.app (n + al.idxOf j) 0 sz c)) [.put (n + al.idxOf j) (.tail 0 c.length)] (fun hz => by rw [ha] at hz; cases hz) (fun _ => .inl ha) (fun _ hz => by rw [ha] at hz; cases hz) (fun _ => ⟨_, rfl, fun h2 hu => FX.bslA hu hv hc rfl hg⟩) (fun hz => by rw [hr] at hz; cases hz)
    (fun hz => by rw [ha] at hz; cases hz) (fun h2 hp => PhiW.put (Nat.le_add_right _ _) hp) (fun hz => by rw [hf] at hz; cases hz) k
/-- In a drawn region: a call that leaves every heap, wherever it is drawn. -/
theorem DA.callF {Φ : AHeap → Prop} {d : Option Nat} {f : Nat} {xs : List Opd} {g : Option (Nat × Bool)} {vs us : List AV} {r : AV} (hv : evL e xs = some us) (hg : met e g) (hs : SubL us vs) (hf : fs.contains j = true) (ha : al.contains j = false) (hr : rs.contains j = false) (hac : ∀ h2, Φ h2 → AE P f vs h2 r h2) (hph : Φ h) (k : DA P N Φ n0 al ws rs fs K (j + 1) l (putR d (some r) e) h) : DA P N Φ n0 al ws rs fs K j (⟨d, .call f xs, g⟩ :: l) e h :=
  .fx [] (fun _ => FX.call hg hv ((hac h hph).sub hs)) (fun hy => by simp [free0] at hy) (fun _ _ => rfl) (fun hy => by rw [ha] at hy; cases hy) (fun hy => by rw [hr] at hy; cases hy) (fun _ => ⟨by simp, by simp⟩) (fun _ h2 => h2) (fun _ => ⟨rfl, fun h2 h3 => FX.call hg hv ((hac h2 h3).sub hs)⟩) k
/-- In a drawn region: a call that turns two objects, in its order. -/
theorem DA.callW2 {d : Option Nat} {f n i1 i2 : Nat} {x1 x2 : Option AObj} {W : List Nat} {h0 : AHeap} {xs : List Opd} {g : Option (Nat × Bool)} {vs us : List AV} {r : AV} (hv : evL e xs = some us) (hg : met e g) (hs : SubL us vs) (hf : fs.contains j = false) (hw : ws.contains j = true) (ha : al.contains j = false) (hr : rs.contains j = false) (hp : ∀ h2, PhiW n W h0 h2 → PhiW n W h0 ((h2.set i1 x1).set i2 x2))
    (hac : AE P f vs h r ((h.set i1 x1).set i2 x2)) (k : DA P N (PhiW n W h0) n0 al ws rs fs K (j + 1) l (putR d (some r) e) ((h.set i1 x1).set i2 x2)) : DA P N (PhiW n W h0) n0 al ws rs fs K j (⟨d, .call f xs, g⟩ :: l) e h :=
  .fx [.set i1 x1, .set i2 x2] (fun _ => FX.call hg hv (hac.sub hs)) (fun hy => by simp [free0] at hy) (fun hy => by rw [hw] at hy; cases hy) (fun hy => by rw [ha] at hy; cases hy) (fun hy => by rw [hr] at hy; cases hy) (fun _ => ⟨by simp [Up.isSet], fun hy => by rw [hr] at hy; cases hy⟩) hp (fun hy => by rw [hf] at hy; cases hy) k

theorem next_le_keep {n k : Nat} (hn : n ≤ h.next + k) : n ≤ (h.keep k).next := hn
theorem RowF.one_cell2 {h1 : AHeap} {sz i j : Nat} {c : List (List AV)} {cells : List AV} {u v : AV} {F : Nat → Value} (st : Step m h w m h1 w) (hi : c[i]? = some cells) (hj : cells[j]? = some u) (hsc : v.scalar = true) (hv : ∀ cv, VR m h w u cv → VR m h1 w v cv) (hF : RowF m h w sz c F) :
    RowF m h1 w sz (c.set i (cells.set j v)) F := by
  obtain ⟨q1, q2, q3⟩ := hF
  have hlt : i < c.length := (List.getElem?_eq_some_iff.1 hi).1
  refine ⟨fun x hx => ?_, fun x hx y hy => ?_, fun k cs hk t y hy => ?_⟩
  · rcases List.mem_or_eq_of_mem_set hx with hx | rfl
    · exact q1 x hx
    · simpa using q1 cells (List.mem_of_getElem? hi)
  · rcases List.mem_or_eq_of_mem_set hx with hx | rfl
    · exact q2 x hx y hy
    · rcases List.mem_or_eq_of_mem_set hy with hy | rfl
      · exact q2 cells (List.mem_of_getElem? hi) y hy
      · exact hsc
  · rw [List.getElem?_set] at hk
    split at hk
    · rename_i e
      subst e
      have hk' : cells.set j v = cs := by simpa [hlt] using hk
      subst hk'
      rw [List.getElem?_set] at hy
      split at hy
      · rename_i e; subst e
        have hy' : v = y := by simpa [(List.getElem?_eq_some_iff.1 hj).1] using hy
        subst hy'
        exact hv _ (q3 i cells hi j u hj)
      · exact (q3 i cells hi t y hy).step st
    · exact (q3 k cs hk t y hy).step st
/-- A row that a cell in memory holds is written no more. -/
theorem Cvt.frzM {id r sz s n i j : Nat} {c cc : List (List AV)} {cells : List AV} (hg : h.get id = some (.mem sz c)) (hi : c[i]? = some cells) (hj : cells[j]? = some (.ref r 0 n)) (hr' : h.get r = some (.mem s cc)) (hl : cc.length = n) (hne : id ≠ r) :
    Cvt e h e ((h.set r none).set id (some (.mem sz (c.set i (cells.set j (.imm s cc)))))) := fun N m w a hr he => by
  obtain ⟨b, cc0, T, q1, q2, q3, q4⟩ := hr.obj _ _ hg
  have sd : Step m h w m (h.set r none) w := step_del r
  have hr1 := hr.del r
  have hg1 : (h.set r none).get id = some (.mem sz c) := by simp only [AHeap.set, if_neg hne]; exact hg
  have q5 : RowF m (h.set r none) w sz (c.set i (cells.set j (.imm s cc))) (fun k => cc0.getD k undef) := RowF.one_cell2 sd hi hj rfl (fun cv hv => by
    have := ref_imm hr hr' hv
    simpa [List.take_of_length_le (Nat.le_of_eq hl)] using this) q4
  have wu : WUpd w w b := ⟨rfl, rfl, rfl, rfl, fun _ _ => rfl, fun cc T fz h => ⟨cc, h, rfl⟩⟩
  have hcm : Compat (.mem sz c) (.mem sz (c.set i (cells.set j (.imm s cc)))) := ⟨rfl, by simp⟩
  have st := step_set hr1 hg1 q1 hcm wu
  exact ⟨m, hr1.set hg1 q1 hcm wu ⟨b, cc0, T, q1, q2, by simpa using q3, q5.step st⟩, (he.step sd).step st, sd.trans st⟩
/-- Where two ways meet. -/
theorem WL.cut {Q : Exit → Env → AHeap → Prop} {l : List CI} (I : Env → AHeap → Prop) (hI : I e h) (k : ∀ e h, I e h → WL P N l Q e h) : WL P N l Q e h := k e h hI
/-- The same between two codes, the first one begun. -/
theorem WW.mid {Q : Exit → Env → AHeap → Prop} {A : Env → AHeap → Prop} {c : CC} (I : Env → AHeap → Prop) (h1 : WW P N c (fun x e h => x = .normal ∧ I e h) e h) (h2 : ∀ e h, I e h → A e h) : WW P N c (thenQ A Q) e h :=
  ⟨h1.out.mono fun x e h hq => by
    obtain ⟨rfl, hi⟩ := hq
    exact thenN (h2 e h hi)⟩
/-- A call of a function value. -/
theorem FX.callv {h' : AHeap} {d : Option Nat} {f : Nat} {x : Opd} {xs : List Opd} {g : Option (Nat × Bool)} {us vs ts : List AV} {r : AV} (hx : ev e x = some (.func (.func f) us ts)) (hv : evL e xs = some vs) (hg : met e g) (hb : bodied P f = true) (hac : AE P f (us ++ vs ++ ts) h r h') : FX P N ⟨d, .callv x xs, g⟩ e h (some r) h' := by
  intro ops i o ho hc e2 hs m w a K Q hr he hk
  rcases compI_ok hc with ⟨hb1, hb2⟩ | ⟨hd, hdst, hcomp, hgd⟩
  · simp at hb1
  · obtain ⟨w1, w2⟩ := wanted_of he hgd
    have hi : ∀ s ∈ lslots xs, lk s e2 = lk s e := fun s h => hs s (by unfold cslots; split <;> simp [h, islots])
    have hi2 : ∀ s ∈ oslots x, lk s e2 = lk s e := fun s h => hs s (by unfold cslots; split <;> simp [h, islots])
    have hw : Region.wanted o (yielded ops a.tmps) = true := by
      cases g with
      | none => exact w1 rfl
      | some sb =>
        obtain ⟨s, b⟩ := sb
        have hl : lk s e2 = some (.bool b) := (hs s (by simp [cslots])).trans hg
        rw [w2 s b b rfl hl]; simp
    simp only [wpOp, ho]
    rw [if_pos hw]
    left
    have hco := hcomp rfl
    obtain ⟨c, y, hop, hcal, hy, hxs⟩ := compile_callv hco
    obtain ⟨hl1, hl2⟩ := he.evalL hxs ((evL_congr hi).trans hv)
    have hfv := he.eval hy ((ev_congr hi2).trans hx)
    generalize hcx : a.eval (.tmp y) = cx at hfv
    cases hfv with
    | func _ _ _ cs ds q1 q2 q3 q4 =>
      have hrun : (execOp a.eval o).run P w = .ok (.enter f (cs ++ c.args.map a.eval ++ ds)) w := by
        simp [execOp, hop, resolve, hcal, hcx, Deferred.ofValue, invoke, run_callFunc hb]
      refine call_wp hrun hr (by simp [q1, q2, hl1]) (fun j v hj => ?_) hac fun v w' m' r1 h1 g1 g2 g3 ⟨g4, g5⟩ => ?_
      · rw [List.append_assoc] at hj
        simp only [Array.getD_eq_getD_getElem?]
        by_cases j1 : j < us.length
        · rw [List.getElem?_append_left j1] at hj
          have := q3 j v hj
          rw [Array.append_assoc, Array.getElem?_append_left (by omega)]
          simpa [Array.getD_eq_getD_getElem?] using this
        · rw [List.getElem?_append_right (by omega)] at hj
          rw [Array.append_assoc, Array.getElem?_append_right (by omega), ← q1]
          by_cases j2 : j - us.length < vs.length
          · rw [List.getElem?_append_left j2] at hj
            have := hl2 _ v hj
            rw [Array.getElem?_append_left (by simp at hl1 ⊢; omega)]
            simpa [List.getD_eq_getElem?_getD] using this
          · rw [List.getElem?_append_right (by omega)] at hj
            have := q4 _ v hj
            have hl1' : vs.length = c.args.size := by simpa using hl1
            rw [Array.getElem?_append_right (by simp; omega)]
            simpa [Array.getD_eq_getD_getElem?, hl1'] using this
      · subst g4; subst g5
        refine hk m' w' _ g1 ?_ g3
        have hd' : d = o.dst := hd
        show ER N m' h1 w' (putR d (some r1) e2) _
        rw [hd']
        exact (he.step g3).putR hdst g2
end
end Go.Abs

/- The abstract layer, part 36: made rows that are never written; calls that make new objects beside kept names. -/
namespace Go.Abs
open Go

section
variable {P : Program} {N : Nat} {e : Env} {h h' : AHeap} {m : Inj} {w : World} {Q : Exit → Env → AHeap → Prop} {l : List CI}
theorem cx_mksl {o : Oper} {sz bytes : Nat} {z : List AV} {x y : Opd} (hc : compileOp P N o = some (.mksl sz z bytes x y)) : ∃ t el i zv lx cx, o.op = .makeSlice t lx cx ∧ P.underlying t = some (.slice el) ∧ P.info? el = some i ∧ i.zero = some zv ∧ ofL ofV zv.cells.toList = some z ∧
    0 < i.bytes ∧ 0 < i.size ∧ zv.cells.size = i.size ∧ ofOpd N lx = some x ∧ ofOpd N cx = some y ∧ sz = i.size ∧ bytes = i.bytes := by
  cases hop : o.op <;> simp only [compileOp, hop] at hc <;> try (cases hc; done)
  case makeSlice t lx cx =>
    repeat' split at hc
    all_goals first
      | (cases hc; done)
      | (rename_i hcond; cases hc; exact ⟨_, _, _, _, _, _, rfl, ‹_›, ‹_›, ‹_›, ‹_›, hcond.1, hcond.2.1, hcond.2.2, ‹_›, ‹_›, rfl, rfl⟩)
      | contradiction
  all_goals
    (repeat' split at hc
     all_goals first
       | (cases hc; done)
       | (rw [Option.map_eq_some_iff] at hc; obtain ⟨_, _, h⟩ := hc; cases h; done)
       | contradiction)
/-- The heap under a name of its own, within a region. -/
theorem WL.named (p : AHeap → Prop) (hp : p h) (k : ∀ h5, p h5 → WL P N l Q e h5) : WL P N l Q e h := k h hp
/-- A made row that is never written. -/
theorem FX.mkslI {d : Option Nat} {sz bytes n : Nat} {z : List AV} {x y : Opd} {k k' : IntKind} {a b : Int} {g : Option (Nat × Bool)} (hx : ev e x = some (.int k a)) (hy : ev e y = some (.int k' b)) (ha : a = n) (hb : b = n) (hm : n * bytes ≤ 140737488355328) (hg : met e g) :
    FX P N ⟨d, .mksl sz z bytes x y, g⟩ e h (some (.imm sz (List.replicate n z))) h := by
  subst ha hb
  refine FX.of (f := .none) rfl hg fun o ho e2 hs m w a hr he => ?_
  obtain ⟨t, el, i, zv, lx, cx, hop, hu, hi, hz, hzs, hbb, hsz, hzz, h1, h2, rfl, rfl⟩ := cx_mksl ho
  have hx2 : ev e2 x = some (.int k n) := (ev_congr fun s h => hs s (by simp [islots, h])).trans hx
  have hy2 : ev e2 y = some (.int k' n) := (ev_congr fun s h => hs s (by simp [islots, h])).trans hy
  have e1 := vr_int (he.eval h1 hx2)
  have e3 := vr_int (he.eval h2 hy2)
  obtain ⟨hzl, hzsc, hzv⟩ := ofL_ofV (m := m) (h := h) (w := w) hzs
  have hzl' : z.length = i.size := by simpa [hzz] using hzl
  have hn1 : n * 1 ≤ n * i.bytes := Nat.mul_le_mul_left _ hbb
  have hmul : ((n : Int) * (i.bytes : Int)) = ((n * i.bytes : Nat) : Int) := by simp
  have hrun := run_make (P := P) w t el i zv hu hi hz k k' n n (by omega) (Int.le_refl _) (by rw [Int.mul_comm]; omega) (by omega)
  have st : Step m h w m h (w.alloc (.cells (madeCells zv.cells (n * i.size)) el)) := step_alloc hr _
  refine ⟨m, _, hr.alloc _, st, .slice (some ⟨w.heap.size, 0, none⟩) n n, by simp [execOp, hop, e1, e3, hrun], ?_⟩
  have key := VR.imm (m := m) (h := h) (w := w.alloc (.cells (madeCells zv.cells (n * i.size)) el)) i.size (List.replicate n z) w.heap.size 0 n (fun k => (madeCells zv.cells (n * i.size)).getD k undef) (fun q hq => ⟨?_, ?_⟩) (fun x hx => by rw [List.eq_of_mem_replicate hx]; exact hzl') (fun x hx => by rw [List.eq_of_mem_replicate hx]; exact hzsc) (fun q cells hq j v hj => ?_) (by simp)
  · simp only [List.length_replicate] at key
    exact key
  · rw [Nat.zero_add, World.cell?_alloc_new]
    simp only [List.length_replicate] at hq
    simp [Array.getD_eq_getD_getElem?, show q < (madeCells zv.cells (n * i.size)).size by rw [size_madeCells]; exact hq]
  · rintro ⟨id, t', ⟨x, hx⟩, hmx, _⟩
    have := (hr.obj id x hx).lt hmx
    omega
  · have hql : q < n := by simpa using (List.getElem?_eq_some_iff.1 hq).1
    have hc : cells = z := List.eq_of_mem_replicate (List.mem_of_getElem? hq)
    subst hc
    have hjl : j < i.size := by rw [← hzl']; exact (List.getElem?_eq_some_iff.1 hj).1
    have hlt := idx_lt hql hjl
    have := hzv j v hj
    simp only [madeCells, Array.getD_eq_getD_getElem?]
    rw [Array.getElem?_map, Array.getElem?_range, if_pos hlt]
    simp only [Option.map_some, Option.getD_some]
    have hmod : (q * i.size + j) % zv.cells.size = j := by rw [hzz, Nat.mul_comm, Nat.mul_add_mod, Nat.mod_eq_of_lt hjl]
    rw [hmod]
    refine VR.step st ?_
    simpa [List.getD_eq_getElem?_getD, Array.getElem?_eq_getElem (show j < zv.cells.size by omega), getElem!_pos zv.cells j (by omega)] using this
/-- A row of cells, each told with less. -/
theorem SubV.imm {sz : Nat} {c d : List (List AV)} (hl : c.length = d.length) (hs : ∀ (i : Nat) (x y : List AV), c[i]? = some x → d[i]? = some y → SubL x y) (hsc : Scal d) : SubV (.imm sz c) (.imm sz d) := fun m h w cv hv => by
  have hlen : Len sz c → Len sz d := fun h y hy => by
    obtain ⟨i, hi, rfl⟩ := List.mem_iff_getElem.1 hy
    have h1 := List.getElem?_eq_getElem (show i < c.length by omega)
    rw [← (hs i _ _ h1 (List.getElem?_eq_getElem hi)).len]
    exact h _ (List.getElem_mem _)
  cases hv with
  | imm0 => cases d with
    | nil => exact .imm0 _
    | cons => simp at hl
  | imm1 => cases d with
    | nil => exact .imm1 _ _ _
    | cons => simp at hl
  | imm _ _ b o cap F hic hln hs2 hrr hc =>
    rw [hl]
    refine .imm _ _ b o cap F (by rw [← hl]; exact hic) (hlen hln) hsc (fun i cells hi j v hj => ?_) (by omega)
    have hlt : i < c.length := by rw [hl]; exact (List.getElem?_eq_some_iff.1 hi).1
    have hx := hs i _ _ (List.getElem?_eq_getElem hlt) hi
    have hjl : j < c[i].length := by rw [hx.len]; exact (List.getElem?_eq_some_iff.1 hj).1
    exact hx.get j _ _ (List.getElem?_eq_getElem hjl) hj _ _ _ _ (hrr i _ (List.getElem?_eq_getElem hlt) j _ (List.getElem?_eq_getElem hjl))
/-- Rows that are nil, as rows of nothing. -/
theorem SubV.nilRows {n : Nat} : SubV (.imm 1 (List.replicate n [.nils])) (.imm 1 (List.replicate n [.imm 1 []])) :=
  SubV.imm (by simp) (fun i x y hx hy => by
    rw [List.eq_of_mem_replicate (List.mem_of_getElem? hx), List.eq_of_mem_replicate (List.mem_of_getElem? hy)]
    exact .cons SubV.nil .nil) fun x hx v hv => by
    rw [List.eq_of_mem_replicate hx, List.mem_singleton] at hv; subst hv; rfl
end
end Go.Abs

/- Heaps that keep all but some objects. -/
namespace Go.Abs
open Go
/-- All that is used stands as it stood, but for W. -/
def KeepsB (W : List Nat) (h h1 : AHeap) : Prop := h.next ≤ h1.next ∧ ∀ id, h.used id → id ∉ W → h1.get id = h.get id
section
variable {W : List Nat} {h h1 h2 : AHeap}
theorem KeepsB.refl : KeepsB W h h := ⟨Nat.le_refl _, fun _ _ _ => rfl⟩
theorem KeepsB.put (hk : KeepsB W h h1) {nm : Nat} (hn : h.next ≤ nm) (x : AObj) : KeepsB W h (h1.put nm x) := by
  refine ⟨next_le_put hk.1, fun id hu hw => ?_⟩
  rw [get_put, if_neg (by have := hu.1; omega)]
  exact hk.2 id hu hw
theorem KeepsB.setN (hk : KeepsB W h h1) {nm : Nat} (hn : h.next ≤ nm) (x : Option AObj) : KeepsB W h (h1.set nm x) := by
  refine ⟨hk.1, fun id hu hw => ?_⟩
  rw [get_set, if_neg (by have := hu.1; omega)]
  exact hk.2 id hu hw
theorem KeepsB.setW (hk : KeepsB W h h1) {nm : Nat} (hn : nm ∈ W) (x : Option AObj) : KeepsB W h (h1.set nm x) := by
  refine ⟨hk.1, fun id hu hw => ?_⟩
  have hne : id ≠ nm := fun e => hw (by rw [e]; exact hn)
  rw [get_set, if_neg hne]
  exact hk.2 id hu hw
theorem KeepsB.keep (hk : KeepsB W h h1) (k : Nat) : KeepsB W h (h1.keep k) := ⟨Nat.le_trans hk.1 (Nat.le_add_right _ _), hk.2⟩
theorem KeepsB.trans {V : List Nat} (hk : KeepsB W h h1) (hk2 : KeepsB V h1 h2) (hv : ∀ id ∈ V, id ∈ W ∨ h.next ≤ id) (hg : ∀ id, h.used id → h1.used id) : KeepsB W h h2 :=
  ⟨Nat.le_trans hk.1 hk2.1, fun id hu hw => (hk2.2 id (hg id hu) fun hi => by
    rcases hv id hi with h3 | h3
    · exact hw h3
    · have := hu.1; omega).trans (hk.2 id hu hw)⟩
theorem KeepsB.of (hk : Keeps h h1) : KeepsB W h h1 := ⟨hk.1, fun id hu _ => hk.2 id hu⟩
theorem KeepsB.keeps (hk : KeepsB [] h h1) : Keeps h h1 := ⟨hk.1, fun id hu => hk.2 id hu (by simp)⟩
/-- One object is turned. -/
theorem KeepsB.fin1 {s : Nat} {X : AObj} (hk : KeepsB [s] h h1) (hs : h1.get s = some X) : Keeps (h.set s (some X)) h1 :=
  ⟨hk.1, fun id hu => by
    rw [get_set]
    split
    · rename_i e; subst e; exact hs
    · rename_i e; exact hk.2 id hu (by simpa using e)⟩
theorem AC.wfU {P : Program} {f : Nat} {vs : List AV} {R : AV → AHeap → Prop} (hw : (∀ id x, h.get id = some x → h.used id) → AC P f vs h R) : AC P f vs h R := fun m w cargs hr => hw hr.live m w cargs hr
theorem AE.wfU {P : Program} {f : Nat} {vs : List AV} {r : AV} (hw : (∀ id x, h.get id = some x → h.used id) → AE P f vs h r h1) : AE P f vs h r h1 := AC.wfU hw
end
end Go.Abs
