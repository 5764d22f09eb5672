/- The abstract layer, part 31: regions whose order is drawn and in which new blocks stand in no order to what else turns the heap: their names are kept for them. -/
import Derived.Test.YtlddahcgaonlhaaA30
set_option linter.all false
namespace Go.Abs
open Go

/-- k names are kept for later. -/
def AHeap.keep (h : AHeap) (k : Nat) : AHeap := { h with next := h.next + k, gap := fun j => h.gap j || (decide (h.next ≤ j) && decide (j < h.next + k)) }
theorem get_keepE {h : AHeap} {k id : Nat} {x : Option AObj} (hx : h.get id = x) : (h.keep k).get id = x := hx
theorem next_keepE {h : AHeap} {k n : Nat} (hn : h.next = n) : (h.keep k).next = n + k := by subst hn; rfl
theorem next_putK {h : AHeap} {id n : Nat} {x : AObj} (hl : id < n) (hn : h.next = n) : (h.put id x).next = n := by subst hn; simp [AHeap.put, hl]
theorem Keeps.keep {h h1 : AHeap} {k : Nat} (hk : Keeps h h1) : Keeps h (h1.keep k) := ⟨Nat.le_trans hk.1 (Nat.le_add_right _ _), hk.2⟩

section
variable {P : Program} {N : Nat} {e e' : Env} {h h' : AHeap} {l : List CI} {Q : Exit → Env → AHeap → Prop} {m : Inj} {w : World}

theorem used_keep {k id : Nat} (hu : h.used id) : (h.keep k).used id := by
  obtain ⟨h1, h2⟩ := hu
  refine ⟨by simp only [AHeap.keep]; omega, ?_⟩
  simp only [AHeap.keep, h2, Bool.false_or, Bool.and_eq_false_iff, decide_eq_false_iff_not]
  omega
theorem step_keep (k : Nat) : Step m h w m (h.keep k) w :=
  ⟨rfl, rfl, rfl, Nat.le_refl _, fun _ cc _ _ hb _ => ⟨cc, hb, rfl⟩, fun _ _ hf => ⟨rfl, hf⟩, fun _ _ _ hc hn => ⟨hc, hn⟩, fun _ hu => used_keep hu, fun _ x _ hg => ⟨x, hg, fun _ => rfl, Compat.refl x⟩⟩
theorem HR.keep (hr : HR m h w) (k : Nat) : HR m (h.keep k) w :=
  ⟨fun id hg => by
      simp only [AHeap.keep, Bool.or_eq_true, Bool.and_eq_true, decide_eq_true_eq] at hg ⊢
      rcases hg with hg | hg
      · have := hr.gapl id hg; omega
      · exact hg.2,
    fun id x hg => used_keep (hr.live id x hg), hr.inj, fun id x hg => (hr.obj id x hg).step (step_keep k) rfl fun _ _ _ => rfl⟩
theorem Cvt.keep (k : Nat) : Cvt e h e (h.keep k) := fun _ m _ _ hr he => ⟨m, hr.keep k, he.step (step_keep k), step_keep k⟩

theorem FX.ofN {nm : Nat} {d : Option Nat} {i : Ins} {g : Option (Nat × Bool)} {r : Option AV} {f : Eff} (hp : i.plain = true) (hg : met e g)
    (hx : ∀ (o : Oper), compileOp P N o = some i → ∀ e2, (∀ s ∈ islots i, lk s e2 = lk s e) → ∀ (m : Inj) (w : World) (a : Act), HR m h w → ER N m h w e2 a → OpOK P o a m h w nm r f) : FX P N ⟨d, i, g⟩ e h r (f.on nm h) := by
  intro ops j o ho hc e2 hs m w a K Q hr he hk
  have hraw := comp_plain hc hp
  rcases compI_ok hc with ⟨hb1, hb2⟩ | ⟨hd, hdst, _, hgd⟩
  · have hb : i = .bad := hb1
    subst hb; cases hp
  · obtain ⟨w1, w2⟩ := wanted_of he hgd
    have hi : ∀ s ∈ islots i, lk s e2 = lk s e := fun s h => hs s (by unfold cslots; split <;> simp [h])
    have hw : Region.wanted o (yielded ops a.tmps) = true := by
      cases g with
      | none => exact w1 rfl
      | some sb =>
        obtain ⟨s, b⟩ := sb
        have hl : lk s e2 = some (.bool b) := (hs s (by simp [cslots])).trans hg
        rw [w2 s b b rfl hl]; simp
    simp only [wpOp, ho]
    rw [if_pos hw]
    left
    obtain ⟨m', w', hr', st, hres⟩ := hx o hraw e2 hi m w a hr he
    have hd' : d = o.dst := hd
    unfold Oper.wp
    cases r with
    | some v =>
      obtain ⟨cv, hrun, hv⟩ := hres
      rw [hrun, Oper.upon_value]
      refine hk m' w' _ hr' ?_ st
      show ER N m' _ w' (putR d (some v) e2) _
      rw [hd']
      exact (he.step st).putR hdst hv
    | none =>
      rw [hres, Oper.upon_skip]
      refine hk m' w' _ hr' ?_ st
      show ER N m' _ w' (putR d none e2) _
      rw [hd']
      exact (he.step st).skipR _ _

theorem FX.allocN {d : Nat} {z : List AV} {g : Option (Nat × Bool)} {nm : Nat} (hf : ¬ h.used nm) (hg : met e g) : FX P N ⟨some d, .alloc z, g⟩ e h (some (.ptr nm 0 0)) (h.put nm (.mem z.length [z])) :=
  FX.ofN (r := some (.ptr nm 0 0)) (f := .new (.mem z.length [z])) rfl hg fun o hc e2 _ m w a hr he => evalI_ok hr hf he hc (by simp [evalI])

/-! ### what an operation does to the heap, told -/
inductive Up
  | put (nm : Nat) (x : AObj)
  | set (id : Nat) (x : Option AObj)
def Up.ap (h : AHeap) : Up → AHeap
  | .put nm x => h.put nm x
  | .set id x => h.set id x
def Up.id : Up → Nat
  | .put nm _ => nm
  | .set id _ => id
def Up.isSet : Up → Bool
  | .put _ _ => false
  | .set _ _ => true
def aps (h : AHeap) (us : List Up) : AHeap := us.foldl Up.ap h
theorem aps_cons {h : AHeap} {u : Up} {us : List Up} : aps h (u :: us) = aps (u.ap h) us := rfl

theorem put_next {h : AHeap} {nm : Nat} {x : AObj} : (h.put nm x).next = if nm < h.next then h.next else nm + 1 := rfl
theorem next_ap {h : AHeap} (u : Up) : h.next ≤ (u.ap h).next := by
  cases u with
  | put nm x => simp only [Up.ap, AHeap.put]; split <;> omega
  | set id x => exact Nat.le_refl _
theorem next_aps : ∀ {h : AHeap} (us : List Up), h.next ≤ (aps h us).next
  | h, [] => Nat.le_refl _
  | h, u :: us => Nat.le_trans (next_ap u) (next_aps us)
/-- Two heaps that read alike but for the kept names. -/
def Sim (n k : Nat) (h h2 : AHeap) : Prop := h2.next = h.next ∧ ∀ id, ¬ (n ≤ id ∧ id < n + k) → h2.get id = h.get id
theorem Sim.refl {n k : Nat} {h : AHeap} : Sim n k h h := ⟨rfl, fun _ _ => rfl⟩
theorem Sim.ap {n k : Nat} {h h2 : AHeap} (hs : Sim n k h h2) (u : Up) : Sim n k (u.ap h) (u.ap h2) := by
  obtain ⟨h1, h3⟩ := hs
  cases u with
  | put nm x => exact ⟨by simp only [Up.ap, AHeap.put, h1], fun id hi => by simp only [Up.ap, AHeap.put]; split <;> first | rfl | exact h3 id hi⟩
  | set nm x => exact ⟨h1, fun id hi => by simp only [Up.ap, AHeap.set]; split <;> first | rfl | exact h3 id hi⟩
theorem Sim.aps {n k : Nat} : ∀ {h h2 : AHeap} (us : List Up), Sim n k h h2 → Sim n k (aps h us) (aps h2 us)
  | _, _, [], hs => hs
  | _, _, u :: us, hs => Sim.aps us (hs.ap u)
theorem Sim.trans {n k : Nat} {h1 h2 h3 : AHeap} (a : Sim n k h1 h2) (b : Sim n k h2 h3) : Sim n k h1 h3 :=
  ⟨b.1.trans a.1, fun id hi => (b.2 id hi).trans (a.2 id hi)⟩
theorem Sim.symm {n k : Nat} {h1 h2 : AHeap} (a : Sim n k h1 h2) : Sim n k h2 h1 := ⟨a.1.symm, fun id hi => (a.2 id hi).symm⟩
theorem Sim.kept {n k a : Nat} {h : AHeap} {x : AObj} (ha : n ≤ a ∧ a < n + k) (hn : n + k ≤ h.next) : Sim n k h (h.put a x) := by
  refine ⟨?_, fun id hi => ?_⟩
  · simp only [AHeap.put]; rw [if_pos (by omega)]
  · simp only [AHeap.put]; rw [if_neg (by intro e; subst e; exact hi ha)]
theorem put_ap {a : Nat} {x : AObj} {u : Up} {h : AHeap} (hne : u.id ≠ a) (hn : a < h.next) : u.ap (h.put a x) = (u.ap h).put a x := by
  cases u with
  | put nm y =>
    have hne : nm ≠ a := hne
    have h1 := next_ap (h := h) (.put nm y)
    refine heap_ext (fun j => ?_) ?_ fun j => ?_
    · simp only [Up.ap, AHeap.put]; split <;> split <;> first | rfl | omega
    · simp only [Up.ap, put_next]
      repeat' split
      all_goals omega
    · simp only [Up.ap, AHeap.put]; split <;> split <;> first | rfl | omega
  | set nm y =>
    have hne : nm ≠ a := hne
    refine heap_ext (fun j => ?_) rfl fun j => rfl
    simp only [Up.ap, AHeap.put, AHeap.set]; split <;> split <;> first | rfl | omega
theorem put_aps {a : Nat} {x : AObj} : ∀ {us : List Up} {h : AHeap}, (∀ u ∈ us, u.id ≠ a) → a < h.next → aps (h.put a x) us = (aps h us).put a x
  | [], h, _, _ => rfl
  | u :: us, h, hu, hn => by
    rw [aps_cons, aps_cons, put_ap (hu u (by simp)) hn]
    exact put_aps (fun v hv => hu v (by simp [hv])) (Nat.lt_of_lt_of_le hn (next_ap u))
theorem gap_aps {a : Nat} : ∀ {us : List Up} {h : AHeap}, (∀ u ∈ us, u.isSet = true ∨ u.id ≠ a) → h.gap a = true → (aps h us).gap a = true
  | [], h, _, hg => hg
  | u :: us, h, hu, hg => by
    rw [aps_cons]
    refine gap_aps (us := us) (fun v hv => hu v (by simp [hv])) ?_
    have hne := hu u (by simp)
    cases u with
    | put nm y =>
      have hne : nm ≠ a := by
        rcases hne with h1 | h1
        · cases h1
        · exact h1
      simp only [Up.ap, AHeap.put]; rw [if_neg (Ne.symm hne)]; exact hg
    | set nm y => exact hg

/-- What is done to the heap when just D is done. -/
def hA (us : Nat → List Up) (h : AHeap) (D : Nat → Bool) : Nat → AHeap
  | 0 => h
  | j + 1 => if D j then aps (hA us h D j) (us j) else hA us h D j
theorem hA_le {us : Nat → List Up} {D : Nat → Bool} : ∀ n, h.next ≤ (hA us h D n).next
  | 0 => Nat.le_refl _
  | n + 1 => by
    simp only [hA]; split
    · exact Nat.le_trans (hA_le n) (next_aps _)
    · exact hA_le n
theorem hA_phi {us : Nat → List Up} {D : Nat → Bool} {Φ : AHeap → Prop} (h0 : Φ h) {n : Nat} (hp : ∀ j, j < n → ∀ h2, Φ h2 → Φ (aps h2 (us j))) : ∀ i, i ≤ n → Φ (hA us h D i)
  | 0, _ => h0
  | i + 1, hi => by
    simp only [hA]; split
    · exact hp i (by omega) _ (hA_phi h0 hp i (by omega))
    · exact hA_phi h0 hp i (by omega)
theorem hA_stop {us : Nat → List Up} {D : Nat → Bool} {i : Nat} : ∀ n, i ≤ n → (∀ k, i ≤ k → k < n → D k = true → us k = []) → hA us h D n = hA us h D i
  | 0, hi, _ => by have : i = 0 := by omega
                   subst this; rfl
  | n + 1, hi, hk => by
    rcases Nat.eq_or_lt_of_le hi with rfl | hlt
    · rfl
    · rw [← hA_stop n (by omega) fun k h1 h2 => hk k h1 (by omega)]
      simp only [hA]
      split
      · rename_i hd
        rw [hk n (by omega) (by omega) hd]; rfl
      · rfl
theorem hA_text {us : Nat → List Up} {D D' : Nat → Bool} : ∀ i, (∀ k, k < i → us k ≠ [] → D k = D' k) → hA us h D i = hA us h D' i
  | 0, _ => rfl
  | i + 1, hk => by
    simp only [hA]
    rw [hA_text i fun k h1 => hk k (by omega)]
    by_cases he : us i = []
    · rw [he]; split <;> split <;> rfl
    · rw [hk i (by omega) he]
theorem hA_ins {us : Nat → List Up} {D D' : Nat → Bool} {i m : Nat} (hm : m ≤ h.next) (hi : D i = false) (hD : ∀ k, D' k = if k = i then true else D k) : ∀ n, i < n → (∀ k, i < k → k < n → D k = true → ∀ h2 : AHeap, m ≤ h2.next → aps (aps h2 (us i)) (us k) = aps (aps h2 (us k)) (us i)) → hA us h D' n = aps (hA us h D n) (us i)
  | 0, hlt, _ => by omega
  | n + 1, hlt, hc => by
    by_cases e : n = i
    · subst e
      have h1 : hA us h D' n = hA us h D n := hA_text n fun k hk _ => by rw [hD, if_neg (by omega)]
      simp only [hA]
      rw [hD, if_pos rfl, if_pos rfl, hi, h1]; rfl
    · have ih := hA_ins hm hi hD n (by omega) fun k h1 h2 => hc k h1 (by omega)
      simp only [hA]
      rw [hD, if_neg e, ih]
      split
      · rename_i hd
        exact hc n (by omega) (by omega) hd _ (Nat.le_trans hm (hA_le n))
      · rfl
theorem hA_gap {us : Nat → List Up} {D : Nat → Bool} {a : Nat} (h0 : h.gap a = true) {n : Nat} (hk : ∀ k, k < n → D k = true → ∀ u ∈ us k, u.isSet = true ∨ u.id ≠ a) : ∀ i, i ≤ n → (hA us h D i).gap a = true
  | 0, _ => h0
  | i + 1, hi => by
    simp only [hA]; split
    · rename_i hd
      exact gap_aps (hk i (by omega) hd) (hA_gap h0 hk i (by omega))
    · exact hA_gap h0 hk i (by omega)
theorem hA_sim {us : Nat → List Up} {D D' : Nat → Bool} {n k : Nat} (hn : n + k ≤ h.next) : ∀ i, (∀ j, j < i → us j = [] ∨ D j = D' j ∨ ∃ a x, (n ≤ a ∧ a < n + k) ∧ us j = [.put a x]) → Sim n k (hA us h D i) (hA us h D' i)
  | 0, _ => Sim.refl
  | i + 1, hj => by
    have ih := hA_sim hn i fun j h1 => hj j (by omega)
    have l1 := hA_le (h := h) (us := us) (D := D) i
    have l2 := hA_le (h := h) (us := us) (D := D') i
    simp only [hA]
    rcases hj i (by omega) with h1 | h1 | ⟨a, x, ha, h1⟩
    · rw [h1]; split <;> split <;> exact ih
    · rw [h1]; split
      · exact ih.aps _
      · exact ih
    · rw [h1]
      have s1 : Sim n k (hA us h D i) (aps (hA us h D i) [.put a x]) := Sim.kept ha (by omega)
      have s2 : Sim n k (hA us h D' i) (aps (hA us h D' i) [.put a x]) := Sim.kept ha (by omega)
      split <;> split
      · exact (s1.symm.trans ih).trans s2
      · exact s1.symm.trans ih
      · exact ih.trans s2
      · exact ih

end
end Go.Abs
