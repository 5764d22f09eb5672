/- The abstract layer, part 32: the law of such regions. -/
import Derived.Test.YtlddahcgaonlhaaA31
set_option linter.all false
namespace Go.Abs
open Go

def heapA (l : List CI) (fs al : List Nat) (j : Nat) : Bool := !(free0 (l.getD j default).i || fs.contains j || al.contains j)
def touchA (l : List CI) (al ws rs fs : List Nat) (i j : Nat) : Bool :=
  (cslots (l.getD j default)).any (dslot (l.getD i default)) || (cslots (l.getD i default)).any (dslot (l.getD j default)) ||
  ((l.getD i default).d.isSome && (l.getD i default).d == (l.getD j default).d) ||
  ((ws.contains i || ws.contains j) && heapA l fs al i && heapA l fs al j) ||
  (al.contains i && heapA l fs al j && !rs.contains j) || (al.contains j && heapA l fs al i && !rs.contains i)
def chkA (l : List CI) (es : List (List Nat)) (al ws rs fs : List Nat) : Bool :=
  es.length == l.length && (List.range l.length).all fun j => (es.getD j []).all (fun k => k < j) && (List.range j).all fun i => !touchA l al ws rs fs i j || ((ancs es []).getD j 0).testBit i

/-- The text's order, walked: al = new blocks whose names (n0 on) are kept; ws = what else turns the heap; rs = those of them that don't look at al's; fs = what reads alike wherever it is drawn. -/
inductive DA (P : Program) (N : Nat) (Φ : AHeap → Prop) (n0 : Nat) (al ws rs fs : List Nat) (K : Env → AHeap → Prop) : Nat → List CI → Env → AHeap → Prop
  | nil {j : Nat} {e e' : Env} {h : AHeap} (hs : subE e' e) (hk : K e' h) : DA P N Φ n0 al ws rs fs K j [] e h
  | fx {j : Nat} {c : CI} {l : List CI} {e : Env} {h : AHeap} {r : Option AV} (us : List Up) (hx : al.contains j = false → FX P N c e h r (aps h us)) (h0 : free0 c.i = true → us = [] ∧ ∀ h2, FX P N c e h2 r h2)
      (hw : ws.contains j = false → al.contains j = false → us = []) (ha : al.contains j = true → ∃ x, us = [.put (n0 + al.idxOf j) x] ∧ ∀ h2 : AHeap, ¬ h2.used (n0 + al.idxOf j) → FX P N c e h2 r (aps h2 us))
      (hrs : rs.contains j = true → ∀ h2, Sim n0 al.length h h2 → FX P N c e h2 r (aps h2 us)) (hu : al.contains j = false → (∀ u ∈ us, u.isSet = true ∨ ¬ (n0 ≤ u.id ∧ u.id < n0 + al.length)) ∧ (rs.contains j = true → ∀ u ∈ us, ¬ (n0 ≤ u.id ∧ u.id < n0 + al.length)))
      (hp : ∀ h2, Φ h2 → Φ (aps h2 us)) (hf : fs.contains j = true → us = [] ∧ ∀ h2, Φ h2 → FX P N c e h2 r h2)
      (k : DA P N Φ n0 al ws rs fs K (j + 1) l (putR c.d r e) (aps h us)) : DA P N Φ n0 al ws rs fs K j (c :: l) e h

section
variable {P : Program} {N : Nat} {e : Env} {h : AHeap} {Φ : AHeap → Prop} {n0 : Nat} {al ws rs fs : List Nat} {K : Env → AHeap → Prop} {l : List CI} {es : List (List Nat)}

structure TrA (P : Program) (N : Nat) (Φ : AHeap → Prop) (n0 : Nat) (al ws rs fs : List Nat) (c : Nat → CI) (ee : Nat → Env) (hh : Nat → AHeap) (rr : Nat → Option AV) (us : Nat → List Up) (j : Nat) : Prop where
  fx : al.contains j = false → FX P N (c j) (ee j) (hh j) (rr j) (aps (hh j) (us j))
  zero : free0 (c j).i = true → us j = [] ∧ ∀ h2, FX P N (c j) (ee j) h2 (rr j) h2
  keep : ws.contains j = false → al.contains j = false → us j = []
  new : al.contains j = true → ∃ x, us j = [.put (n0 + al.idxOf j) x] ∧ ∀ h2 : AHeap, ¬ h2.used (n0 + al.idxOf j) → FX P N (c j) (ee j) h2 (rr j) (aps h2 (us j))
  rob : rs.contains j = true → ∀ h2, Sim n0 al.length (hh j) h2 → FX P N (c j) (ee j) h2 (rr j) (aps h2 (us j))
  ids : al.contains j = false → (∀ u ∈ us j, u.isSet = true ∨ ¬ (n0 ≤ u.id ∧ u.id < n0 + al.length)) ∧ (rs.contains j = true → ∀ u ∈ us j, ¬ (n0 ≤ u.id ∧ u.id < n0 + al.length))
  phi : ∀ h2, Φ h2 → Φ (aps h2 (us j))
  free : fs.contains j = true → us j = [] ∧ ∀ h2, Φ h2 → FX P N (c j) (ee j) h2 (rr j) h2
  env : ee (j + 1) = putR (c j).d (rr j) (ee j)
  heap : hh (j + 1) = aps (hh j) (us j)

theorem DA.trace : ∀ {j : Nat} {l : List CI} {e : Env} {h : AHeap}, DA P N Φ n0 al ws rs fs K j l e h →
    ∃ (ee : Nat → Env) (hh : Nat → AHeap) (rr : Nat → Option AV) (us : Nat → List Up), ee j = e ∧ hh j = h ∧ (∃ e', subE e' (ee (j + l.length)) ∧ K e' (hh (j + l.length))) ∧ ∀ i, j ≤ i → i < j + l.length → TrA P N Φ n0 al ws rs fs (fun k => l.getD (k - j) default) ee hh rr us i := by
  intro j l e h hd
  induction hd with
  | nil hs hk => exact ⟨fun _ => _, fun _ => _, fun _ => none, fun _ => [], rfl, rfl, ⟨_, hs, hk⟩, fun i h1 h2 => by simp at h2; omega⟩
  | @fx j c l e h r u hx h0 hw ha hrs hu hp hf k ih =>
    obtain ⟨ee, hh, rr, us, q1, q2, q3, q4⟩ := ih
    refine ⟨fun i => if i = j then e else ee i, fun i => if i = j then h else hh i, fun i => if i = j then r else rr i, fun i => if i = j then u else us i, by simp, by simp, ?_, fun i h1 h2 => ?_⟩
    · have hne : ¬ (j + 1 + l.length = j) := by omega
      have : j + (c :: l).length = j + 1 + l.length := by simp; omega
      simp only [this, hne, if_false]
      exact q3
    · rcases Nat.eq_or_lt_of_le h1 with rfl | hlt
      · have e1 : ((c :: l).getD (j - j) default) = c := by simp
        have e2 : ¬ (j + 1 = j) := by omega
        exact {
          fx := by simp only [e1, if_true]; exact hx
          zero := by simp only [e1, if_true]; exact h0
          keep := by simp only [if_true]; exact hw
          new := by simp only [e1, if_true]; exact ha
          rob := by simp only [e1, if_true]; exact hrs
          ids := by simp only [if_true]; exact hu
          phi := by simp only [if_true]; exact hp
          free := by simp only [e1, if_true]; exact hf
          env := by simp only [e1, e2, if_false, if_true, q1]
          heap := by simp only [e2, if_false, if_true, q2] }
      · have t := q4 i hlt (by simp at h2; omega)
        have e1 : ((c :: l).getD (i - j) default) = l.getD (i - (j + 1)) default := by
          have : i - j = (i - (j + 1)) + 1 := by omega
          rw [this]; simp
        have e2 : ¬ (i + 1 = j) := by omega
        have e3 : ¬ (i = j) := by omega
        exact {
          fx := by simpa only [e1, e3, if_false] using t.fx
          zero := by simpa only [e1, e3, if_false] using t.zero
          keep := by simpa only [e3, if_false] using t.keep
          new := by simpa only [e1, e3, if_false] using t.new
          rob := by simpa only [e1, e3, if_false] using t.rob
          ids := by simpa only [e3, if_false] using t.ids
          phi := by simpa only [e3, if_false] using t.phi
          free := by simpa only [e1, e3, if_false] using t.free
          env := by simpa only [e1, e2, e3, if_false] using t.env
          heap := by simpa only [e2, e3, if_false] using t.heap }

theorem AW.dregA {Q : Exit → Env → AHeap → Prop} (hm : P.follows .mixedOrders = true) (hc : chkA l es al ws rs fs = true) (hn0 : n0 + al.length ≤ h.next) (hgap : ∀ id, n0 ≤ id → id < n0 + al.length → h.gap id = true) (hphi : Φ h) (hd : DA P N Φ n0 al ws rs fs (fun e h => Q .normal e h) 0 l e h) : AW P N (.dreg l es) Q e h := by
  intro code hcode m w a hr he
  cases code <;> simp only [compC] at hcode <;> try (cases hcode; done)
  · rename_i id ops dr
    split at hcode
    · rename_i hdr
      subst hdr
      injection hcode with hl hes
      refine wp_region_any hm ?_
      obtain ⟨ee, hh, rr, us, q1, q2, q3, q4⟩ := hd.trace
      simp only [Nat.zero_add] at q3 q4
      have hn : ops.size = l.length := by rw [← hl]; simp [compR]
      -- the checks
      simp only [chkA, Bool.and_eq_true, List.all_eq_true, List.mem_range, beq_iff_eq, decide_eq_true_eq] at hc
      obtain ⟨hlen, hchk⟩ := hc
      have hback : ∀ j, j < l.length → ∀ k ∈ es.getD j [], k < j := fun j hj k hk => by simpa using (hchk j hj).1 k hk
      have htouch : ∀ i j, i < j → j < l.length → touchA l al ws rs fs i j = true → Reach es i j := fun i j hij hj ht => by
        have := (hchk j hj).2 i hij
        rw [ht] at this
        exact ancs_ok es es [] rfl (fun j i hb => by simp at hb) j i (by simpa using this)
      have hes' : ∀ j (hj : j < ops.size), es.getD j [] = ((ops[j]).after.toList.filter (Region.binds .any)).map (·.on) := fun j hj => by
        rw [← hes]; simp [edgesR, List.getD_eq_getElem?_getD, hj]
      have hci : ∀ j (hj : j < ops.size), compI P N ops (ops[j]) = l.getD j default := fun j hj => by
        rw [← hl]; simp [compR, List.getD_eq_getElem?_getD, hj]
      have henv : ∀ j, j < l.length → ee (j + 1) = putR (l.getD j default).d (rr j) (ee j) := fun j hj => (q4 j (Nat.zero_le _) hj).env
      have hhT : ∀ i, i ≤ l.length → hh i = hA us h (fun _ => true) i := fun i => by
        induction i with
        | zero => intro _; exact q2
        | succ i ih => intro hi; rw [(q4 i (Nat.zero_le _) (by omega)).heap, ih (by omega)]; rfl
      obtain ⟨ez, q3s, q3⟩ := q3
      obtain ⟨c, hcc'⟩ : ∃ c : Nat → CI, ∀ k, l.getD k default = c k := ⟨_, fun _ => rfl⟩
      have ecc : (fun k => l.getD (k - 0) default) = c := funext fun k => by rw [Nat.sub_zero, hcc']
      rw [ecc] at q4
      simp only [hcc'] at henv hci
      -- the induction
      suffices H : ∀ (fuel : Nat) (listed : Array Bool) (U : List Nat) (m1 : Inj) (w1 : World) (a1 : Act), listed.size = l.length → U.length ≤ fuel → U.Nodup → (∀ j, j < l.length → (listed.getD j false = false ↔ j ∈ U)) →
          (∀ j, listed.getD j false = true → ∀ k ∈ es.getD j [], listed.getD k false = true) →
          HR m1 (hA us h (fun j => listed.getD j false) l.length) w1 → ER N m1 (hA us h (fun j => listed.getD j false) l.length) w1 (eD c rr e (fun j => listed.getD j false) l.length) a1 →
          Step m h w m1 (hA us h (fun j => listed.getD j false) l.length) w1 → wpAny P .any ops (PA N Q m h w) fuel listed a1 w1 by
        have st := step_drew (m := m) (h := h) (w := w)
        refine H ops.size (Array.replicate ops.size false) (List.range l.length) m { w with drawn := w.drawn + 1 } a (by simp [hn]) (by simp [hn]) List.nodup_range (fun j hj => by simp [List.getD, hn, hj]) (fun j hj => ?_) ?_ ?_ ?_
        · rw [rep_false] at hj; cases hj
        all_goals
          have e1 : hA us h (fun j => (Array.replicate ops.size false).getD j false) l.length = h := hA_stop (i := 0) l.length (Nat.zero_le _) fun k _ _ hd => by rw [rep_false] at hd; cases hd
        · rw [e1]; exact hr.drew
        · rw [e1]
          have e2 : ∀ s, lk s (eD c rr e (fun j => (Array.replicate ops.size false).getD j false) l.length) = lk s e := fun s => eD_stop (i := 0) l.length (Nat.zero_le _) fun k _ _ _ => rep_false _ _
          have he' := he.step st
          exact ⟨he'.size, he'.defers, fun i v hv => he'.val i v (by rw [← e2]; exact hv)⟩
        · rw [e1]; exact st
      intro fuel
      -- all is done
      have fin : ∀ (listed : Array Bool) (m1 : Inj) (w1 : World) (a1 : Act), listed.size = l.length → Region.ready .any ops listed = [] →
          HR m1 (hA us h (fun j => listed.getD j false) l.length) w1 → ER N m1 (hA us h (fun j => listed.getD j false) l.length) w1 (eD c rr e (fun j => listed.getD j false) l.length) a1 →
          Step m h w m1 (hA us h (fun j => listed.getD j false) l.length) w1 → PA N Q m h w .normal a1 w1 := fun listed m1 w1 a1 hsz hrd h1 h2 h3 => by
        have hall : ∀ j, j < l.length → listed.getD j false = true := fun j => by
          induction j using Nat.strongRecOn with
          | ind j ih =>
            intro hj
            cases hx : listed.getD j false
            · have : j ∈ Region.ready .any ops listed := mem_ready.2 ⟨by simpa [Array.getD_eq_getD_getElem?, hsz, hj] using hx, ops[j]'(by omega), by simp [hn, hj], fun ed hed hb => ?_⟩
              · rw [hrd] at this; cases this
              · have hk : ed.on ∈ es.getD j [] := by
                  rw [hes' j (by omega)]
                  exact List.mem_map.2 ⟨ed, List.mem_filter.2 ⟨by simpa using hed, hb⟩, rfl⟩
                have := hback j hj _ hk
                exact ih _ this (by omega)
            · rfl
        have e1 : hA us h (fun j => listed.getD j false) l.length = hh l.length := by rw [hhT _ (Nat.le_refl _)]; exact hA_text l.length fun k hk _ => hall k hk
        have e2 : ∀ s, lk s (eD c rr e (fun j => listed.getD j false) l.length) = lk s (ee l.length) := fun s => eD_text q1 henv l.length (Nat.le_refl _) fun k hk _ => hall k hk
        rw [e1] at h1 h2 h3
        exact ⟨m1, ez, hh l.length, h1, ⟨h2.size, h2.defers, fun i v hv => h2.val i v (by rw [e2]; exact q3s i v hv)⟩, h3, q3⟩
      induction fuel with
      | zero =>
        intro listed U m1 w1 a1 hsz hU hnd hmem hcl h1 h2 h3
        have hU0 : U = [] := List.length_eq_zero_iff.1 (by omega)
        subst hU0
        have hrd : Region.ready .any ops listed = [] := List.eq_nil_iff_forall_not_mem.2 fun j hj => by
          obtain ⟨g0, o, g1, _⟩ := mem_ready.1 hj
          have hj' : j < l.length := by rw [← hn]; exact (Array.getElem?_eq_some_iff.1 g1).1
          have := (hmem j hj').1 (by simpa [Array.getD_eq_getD_getElem?, hsz, hj'] using g0)
          cases this
        exact ⟨hrd, fin listed m1 w1 a1 hsz hrd h1 h2 h3⟩
      | succ fuel ih =>
        intro listed U m1 w1 a1 hsz hU hnd hmem hcl h1 h2 h3
        refine ⟨fun hrd => fin listed m1 w1 a1 hsz hrd h1 h2 h3, fun i hi => ?_⟩
        obtain ⟨g0, o, g1, g2⟩ := mem_ready.1 hi
        have hi' : i < l.length := by rw [← hn]; exact (Array.getElem?_eq_some_iff.1 g1).1
        have hio : i < ops.size := by omega
        have ho : ops[i] = o := (Array.getElem?_eq_some_iff.1 g1).2
        have hDi : listed.getD i false = false := by simpa [Array.getD_eq_getD_getElem?, hsz, hi'] using g0
        have hpre : ∀ k ∈ es.getD i [], listed.getD k false = true := fun k hk => by
          rw [hes' i hio, ho] at hk
          obtain ⟨ed, hed, rfl⟩ := List.mem_map.1 hk
          obtain ⟨he1, he2⟩ := List.mem_filter.1 hed
          exact g2 ed (by simpa using he1) he2
        -- ahead: done; behind: not done
        have ahead : ∀ k, k < i → touchA l al ws rs fs k i = true → listed.getD k false = true := fun k hk ht => (htouch k i hk hi' ht).done (D := fun j => listed.getD j false) hcl hpre
        have behind : ∀ k, i < k → k < l.length → touchA l al ws rs fs i k = true → listed.getD k false = false := fun k hk hkl ht => by
          cases hx : listed.getD k false
          · rfl
          · have := (htouch i k hk hkl ht).done (D := fun j => listed.getD j false) hcl (hcl k hx)
            rw [hDi] at this; cases this
        have t := q4 i (Nat.zero_le _) hi'
        -- the slots
        have hsl : ∀ s ∈ cslots (c i), lk s (eD c rr e (fun j => listed.getD j false) l.length) = lk s (ee i) := fun s hs => by
          rw [eD_stop (i := i) l.length (by omega) fun k hk1 hk2 hkd => ?_]
          · exact eD_text q1 henv i (by omega) fun k hk1 hkd => ahead k hk1 (by
              simp only [touchA, hcc', Bool.or_eq_true]
              refine .inl (.inl ?_)
              exact .inl (.inl (.inl (List.any_eq_true.2 ⟨s, hs, by simp [dslot, hkd]⟩))))
          · rcases Nat.eq_or_lt_of_le hk1 with rfl | hlt
            · exact hDi
            · exact behind k hlt hk2 (by
                simp only [touchA, hcc', Bool.or_eq_true]
                refine .inl (.inl ?_)
                exact .inl (.inl (.inr (List.any_eq_true.2 ⟨s, hs, by simp [dslot, hkd]⟩))))
        -- what turns the heap
        have hus : ∀ k, k < l.length → us k ≠ [] → al.contains k = false → ws.contains k = true ∧ heapA l fs al k = true := fun k hk hne ha => by
          have tk := q4 k (Nat.zero_le _) hk
          refine ⟨?_, ?_⟩
          · cases hw : ws.contains k
            · exact absurd (tk.keep hw ha) hne
            · rfl
          · cases hf0 : free0 (c k).i
            · cases hff : fs.contains k
              · unfold heapA; rw [hcc', hf0, hff, ha]; rfl
              · exact absurd (tk.free hff).1 hne
            · exact absurd (tk.zero hf0).1 hne
        have hname : ∀ k, al.contains k = true → n0 ≤ n0 + al.idxOf k ∧ n0 + al.idxOf k < n0 + al.length := fun k hk => ⟨Nat.le_add_right _ _, Nat.add_lt_add_left (List.idxOf_lt_length_of_mem (by simpa using hk)) _⟩
        have hinj : ∀ k k', al.contains k = true → al.contains k' = true → n0 + al.idxOf k = n0 + al.idxOf k' → k = k' := fun k k' h1 h2 h3 => by
          have a1 := List.getElem_idxOf (List.idxOf_lt_length_of_mem (by simpa using h1 : k ∈ al))
          have a2 := List.getElem_idxOf (List.idxOf_lt_length_of_mem (by simpa using h2 : k' ∈ al))
          have a3 : al.idxOf k = al.idxOf k' := by omega
          rw [← a1, ← a2]
          simp only [a3]
        have hcomm : ∀ k, i < k → k < l.length → listed.getD k false = true → ∀ h2 : AHeap, n0 + al.length ≤ h2.next → aps (aps h2 (us i)) (us k) = aps (aps h2 (us k)) (us i) := fun k hk hkl hdk h2 hn2 => by
          by_cases hie : us i = []
          · rw [hie]; rfl
          by_cases hke : us k = []
          · rw [hke]; rfl
          have tk := q4 k (Nat.zero_le _) hkl
          cases hai : al.contains i <;> cases hak : al.contains k
          · obtain ⟨w1, y1⟩ := hus i hi' hie hai
            obtain ⟨_, y2⟩ := hus k hkl hke hak
            have := behind k hk hkl (by
              simp only [touchA, w1, y1, y2, Bool.or_eq_true]
              exact .inl (.inl (.inr (by simp))))
            rw [this] at hdk; cases hdk
          · obtain ⟨x, hx, _⟩ := tk.new hak
            have hna := hname k hak
            obtain ⟨w1, y1⟩ := hus i hi' hie hai
            cases hri : rs.contains i
            · have := behind k hk hkl (by
                simp only [touchA, hak, y1, hri, Bool.or_eq_true]
                exact .inr (by simp))
              rw [this] at hdk; cases hdk
            · rw [hx]
              exact (put_aps (fun u hu e1 => (t.ids hai).2 hri u hu (by omega)) (by omega)).symm
          · obtain ⟨x, hx, _⟩ := t.new hai
            have hna := hname i hai
            obtain ⟨w1, y1⟩ := hus k hkl hke hak
            cases hrk : rs.contains k
            · have := behind k hk hkl (by
                simp only [touchA, hai, y1, hrk, Bool.or_eq_true]
                exact .inl (.inr (by simp)))
              rw [this] at hdk; cases hdk
            · rw [hx]
              exact put_aps (fun u hu e1 => (tk.ids hak).2 hrk u hu (by omega)) (by omega)
          · obtain ⟨x, hx, _⟩ := t.new hai
            obtain ⟨y, hy, _⟩ := tk.new hak
            have hna := hname i hai
            rw [hx, hy]
            exact put_ap (u := .put _ y) (fun e1 => absurd (hinj _ _ hak hai e1) (by omega)) (by omega)
        -- the heap, for what looks at it
        have hexact : heapA l fs al i = true → rs.contains i = false → hA us h (fun j => listed.getD j false) l.length = hh i := fun hy hri => by
          rw [hA_stop (i := i) l.length (by omega) fun k hk1 hk2 hkd => ?_, hhT i (by omega)]
          · refine hA_text i fun k hk1 hke => ahead k hk1 ?_
            cases hak : al.contains k
            · obtain ⟨w2, y2⟩ := hus k (by omega) hke hak
              simp only [touchA, w2, hy, y2, Bool.or_eq_true]
              exact .inl (.inl (.inr (by simp)))
            · simp only [touchA, hak, hy, hri, Bool.or_eq_true]
              exact .inl (.inr (by simp))
          · rcases Nat.eq_or_lt_of_le hk1 with rfl | hlt
            · rw [hDi] at hkd; cases hkd
            · refine Classical.byContradiction fun hke => ?_
              have := behind k hlt hk2 (by
                cases hak : al.contains k
                · obtain ⟨w2, y2⟩ := hus k (by omega) hke hak
                  simp only [touchA, w2, hy, y2, Bool.or_eq_true]
                  exact .inl (.inl (.inr (by simp)))
                · simp only [touchA, hak, hy, hri, Bool.or_eq_true]
                  exact .inr (by simp))
              rw [this] at hkd; cases hkd
        have hrobust : heapA l fs al i = true → Sim n0 al.length (hh i) (hA us h (fun j => listed.getD j false) l.length) := fun hy => by
          have e1 : hh i = hA us h (fun k => decide (k < i)) l.length := by
            rw [hhT i (by omega), hA_stop (i := i) (D := fun k => decide (k < i)) l.length (by omega) fun k hk1 _ hd => absurd (of_decide_eq_true hd) (by omega)]
            exact hA_text i fun k hk _ => by simp [hk]
          rw [e1]
          refine hA_sim hn0 l.length fun k hk => ?_
          by_cases hke : us k = []
          · exact .inl hke
          cases hak : al.contains k
          · refine .inr (.inl ?_)
            obtain ⟨w2, y2⟩ := hus k hk hke hak
            rcases Nat.lt_trichotomy k i with h1 | h1 | h1
            · rw [ahead k h1 (by
                simp only [touchA, w2, hy, y2, Bool.or_eq_true]
                exact .inl (.inl (.inr (by simp))))]
              simp [h1]
            · subst h1; rw [hDi]; simp
            · rw [behind k h1 hk (by
                simp only [touchA, w2, hy, y2, Bool.or_eq_true]
                exact .inl (.inl (.inr (by simp))))]
              simp; omega
          · obtain ⟨x, hx, _⟩ := (q4 k (Nat.zero_le _) hk).new hak
            exact .inr (.inr ⟨_, x, hname k hak, hx⟩)
        have hnew : ∀ k, (listed.setIfInBounds i true).getD k false = (if k = i then true else listed.getD k false) := fun k => by
          by_cases hk : k = i
          · subst hk; simp [hsz, hi']
          · rw [if_neg hk]; exact getD_set_ne false (Ne.symm hk)
        have hDn : (fun k => (listed.setIfInBounds i true).getD k false) = fun k => if k = i then true else listed.getD k false := funext hnew
        -- what holds behind it
        have go : ∀ h', hA us h (fun k => if k = i then true else listed.getD k false) l.length = h' → FX P N (c i) (ee i) (hA us h (fun j => listed.getD j false) l.length) (rr i) h' →
            wpOp P ops (PA N Q m h w) i (wpAny P .any ops (PA N Q m h w) fuel (listed.setIfInBounds i true)) a1 w1 := fun h' hh' hfx => by
          refine hfx ops i o g1 (by rw [← ho, hci i hio]) _ hsl m1 w1 a1 _ _ h1 h2 fun m2 w2 a2 r1 r2 r3 => ?_
          refine ih (listed.setIfInBounds i true) (U.erase i) m2 w2 a2 (by simp [hsz]) ?_ (hnd.erase i) (fun j hj => ?_) (fun j hj => ?_) ?_ ?_ ?_
          · rw [List.length_erase_of_mem ((hmem i hi').1 hDi)]; omega
          · rw [hnew, hnd.mem_erase_iff]
            by_cases hji : j = i
            · simp [hji]
            · simp [hji, ← hmem j hj]
          · intro k hk
            rw [hnew] at hj ⊢
            by_cases hki : k = i
            · simp [hki]
            · rw [if_neg hki]
              by_cases hji : j = i
              · subst hji; exact hpre k hk
              · rw [if_neg hji] at hj; exact hcl j hj k hk
          · rw [hDn, hh']; exact r1
          · rw [hDn, hh']
            refine ⟨r2.size, r2.defers, fun s v hv => r2.val s v ?_⟩
            rw [← hv]
            by_cases hds : (c i).d = some s
            · rw [hds, lk_putR_same]
              rw [eD_stop (i := i + 1) l.length (by omega) fun k hk1 hk2 hkd => ?_]
              · simp only [eD, if_true, hds, lk_putR_same]
              · have : ¬ k = i := by omega
                simp only [this, if_false]
                exact behind k (by omega) hk2 (by
                  simp only [touchA, hcc', Bool.or_eq_true]
                  refine .inl (.inl ?_)
                  exact .inl (.inr (by simp [hds, hkd])))
            · rw [lk_putR_ne hds]
              have key : ∀ n, lk s (eD c rr e (fun j => listed.getD j false) n) = lk s (eD c rr e (fun k => if k = i then true else listed.getD k false) n) := fun n => by
                induction n with
                | zero => rfl
                | succ n ihn =>
                  simp only [eD]
                  by_cases hni : n = i
                  · subst hni
                    simp only [if_true, hDi, Bool.false_eq_true, if_false]
                    rw [lk_putR_ne hds]; exact ihn
                  · simp only [hni, if_false]
                    split
                    · by_cases hdn : (c n).d = some s
                      · rw [hdn, lk_putR_same, lk_putR_same]
                      · rw [lk_putR_ne hdn, lk_putR_ne hdn]; exact ihn
                    · exact ihn
              exact key _
          · rw [hDn, hh']; exact h3.trans r3
        have hins : hA us h (fun k => if k = i then true else listed.getD k false) l.length = aps (hA us h (fun j => listed.getD j false) l.length) (us i) :=
          hA_ins hn0 hDi (fun _ => rfl) l.length hi' hcomm
        refine go _ hins ?_
        cases hf0 : free0 (c i).i
        · cases hff : fs.contains i
          · cases hai : al.contains i
            · have hy : heapA l fs al i = true := by unfold heapA; rw [hcc', hf0, hff, hai]; rfl
              cases hri : rs.contains i
              · rw [hexact hy hri]; exact t.fx hai
              · exact t.rob hri _ (hrobust hy)
            · obtain ⟨x, _, hfx⟩ := t.new hai
              have hna := hname i hai
              refine hfx _ fun hu => ?_
              have := hA_gap (us := us) (D := fun j => listed.getD j false) (hgap _ hna.1 hna.2) (n := l.length) (fun k hk hdk u hu => by
                cases hak : al.contains k
                · rcases ((q4 k (Nat.zero_le _) hk).ids hak).1 u hu with h1 | h1
                  · exact .inl h1
                  · exact .inr fun e1 => h1 (by omega)
                · obtain ⟨y, hy, _⟩ := (q4 k (Nat.zero_le _) hk).new hak
                  rw [hy, List.mem_singleton] at hu
                  subst hu
                  refine .inr fun e1 => ?_
                  have := hinj _ _ hak hai e1
                  subst this
                  rw [hDi] at hdk; cases hdk) l.length (Nat.le_refl _)
              rw [hu.2] at this; cases this
          · rw [(t.free hff).1]
            exact (t.free hff).2 _ (hA_phi hphi (fun j hj => (q4 j (Nat.zero_le _) hj).phi) l.length (Nat.le_refl _))
        · rw [(t.zero hf0).1]
          exact (t.zero hf0).2 _
    · cases hcode
  · split at hcode <;> cases hcode
end
end Go.Abs
