/- The abstract layer, part 20: regions whose order is drawn: the text's order is enough. -/
import Derived.Test.YtlddahcgaonlhaaA19
set_option linter.all false
namespace Go.Abs
open Go

/-! ### which operation is behind which -/
def ancs (es : List (List Nat)) (acc : List Nat) : List Nat :=
  match es with
  | [] => acc
  | ps :: es => ancs es (acc ++ [ps.foldl (fun s k => s ||| (2 ^ k ||| acc.getD k 0)) 0])
inductive Reach (es : List (List Nat)) : Nat → Nat → Prop
  | one {k j : Nat} (hk : k ∈ es.getD j []) : Reach es k j
  | more {i k j : Nat} (hk : k ∈ es.getD j []) (hr : Reach es i k) : Reach es i j

theorem foldl_bits (acc : List Nat) : ∀ (ps : List Nat) (s i : Nat), (ps.foldl (fun s k => s ||| (2 ^ k ||| acc.getD k 0)) s).testBit i = true → s.testBit i = true ∨ ∃ k ∈ ps, i = k ∨ (acc.getD k 0).testBit i = true
  | [], s, i, h => .inl h
  | p :: ps, s, i, h => by
    rcases foldl_bits acc ps _ i h with h1 | ⟨k, hk, h1⟩
    · rw [Nat.testBit_or, Nat.testBit_or, Bool.or_eq_true, Bool.or_eq_true] at h1
      rcases h1 with h1 | h1 | h1
      · exact .inl h1
      · rw [Nat.testBit_two_pow] at h1
        exact .inr ⟨p, by simp, .inl (of_decide_eq_true h1).symm⟩
      · exact .inr ⟨p, by simp, .inr h1⟩
    · exact .inr ⟨k, by simp [hk], h1⟩
theorem ancs_ok (full : List (List Nat)) : ∀ (es : List (List Nat)) (acc : List Nat), full.drop acc.length = es → (∀ j i, (acc.getD j 0).testBit i = true → Reach full i j) → ∀ j i, ((ancs es acc).getD j 0).testBit i = true → Reach full i j
  | [], acc, _, hi => hi
  | ps :: es, acc, hd, hi => by
    have hps : full.getD acc.length [] = ps := by
      have := congrArg (fun l => l[0]?) hd
      simp at this
      simp [List.getD_eq_getElem?_getD, this]
    refine ancs_ok full es _ (by simpa using congrArg List.tail hd) fun j i hb => ?_
    rcases Nat.lt_trichotomy j acc.length with hlt | rfl | hgt
    · refine hi j i ?_
      simpa [List.getD_eq_getElem?_getD, List.getElem?_append_left hlt] using hb
    · have hb' : (ps.foldl (fun s k => s ||| (2 ^ k ||| acc.getD k 0)) 0).testBit i = true := by
        simpa [List.getD_eq_getElem?_getD] using hb
      rcases foldl_bits acc ps 0 i hb' with h1 | ⟨k, hk, h1⟩
      · simp at h1
      · rw [← hps] at hk
        rcases h1 with rfl | h1
        · exact .one hk
        · exact .more hk (hi k i h1)
    · have : (acc ++ [ps.foldl (fun s k => s ||| (2 ^ k ||| acc.getD k 0)) 0]).getD j 0 = 0 := by
        rw [List.getD_eq_getElem?_getD, List.getElem?_eq_none (by simp; omega)]; rfl
      rw [this] at hb
      simp at hb

/-- Operations i < j that touch one another: j stands behind i. -/
def dslot (c : CI) (s : Nat) : Bool := c.d == some s
def heapy (l : List CI) (ws fs : List Nat) (j : Nat) : Bool := ws.contains j || !(free0 (l.getD j default).i || fs.contains j)
def touch (l : List CI) (ws fs : List Nat) (i j : Nat) : Bool :=
  (cslots (l.getD j default)).any (dslot (l.getD i default)) || (cslots (l.getD i default)).any (dslot (l.getD j default)) ||
  ((l.getD i default).d.isSome && (l.getD i default).d == (l.getD j default).d) ||
  ((ws.contains i || ws.contains j) && heapy l ws fs i && heapy l ws fs j)
def chkD (l : List CI) (es : List (List Nat)) (ws fs : List Nat) : Bool :=
  es.length == l.length && (List.range l.length).all fun j => (es.getD j []).all (fun k => k < j) && (List.range j).all fun i => !touch l ws fs i j || ((ancs es []).getD j 0).testBit i

/-- The text's order, walked; what is drawn elsewhere is in fs. -/
inductive DW (P : Program) (N : Nat) (Φ : AHeap → Prop) (ws fs : List Nat) (K : Env → AHeap → Prop) : Nat → List CI → Env → AHeap → Prop
  | nil {j : Nat} {e e' : Env} {h : AHeap} (hs : subE e' e) (hk : K e' h) : DW P N Φ ws fs K j [] e h
  | fx {j : Nat} {c : CI} {l : List CI} {e : Env} {h h' : AHeap} {r : Option AV} (hx : FX P N c e h r h') (h0 : free0 c.i = true → h' = h ∧ ∀ h2, FX P N c e h2 r h2) (hw : ws.contains j = false → h' = h) (hp : Φ h → Φ h') (hf : fs.contains j = true → ∀ h2, Φ h2 → FX P N c e h2 r h2)
      (k : DW P N Φ ws fs K (j + 1) l (putR c.d r e) h') : DW P N Φ ws fs K j (c :: l) e h

section
variable {P : Program} {N : Nat} {e : Env} {h : AHeap} {Φ : AHeap → Prop} {ws fs : List Nat} {K : Env → AHeap → Prop} {l : List CI} {es : List (List Nat)}

/-- A walk's states. -/
structure Tr (P : Program) (N : Nat) (Φ : AHeap → Prop) (ws fs : List Nat) (c : Nat → CI) (ee : Nat → Env) (hh : Nat → AHeap) (rr : Nat → Option AV) (j : Nat) : Prop where
  fx : FX P N (c j) (ee j) (hh j) (rr j) (hh (j + 1))
  zero : free0 (c j).i = true → hh (j + 1) = hh j ∧ ∀ h2, FX P N (c j) (ee j) h2 (rr j) h2
  keep : ws.contains j = false → hh (j + 1) = hh j
  phi : Φ (hh j) → Φ (hh (j + 1))
  free : fs.contains j = true → ∀ h2, Φ h2 → FX P N (c j) (ee j) h2 (rr j) h2
  env : ee (j + 1) = putR (c j).d (rr j) (ee j)

theorem DW.trace : ∀ {j : Nat} {l : List CI} {e : Env} {h : AHeap}, DW P N Φ ws fs K j l e h →
    ∃ (ee : Nat → Env) (hh : Nat → AHeap) (rr : Nat → Option AV), ee j = e ∧ hh j = h ∧ (∃ e', subE e' (ee (j + l.length)) ∧ K e' (hh (j + l.length))) ∧ ∀ i, j ≤ i → i < j + l.length → Tr P N Φ ws fs (fun k => l.getD (k - j) default) ee hh rr i := by
  intro j l e h hd
  induction hd with
  | nil hs hk => exact ⟨fun _ => _, fun _ => _, fun _ => none, rfl, rfl, ⟨_, hs, hk⟩, fun i h1 h2 => by simp at h2; omega⟩
  | @fx j c l e h h' r hx h0 hw hp hf k ih =>
    obtain ⟨ee, hh, rr, q1, q2, q3, q4⟩ := ih
    refine ⟨fun i => if i = j then e else ee i, fun i => if i = j then h else hh i, fun i => if i = j then r else rr i, by simp, by simp, ?_, fun i h1 h2 => ?_⟩
    · have hne : ¬ (j + 1 + l.length = j) := by omega
      have : j + (c :: l).length = j + 1 + l.length := by simp; omega
      simp only [this, hne, if_false]
      exact q3
    · rcases Nat.eq_or_lt_of_le h1 with rfl | hlt
      · have e1 : ((c :: l).getD (j - j) default) = c := by simp
        have e2 : ¬ (j + 1 = j) := by omega
        exact {
          fx := by simp only [e1, e2, if_false, if_true, q2]; exact hx
          zero := by simp only [e1, e2, if_false, if_true, q2]; exact h0
          keep := by simp only [e2, if_false, if_true, q2]; exact hw
          phi := by simp only [e2, if_false, if_true, q2]; exact hp
          free := by simp only [e1, if_true]; exact hf
          env := by simp only [e1, e2, if_false, if_true, q1] }
      · have t := q4 i hlt (by simp at h2; omega)
        have e1 : ((c :: l).getD (i - j) default) = l.getD (i - (j + 1)) default := by
          have : i - j = (i - (j + 1)) + 1 := by omega
          rw [this]; simp
        have e2 : ¬ (i + 1 = j) := by omega
        have e3 : ¬ (i = j) := by omega
        exact {
          fx := by simpa only [e1, e2, e3, if_false] using t.fx
          zero := by simpa only [e1, e2, e3, if_false] using t.zero
          keep := by simpa only [e2, e3, if_false] using t.keep
          phi := by simpa only [e2, e3, if_false] using t.phi
          free := by simpa only [e1, e3, if_false] using t.free
          env := by simpa only [e1, e2, e3, if_false] using t.env }

theorem lk_putR_ne {d : Option Nat} {r : Option AV} {s : Nat} (hne : d ≠ some s) : lk s (putR d r e) = lk s e := by
  cases d with
  | none => rfl
  | some d => simp only [putR, lk_cons]; rw [if_neg fun e1 => hne (by rw [e1])]
theorem lk_putR_same {r : Option AV} {s : Nat} : lk s (putR (some s) r e) = r := by simp [putR, lk_cons]

/-- What is known when just D is done. -/
def eD (c : Nat → CI) (rr : Nat → Option AV) (e : Env) (D : Nat → Bool) : Nat → Env
  | 0 => e
  | j + 1 => if D j then putR (c j).d (rr j) (eD c rr e D j) else eD c rr e D j
def hD (ws : List Nat) (hh : Nat → AHeap) (h : AHeap) (D : Nat → Bool) : Nat → AHeap
  | 0 => h
  | j + 1 => if D j && ws.contains j then hh (j + 1) else hD ws hh h D j

theorem eD_stop {c : Nat → CI} {rr : Nat → Option AV} {D : Nat → Bool} {s i : Nat} : ∀ n, i ≤ n → (∀ k, i ≤ k → k < n → (c k).d = some s → D k = false) → lk s (eD c rr e D n) = lk s (eD c rr e D i)
  | 0, hi, _ => by have : i = 0 := by omega
                   subst this; rfl
  | n + 1, hi, hk => by
    rcases Nat.eq_or_lt_of_le hi with rfl | hlt
    · rfl
    · rw [← eD_stop n (by omega) fun k h1 h2 => hk k h1 (by omega)]
      simp only [eD]
      split
      · rename_i hd
        refine lk_putR_ne fun e1 => ?_
        rw [hk n (by omega) (by omega) e1] at hd
        cases hd
      · rfl
theorem eD_text {c : Nat → CI} {rr : Nat → Option AV} {ee : Nat → Env} {D : Nat → Bool} {s n : Nat} (h0 : ee 0 = e) (hs : ∀ j, j < n → ee (j + 1) = putR (c j).d (rr j) (ee j)) : ∀ i, i ≤ n → (∀ k, k < i → (c k).d = some s → D k = true) → lk s (eD c rr e D i) = lk s (ee i)
  | 0, _, _ => by rw [h0]; rfl
  | i + 1, hi, hk => by
    rw [hs i (by omega)]
    simp only [eD]
    have ih := eD_text h0 hs i (by omega) fun k h1 => hk k (by omega)
    by_cases hd : (c i).d = some s
    · rw [hk i (by omega) hd, if_pos rfl, hd, lk_putR_same, lk_putR_same]
    · rw [lk_putR_ne hd]
      split
      · rw [lk_putR_ne hd]; exact ih
      · exact ih
theorem hD_stop {hh : Nat → AHeap} {D : Nat → Bool} {i : Nat} : ∀ n, i ≤ n → (∀ k, i ≤ k → k < n → ws.contains k = true → D k = false) → hD ws hh h D n = hD ws hh h D i
  | 0, hi, _ => by have : i = 0 := by omega
                   subst this; rfl
  | n + 1, hi, hk => by
    rcases Nat.eq_or_lt_of_le hi with rfl | hlt
    · rfl
    · rw [← hD_stop n (by omega) fun k h1 h2 => hk k h1 (by omega)]
      simp only [hD]
      split
      · rename_i hd
        rw [Bool.and_eq_true] at hd
        rw [hk n (by omega) (by omega) hd.2] at hd
        cases hd.1
      · rfl
theorem hD_text {hh : Nat → AHeap} {D : Nat → Bool} {n : Nat} (h0 : hh 0 = h) (hs : ∀ j, j < n → ws.contains j = false → hh (j + 1) = hh j) : ∀ i, i ≤ n → (∀ k, k < i → ws.contains k = true → D k = true) → hD ws hh h D i = hh i
  | 0, _, _ => by rw [h0]; rfl
  | i + 1, hi, hk => by
    simp only [hD]
    cases hw : ws.contains i
    · simp only [Bool.and_false, Bool.false_eq_true, if_false]
      rw [hs i (by omega) hw]
      exact hD_text h0 hs i (by omega) fun k h1 => hk k (by omega)
    · simp [hk i (by omega) hw]
theorem hD_some {hh : Nat → AHeap} {D : Nat → Bool} (h0 : hh 0 = h) : ∀ n, ∃ i, i ≤ n ∧ hD ws hh h D n = hh i
  | 0 => ⟨0, Nat.le_refl _, by rw [h0]; rfl⟩
  | n + 1 => by
    simp only [hD]
    split
    · exact ⟨n + 1, Nat.le_refl _, rfl⟩
    · obtain ⟨i, h1, h2⟩ := hD_some (D := D) h0 n
      exact ⟨i, by omega, h2⟩
theorem eD_set {c : Nat → CI} {rr : Nat → Option AV} {D D' : Nat → Bool} : ∀ n, (∀ k, k < n → D' k = D k) → eD c rr e D' n = eD c rr e D n
  | 0, _ => rfl
  | n + 1, hk => by simp only [eD]; rw [hk n (by omega), eD_set n fun k h1 => hk k (by omega)]
theorem hD_set {hh : Nat → AHeap} {D D' : Nat → Bool} : ∀ n, (∀ k, k < n → D' k = D k) → hD ws hh h D' n = hD ws hh h D n
  | 0, _ => rfl
  | n + 1, hk => by simp only [hD]; rw [hk n (by omega), hD_set n fun k h1 => hk k (by omega)]
theorem hD_setr {hh : Nat → AHeap} {D D' : Nat → Bool} : ∀ n, (∀ k, k < n → ws.contains k = true → D' k = D k) → hD ws hh h D' n = hD ws hh h D n
  | 0, _ => rfl
  | n + 1, hk => by
    simp only [hD]
    rw [hD_setr n fun k h1 => hk k (by omega)]
    cases hw : ws.contains n
    · simp
    · rw [hk n (by omega) hw]

theorem rep_false (n j : Nat) : (Array.replicate n false).getD j false = false := by
  rw [Array.getD_eq_getD_getElem?, Array.getElem?_replicate]; split <;> rfl

theorem Reach.done {D : Nat → Bool} (hcl : ∀ j, D j = true → ∀ k ∈ es.getD j [], D k = true) {i j : Nat} (hr : Reach es i j) : (∀ k ∈ es.getD j [], D k = true) → D i = true := by
  induction hr with
  | one hk => exact fun h => h _ hk
  | more hk _ ih => exact fun h => ih (hcl _ (h _ hk))

theorem AW.dreg {Q : Exit → Env → AHeap → Prop} (hm : P.follows .mixedOrders = true) (hc : chkD l es ws fs = true) (hphi : Φ h) (hd : DW P N Φ ws fs (fun e h => Q .normal e h) 0 l e h) : AW P N (.dreg l es) Q e h := by
  intro code hcode m w a hr he
  cases code <;> simp only [compC] at hcode <;> try (cases hcode; done)
  · rename_i id ops dr
    split at hcode
    · rename_i hdr
      subst hdr
      injection hcode with hl hes
      refine wp_region_any hm ?_
      obtain ⟨ee, hh, rr, q1, q2, q3, q4⟩ := hd.trace
      simp only [Nat.zero_add] at q3 q4
      have hn : ops.size = l.length := by rw [← hl]; simp [compR]
      -- the checks
      simp only [chkD, Bool.and_eq_true, List.all_eq_true, List.mem_range, beq_iff_eq, decide_eq_true_eq] at hc
      obtain ⟨hlen, hchk⟩ := hc
      have hback : ∀ j, j < l.length → ∀ k ∈ es.getD j [], k < j := fun j hj k hk => by simpa using (hchk j hj).1 k hk
      have htouch : ∀ i j, i < j → j < l.length → touch l ws fs i j = true → Reach es i j := fun i j hij hj ht => by
        have := (hchk j hj).2 i hij
        rw [ht] at this
        exact ancs_ok es es [] rfl (fun j i hb => by simp at hb) j i (by simpa using this)
      have hes' : ∀ j (hj : j < ops.size), es.getD j [] = ((ops[j]).after.toList.filter (Region.binds .any)).map (·.on) := fun j hj => by
        rw [← hes]; simp [edgesR, List.getD_eq_getElem?_getD, hj]
      have hci : ∀ j (hj : j < ops.size), compI P N ops (ops[j]) = l.getD j default := fun j hj => by
        rw [← hl]; simp [compR, List.getD_eq_getElem?_getD, hj]
      have henv : ∀ j, j < l.length → ee (j + 1) = putR (l.getD j default).d (rr j) (ee j) := fun j hj => (q4 j (Nat.zero_le _) hj).env
      have hkeep : ∀ j, j < l.length → ws.contains j = false → hh (j + 1) = hh j := fun j hj => (q4 j (Nat.zero_le _) hj).keep
      have hphi' : ∀ i, i ≤ l.length → Φ (hh i) := fun i => by
        induction i with
        | zero => intro _; rw [q2]; exact hphi
        | succ i ih => intro hi; exact (q4 i (Nat.zero_le _) (by omega)).phi (ih (by omega))
      obtain ⟨ez, q3s, q3⟩ := q3
      obtain ⟨c, hcc'⟩ : ∃ c : Nat → CI, ∀ k, l.getD k default = c k := ⟨_, fun _ => rfl⟩
      have ecc : (fun k => l.getD (k - 0) default) = c := funext fun k => by rw [Nat.sub_zero, hcc']
      rw [ecc] at q4
      simp only [hcc'] at henv hci
      -- the induction
      suffices H : ∀ (fuel : Nat) (listed : Array Bool) (U : List Nat) (m1 : Inj) (w1 : World) (a1 : Act), listed.size = l.length → U.length ≤ fuel → U.Nodup → (∀ j, j < l.length → (listed.getD j false = false ↔ j ∈ U)) →
          (∀ j, listed.getD j false = true → ∀ k ∈ es.getD j [], listed.getD k false = true) →
          HR m1 (hD ws hh h (fun j => listed.getD j false) l.length) w1 → ER N m1 (hD ws hh h (fun j => listed.getD j false) l.length) w1 (eD c rr e (fun j => listed.getD j false) l.length) a1 →
          Step m h w m1 (hD ws hh h (fun j => listed.getD j false) l.length) w1 → wpAny P .any ops (PA N Q m h w) fuel listed a1 w1 by
        have st := step_drew (m := m) (h := h) (w := w)
        refine H ops.size (Array.replicate ops.size false) (List.range l.length) m { w with drawn := w.drawn + 1 } a (by simp [hn]) (by simp [hn]) List.nodup_range (fun j hj => by simp [List.getD, hn, hj]) (fun j hj => ?_) ?_ ?_ ?_
        · rw [rep_false] at hj; cases hj
        all_goals
          have e1 : hD ws hh h (fun j => (Array.replicate ops.size false).getD j false) l.length = h := hD_stop (i := 0) l.length (Nat.zero_le _) fun k _ _ _ => rep_false _ _
        · rw [e1]; exact hr.drew
        · rw [e1]
          have e2 : ∀ s, lk s (eD c rr e (fun j => (Array.replicate ops.size false).getD j false) l.length) = lk s e := fun s => eD_stop (i := 0) l.length (Nat.zero_le _) fun k _ _ _ => rep_false _ _
          have he' := he.step st
          exact ⟨he'.size, he'.defers, fun i v hv => he'.val i v (by rw [← e2]; exact hv)⟩
        · rw [e1]; exact st
      intro fuel
      -- all is done
      have fin : ∀ (listed : Array Bool) (m1 : Inj) (w1 : World) (a1 : Act), listed.size = l.length → Region.ready .any ops listed = [] →
          HR m1 (hD ws hh h (fun j => listed.getD j false) l.length) w1 → ER N m1 (hD ws hh h (fun j => listed.getD j false) l.length) w1 (eD c rr e (fun j => listed.getD j false) l.length) a1 →
          Step m h w m1 (hD ws hh h (fun j => listed.getD j false) l.length) w1 → PA N Q m h w .normal a1 w1 := fun listed m1 w1 a1 hsz hrd h1 h2 h3 => by
        have hall : ∀ j, j < l.length → listed.getD j false = true := fun j => by
          induction j using Nat.strongRecOn with
          | ind j ih =>
            intro hj
            cases hx : listed.getD j false
            · have : j ∈ Region.ready .any ops listed := mem_ready.2 ⟨by simpa [Array.getD_eq_getD_getElem?, hsz, hj] using hx, ops[j]'(by omega), by simp [hn, hj], fun ed hed hb => ?_⟩
              · rw [hrd] at this; cases this
              · have hk : ed.on ∈ es.getD j [] := by
                  rw [hes' j (by omega)]
                  exact List.mem_map.2 ⟨ed, List.mem_filter.2 ⟨by simpa using hed, hb⟩, rfl⟩
                have := hback j hj _ hk
                exact ih _ this (by omega)
            · rfl
        have e1 : hD ws hh h (fun j => listed.getD j false) l.length = hh l.length := hD_text q2 hkeep l.length (Nat.le_refl _) fun k hk _ => hall k hk
        have e2 : ∀ s, lk s (eD c rr e (fun j => listed.getD j false) l.length) = lk s (ee l.length) := fun s => eD_text q1 henv l.length (Nat.le_refl _) fun k hk _ => hall k hk
        rw [e1] at h1 h2 h3
        exact ⟨m1, ez, hh l.length, h1, ⟨h2.size, h2.defers, fun i v hv => h2.val i v (by rw [e2]; exact q3s i v hv)⟩, h3, q3⟩
      induction fuel with
      | zero =>
        intro listed U m1 w1 a1 hsz hU hnd hmem hcl h1 h2 h3
        have hU0 : U = [] := List.length_eq_zero_iff.1 (by omega)
        subst hU0
        have hrd : Region.ready .any ops listed = [] := List.eq_nil_iff_forall_not_mem.2 fun j hj => by
          obtain ⟨g0, o, g1, _⟩ := mem_ready.1 hj
          have hj' : j < l.length := by rw [← hn]; exact (Array.getElem?_eq_some_iff.1 g1).1
          have := (hmem j hj').1 (by simpa [Array.getD_eq_getD_getElem?, hsz, hj'] using g0)
          cases this
        exact ⟨hrd, fin listed m1 w1 a1 hsz hrd h1 h2 h3⟩
      | succ fuel ih =>
        intro listed U m1 w1 a1 hsz hU hnd hmem hcl h1 h2 h3
        refine ⟨fun hrd => fin listed m1 w1 a1 hsz hrd h1 h2 h3, fun i hi => ?_⟩
        obtain ⟨g0, o, g1, g2⟩ := mem_ready.1 hi
        have hi' : i < l.length := by rw [← hn]; exact (Array.getElem?_eq_some_iff.1 g1).1
        have hio : i < ops.size := by omega
        have ho : ops[i] = o := (Array.getElem?_eq_some_iff.1 g1).2
        have hDi : listed.getD i false = false := by simpa [Array.getD_eq_getD_getElem?, hsz, hi'] using g0
        have hpre : ∀ k ∈ es.getD i [], listed.getD k false = true := fun k hk => by
          rw [hes' i hio, ho] at hk
          obtain ⟨ed, hed, rfl⟩ := List.mem_map.1 hk
          obtain ⟨he1, he2⟩ := List.mem_filter.1 hed
          exact g2 ed (by simpa using he1) he2
        -- ahead: done; behind: not done
        have ahead : ∀ k, k < i → touch l ws fs k i = true → listed.getD k false = true := fun k hk ht => (htouch k i hk hi' ht).done (D := fun j => listed.getD j false) hcl hpre
        have behind : ∀ k, i < k → k < l.length → touch l ws fs i k = true → listed.getD k false = false := fun k hk hkl ht => by
          cases hx : listed.getD k false
          · rfl
          · have := (htouch i k hk hkl ht).done (D := fun j => listed.getD j false) hcl (hcl k hx)
            rw [hDi] at this; cases this
        have t := q4 i (Nat.zero_le _) hi'
        -- the slots
        have hsl : ∀ s ∈ cslots (c i), lk s (eD c rr e (fun j => listed.getD j false) l.length) = lk s (ee i) := fun s hs => by
          rw [eD_stop (i := i) l.length (by omega) fun k hk1 hk2 hkd => ?_]
          · exact eD_text q1 henv i (by omega) fun k hk1 hkd => ahead k hk1 (by
              simp only [touch, hcc', Bool.or_eq_true]
              exact .inl (.inl (.inl (List.any_eq_true.2 ⟨s, hs, by simp [dslot, hkd]⟩))))
          · rcases Nat.eq_or_lt_of_le hk1 with rfl | hlt
            · exact hDi
            · exact behind k hlt hk2 (by
                simp only [touch, hcc', Bool.or_eq_true]
                exact .inl (.inl (.inr (List.any_eq_true.2 ⟨s, hs, by simp [dslot, hkd]⟩))))
        -- the heap
        have hheap : heapy l ws fs i = true → hD ws hh h (fun j => listed.getD j false) l.length = hh i := fun hy => by
          rw [hD_stop (i := i) l.length (by omega) fun k hk1 hk2 hkw => ?_]
          · exact hD_text q2 hkeep i (by omega) fun k hk1 hkw => ahead k hk1 (by
              have : heapy l ws fs k = true := by unfold heapy; rw [hkw]; rfl
              simp only [touch, hkw, hy, this, Bool.or_eq_true]
              exact .inr (by simp))
          · rcases Nat.eq_or_lt_of_le hk1 with rfl | hlt
            · exact hDi
            · exact behind k hlt hk2 (by
                have : heapy l ws fs k = true := by unfold heapy; rw [hkw]; rfl
                simp only [touch, hkw, hy, this, Bool.or_eq_true]
                exact .inr (by simp))
        have hnew : ∀ k, (listed.setIfInBounds i true).getD k false = (if k = i then true else listed.getD k false) := fun k => by
          by_cases hk : k = i
          · subst hk; simp [hsz, hi']
          · rw [if_neg hk]; exact getD_set_ne false (Ne.symm hk)
        have hDn : (fun k => (listed.setIfInBounds i true).getD k false) = fun k => if k = i then true else listed.getD k false := funext hnew
        -- what holds behind it
        have go : ∀ h', hD ws hh h (fun k => if k = i then true else listed.getD k false) l.length = h' → FX P N (c i) (ee i) (hD ws hh h (fun j => listed.getD j false) l.length) (rr i) h' →
            wpOp P ops (PA N Q m h w) i (wpAny P .any ops (PA N Q m h w) fuel (listed.setIfInBounds i true)) a1 w1 := fun h' hh' hfx => by
          refine hfx ops i o g1 (by rw [← ho, hci i hio]) _ hsl m1 w1 a1 _ _ h1 h2 fun m2 w2 a2 r1 r2 r3 => ?_
          refine ih (listed.setIfInBounds i true) (U.erase i) m2 w2 a2 (by simp [hsz]) ?_ (hnd.erase i) (fun j hj => ?_) (fun j hj => ?_) ?_ ?_ ?_
          · rw [List.length_erase_of_mem ((hmem i hi').1 hDi)]; omega
          · rw [hnew, hnd.mem_erase_iff]
            by_cases hji : j = i
            · simp [hji]
            · simp [hji, ← hmem j hj]
          · intro k hk
            rw [hnew] at hj ⊢
            by_cases hki : k = i
            · simp [hki]
            · rw [if_neg hki]
              by_cases hji : j = i
              · subst hji; exact hpre k hk
              · rw [if_neg hji] at hj; exact hcl j hj k hk
          · rw [hDn, hh']; exact r1
          · rw [hDn, hh']
            refine ⟨r2.size, r2.defers, fun s v hv => r2.val s v ?_⟩
            rw [← hv]
            by_cases hds : (c i).d = some s
            · rw [hds, lk_putR_same]
              rw [eD_stop (i := i + 1) l.length (by omega) fun k hk1 hk2 hkd => ?_]
              · simp only [eD, if_true, hds, lk_putR_same]
              · have : ¬ k = i := by omega
                simp only [this, if_false]
                exact behind k (by omega) hk2 (by
                  simp only [touch, hcc', Bool.or_eq_true]
                  exact .inl (.inr (by simp [hds, hkd])))
            · rw [lk_putR_ne hds]
              have key : ∀ n, lk s (eD c rr e (fun j => listed.getD j false) n) = lk s (eD c rr e (fun k => if k = i then true else listed.getD k false) n) := fun n => by
                induction n with
                | zero => rfl
                | succ n ihn =>
                  simp only [eD]
                  by_cases hni : n = i
                  · subst hni
                    simp only [if_true, hDi, Bool.false_eq_true, if_false]
                    rw [lk_putR_ne hds]; exact ihn
                  · simp only [hni, if_false]
                    split
                    · by_cases hdn : (c n).d = some s
                      · rw [hdn, lk_putR_same, lk_putR_same]
                      · rw [lk_putR_ne hdn, lk_putR_ne hdn]; exact ihn
                    · exact ihn
              exact key _
          · rw [hDn, hh']; exact h3.trans r3
        have hlater : ws.contains i = false → hD ws hh h (fun k => if k = i then true else listed.getD k false) l.length = hD ws hh h (fun j => listed.getD j false) l.length := fun hwi => hD_setr l.length fun k hk hkw => by
          have : ¬ k = i := fun e1 => by rw [e1, hwi] at hkw; cases hkw
          simp [this]
        cases hwi : ws.contains i
        · -- the heap stays
          cases hf0 : free0 (c i).i
          · cases hff : fs.contains i
            · have hy : heapy l ws fs i = true := by unfold heapy; rw [hwi, hcc', hf0, hff]; rfl
              have e1 := hheap hy
              refine go _ (hlater hwi) ?_
              rw [e1]
              have := t.fx
              rwa [t.keep hwi] at this
            · obtain ⟨i0, hi0, e1⟩ := hD_some (ws := ws) (D := fun j => listed.getD j false) q2 l.length
              refine go _ (hlater hwi) ?_
              rw [e1]
              exact t.free hff _ (hphi' i0 hi0)
          · exact go _ (hlater hwi) ((t.zero hf0).2 _)
        · have hy : heapy l ws fs i = true := by unfold heapy; rw [hwi]; rfl
          have e1 := hheap hy
          refine go (hh (i + 1)) ?_ ?_
          · rw [hD_stop (i := i + 1) l.length (by omega) fun k hk1 hk2 hkw => ?_]
            · simp only [hD, if_true, hwi, Bool.and_self]
            · have : ¬ k = i := by omega
              simp only [this, if_false]
              exact behind k (by omega) hk2 (by
                have hky : heapy l ws fs k = true := by unfold heapy; rw [hkw]; rfl
                simp only [touch, hkw, hy, hky, Bool.or_eq_true]
                exact .inr (by simp))
          · rw [e1]; exact t.fx
    · cases hcode
  · split at hcode <;> cases hcode
end
end Go.Abs
