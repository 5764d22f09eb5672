/- The abstract layer, part 27: what a call that writes leaves; keys that are structs. -/
import Derived.Test.YtlddahcgaonlhaaA26
set_option linter.all false
namespace Go.Abs
open Go

theorem Clo.mono {u u' : Nat → Prop} (hu : ∀ id, u id → u' id) {v : AV} (hc : Clo u v) : Clo u' v := by
  induction hc with
  | bool b => exact .bool b
  | int k n => exact .int k n
  | str s => exact .str s
  | nilp => exact .nilp
  | ptr id i off h => exact .ptr _ _ _ (hu _ h)
  | iptr sz c i off _ ih => exact .iptr _ _ _ _ ih
  | nils => exact .nils
  | imm sz c _ ih => exact .imm _ _ ih
  | app id g sz c h _ ih => exact .app _ _ _ _ (hu _ h) ih
  | ref id off len h => exact .ref _ _ _ (hu _ h)
  | nilm => exact .nilm
  | map id h => exact .map _ (hu _ h)
  | nilf => exact .nilf
  | func fn vs us _ _ ih1 ih2 => exact .func _ _ _ ih1 ih2
  | nili => exact .nili
  | iface t v _ ih => exact .iface _ _ ih
  | agg vs _ ih => exact .agg _ ih
  | tup vs _ ih => exact .tup _ ih
def CloObj (u : Nat → Prop) : AObj → Prop
  | .mem _ c => ∀ x ∈ c, ∀ v ∈ x, Clo u v
  | .tail _ _ => True
  | .map es => ∀ kv ∈ es, Clo u kv.1 ∧ Clo u kv.2
theorem CloObj.mono {u u' : Nat → Prop} (hu : ∀ id, u id → u' id) {x : AObj} (hc : CloObj u x) : CloObj u' x := by
  cases x with
  | mem sz c => exact fun x hx v hv => (hc x hx v hv).mono hu
  | tail g n => trivial
  | map es => exact fun kv h => ⟨(hc kv h).1.mono hu, (hc kv h).2.mono hu⟩

/-- Names that may be spoken of behind the call. -/
def Nm (h h' : AHeap) (id : Nat) : Prop := h'.used id ∨ ∃ x, h.get id = some x
/-- h' is what the call makes of h. -/
structure Ext (h h' : AHeap) : Prop where
  next : h.next ≤ h'.next
  gap : ∀ id, h'.gap id = true → h.gap id = true
  obj : ∀ id x, h'.get id = some x → h.get id = some x ∨ (Nm h h' id ∧ CloObj (Nm h h') x)
section
variable {P : Program} {N f : Nat} {cc : CC} {rcs : List RC} {vs : List AV} {h h' h1 : AHeap} {e e' : Env} {Q : Exit → Env → AHeap → Prop} {l : List CI}

theorem Ext.refl : Ext h h := ⟨Nat.le_refl _, fun _ h => h, fun _ _ h => .inl h⟩
theorem Ext.used (hx : Ext h h') {id : Nat} (hu : h.used id) : h'.used id := by
  refine ⟨Nat.lt_of_lt_of_le hu.1 hx.next, ?_⟩
  cases hg : h'.gap id with
  | false => rfl
  | true => have := hx.gap id hg; rw [hu.2] at this; cases this
theorem Ext.set (hx : Ext h h') {id : Nat} {x : AObj} (hn : Nm h h' id) (hc : CloObj (Nm h h') x) : Ext h (h'.set id (some x)) := by
  refine ⟨hx.next, hx.gap, fun j y hg => ?_⟩
  simp only [AHeap.set] at hg
  split at hg
  · rename_i e; subst e; cases hg; exact .inr ⟨hn, hc⟩
  · exact hx.obj j y hg
theorem Ext.del (hx : Ext h h') {id : Nat} : Ext h (h'.set id none) := by
  refine ⟨hx.next, hx.gap, fun j y hg => ?_⟩
  simp only [AHeap.set] at hg
  split at hg
  · cases hg
  · exact hx.obj j y hg
theorem Nm.put {nm id : Nat} {x : AObj} (hn : Nm h h' id) : Nm h (h'.put nm x) id := by
  rcases hn with hn | hn
  · exact .inl (put_used hn)
  · exact .inr hn
theorem Ext.put (hx : Ext h h') {nm : Nat} {x : AObj} (hc : CloObj (Nm h (h'.put nm x)) x) : Ext h (h'.put nm x) := by
  refine ⟨?_, fun id hg => ?_, fun j y hg => ?_⟩
  · have := hx.next; simp only [AHeap.put]; split <;> omega
  · simp only [AHeap.put] at hg
    split at hg
    · cases hg
    · exact hx.gap id hg
  · simp only [AHeap.put] at hg
    split at hg
    · rename_i e; subst e; cases hg; exact .inr ⟨.inl put_used_nm, hc⟩
    · rcases hx.obj j y hg with h5 | ⟨h5, h6⟩
      · exact .inl h5
      · exact .inr ⟨h5.put, h6.mono fun _ h => h.put⟩
theorem Nm.old {id : Nat} {x : AObj} (hg : h.get id = some x) : Nm h h' id := .inr ⟨x, hg⟩

/-- What a call that writes leaves: all else that it made is dropped. -/
structure EffQ (h' : AHeap) (rcs : List RC) (r : AV) (ex : Exit) (e : Env) (h1 : AHeap) : Prop where
  ex : ex = .ret ∨ ex = .normal
  keeps : Keeps h' h1
  res : ∃ rs, resA h1.get e rcs = some rs ∧ Fz h' h1 (fin rs) r
theorem EffQ.fin {x : Exit} {rs : List AV} {r : AV} (hex : x = .ret ∨ x = .normal) (hk : Keeps h' h1) (hr : resA h1.get e rcs = some rs) (hf : Fz h' h1 (Go.Abs.fin rs) r) : EffQ h' rcs r x e h1 := ⟨hex, hk, rs, hr, hf⟩
/-- The heap of the beginning, and the end of the call, told by what it answers and leaves. -/
theorem AC.eff {R : AV → AHeap → Prop} (hfn : FnIs P f N cc rcs) (hn : vs.length ≤ N)
    (hw : AW P N cc (fun ex e h1 => ∃ r h', Ext h h' ∧ EffQ h' rcs r ex e h1 ∧ R r h') (argE 0 vs) h) : AC P f vs h R := by
  have hac : AC P f vs h (fun r1 h1 => ∃ r h', Ext h h' ∧ Keeps h' h1 ∧ Fz h' h1 r1 r ∧ R r h') :=
    AC.intro hfn hn (hw.mono fun ex e h1 ⟨r, h', hx, ⟨q1, q2, rs, q3, q4⟩, q5⟩ => ⟨q1, rs, q3, r, h', hx, q2, q4, q5⟩)
  intro m w cargs hr hl hv
  refine (hac m w cargs hr hl hv).mono fun ex w' ⟨v, m', r1, h1, e1, g1, g2, g3, r, h', hx, hk, hz, hR⟩ => ?_
  have nm : ∀ id, Nm h h' id → h'.used id := fun id hn => by
    rcases hn with hn | ⟨x, hn⟩
    · exact hn
    · exact hx.used (hr.live id x hn)
  have live : ∀ id x, h'.get id = some x → h'.used id := fun id x hg => by
    rcases hx.obj id x hg with h5 | ⟨h5, _⟩
    · exact hx.used (hr.live id x h5)
    · exact nm id h5
  have hs : ∀ id x, h'.get id = some x → h1.get id = some x := fun id x hg => (hk.2 id (live id x hg)).trans hg
  have clo : ∀ id x, h'.get id = some x → CloObj h'.used x := fun id x hg => by
    rcases hx.obj id x hg with h5 | ⟨_, h5⟩
    · refine CloObj.mono (u := h.used) (fun id => hx.used) ?_
      have ho := hr.obj id x h5
      cases x with
      | mem sz c =>
        obtain ⟨_, _, _, _, _, _, p4⟩ := ho
        exact mem_idx fun i cells hi j v hj => (p4.2.2 i cells hi j v hj).clo
      | tail g n => trivial
      | map es =>
        obtain ⟨_, _, _, _, _, _, p4⟩ := ho
        intro kv hkv
        obtain ⟨i, hi, rfl⟩ := List.mem_iff_getElem.1 hkv
        have := p4 i _ _ (List.getElem?_eq_getElem hi)
        exact ⟨this.1.clo, this.2.clo⟩
    · exact h5.mono nm
  have hr' : HR m' h' w' := {
    gapl := fun id hg => Nat.lt_of_lt_of_le (hr.gapl id (hx.gap id hg)) hx.next
    live := live
    inj := fun i j x y b s t hi hj => g1.inj i j x y b s t (hs i x hi) (hs j y hj)
    obj := fun id x hg => by
      have ho := g1.obj id x (hs id x hg)
      have hcl := clo id x hg
      cases x with
      | mem sz c =>
        obtain ⟨b, cc, T, q1, q2, q3, q4⟩ := ho
        exact ⟨b, cc, T, q1, q2, q3, q4.1, q4.2.1, fun i cells hi j v hj => (q4.2.2 i cells hi j v hj).restrict hs (hcl _ (List.mem_of_getElem? hi) _ (List.mem_of_getElem? hj))⟩
      | tail _ _ => exact ho
      | map es =>
        obtain ⟨b, ens, ck, q1, q2, q3, q4⟩ := ho
        exact ⟨b, ens, ck, q1, q2, q3, fun i k v hi => ⟨(q4 i k v hi).1.restrict hs (hcl _ (List.mem_of_getElem? hi)).1, (q4 i k v hi).2.restrict hs (hcl _ (List.mem_of_getElem? hi)).2⟩⟩ }
  have st : Step m h w m' h' w' := {
    os := g3.os
    tape := g3.tape
    output := g3.output
    size := g3.size
    kind := fun b cc T fz hb hf => g3.kind b cc T fz hb fun hf1 => hf fun id t x hg => hf1 id t x (hs id x hg)
    free := fun b hb hf => ⟨(g3.free b hb hf).1, fun id t x hg => (g3.free b hb hf).2 id t x (hs id x hg)⟩
    cell := fun b o v hc hn => ⟨(g3.cell b o v hc hn).1, fun ho => (g3.cell b o v hc hn).2 (own_sub hs ho)⟩
    used := fun _ hu => hx.used hu
    live := fun id x hu hg => g3.live id x hu (hs id x hg) }
  exact ⟨v, m', r, h', e1, hr', hz.vr g1 hs live g2, st, hR⟩
theorem AE.effQ {r : AV} (hfn : FnIs P f N cc rcs) (hn : vs.length ≤ N) (hx : Ext h h') (hw : AW P N cc (EffQ h' rcs r) (argE 0 vs) h) : AE P f vs h r h' :=
  AC.eff hfn hn (hw.mono fun _ _ _ hq => ⟨r, h', hx, hq, rfl, rfl⟩)

/-! ### two heaps that read the same -/
theorem heap_ext {a b : AHeap} (h1 : ∀ id, a.get id = b.get id) (h2 : a.next = b.next) (h3 : ∀ id, a.gap id = b.gap id) : a = b := by
  cases a; cases b
  simp only [AHeap.mk.injEq] at *
  exact ⟨funext h1, h2, funext h3⟩
theorem set_set {id : Nat} {x y : Option AObj} : (h.set id x).set id y = h.set id y := by
  refine heap_ext (fun j => ?_) rfl fun _ => rfl
  simp only [AHeap.set]; split <;> rfl
theorem set_comm {i j : Nat} {x y : Option AObj} (hne : i ≠ j) : (h.set i x).set j y = (h.set j y).set i x := by
  refine heap_ext (fun k => ?_) rfl fun _ => rfl
  simp only [AHeap.set]
  split <;> split <;> simp_all
end
end Go.Abs
