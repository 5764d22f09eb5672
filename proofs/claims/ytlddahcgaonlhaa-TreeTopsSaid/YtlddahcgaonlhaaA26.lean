/- The abstract layer, part 26: literals that may be written, marks, slices with room given up, memory of any bytes, what a call that writes leaves. -/
import Derived.Test.YtlddahcgaonlhaaA25
set_option linter.all false
namespace Go.Abs
open Go

section
variable {P : Program} {N : Nat} {m : Inj} {h : AHeap} {w : World} {e : Env} {a : Act} {nm : Nat} {o : Oper}
/-- A slice literal, run: its row stands in a new block. -/
theorem bsl_run (hr : HR m h w) (he : ER N m h w e a) {t el : TypeId} {i : TypeInfo} {z : Value} {n : Nat} {ps : Array (Nat × Operand)} {xs : List Opd} (hu : P.underlying t = some (.slice el)) (hi : P.info? el = some i) (hz : i.zero = some z)
    (hxs : ofL (fun (p : Nat × Operand) => ofOpd N p.2) ps.toList = some xs) (hbig : n * i.size ≤ 2 ^ 24) (hn : 0 < n) (hsz : 0 < i.size) (hzs : z.cells.size = i.size) (hidx : ps.toList.map (·.1) = List.range n) (ho : o.op = .buildSlice t n ps)
    {r : Option AV} {f : Eff} (hv : evalI nm (.bsl i.size xs) e h.get = some (r, f)) :
    ∃ (c : List (List AV)) (out : Array Value), r = some (.imm i.size c) ∧ c.length = n ∧ out.size = n * i.size ∧ RowF m h w i.size c (fun k => out.getD k undef) ∧ (execOp a.eval o).run P w = .ok (.value (.slice (some ⟨w.heap.size, 0, none⟩) n n)) (w.alloc (.cells out el)) := by
  have ofL_map : ∀ (l : List (Nat × Operand)) {ys : List Opd}, ofL (fun (p : Nat × Operand) => ofOpd N p.2) l = some ys → ofL (ofOpd N) (l.map (·.2)) = some ys := by
    intro l
    induction l with
    | nil => intro ys hy; simpa [ofL] using hy
    | cons p l ih =>
      intro ys hy
      simp only [ofL] at hy
      split at hy
      · rename_i y ys' h1 h2
        cases hy
        simp [ofL, h1, ih h2]
      · cases hy
  simp only [evalI] at hv
  split at hv
  · rename_i vs g1
    split at hv
    · rename_i c g2
      cases hv
      obtain ⟨e1, e2⟩ := he.evalL (ofL_map _ hxs) g1
      obtain ⟨c1, c2⟩ := cellsL_some g2
      have hpl : ps.toList.length = n := by have := congrArg List.length hidx; simpa using this
      have hvl : vs.length = n := by simp at e1; simpa [e1] using hpl
      have key : ∀ (k : Nat) (v : AV), vs[k]? = some v → ∃ p : Nat × Operand, ps.toList[k]? = some p ∧ VR m h w v (a.eval p.2) ∧ v.cs.length = i.size ∧ v.isTup = false ∧ c[k]? = some v.cs := by
        intro k v hk
        have hlt : k < ps.toList.length := by rw [hpl, ← hvl]; exact (List.getElem?_eq_some_iff.1 hk).1
        refine ⟨ps.toList[k], List.getElem?_eq_getElem hlt, ?_, (c2 k v hk).2.1, (c2 k v hk).2.2, (c2 k v hk).1⟩
        have := e2 k v hk
        simpa [List.getD_eq_getElem?_getD, List.getElem?_eq_getElem hlt, List.getElem?_map] using this
      obtain ⟨out, r1, r2, r3, r4⟩ := fill_seq i.size (ps.toList.map fun (p : Nat × Operand) => (p.1, a.eval p.2)) 0 ((Array.range (n * i.size)).map (z.cells[· % z.cells.size]!))
        (by simp only [List.map_map, List.length_map, hpl]; rw [show ((fun x : Nat × Value => x.1) ∘ fun p : Nat × Operand => (p.1, a.eval p.2)) = (·.1) from rfl, hidx, List.range_eq_range'])
        (fun q hq => by
          obtain ⟨k, hk, rfl⟩ := List.mem_iff_getElem.1 hq
          simp only [List.length_map] at hk
          have hkv : k < vs.length := by omega
          obtain ⟨p, hp, hvr, hl, ht, _⟩ := key k vs[k] (List.getElem?_eq_getElem hkv)
          have := (vr_cells hvr (isTup_ne ht)).1
          have hp' : ps.toList[k] = p := by simpa [List.getElem?_eq_getElem hk] using hp
          simp only [List.getElem_map, hp']
          omega)
        (by simp [hpl])
      have hne : ¬ (n * i.size = 0) := by have := Nat.mul_pos hn hsz; omega
      have hcl : c.length = n := by omega
      have hmem : ∀ x ∈ c, ∃ (k : Nat) (v : AV), vs[k]? = some v ∧ x = v.cs := by
        intro x hx
        obtain ⟨k, hk, rfl⟩ := List.mem_iff_getElem.1 hx
        have hkv : k < vs.length := by omega
        have := (c2 k _ (List.getElem?_eq_getElem hkv)).1
        exact ⟨k, vs[k], List.getElem?_eq_getElem hkv, by rw [List.getElem?_eq_getElem hk] at this; simpa using this⟩
      refine ⟨c, out, rfl, hcl, by rw [r2]; simp, ⟨fun x hx => ?_, fun x hx => ?_, fun k cells hk j u hj => ?_⟩, ?_⟩
      · obtain ⟨k, v, hk, rfl⟩ := hmem x hx
        exact (c2 k v hk).2.1
      · obtain ⟨k, v, hk, rfl⟩ := hmem x hx
        obtain ⟨p, hp, hvr, _, ht, _⟩ := key k v hk
        exact (vr_cells hvr (isTup_ne ht)).2.1
      · have hkl : k < vs.length := by have := (List.getElem?_eq_some_iff.1 hk).1; omega
        obtain ⟨p, hp, hvr, hl, ht, hck⟩ := key k vs[k] (List.getElem?_eq_getElem hkl)
        rw [hk] at hck
        cases hck
        have hjl : j < i.size := by rw [← hl]; exact (List.getElem?_eq_some_iff.1 hj).1
        have := r4 k (p.1, a.eval p.2) (by simp [hp]) j hjl
        rw [Nat.zero_add] at this
        show VR m h w u (out.getD (k * i.size + j) undef)
        rw [this]
        exact (vr_cells hvr (isTup_ne ht)).2.2 j u hj
      · have hbig' : ¬ (16777216 < n * i.size) := by simp at hbig; omega
        have r1' := r1
        simp only [execOp, ho, Instr.buildSlice, Sem.run_bind, Sem.run_pure, Result.andThen_ok, run_underlying hu, run_sizeOf' hi, zeroValue, run_typeInfo' hi, hz]
        simp only [show (2 : Nat) ^ 24 = 16777216 from rfl, gt_iff_lt, hbig', if_false, hne, Sem.run_bind, Sem.run_pure, Result.andThen_ok, run_typeInfo' hi, hz]
        have hmap : (ps.map fun (x : Nat × Operand) => (x.1, a.eval x.2)).toList = ps.toList.map fun (p : Nat × Operand) => (p.1, a.eval p.2) := by simp
        rw [hmap, r1']
        simp [newRow]
    · cases hv
  · cases hv

theorem cx_bsl {sz : Nat} {xs : List Opd} (hc : compileOp P N o = some (.bsl sz xs)) : ∃ t n ps el i z, o.op = .buildSlice t n ps ∧ P.underlying t = some (.slice el) ∧ P.info? el = some i ∧ i.zero = some z ∧ ofL (fun (p : Nat × Operand) => ofOpd N p.2) ps.toList = some xs ∧ n * i.size ≤ 2 ^ 24 ∧ 0 < n ∧ 0 < i.size ∧ z.cells.size = i.size ∧ ps.toList.map (·.1) = List.range n ∧ sz = i.size := by
  cases hop : o.op <;> simp only [compileOp, hop] at hc <;> try (cases hc; done)
  case buildSlice t n ps =>
    split at hc
    · split at hc
      · split at hc
        · cases hc
        · split at hc
          · split at hc
            · rename_i hcond; cases hc; exact ⟨_, _, _, _, _, _, rfl, ‹_›, ‹_›, ‹_›, ‹_›, hcond.1, hcond.2.1, hcond.2.2.1, hcond.2.2.2.1, hcond.2.2.2.2, rfl⟩
            · cases hc
          · cases hc
      · cases hc
    · cases hc
  all_goals
    (repeat' split at hc
     all_goals first
       | (cases hc; done)
       | (rw [Option.map_eq_some_iff] at hc; obtain ⟨_, _, h⟩ := hc; cases h; done)
       | contradiction)
end

section
variable {P : Program} {N : Nat} {e e' : Env} {h h' : AHeap} {l : List CI} {Q : Exit → Env → AHeap → Prop}

/-- An operation that is a plain one, by what it does at the real state, in any surrounding. -/
theorem FX.of {d : Option Nat} {i : Ins} {g : Option (Nat × Bool)} {r : Option AV} {f : Eff} (hp : i.plain = true) (hg : met e g)
    (hx : ∀ (o : Oper), compileOp P N o = some i → ∀ e2, (∀ s ∈ islots i, lk s e2 = lk s e) → ∀ (m : Inj) (w : World) (a : Act), HR m h w → ER N m h w e2 a → OpOK P o a m h w h.next r f) : FX P N ⟨d, i, g⟩ e h r (f.on h.next h) := by
  intro ops j o ho hc e2 hs m w a K Q hr he hk
  have hraw := comp_plain hc hp
  rcases compI_ok hc with ⟨hb1, hb2⟩ | ⟨hd, hdst, _, hgd⟩
  · have hb : i = .bad := hb1
    subst hb; cases hp
  · obtain ⟨w1, w2⟩ := wanted_of he hgd
    have hi : ∀ s ∈ islots i, lk s e2 = lk s e := fun s h => hs s (by unfold cslots; split <;> simp [h])
    have hw : Region.wanted o (yielded ops a.tmps) = true := by
      cases g with
      | none => exact w1 rfl
      | some sb =>
        obtain ⟨s, b⟩ := sb
        have hl : lk s e2 = some (.bool b) := (hs s (by simp [cslots])).trans hg
        rw [w2 s b b rfl hl]; simp
    simp only [wpOp, ho]
    rw [if_pos hw]
    left
    obtain ⟨m', w', hr', st, hres⟩ := hx o hraw e2 hi m w a hr he
    have hd' : d = o.dst := hd
    unfold Oper.wp
    cases r with
    | some v =>
      obtain ⟨cv, hrun, hv⟩ := hres
      rw [hrun, Oper.upon_value]
      refine hk m' w' _ hr' ?_ st
      show ER N m' _ w' (putR d (some v) e2) _
      rw [hd']
      exact (he.step st).putR hdst hv
    | none =>
      rw [hres, Oper.upon_skip]
      refine hk m' w' _ hr' ?_ st
      show ER N m' _ w' (putR d none e2) _
      rw [hd']
      exact (he.step st).skipR _ _
/-- A literal that may be written. -/
theorem FX.bslM {d : Option Nat} {sz n : Nat} {xs : List Opd} {g : Option (Nat × Bool)} {vs : List AV} {c : List (List AV)} (hv : evL e xs = some vs) (hc : cellsL sz vs = some c) (hl : c.length = n) (hg : met e g) : FX P N ⟨d, .bsl sz xs, g⟩ e h (some (.ref h.next 0 n)) (h.put h.next (.mem sz c)) := by
  refine FX.of (f := .new (.mem sz c)) rfl hg fun o ho e2 hs m w a hr he => ?_
  obtain ⟨t, n', ps, el, i, z, hop, hu, hi, hz, hxs, p1, p2, p3, p4, p5, rfl⟩ := cx_bsl ho
  have hv2 : evL e2 xs = some vs := (evL_congr fun s h => hs s (by simp [islots, h])).trans hv
  have hev : evalI h.next (.bsl i.size xs) e2 h.get = some (some (.imm i.size c), .none) := by simp only [evalI, hv2, hc]
  obtain ⟨c', out, q1, q2, q3, q4, q5⟩ := bsl_run hr he hu hi hz hxs p1 p2 p3 p4 p5 hop hev
  cases q1
  have hn : n = n' := by omega
  subst hn
  have hf := next_fresh hr
  obtain ⟨r1, r2⟩ := new_row (T := el) (cc := out) hr hf (by rw [q2, q3]; exact Nat.le_refl _) q4
  refine ⟨_, _, r1, r2, _, q5, ?_⟩
  have := new_ref (m := m) (h := h) (w := w) (nm := h.next) (sz := i.size) (off := 0) (len := n) (cap := n) (c := c) (cc := out) (T := el) (by omega) (Nat.le_refl _) (by rw [q3]; simp)
  simp only [Nat.zero_mul] at this
  exact this

theorem cx_app {o : Oper} {sz bytes : Nat} {x y : Opd} (hc : compileOp P N o = some (.app sz bytes x y)) : ∃ c s n t el i z, o.op = .call c ∧ c.callee = .builtin .append ∧ c.args.toList = [s, n] ∧ c.argTypes.toList = [t, t] ∧ P.underlying t = some (.slice el) ∧
    ofOpd N s = some x ∧ ofOpd N n = some y ∧ P.info? el = some i ∧ i.zero = some z ∧ 0 < i.size ∧ 0 < i.bytes ∧ z.cells.size = i.size ∧ sz = i.size ∧ bytes = i.bytes := by
  cases hop : o.op <;> simp only [compileOp, hop] at hc <;> try (cases hc; done)
  case call c =>
    repeat' split at hc
    all_goals first
      | (cases hc; done)
      | (rename_i hcond; cases hc; obtain ⟨q1, q2, q3, q4, q5⟩ := hcond; subst q1; subst q2; exact ⟨_, _, _, _, _, _, _, rfl, ‹_›, ‹_›, ‹_›, ‹_›, ‹_›, ‹_›, ‹_›, ‹_›, q3, q4, q5, rfl, rfl⟩)
      | contradiction
  all_goals
    (repeat' split at hc
     all_goals first
       | (cases hc; done)
       | (rw [Option.map_eq_some_iff] at hc; obtain ⟨_, _, h⟩ := hc; cases h; done)
       | contradiction)
/-- An append to nothing that is grown no more. -/
theorem FX.appI {d : Option Nat} {sz bytes : Nat} {x y : Opd} {g : Option (Nat × Bool)} {v : AV} {c : List (List AV)} (hx : ev e x = some .nils) (hy : ev e y = some v) (hc : rdS h.get sz v = some c) (hb : c.length * bytes ≤ 140737488355328) (hg : met e g) : FX P N ⟨d, .app sz bytes x y, g⟩ e h (some (.imm sz c)) h := by
  refine FX.of (f := .none) rfl hg fun o ho e2 hs m w a hr he => ?_
  obtain ⟨cl, s, n, t, el, i, z, hop, hcal, hargs, hat, hu, h1, h2, hi, hz, p1, p2, p3, rfl, rfl⟩ := cx_app ho
  have hx2 : ev e2 x = some .nils := (ev_congr fun s h => hs s (by simp [islots, h])).trans hx
  have hy2 : ev e2 y = some v := (ev_congr fun s h => hs s (by simp [islots, h])).trans hy
  have ha' : cl.args = #[s, n] := by rw [← Array.toArray_toList (xs := cl.args), hargs]
  have hat' : cl.argTypes = #[t, t] := by rw [← Array.toArray_toList (xs := cl.argTypes), hat]
  have e1 := he.eval h1 hx2
  have e3 := he.eval h2 hy2
  have hbase : ∃ base, a.eval s = .slice base 0 0 := by
    generalize a.eval s = cx at e1
    cases e1 with
    | nils0 => exact ⟨_, rfl⟩
    | nils1 ad => exact ⟨_, rfl⟩
  obtain ⟨base, hcx⟩ := hbase
  obtain ⟨w', cv, q1, q2, q3, q4⟩ := append_imm (P := P) (ty := o.type) (base := base) hr hu hi hz p1 p2 p3 e3 hc hb
  exact ⟨m, w', q2, q3, cv, by simp [execOp, hop, resolve, hcal, ha', hat', invoke, builtin, hcx, q1], q4⟩

/-! ### marks -/
theorem cx_strish {o : Oper} {x : Opd} (hc : compileX P N o = some (.strish x)) : ∃ s d xo el, o.op = .convert s d xo ∧ s = d ∧ P.underlying s = some (.slice el) ∧ P.underlying el = some (.int .u8) ∧ ofOpd N xo = some x := by
  cases hop : o.op <;> simp only [compileX, hop] at hc <;> try (cases hc; done)
  case convert s d xo =>
    repeat' split at hc
    all_goals first
      | (cases hc; exact ⟨_, _, _, _, rfl, ‹s = d›, ‹P.underlying s = some _›, ‹_›, ‹_›⟩)
      | (cases hc; done)
  all_goals
    (repeat' split at hc
     all_goals first
       | (cases hc; done)
       | (rw [Option.map_eq_some_iff] at hc; obtain ⟨_, _, h⟩ := hc; cases h; done)
       | contradiction)
theorem mark_block {w : World} {b : Nat} {cc : Array Value} {T : TypeId} {fz : Nat × Nat} (hb : w.heap[b]? = some (.cells cc T fz)) (n : Nat) : WMark w (w.freeze ⟨b, n, none⟩ 1) b := by
  have hlt : b < w.heap.size := (Array.getElem?_eq_some_iff.1 hb).1
  have hs : w.freeze ⟨b, n, none⟩ 1 = { w with heap := (w.freeze ⟨b, n, none⟩ 1).heap } := by
    unfold World.freeze; split <;> rfl
  have hh : (w.freeze ⟨b, n, none⟩ 1).heap.size = w.heap.size ∧ (∀ k, k ≠ b → (w.freeze ⟨b, n, none⟩ 1).heap[k]? = w.heap[k]?) ∧ ∃ fz', (w.freeze ⟨b, n, none⟩ 1).heap[b]? = some (.cells cc T fz') := by
    unfold World.freeze
    rw [if_neg (by decide)]
    refine ⟨by simp, fun k hk => ?_, ?_⟩
    · simp only [Array.getElem?_modify]
      rw [if_neg (fun e => hk e.symm)]
    · simp only [Array.getElem?_modify, hb]
      simp
  obtain ⟨h1, h2, fz', h3⟩ := hh
  refine ⟨by rw [hs], by rw [hs], by rw [hs], h1, h2, fun o => ?_⟩
  simp only [World.cell?, h3, hb]
/-- A literal's row is marked: from here it is written no more. -/
theorem XOK.strish {x : Opd} {id n : Nat} {c : List (List AV)} (hx : ev e x = some (.ref id 0 n)) (hg : h.get id = some (.mem 1 c)) (hl : c.length = n) (h0 : 0 < n) : XOK P N (.strish x) e h (some (.imm 1 c)) (.del id) := by
  intro o hc e2 hs m w act hr he
  obtain ⟨s, _, xo, el, hop, rfl, u1, u2, h1⟩ := cx_strish hc
  have hx2 : ev e2 x = some (.ref id 0 n) := (ev_congr fun s h => hs s (by simp [xslots, h])).trans hx
  have hv := he.eval h1 hx2
  obtain ⟨b, cc, T, q1, q2, q3, q4⟩ := hr.obj _ _ hg
  generalize hcx : act.eval xo = cx at hv
  cases hv with
  | ref _ _ _ cap ad hu hcap ha =>
    obtain ⟨b', hb', hle, had, cc', T', hcc, hsz⟩ := ha _ _ hg
    rw [q1] at hb'; cases hb'
    obtain rfl : ad = ⟨b, 0 * 1, none⟩ := by
      rcases had with h5 | h5
      · omega
      · exact h5
    have hshape : w.shape? b = some (T, cc.size) := by unfold World.shape?; rw [q2]
    have wm := mark_block q2 cc.size
    have st := step_mark hr hg q1 wm
    refine ⟨m, w.freeze ⟨b, cc.size, none⟩ 1, hr.mark hg q1 wm, st, .slice (some ⟨b, 0 * 1, none⟩) n cap, ?_, ?_⟩
    · simp [execOp, hop, hcx, convert, run_underlying u1, run_underlying u2, markStringish, hshape]
    · have := VR.imm (m := m) (h := h.set id none) (w := w.freeze ⟨b, cc.size, none⟩ 1) 1 c b 0 cap (fun k => cc.getD k undef) (fun k hk => ⟨?_, ?_⟩) q4.1 q4.2.1 (fun i cells hi j v hj => (q4.2.2 i cells hi j v hj).step st) (by omega)
      · rw [hl] at this; exact this
      · rw [wm.cell, Nat.zero_add, cell_of_row w b k cc T (0, 0) q2]
        simp [Array.getD_eq_getD_getElem?, show k < cc.size by omega]
      · rintro ⟨j, t, ⟨x, hx⟩, hm, _⟩
        by_cases e : j = id
        · simp [AHeap.set, e] at hx
        · simp only [AHeap.set, if_neg e] at hx
          exact e (hr.inj j id x _ b t 0 hx hg hm q1)

/-! ### slices with a bound for their room -/
theorem cx_slc3 {o : Oper} {sz : Nat} {x mx : Opd} {lo hi : Option Opd} (hc : compileX P N o = some (.slc3 sz x lo hi mx)) : ∃ t xo lo' hi' mo el i, o.op = .slice t xo lo' hi' (some mo) ∧ P.underlying t = some (.slice el) ∧ P.info? el = some i ∧ ofOpd N xo = some x ∧ ofOpd N mo = some mx ∧ OOpd N lo' lo ∧ OOpd N hi' hi ∧ sz = i.size := by
  cases hop : o.op <;> simp only [compileX, hop] at hc <;> try (cases hc; done)
  case slice t xo lo' hi' mo =>
    cases mo with
    | none =>
      repeat' split at hc
      all_goals first
        | (cases hc; done)
        | contradiction
        | exact absurd ‹Op.slice _ _ _ _ none = Op.slice _ _ _ _ (some _)› (by simp)
    | some mo =>
      simp only at hc
      split at hc
      · split at hc
        · cases lo' <;> cases hi' <;> simp only at hc
          · cases hc; exact ⟨_, _, _, _, _, _, _, rfl, ‹_›, ‹_›, ‹_›, ‹_›, trivial, trivial, rfl⟩
          · rw [Option.map_eq_some_iff] at hc; obtain ⟨_, h1, h2⟩ := hc; cases h2; exact ⟨_, _, _, _, _, _, _, rfl, ‹_›, ‹_›, ‹_›, ‹_›, trivial, h1, rfl⟩
          · rw [Option.map_eq_some_iff] at hc; obtain ⟨_, h1, h2⟩ := hc; cases h2; exact ⟨_, _, _, _, _, _, _, rfl, ‹_›, ‹_›, ‹_›, ‹_›, h1, trivial, rfl⟩
          · split at hc
            · rename_i h1 h2; cases hc; exact ⟨_, _, _, _, _, _, _, rfl, ‹_›, ‹_›, ‹_›, ‹_›, h1, h2, rfl⟩
            · cases hc
        · cases hc
      · cases hc
  all_goals
    (repeat' split at hc
     all_goals first
       | (cases hc; done)
       | (rw [Option.map_eq_some_iff] at hc; obtain ⟨_, _, h⟩ := hc; cases h; done)
       | contradiction)
/-- x[:0:0], x[0:0:0]: nothing, and no room. -/
theorem XOK.slc00 {sz : Nat} {x mx y : Opd} {k k' : IntKind} {u : AV} (hx : ev e x = some u) (hu : ∃ n, rdL h.get u = some n) (hh : ev e y = some (.int k 0)) (hm : ev e mx = some (.int k' 0)) : XOK P N (.slc3 sz x none (some y) mx) e h (some .nils) .none := by
  intro o hc e2 hs m w act hr he
  obtain ⟨t, xo, lo', hi', mo, el, i, hop, hu1, hi, h1, h2, h3, h4, rfl⟩ := cx_slc3 hc
  cases lo' with
  | some _ => exact h3.elim
  | none =>
    cases hi' with
    | none => exact h4.elim
    | some ho =>
      have hx2 := (ev_congr fun s h => hs s (by simp [xslots, h])).trans hx
      have hh2 := (ev_congr fun s h => hs s (by simp [xslots, bslots, h])).trans hh
      have hm2 := (ev_congr fun s h => hs s (by simp [xslots, h])).trans hm
      obtain ⟨n, hn⟩ := hu
      obtain ⟨ad, cap, hcx⟩ := rdL_vr (he.eval h1 hx2) hn
      have b1 := vr_int (he.eval h4 hh2)
      have b2 := vr_int (he.eval h2 hm2)
      refine OpOK.pure hr (cv := .slice ad 0 0) ?_ (by cases ad with | none => exact .nils0 | some ad => exact .nils1 ad)
      have hb : (Instr.sliceBounds true n cap none (some (.int k 0)) (some (.int k' 0))).run P w = .ok (0, 0, 0) w := by
        simp [Instr.sliceBounds, Instr.sliceBound, asIntOf]
      simp [execOp, hop, Instr.sliceAt, Instr.slice, run_underlying hu1, hcx, b1, b2, hb, run_sizeOf' hi]
/-- x[:n:n] of a row that may be written. -/
theorem XOK.slcNN {sz : Nat} {x mx y : Opd} {k k' : IntKind} {id l n : Nat} {a b : Int} (hx : ev e x = some (.ref id 0 l)) (hh : ev e y = some (.int k a)) (hm : ev e mx = some (.int k' b)) (ha : a = n) (hb : b = n) (hn : n ≤ l) (hg : ∃ c, h.get id = some (.mem sz c)) : XOK P N (.slc3 sz x none (some y) mx) e h (some (.ref id 0 n)) .none := by
  subst ha hb
  intro o hc e2 hs m w act hr he
  obtain ⟨t, xo, lo', hi', mo, el, i, hop, hu1, hi, h1, h2, h3, h4, rfl⟩ := cx_slc3 hc
  cases lo' with
  | some _ => exact h3.elim
  | none =>
    cases hi' with
    | none => exact h4.elim
    | some ho =>
      have hx2 := (ev_congr fun s h => hs s (by simp [xslots, h])).trans hx
      have hh2 := (ev_congr fun s h => hs s (by simp [xslots, bslots, h])).trans hh
      have hm2 := (ev_congr fun s h => hs s (by simp [xslots, h])).trans hm
      have hv := he.eval h1 hx2
      have b1 := vr_int (he.eval h4 hh2)
      have b2 := vr_int (he.eval h2 hm2)
      generalize hcx : act.eval xo = cx at hv
      cases hv with
      | ref _ _ _ cap ad hu hcap ha =>
        obtain ⟨c, hg⟩ := hg
        obtain ⟨b', hb', hle, had, cc', T', hcc, hsz⟩ := ha _ _ hg
        have hb : (Instr.sliceBounds true l cap none (some (.int k (n : Int))) (some (.int k' (n : Int)))).run P w = .ok (0, n, n) w := by
          have q1 : (n : Int) ≤ (cap : Int) := by omega
          have q2 : n ≤ cap := by omega
          simp [Instr.sliceBounds, Instr.sliceBound, asIntOf, q2]
        have hvv : VR m h w (.ref id 0 n) (.slice (some ad) n n) := .ref id 0 n n ad hu (Nat.le_refl _) fun sz' c' hg' => by
          obtain ⟨b2, hb2, hle2, had2, cc2, T2, hcc2, hsz2⟩ := ha _ _ hg'
          refine ⟨b2, hb2, by omega, ?_, cc2, T2, hcc2, ?_⟩
          · rcases had2 with h5 | h5
            · left; omega
            · right; exact h5
          · have : (0 + n) * sz' ≤ (0 + cap) * sz' := Nat.mul_le_mul_right _ (by omega)
            omega
        refine OpOK.pure hr (cv := .slice (some ad) n n) ?_ hvv
        have hadd : ad.add (0 * i.size) = ad := by simp [Addr.add]
        have hrun : (Instr.slice t (.slice (some ad) l cap) none (some (.int k (n : Int))) (some (.int k' (n : Int)))).run P w = .ok (.slice (some ad) n n) w := by
          simp only [Instr.slice, Sem.run_bind, run_underlying hu1, Result.andThen_ok, hb, run_sizeOf' hi, Sem.run_pure, Option.map_some, hadd, Nat.sub_zero, ite_self]
        have hrun2 : (Instr.sliceAt t (.slice (some ad) l cap) none (some (.int k (n : Int))) (some (.int k' (n : Int)))).run P w = .ok (.slice (some ad) n n) w := by
          simp only [Instr.sliceAt, Sem.run_bind, run_underlying hu1, Result.andThen_ok, hrun]
        simp only [execOp, hop, hcx, b1, b2, Option.map_some, Option.map_none, Sem.run_bind, hrun2, Result.andThen_ok, Sem.run_pure]

/-! ### memory of any bytes -/
theorem cx_callx {o : Oper} {f : Nat} {xs : List Opd} (hc : compileX P N o = some (.callx f xs)) : ∃ c fn, o.op = .call c ∧ c.callee = .value (.func f) ∧ P.funcs[f]? = some fn ∧ fn.body = none ∧ ofL (ofOpd N) c.args.toList = some xs := by
  obtain ⟨c, hop⟩ := cx_call hc trivial
  simp only [compileX, hop] at hc
  repeat' split at hc
  all_goals first
    | (cases hc; exact ⟨_, _, hop, ‹_›, ‹_›, by simpa using ‹Option.isNone _ = true›, ‹_›⟩)
    | (cases hc; done)
theorem digits_get : ∀ (n t : Nat) (acc : Array Value), (∀ k, k < acc.size → ∃ q : Int, acc.getD k undef = .int .u8 q) → ∀ k, k < (Extern.BytealgMakeNoZero.digits n t acc).size → ∃ q : Int, (Extern.BytealgMakeNoZero.digits n t acc).getD k undef = .int .u8 q
  | 0, _, acc, ha, k, hk => ha k hk
  | n + 1, t, acc, ha, k, hk => by
    rw [Extern.BytealgMakeNoZero.digits] at hk ⊢
    refine digits_get n _ _ (fun j hj => ?_) k hk
    by_cases hlt : j < acc.size
    · obtain ⟨q, hq⟩ := ha j hlt
      exact ⟨q, by simpa [Array.getD_eq_getD_getElem?, Array.getElem?_push_lt hlt, hlt] using hq⟩
    · simp only [Array.size_push] at hj
      obtain rfl : j = acc.size := by omega
      exact ⟨Int.ofNat (t % 256), by simp [Array.getD_eq_getD_getElem?]⟩
/-- New memory of any bytes. -/
theorem FQ.noZero {d : Option Nat} {f n : Nat} {x : Opd} {g : Option (Nat × Bool)} {a : Int} {fn : Func} {t el : TypeId} (hf : P.funcs[f]? = some fn) (hnm : fn.name = "internal/bytealg.MakeNoZero") (hx1 : Extern.findNext fn = none) (hx2 : Extern.find fn = some (Extern.BytealgMakeNoZero.makeNoZero fn.params fn.resultTypes)) (hres : fn.resultTypes = #[t]) (ht : P.underlying t = some (.slice el))
    (hx : ev e x = some (.int .i64 a)) (ha : a = n) (hn : n ≤ 1000000) (hg : met e g) :
    FQ P N ⟨d, .raw (.callx f [x]), g⟩ e h (fun r h' => ∃ q : Nat → Int, r = some (.ref h.next 0 n) ∧ h' = h.put h.next (.mem 1 ((List.range n).map fun i => [.int .u8 (q i)]))) := by
  subst ha
  refine FQ.of (by simp) hg fun ops o hc m w act hr he => ?_
  obtain ⟨c, fn', hop, hcal, hfn, hbody, hxs⟩ := cx_callx (compI_raw hc rfl)
  rw [hf] at hfn; cases hfn
  obtain ⟨hl1, hl2⟩ := he.evalL hxs (show evL e [x] = some [.int .i64 n] by simp [evL, hx])
  have e1 : ∃ y, c.args.toList = [y] := by
    cases hcl : c.args.toList with
    | nil => rw [hcl] at hl1; simp at hl1
    | cons y ys =>
      cases ys with
      | nil => exact ⟨y, rfl⟩
      | cons z zs => rw [hcl] at hl1; simp at hl1
  obtain ⟨y, hy⟩ := e1
  have ha' : c.args = #[y] := by rw [← Array.toArray_toList (xs := c.args), hy]
  have e2 := vr_int (hl2 0 _ rfl)
  rw [hy] at e2
  simp at e2
  have hrun : ∃ cs : Array Value, (Extern.BytealgMakeNoZero.makeNoZero fn.params #[t] #[.int .i64 n]).run P w = .ok (.slice (some ⟨w.heap.size, 0, none⟩) n cs.size) (w.drew.drew.alloc (.cells cs el)) ∧ n ≤ cs.size ∧ ∀ k, k < cs.size → ∃ q : Int, cs.getD k undef = .int .u8 q := by
    have hdef : Extern.BytealgMakeNoZero.makeNoZero fn.params #[t] #[.int .i64 n] =
        (do
          let .slice elem ← underlying t | stuck "bytealg.MakeNoZero: slice type expected"
          if (n : Int) < 0 || (n : Int) > 2 ^ 48 then runtimePanic (.error "makeslice: len out of range")
          let cap ← choose (.appendCap (n : Int).toNat 0 elem)
          askRoom cap
          let bytes ← choose (.extern "internal/bytealg.MakeNoZero.bytes" 0)
          let a ← newRow elem (Extern.BytealgMakeNoZero.digits cap bytes #[])
          pure (.slice (some a) (n : Int).toNat cap)) := rfl
    refine ⟨Extern.BytealgMakeNoZero.digits (grownCap w n 0 el) ((Question.extern "internal/bytealg.MakeNoZero.bytes" 0).cut (w.tape (w.drawn + 1) (.extern "internal/bytealg.MakeNoZero.bytes" 0))) #[], ?_, ?_, digits_get _ _ _ (fun k hk => by simp at hk)⟩
    · rw [hdef]
      have h1 : ¬ (n : Int) < 0 := by omega
      have h2 : ¬ (281474976710656 : Int) < (n : Int) := by omega
      simp [run_underlying ht, h1, h2, Question.forced, newRow, Lib.size_digits, grownCap]
    · rw [Lib.size_digits]
      simpa using grownCap_ge w n 0 el
  obtain ⟨cs, hrun, p1, p2⟩ := hrun
  let q : Nat → Int := fun k => if hk : k < cs.size then Classical.choose (p2 k hk) else 0
  have hq : ∀ k, k < cs.size → cs.getD k undef = .int .u8 (q k) := fun k hk => by
    show _ = Value.int .u8 (dite _ _ _)
    rw [dif_pos hk]
    exact Classical.choose_spec (p2 k hk)
  have hr2 := hr.drew.drew
  have hf2 := next_fresh hr
  obtain ⟨r1, r2⟩ := new_row (w := w.drew.drew) (T := el) (cc := cs) (sz := 1) (c := (List.range n).map fun i => [AV.int .u8 (q i)]) hr2 hf2 (by simpa using p1) ⟨fun x hx => by simp at hx; obtain ⟨_, _, rfl⟩ := hx; rfl, fun x hx v hv => by simp at hx; obtain ⟨_, _, rfl⟩ := hx; simp at hv; subst hv; rfl, fun i cells hi j v hj => by
    have hin : i < n := by simpa using (List.getElem?_eq_some_iff.1 hi).1
    rw [List.getElem?_map, List.getElem?_range hin] at hi
    cases hi
    rcases j with _ | j
    · cases hj
      show VR _ _ _ _ (cs.getD (i * 1 + 0) undef)
      rw [Nat.mul_one, Nat.add_zero, hq i (by omega)]
      exact .int _ _
    · simp at hj⟩
  have hbn : fn.body.isNone = true := by rw [hbody]; rfl
  have hnn : (fn.name == "runtime.NumGoroutine") = false := by rw [hnm]; decide
  refine ⟨_, .new (.mem 1 ((List.range n).map fun i => [AV.int .u8 (q i)])), ⟨q, rfl, rfl⟩, _, _, r1, step_drew.trans (step_drew.trans r2), .slice (some ⟨w.heap.size, 0, none⟩) n cs.size, ?_, ?_⟩
  · have hcf : (callFunc f #[.int .i64 n]).run P w = .ok (.value (.slice (some ⟨w.heap.size, 0, none⟩) n cs.size)) (w.drew.drew.alloc (.cells cs el)) := by
      rw [run_callFunc_extern hf hnn hbn hx1 hx2, hres, hrun]; rfl
    have hev : c.args.map act.eval = #[.int .i64 (n : Int)] := by rw [ha']; simp [e2]
    simp [execOp, hop, resolve, hcal, hev, Act.eval, Deferred.ofValue, invoke, hcf]
  · have := new_ref (m := m) (h := h) (w := w.drew.drew) (nm := h.next) (sz := 1) (off := 0) (len := n) (cap := cs.size) (c := (List.range n).map fun i => [AV.int .u8 (q i)]) (cc := cs) (T := el) (by simp) p1 (by simp)
    simp only [Nat.zero_mul] at this
    exact this
end
end Go.Abs
