/- The abstract layer, part 24: operations with several answers; tests for nil, room, rows that are made to be written, marks. -/
import Derived.Test.YtlddahcgaonlhaaA23
import Derived.Lib.AppendZeros
import Derived.Lib.SlBytesConst
import Derived.Room.MakeNoZero
set_option linter.all false
namespace Go.Abs
open Go

section
variable {P : Program} {N : Nat} {e e' : Env} {h h' : AHeap} {l : List CI} {Q : Exit → Env → AHeap → Prop}

/-- One operation with several answers. -/
def FQ (P : Program) (N : Nat) (c : CI) (e : Env) (h : AHeap) (R : Option AV → AHeap → Prop) : Prop :=
  ∀ (ops : Array Oper) (i : Nat) (o : Oper), ops[i]? = some o → compI P N ops o = c → ∀ (m : Inj) (w : World) (a : Act) (K : Act → World → Prop) (Q : Exit → Act → World → Prop),
    HR m h w → ER N m h w e a → (∀ r h' m' w' a', R r h' → HR m' h' w' → ER N m' h' w' (putR c.d r e) a' → Step m h w m' h' w' → K a' w') → wpOp P ops Q i K a w
theorem AL.fq {c : CI} {R : Option AV → AHeap → Prop} (hx : FQ P N c e h R) (hrest : ∀ r h', R r h' → AL P N l Q (putR c.d r e) h') : AL P N (c :: l) Q e h := by
  intro ops idx hlt hl m w a hr he
  cases idx with
  | nil => simp at hl
  | cons i idx =>
    simp only [List.map_cons, List.cons.injEq] at hl
    obtain ⟨hc, hl⟩ := hl
    have hilt := hlt i (by simp)
    have ho : ops[i]? = some ops[i] := Array.getElem?_eq_getElem hilt
    have hget : ops.getD i default = ops[i] := by simp [hilt]
    rw [hget] at hc
    rw [wpOps_cons]
    refine hx ops i _ ho hc m w a _ _ hr he fun r h' m' w' a' hR h1 h2 h3 => ?_
    exact wpOps_mono (fun _ _ _ hp => PA.from h3 hp) idx _ _ (hrest r h' hR ops idx (fun j hj => hlt j (by simp [hj])) hl m' w' a' h1 h2)

theorem met_wanted {ops : Array Oper} {o : Oper} {d : Option Nat} {i : Ins} {g : Option (Nat × Bool)} {m : Inj} {w : World} {a : Act} (he : ER N m h w e a) (hg : met e g)
    (hgd : match o.guard with | none => (CI.mk d i g).g = none | some (j, b) => ∃ s, (ops[j]?).bind (·.dst) = some s ∧ (CI.mk d i g).g = some (s, b)) : Region.wanted o (yielded ops a.tmps) = true := by
  obtain ⟨w1, w2⟩ := wanted_of he hgd
  cases g with
  | none => exact w1 rfl
  | some sb =>
    obtain ⟨s, b⟩ := sb
    rw [w2 s b b rfl hg]; simp

/-- An operation, by what it does at the real state. -/
theorem FQ.of {d : Option Nat} {i : Ins} {g : Option (Nat × Bool)} {R : Option AV → AHeap → Prop} (hni : i ≠ .bad) (hg : met e g)
    (hx : ∀ (ops : Array Oper) (o : Oper), compI P N ops o = ⟨d, i, g⟩ → ∀ (m : Inj) (w : World) (a : Act), HR m h w → ER N m h w e a → ∃ r f, R r (f.on h.next h) ∧ OpOK P o a m h w h.next r f) : FQ P N ⟨d, i, g⟩ e h R := by
  intro ops i o ho hc m w a K Q hr he hk
  rcases compI_ok hc with ⟨hb1, hb2⟩ | ⟨hd, hdst, _, hgd⟩
  · exact absurd hb1 hni
  · simp only [wpOp, ho]
    rw [if_pos (met_wanted he hg hgd)]
    left
    obtain ⟨r, f, hR, m', w', hr', st, hres⟩ := hx ops o hc m w a hr he
    have hd' : d = o.dst := hd
    unfold Oper.wp
    cases r with
    | some v =>
      obtain ⟨cv, hrun, hv⟩ := hres
      rw [hrun, Oper.upon_value]
      refine hk _ _ m' w' _ hR hr' ?_ st
      show ER N m' _ w' (putR d (some v) e) _
      rw [hd']
      exact (he.step st).putR hdst hv
    | none =>
      rw [hres, Oper.upon_skip]
      refine hk _ _ m' w' _ hR hr' ?_ st
      show ER N m' _ w' (putR d none e) _
      rw [hd']
      exact (he.step st).skipR _ _
theorem comp_plain {ops : Array Oper} {o : Oper} {d : Option Nat} {i : Ins} {g : Option (Nat × Bool)} (hc : compI P N ops o = ⟨d, i, g⟩) (hp : i.plain = true) : compileOp P N o = some i := by
  rcases compI_ok hc with ⟨hb1, hb2⟩ | ⟨_, _, h3, _⟩
  · have hb : i = .bad := hb1
    subst hb; cases hp
  · exact h3 hp

/-! ### is it nil? -/
theorem run_eq_slice_none {t el : TypeId} {w : World} (ht : P.underlying t = some (.slice el)) (d : Nat) (l c : Nat) : (Op.equalIn (d + 1) t (.slice none l c) (.slice none 0 0)).run P w = .ok true w := by
  simp [Op.equalIn, run_underlying ht]
theorem cx_isnil {o : Oper} {neg : Bool} {x : Opd} (hc : compileOp P N o = some (.isnil neg x)) : ∃ op t u el xo, (op = .eql ∧ neg = false ∨ op = .neq ∧ neg = true) ∧ P.underlying t = some (.slice el) ∧ o.op = .binOp op t xo (.const (.slice none 0 0)) u ∧ ofOpd N xo = some x := by
  cases hop : o.op <;> simp only [compileOp, hop] at hc <;> try (cases hc; done)
  case binOp op t x0 y u =>
    cases op <;> simp only at hc
    all_goals
      repeat' split at hc
    all_goals first
      | (cases hc; done)
      | (cases hc; exact ⟨_, _, _, _, _, .inl ⟨rfl, rfl⟩, ‹_›, rfl, ‹_›⟩)
      | (cases hc; exact ⟨_, _, _, _, _, .inr ⟨rfl, rfl⟩, ‹_›, rfl, ‹_›⟩)
      | (rw [Option.map_eq_some_iff] at hc; obtain ⟨_, _, h⟩ := hc; cases h; done)
  all_goals
    (repeat' split at hc
     all_goals first
       | (cases hc; done)
       | (rw [Option.map_eq_some_iff] at hc; obtain ⟨_, _, h⟩ := hc; cases h; done) | contradiction)
theorem FQ.isnil {d : Option Nat} {neg : Bool} {x : Opd} {g : Option (Nat × Bool)} {c : List (List AV)} {sz : Nat} (hx : ev e x = some (.imm sz c)) (hg : met e g) :
    FQ P N ⟨d, .isnil neg x, g⟩ e h (fun r h' => ∃ b : Bool, r = some (.bool (if neg then !b else b)) ∧ h' = h ∧ (b = true → c = [])) := by
  refine FQ.of (by simp) hg fun ops o hc m w a hr he => ?_
  obtain ⟨op, t, u, el, xo, hop, ht, ho, h1⟩ := cx_isnil (comp_plain hc rfl)
  have e1 := he.eval h1 hx
  have key : ∃ b : Bool, (b = true → c = []) ∧ ∃ l cp ad, a.eval xo = .slice ad l cp ∧ b = ad.isNone := by
    generalize a.eval xo = cx at e1
    cases e1 with
    | imm0 => exact ⟨true, fun _ => rfl, _, _, _, rfl, rfl⟩
    | imm1 => exact ⟨false, fun h => (nomatch h), _, _, _, rfl, rfl⟩
    | imm => exact ⟨false, fun h => (nomatch h), _, _, _, rfl, rfl⟩
  obtain ⟨b, hb, l, cp, ad, hx1, rfl⟩ := key
  refine ⟨_, .none, ⟨ad.isNone, rfl, rfl, hb⟩, ?_⟩
  have heq : (Op.equal t (.slice ad l cp) (.slice none 0 0)).run P w = .ok ad.isNone w := by
    cases ad with
    | none => exact run_eq_slice_none ht 9999 l cp
    | some ad => exact run_eq_slice_nil ht 9999 ad l cp
  have hy : a.eval (.const (.slice none 0 0)) = .slice none 0 0 := rfl
  refine OpOK.pure hr (cv := .bool (if neg then !ad.isNone else ad.isNone)) ?_ (by cases neg <;> exact .bool _)
  rcases hop with ⟨rfl, rfl⟩ | ⟨rfl, rfl⟩
  · simp [execOp, ho, hx1, hy, eqGuard_at_slice, binOp, heq]
  · simp [execOp, ho, hx1, hy, eqGuard_at_slice, binOp, heq]

/-! ### room -/
theorem cx_call {o : Oper} {y : Ex} (hc : compileX P N o = some y) (hy : match y with | .caps _ | .appz _ _ _ _ _ | .callx _ _ | .inv _ _ _ | .clr _ _ _ => True | _ => False) : ∃ c, o.op = .call c := by
  cases hop : o.op <;> simp only [compileX, hop] at hc <;> try (cases hc; done)
  case call c => exact ⟨c, rfl⟩
  all_goals
    (repeat' split at hc
     all_goals first
       | (cases hc; cases hy; done)
       | (cases hc; done)
       | (rw [Option.map_eq_some_iff] at hc; obtain ⟨_, _, h⟩ := hc; subst h; cases hy; done)
       | contradiction)
theorem cx_caps {o : Oper} {x : Opd} (hc : compileX P N o = some (.caps x)) : ∃ c xo t el, o.op = .call c ∧ c.callee = .builtin .cap ∧ c.args.toList = [xo] ∧ c.argTypes[0]? = some t ∧ P.underlying t = some (.slice el) ∧ ofOpd N xo = some x := by
  obtain ⟨c, hop⟩ := cx_call hc trivial
  simp only [compileX, hop] at hc
  split at hc
  case h_2 hcal =>
    repeat' split at hc
    all_goals first
      | (cases hc; exact ⟨_, _, _, _, hop, hcal, ‹_›, ‹_›, ‹_›, ‹_›⟩)
      | (cases hc; done)
  all_goals
    (repeat' split at hc
     all_goals (cases hc; done))
theorem XOK.caps0 {x : Opd} (hx : ev e x = some .nils) : XOK P N (.caps x) e h (some (.int .i64 0)) .none := by
  intro o hc e2 hs m w act hr he
  obtain ⟨c, xo, t, el, hop, hcal, ha, hat, hu, h1⟩ := cx_caps hc
  have hx2 : ev e2 x = some .nils := (ev_congr fun s h => hs s (by simp [xslots, h])).trans hx
  have ha' : c.args = #[xo] := by rw [← Array.toArray_toList (xs := c.args), ha]
  have e1 := he.eval h1 hx2
  generalize hcx : act.eval xo = cx at e1
  refine OpOK.pure hr (cv := .int .i64 0) ?_ (.int _ _)
  cases e1 <;> simp [execOp, hop, resolve, hcal, ha', invoke, builtin, Builtin.cap_, hat, hcx, run_underlying hu, goInt]

theorem cx_appz {o : Oper} {sz bytes : Nat} {zs : List AV} {x y : Opd} (hc : compileX P N o = some (.appz sz bytes zs x y)) : ∃ c s n t u el k i z, o.op = .call c ∧ c.callee = .builtin .append ∧ c.args.toList = [s, n] ∧ c.argTypes.toList = [t, u] ∧ P.underlying t = some (.slice el) ∧ P.underlying u = some (.int k) ∧
    ofOpd N s = some x ∧ ofOpd N n = some y ∧ P.info? el = some i ∧ i.zero = some z ∧ ofL ofV z.cells.toList = some zs ∧ 0 < i.size ∧ 0 < i.bytes ∧ z.cells.size = i.size ∧ sz = i.size ∧ bytes = i.bytes := by
  obtain ⟨c, hop⟩ := cx_call hc trivial
  simp only [compileX, hop] at hc
  split at hc
  case h_3 hcal =>
    repeat' split at hc
    all_goals first
      | (rename_i hcond; cases hc; exact ⟨_, _, _, _, _, _, _, _, _, hop, hcal, ‹_›, ‹_›, ‹_›, ‹_›, ‹_›, ‹_›, ‹_›, ‹_›, ‹_›, hcond.1, hcond.2.1, hcond.2.2, rfl, rfl⟩)
      | (cases hc; done)
  all_goals
    (repeat' split at hc
     all_goals (cases hc; done))
theorem zeroCells_get {z : Array Value} {n k : Nat} (hk : k < n * z.size) : (Builtin.zeroCells z n)[k]? = some (z.getD (k % z.size) undef) := by
  have hz : 0 < z.size := by
    rcases Nat.eq_zero_or_pos z.size with h | h
    · rw [h] at hk; omega
    · exact h
  have hm : k % z.size < z.size := Nat.mod_lt _ hz
  simp [Builtin.zeroCells, hk, Array.getD_eq_getD_getElem?, hm]
/-- A row of zeros reads as such. -/
theorem rowF_zero {m : Inj} {w : World} {z : Value} {zs : List AV} {sz n : Nat} (hzs : ofL ofV z.cells.toList = some zs) (hsz : z.cells.size = sz) (h0 : 0 < sz) {F : Nat → Value} (hF : ∀ k, k < n * sz → F k = z.cells.getD (k % sz) undef) : RowF m h w sz (List.replicate n zs) F := by
  obtain ⟨q1, q2, q3⟩ := ofL_ofV (m := m) (h := h) (w := w) hzs
  refine ⟨fun x hx => ?_, fun x hx => ?_, fun i cells hi j v hj => ?_⟩
  · obtain ⟨_, rfl⟩ := List.mem_replicate.1 hx; simpa [hsz] using q1
  · obtain ⟨_, rfl⟩ := List.mem_replicate.1 hx; exact q2
  · rw [List.getElem?_replicate] at hi
    split at hi
    · rename_i hlt
      cases hi
      have hjs : j < sz := by
        have := (List.getElem?_eq_some_iff.1 hj).1
        have h6 : zs.length = sz := by simpa [hsz] using q1
        omega
      rw [hF _ (idx_lt hlt hjs), Nat.mul_comm, Nat.mul_add_mod, Nat.mod_eq_of_lt hjs]
      have := q3 j v hj
      simpa [Array.getD_eq_getD_getElem?, List.getD_eq_getElem?_getD] using this
    · cases hi
theorem new_ref {m : Inj} {w : World} {nm sz off len cap : Nat} {c : List (List AV)} {cc : Array Value} {T : TypeId} (h1 : off + len ≤ c.length) (h2 : len ≤ cap) (h3 : (off + cap) * sz ≤ cc.size) :
    VR (upd m nm (some (w.heap.size, 0))) (h.put nm (.mem sz c)) (w.alloc (.cells cc T)) (.ref nm off len) (.slice (some ⟨w.heap.size, off * sz, none⟩) len cap) := by
  refine .ref nm off len cap _ put_used_nm h2 fun sz' c' hg => ?_
  simp only [AHeap.put, if_true, Option.some.injEq, AObj.mem.injEq] at hg
  obtain ⟨rfl, rfl⟩ := hg
  exact ⟨w.heap.size, by simp [upd], h1, .inr rfl, cc, T, heap_alloc_new w _, h3⟩
/-- Noughts appended to nothing: a row that may be written. -/
theorem XOK.appz {sz bytes n : Nat} {zs : List AV} {x y : Opd} {k : IntKind} {a : Int} (hx : ev e x = some .nils) (hy : ev e y = some (.int k a)) (ha : a = n) (h0 : 0 < n) (hb : n * bytes ≤ 140737488355328) :
    XOK P N (.appz sz bytes zs x y) e h (some (.ref h.next 0 n)) (.new (.mem sz (List.replicate n zs))) := by
  subst ha
  intro o hc e2 hs m w act hr he
  obtain ⟨c, s, no, t, u, el, kk, i, z, hop, hcal, hargs, hat, hu, hu2, h1, h2, hi, hz, hzs, p1, p2, p3, rfl, rfl⟩ := cx_appz hc
  have hx2 : ev e2 x = some .nils := (ev_congr fun s h => hs s (by simp [xslots, h])).trans hx
  have hy2 : ev e2 y = some (.int k n) := (ev_congr fun s h => hs s (by simp [xslots, h])).trans hy
  have ha' : c.args = #[s, no] := by rw [← Array.toArray_toList (xs := c.args), hargs]
  have hat' : c.argTypes = #[t, u] := by rw [← Array.toArray_toList (xs := c.argTypes), hat]
  have e1 := he.eval h1 hx2
  have e3 := vr_int (he.eval h2 hy2)
  have hn1 : n * 1 ≤ n * i.bytes := Nat.mul_le_mul_left _ p2
  have hg := grownCap_ge w n 0 el
  have fin : ∀ cc : Array Value, (∀ k, k < n * i.size → cc.getD k undef = z.cells.getD (k % i.size) undef) → grownCap w n 0 el * i.size ≤ cc.size → (execOp act.eval o).run P w = .ok (.value (.slice (some ⟨w.heap.size, 0, none⟩) n (grownCap w n 0 el))) (w.drew.alloc (.cells cc el)) →
      OpOK P o act m h w h.next (some (.ref h.next 0 n)) (.new (.mem i.size (List.replicate n zs))) := by
    intro cc hcc hsz hrun
    have hr1 := hr.drew
    have hf := next_fresh hr
    obtain ⟨r1, r2⟩ := new_row (T := el) (cc := cc) (sz := i.size) (c := List.replicate n zs) hr1 hf (by
      simp only [List.length_replicate]
      have : n * i.size ≤ grownCap w n 0 el * i.size := Nat.mul_le_mul_right _ hg
      omega) (rowF_zero hzs p3 p1 hcc)
    refine ⟨_, _, r1, step_drew.trans r2, _, hrun, ?_⟩
    have := new_ref (m := m) (h := h) (w := w.drew) (nm := h.next) (sz := i.size) (off := 0) (len := n) (cap := grownCap w n 0 el) (c := List.replicate n zs) (cc := cc) (T := el) (by simp) hg (by simpa using hsz)
    simp only [Nat.zero_mul] at this
    exact this
  generalize hcx : act.eval s = cx at e1
  have hz1 : z.cells.size = i.size := p3
  have go : ∀ base, (Builtin.append_ #[t, u] o.type #[.slice base 0 0, .int k n]).run P w = .ok (.slice (some ⟨w.heap.size, 0, none⟩) n (grownCap w n 0 el)) (w.drew.alloc (.cells (Builtin.zeroCells z.cells n ++ Builtin.zeroCells z.cells (grownCap w n 0 el - n)) el)) := by
    intro base
    have hn : n ≠ 0 := by omega
    have hw : IntKind.i64.wrap (n : Int) = n := by rw [IntKind.wrap_i64]; omega
    have h63' : ¬ (9223372036854775807 < (n : Int)) := by omega
    have h48' : ¬ (281474976710656 < Builtin.nextslicecap n 0 * i.bytes) := by rw [nextslicecap_zero h0]; omega
    have h48i : ¬ (281474976710656 < (n : Int) * (i.bytes : Int)) := by
      rw [← Int.natCast_mul]
      omega
    have hneg : ¬ ((n : Int) < 0) := by omega
    have hns : ¬ (n * i.size = 0) := Nat.mul_ne_zero hn (by omega)
    cases base with
    | none => exact Lib.run_append_nil_zeros (P := P) w t u o.type el i z k kk hu hu2 hi hz n h0 p1 (by omega) (by omega)
    | some bb => simp [Builtin.append_, run_underlying hu, run_underlying hu2, sizeOf, typeInfo, zeroValue, hi, hz, asInt, asIntOf, hw, hn, hneg, hns, h63', h48', h48i, Question.forced, Builtin.firstCells, loadCells, loadCellsFrom, newRow, grownCap]
  have hrun : ∃ base, cx = .slice base 0 0 := by
    cases e1 with
    | nils0 => exact ⟨_, rfl⟩
    | nils1 ad => exact ⟨_, rfl⟩
  obtain ⟨base, rfl⟩ := hrun
  refine fin (Builtin.zeroCells z.cells n ++ Builtin.zeroCells z.cells (grownCap w n 0 el - n)) ?_ ?_ (by simp [execOp, hop, resolve, hcal, ha', hat', invoke, builtin, hcx, e3, go base])
  · intro k hk
    have := zeroCells_get (z := z.cells) (n := n) (k := k) (by rw [hz1]; exact hk)
    rw [Array.getD_eq_getD_getElem?, Array.getElem?_append_left (by simp [Builtin.zeroCells, hz1, hk]), this, hz1]
    rfl
  · simp only [Array.size_append, size_zeroCells, hz1, ← Nat.add_mul]
    exact Nat.mul_le_mul_right _ (by omega)
end
end Go.Abs
