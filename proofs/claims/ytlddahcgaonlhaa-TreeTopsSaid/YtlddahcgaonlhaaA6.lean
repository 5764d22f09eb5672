/- The abstract layer, part 6: new variables, addresses of elements, lengths, literals, slices of slices. -/
import Derived.Test.YtlddahcgaonlhaaA5
set_option linter.all false
namespace Go.Abs
open Go

section
variable {P : Program} {N : Nat} {m : Inj} {h : AHeap} {w : World} {e : Env} {a : Act} {nm : Nat} {o : Oper}

theorem ofL_ofV {cs : List Value} : ∀ {z : List AV}, ofL ofV cs = some z → z.length = cs.length ∧ (∀ v ∈ z, v.scalar = true) ∧ ∀ i v, z[i]? = some v → VR m h w v (cs.getD i undef) := by
  induction cs with
  | nil => intro z hz; simp [ofL] at hz; subst hz; simp
  | cons c cs ih =>
    intro z hz
    simp only [ofL] at hz
    split at hz
    · rename_i v vs h1 h2
      cases hz
      obtain ⟨e1, e2, e3⟩ := ih h2
      refine ⟨by simp [e1], fun u hu => ?_, fun i u hu => ?_⟩
      · rcases List.mem_cons.1 hu with rfl | hu
        · exact ofV_scalar h1
        · exact e2 u hu
      · cases i with
        | zero => simp at hu; subst hu; simpa using ofV_vr h1
        | succ i => simp at hu; simpa using e3 i u hu
    · cases hz

theorem RowF.one {sz : Nat} {cells : List AV} {F : Nat → Value} (hl : cells.length = sz) (hs : ∀ v ∈ cells, v.scalar = true) (hv : ∀ j v, cells[j]? = some v → VR m h w v (F j)) : RowF m h w sz [cells] F := by
  refine ⟨fun x hx => ?_, fun x hx => ?_, fun i c hi j v hj => ?_⟩
  · simp at hx; subst hx; exact hl
  · simp at hx; subst hx; exact hs
  · cases i with
    | zero => simp at hi; subst hi; simpa using hv j v hj
    | succ i => simp at hi

/-- A new row of cells, under a name. -/
theorem new_row (hr : HR m h w) (hf : ¬ h.used nm) {sz : Nat} {c : List (List AV)} {cc : Array Value} {T : TypeId} (hsz : c.length * sz ≤ cc.size) (hrow : RowF m h w sz c (fun k => cc.getD k undef)) :
    HR (upd m nm (some (w.heap.size, 0))) (h.put nm (.mem sz c)) (w.alloc (.cells cc T)) ∧ Step m h w (upd m nm (some (w.heap.size, 0))) (h.put nm (.mem sz c)) (w.alloc (.cells cc T)) := by
  have st := step_put hr hf (.mem sz c) (.cells cc T) 0
  exact ⟨HR.put hr hf ⟨w.heap.size, cc, T, by simp [upd], heap_alloc_new w _, hsz, hrow.step st⟩, st⟩
theorem new_ptr {sz : Nat} {c : List (List AV)} {t : Nat} {cc : Array Value} {T : TypeId} : VR (upd m nm (some (w.heap.size, 0))) (h.put nm (.mem sz c)) (w.alloc (.cells cc T)) (.ptr nm 0 0) (.pointer (some ⟨w.heap.size, 0, none⟩)) :=
  .ptr _ _ _ _ put_used_nm fun s c' _ => ⟨w.heap.size, by simp [upd], by simp⟩

theorem ok_alloc (hr : HR m h w) (hf : ¬ h.used nm) {t : TypeId} {i : TypeInfo} {z : Value} {zs : List AV} (hi : P.info? t = some i) (hz : i.zero = some z) (hzs : ofL ofV z.cells.toList = some zs) (ho : o.op = .alloc t)
    {r : Option AV} {f : Eff} (hv : evalI nm (.alloc zs) e h.get = some (r, f)) : OpOK P o a m h w nm r f := by
  simp only [evalI] at hv
  cases hv
  obtain ⟨hl, hsc, hvr⟩ := ofL_ofV (m := m) (h := h) (w := w) hzs
  have hrow : RowF m h w zs.length [zs] (fun k => z.cells.getD k undef) := RowF.one rfl hsc fun j v hj => by
    have := hvr j v hj
    simpa [Array.getD_eq_getD_getElem?, List.getD_eq_getElem?_getD] using this
  obtain ⟨hr', st⟩ := new_row (nm := nm) (T := t) hr hf (by simp at hl; simp [hl]) hrow
  refine ⟨_, _, hr', st, _, ?_, new_ptr (t := 0)⟩
  simp [execOp, ho, Instr.alloc, zeroValue, run_typeInfo' hi, hz, newVar, newRow]

theorem ok_box (hr : HR m h w) (hf : ¬ h.used nm) (he : ER N m h w e a) {t : TypeId} {i : TypeInfo} (hi : P.info? t = some i) {x : Operand} {x' : Opd} (ho : o.op = .box t x) (h1 : ofOpd N x = some x')
    {r : Option AV} {f : Eff} (hv : evalI nm (.box i.size x') e h.get = some (r, f)) : OpOK P o a m h w nm r f := by
  simp only [evalI] at hv
  split at hv
  · rename_i v g1
    split at hv
    · rename_i hc
      cases hv
      have hvc := vr_cells (he.eval h1 g1) (isTup_ne hc.2)
      have hrow : RowF m h w i.size [v.cs] (fun k => (a.eval x).cells.getD k undef) := RowF.one hc.1 hvc.2.1 hvc.2.2
      obtain ⟨hr', st⟩ := new_row (nm := nm) (T := t) hr hf (by simp [← hvc.1, hc.1]) hrow
      refine ⟨_, _, hr', st, _, ?_, new_ptr (t := 0)⟩
      simp [execOp, ho, Instr.box, newVar, newRow]
    · cases hv
  · cases hv

theorem rdL_vr {s : AV} {c : Value} (hv : VR m h w s c) {g : Nat → Option AObj} {n : Nat} (hn : rdL g s = some n) : ∃ ad cap, c = .slice ad n cap := by
  cases hv <;> simp only [rdL] at hn <;> cases hn <;> exact ⟨_, _, rfl⟩

theorem ok_len (hr : HR m h w) (he : ER N m h w e a) {c : Call} {x : Operand} {x' : Opd} {t el : TypeId} (ho : o.op = .call c) (hc : c.callee = .builtin .len) (ha : c.args.toList = [x]) (hat : c.argTypes[0]? = some t) (hu : P.underlying t = some (.slice el)) (h1 : ofOpd N x = some x')
    {r : Option AV} {f : Eff} (hv : evalI nm (.len x') e h.get = some (r, f)) : OpOK P o a m h w nm r f := by
  simp only [evalI] at hv
  split at hv
  · rename_i s g1
    split at hv
    · rename_i n g2
      cases hv
      obtain ⟨ad, cap, hs⟩ := rdL_vr (he.eval h1 g1) g2
      have ha' : c.args = #[x] := by rw [← Array.toArray_toList (xs := c.args), ha]
      refine OpOK.pure hr ?_ (.int _ _)
      simp [execOp, ho, resolve, hc, ha', invoke, builtin, Builtin.len_, hat, hs, run_underlying hu, goInt]
    · cases hv
  · cases hv

theorem ok_bsl0 (hr : HR m h w) {t el : TypeId} {i : TypeInfo} (hu : P.underlying t = some (.slice el)) (hi : P.info? el = some i) (ho : o.op = .buildSlice t 0 #[])
    {r : Option AV} {f : Eff} (hv : evalI nm .bsl0 e h.get = some (r, f)) : OpOK P o a m h w nm r f := by
  simp only [evalI] at hv
  cases hv
  refine ⟨m, w.alloc (.cells #[] el), hr.alloc _, step_alloc hr _, _, ?_, .nils1 ⟨w.heap.size, 0, none⟩⟩
  simp [execOp, ho, Instr.buildSlice, run_underlying hu, run_sizeOf' hi, Instr.fill, newRow, Array.range_zero']

theorem ok_mkf (hr : HR m h w) (he : ER N m h w e a) {fn : Fn} {xs ys : Array Operand} {xs' ys' : List Opd} (ho : o.op = .makeFunc fn xs ys) (h1 : ofL (ofOpd N) xs.toList = some xs') (h2 : ofL (ofOpd N) ys.toList = some ys')
    {r : Option AV} {f : Eff} (hv : evalI nm (.mkf fn xs' ys') e h.get = some (r, f)) : OpOK P o a m h w nm r f := by
  simp only [evalI] at hv
  split at hv
  · rename_i vs us g1 g2
    cases hv
    obtain ⟨e1, e2⟩ := he.evalL h1 g1
    obtain ⟨e3, e4⟩ := he.evalL h2 g2
    refine OpOK.pure hr (cv := .func fn (xs.map a.eval) (ys.map a.eval)) (by simp [execOp, ho, Instr.makeFunc]) (.func _ _ _ _ _ (by simp [e1]) (by simp [e3]) (fun i v hi => ?_) (fun i v hi => ?_))
    · have := e2 i v hi; simpa [Array.getD_eq_getD_getElem?, List.getD_eq_getElem?_getD] using this
    · have := e4 i v hi; simpa [Array.getD_eq_getD_getElem?, List.getD_eq_getElem?_getD] using this
  · cases hv

theorem ok_iaddr (hr : HR m h w) (he : ER N m h w e a) {t el : TypeId} {i : TypeInfo} (hu : P.underlying t = some (.slice el)) (hi : P.info? el = some i) {x y : Operand} {x' y' : Opd} (ho : o.op = .indexAddr t x y) (h1 : ofOpd N x = some x') (h2 : ofOpd N y = some y')
    {r : Option AV} {f : Eff} (hv : evalI nm (.iaddr i.size x' y') e h.get = some (r, f)) : OpOK P o a m h w nm r f := by
  have hrun : ∀ (ad : Addr) (len cap : Nat) (k : IntKind) (n : Int), 0 ≤ n → n < (len : Int) → (Instr.indexAt t (.slice (some ad) len cap) (.int k n)).run P w = .ok (.pointer (some (ad.add (n.toNat * i.size)))) w := by
    intro ad len cap k n h0 hn
    simp [Instr.indexAt, run_underlying hu, asIntOf, h0, hn, run_sizeOf' hi]
  simp only [evalI] at hv
  split at hv
  · rename_i s c k n g1 g2
    obtain ⟨⟨rfl, h0, hn⟩, hv'⟩ := req_some hv
    cases hv'
    have e2 := vr_int (he.eval h2 g2)
    have e1 := he.eval h1 g1
    generalize hcx : a.eval x = cx at e1
    cases e1 with
    | imm0 => simp at hn; omega
    | imm1 => simp at hn; omega
    | imm _ _ b o' cap F hic hl hs hrr hc =>
      refine OpOK.pure hr (cv := .pointer (some (Addr.add ⟨b, o', none⟩ (n.toNat * i.size)))) (by simp [execOp, ho, hcx, e2, hrun _ _ _ _ _ h0 hn]) ?_
      rw [Addr.add_lit]
      exact VR.iptr i.size c n.toNat 0 b o' F hic hl hs hrr
  · rename_i id s c k n g1 g2
    obtain ⟨⟨rfl, h0, hn⟩, hv'⟩ := req_some hv
    cases hv'
    have e2 := vr_int (he.eval h2 g2)
    have e1 := he.eval h1 g1
    generalize hcx : a.eval x = cx at e1
    cases e1 with
    | app0 => simp at hn; omega
    | app1 => simp at hn; omega
    | app _ _ _ _ b cap F hu' hic hl hs hrr hc ht =>
      refine OpOK.pure hr (cv := .pointer (some (Addr.add ⟨b, 0, none⟩ (n.toNat * i.size)))) (by simp [execOp, ho, hcx, e2, hrun _ _ _ _ _ h0 hn]) ?_
      rw [Addr.add_lit]
      exact VR.iptr i.size c n.toNat 0 b 0 F hic hl hs hrr
  · rename_i id off l k n g1 g2
    split at hv
    · rename_i s c g3
      obtain ⟨⟨rfl, h0, hn⟩, hv'⟩ := req_some hv
      cases hv'
      have e2 := vr_int (he.eval h2 g2)
      have e1 := he.eval h1 g1
      generalize hcx : a.eval x = cx at e1
      cases e1 with
      | ref _ _ _ cap ad hu' hc ha =>
        refine OpOK.pure hr (cv := .pointer (some (Addr.add ad (n.toNat * i.size)))) (by simp [execOp, ho, hcx, e2, hrun _ _ _ _ _ h0 hn]) (.ptr _ _ _ _ hu' fun sz c' hg => ?_)
        obtain ⟨b, hb, hle, had, _⟩ := ha sz c' hg
        rw [g3] at hg
        cases hg
        rcases had with h00 | rfl
        · omega
        · exact ⟨b, hb, by rw [Addr.add_lit, Nat.add_mul]; rfl⟩
    · cases hv
  · cases hv

theorem ok_iaddrA (hr : HR m h w) (he : ER N m h w e a) {t el : TypeId} {i : TypeInfo} {len : Nat} (hu : P.underlying t = some (.array len el)) (hi : P.info? el = some i) {x y : Operand} {x' y' : Opd} (ho : o.op = .indexAddr t x y) (h1 : ofOpd N x = some x') (h2 : ofOpd N y = some y')
    {r : Option AV} {f : Eff} (hv : evalI nm (.iaddrA len i.size x' y') e h.get = some (r, f)) : OpOK P o a m h w nm r f := by
  have hrun : ∀ (ad : Addr) (k : IntKind) (n : Int), 0 ≤ n → n < (len : Int) → (Instr.indexAt t (.pointer (some ad)) (.int k n)).run P w = .ok (.pointer (some (ad.add (n.toNat * i.size)))) w := by
    intro ad k n h0 hn
    simp [Instr.indexAt, run_underlying hu, asIntOf, Instr.sureAddr, h0, hn, run_sizeOf' hi]
  simp only [evalI] at hv
  split at hv
  · rename_i id j off k n g1 g2
    obtain ⟨⟨h0, hn⟩, hv'⟩ := req_some hv
    cases hv'
    have e2 := vr_int (he.eval h2 g2)
    obtain ⟨ad, hp, hu', ha⟩ := vr_ptr (he.eval h1 g1)
    refine OpOK.pure hr (cv := .pointer (some (ad.add (n.toNat * i.size)))) (by simp [execOp, ho, hp, e2, hrun _ _ _ h0 hn]) (.ptr _ _ _ _ hu' fun sz c hg => ?_)
    obtain ⟨b, hb, rfl⟩ := ha sz c hg
    exact ⟨b, hb, by rw [Addr.add_lit]; congr 1; omega⟩
  · rename_i s c j off k n g1 g2
    obtain ⟨⟨h0, hn⟩, hv'⟩ := req_some hv
    cases hv'
    have e2 := vr_int (he.eval h2 g2)
    have e1 := he.eval h1 g1
    generalize hcx : a.eval x = cx at e1
    cases e1 with
    | iptr _ _ _ _ b o' F hic hl hsc hrr =>
      refine OpOK.pure hr (cv := .pointer (some (Addr.add ⟨b, o' + j * s + off, none⟩ (n.toNat * i.size)))) (by simp [execOp, ho, hcx, e2, hrun _ _ _ h0 hn]) ?_
      have := VR.iptr s c j (off + n.toNat * i.size) b o' F hic hl hsc hrr
      rw [Addr.add_lit]
      rwa [Nat.add_assoc]
  · cases hv

/-! ### slices of slices -/
theorem bnd_run {dflt : Nat} {e : Env} (he : ER N m h w e a) {x : Operand} {x' : Opd} (h1 : ofOpd N x = some x') {n : Nat} (hb : bnd e dflt (some x') = some n) : ∃ k, a.eval x = .int k (n : Int) := by
  simp only [bnd] at hb
  split at hb
  · rename_i k i g
    obtain ⟨h0, hb⟩ := req_some hb
    cases hb
    exact ⟨k, by rw [vr_int (he.eval h1 g), Int.toNat_of_nonneg h0]⟩
  · cases hb

def OOpd (N : Nat) : Option Operand → Option Opd → Prop
  | none, none => True
  | some x, some x' => ofOpd N x = some x'
  | _, _ => False
/-- The bounds of a slice expression, run. -/
theorem run_bounds (he : ER N m h w e a) {len cap l r : Nat} {lo hi : Option Operand} {lo' hi' : Option Opd} (hlo : OOpd N lo lo')
    (hhi : OOpd N hi hi') (bl : bnd e 0 lo' = some l) (br : bnd e len hi' = some r) (hlr : l ≤ r) (hrc : r ≤ len) (hlc : len ≤ cap) :
    (Instr.sliceBounds true len cap (lo.map a.eval) (hi.map a.eval) none).run P w = .ok (l, r, cap) w := by
  have sb : ∀ k (i : Nat) (y : Nat) (cd : BoundsCode), i ≤ y → (Instr.sliceBound (.int k (i : Int)) y cd).run P w = .ok i w := by
    intro k i y cd hiy
    have := run_sliceBound (P := P) w k (i : Int) y cd (by omega) (by omega)
    simpa using this
  cases lo <;> cases lo' <;> simp only [OOpd] at hlo
  · cases hi <;> cases hi' <;> simp only [OOpd] at hhi
    · simp [bnd] at bl br; subst bl; subst br; simp [Instr.sliceBounds]
    · obtain ⟨k, ek⟩ := bnd_run he hhi br
      simp [bnd] at bl; subst bl
      simp [Instr.sliceBounds, ek, sb _ _ _ _ (show r ≤ cap by omega)]
  · obtain ⟨k, ek⟩ := bnd_run he hlo bl
    cases hi <;> cases hi' <;> simp only [OOpd] at hhi
    · simp [bnd] at br; subst br
      simp [Instr.sliceBounds, ek, sb _ _ _ _ (show l ≤ len by omega)]
    · obtain ⟨k2, ek2⟩ := bnd_run he hhi br
      simp [Instr.sliceBounds, ek, ek2, sb _ _ _ _ (show r ≤ cap by omega), sb _ _ _ _ hlr]

theorem IC.sub {own : Nat → Nat → Prop} {b o n : Nat} {F : Nat → Value} (hic : IC w own b o n F) (d k : Nat) (hk : d + k ≤ n) : IC w own b (o + d) k (fun j => F (d + j)) := by
  intro j hj
  have := hic (d + j) (by omega)
  rwa [← Nat.add_assoc] at this

theorem sub_row {sz : Nat} {c : List (List AV)} {F : Nat → Value} {b o' l r : Nat} (hic : IC w (Own m h) b o' (c.length * sz) F) (hl : Len sz c) (hs : Scal c)
    (hrr : ∀ (i : Nat) (cells : List AV), c[i]? = some cells → ∀ (j : Nat) (v : AV), cells[j]? = some v → VR m h w v (F (i * sz + j))) (hlr : l ≤ r) (hrc : r ≤ c.length) (cap : Nat) (hcap : r - l ≤ cap) :
    VR m h w (.imm sz ((c.take r).drop l)) (.slice (some ⟨b, o' + l * sz, none⟩) (r - l) cap) := by
  have hrow : RowF m h w sz ((c.take r).drop l) (fun k => F (l * sz + k)) := (RowF.take (F := F) ⟨hl, hs, hrr⟩ r).drop l
  have hlen : ((c.take r).drop l).length = r - l := by simp; omega
  have := VR.imm (m := m) (h := h) (w := w) sz ((c.take r).drop l) b (o' + l * sz) cap (fun k => F (l * sz + k)) (hic.sub _ _ (by rw [hlen, ← Nat.add_mul]; exact Nat.mul_le_mul_right _ (by omega))) hrow.1 hrow.2.1 hrow.2.2 (by omega)
  rwa [hlen] at this

theorem ok_slc (hr : HR m h w) (he : ER N m h w e a) {t el : TypeId} {i : TypeInfo} (hu : P.underlying t = some (.slice el)) (hi : P.info? el = some i) {x : Operand} {x' : Opd} {lo hi' : Option Operand} {lo' hj' : Option Opd} (ho : o.op = .slice t x lo hi' none) (h1 : ofOpd N x = some x')
    (hlo : OOpd N lo lo') (hhi : OOpd N hi' hj')
    {r : Option AV} {f : Eff} (hv : evalI nm (.slc i.size x' lo' hj') e h.get = some (r, f)) : OpOK P o a m h w nm r f := by
  have hrun : ∀ ad len cap l r, bnd e 0 lo' = some l → bnd e len hj' = some r → l ≤ r → r ≤ len → len ≤ cap → a.eval x = .slice ad len cap →
      (execOp a.eval o).run P w = .ok (.value (.slice (if cap = l then ad else ad.map (·.add (l * i.size))) (r - l) (cap - l))) w := by
    intro ad len cap l r bl br hlr hrc hlc hx
    have := run_bounds (P := P) he hlo hhi bl br hlr hrc hlc
    simp [execOp, ho, hx, Instr.sliceAt, run_underlying hu, Instr.slice, this, run_sizeOf' hi]
  simp only [evalI] at hv
  split at hv
  · rename_i g1
    split at hv
    · rename_i l q bl br
      obtain ⟨⟨rfl, rfl⟩, hv'⟩ := req_some hv
      cases hv'
      have e1 := he.eval h1 g1
      generalize hcx : a.eval x = cx at e1
      cases e1 with
      | nils0 => exact OpOK.pure hr (hrun _ 0 0 0 0 bl br (Nat.le_refl _) (Nat.le_refl _) (Nat.le_refl _) hcx) (by simp; exact .nils0)
      | nils1 ad => exact OpOK.pure hr (hrun _ 0 0 0 0 bl br (Nat.le_refl _) (Nat.le_refl _) (Nat.le_refl _) hcx) (by simp; exact .nils1 _)
    · cases hv
  · rename_i s c g1
    split at hv
    · rename_i l q bl br
      obtain ⟨⟨rfl, hlr, hrc⟩, hv'⟩ := req_some hv
      cases hv'
      have e1 := he.eval h1 g1
      generalize hcx : a.eval x = cx at e1
      cases e1 with
      | imm0 =>
        simp at hrc; subst hrc; simp at hlr; subst hlr
        exact OpOK.pure hr (hrun _ 0 0 0 0 bl br (Nat.le_refl _) (Nat.le_refl _) (Nat.le_refl _) hcx) (by simp; exact .imm0 _)
      | imm1 _ ad cap =>
        simp at hrc; subst hrc; simp at hlr; subst hlr
        refine OpOK.pure hr (hrun _ 0 cap 0 0 bl br (Nat.le_refl _) (Nat.le_refl _) (Nat.zero_le _) hcx) ?_
        have : (if cap = 0 then some ad else Option.map (fun x => x.add (0 * i.size)) (some ad)) = some ad := by simp [Addr.add]
        rw [this]; simp; exact .imm1 _ _ _
      | imm _ _ b o' cap F hic hl hs hrr hc =>
        refine OpOK.pure hr (hrun _ _ cap l q bl br hlr hrc hc hcx) ?_
        by_cases hcl : cap = l
        · have hq : q = l := by omega
          subst hq
          rw [if_pos hcl]
          have : (c.take q).drop q = [] := by simp
          rw [this]
          simp
          exact .imm1 _ _ _
        · rw [if_neg hcl]
          simp only [Option.map_some, Addr.add_lit]
          exact sub_row hic hl hs hrr hlr hrc _ (by omega)
    · cases hv
  · rename_i id s c g1
    split at hv
    · rename_i l q bl br
      obtain ⟨⟨rfl, hlr, hrc⟩, hv'⟩ := req_some hv
      cases hv'
      have e1 := he.eval h1 g1
      generalize hcx : a.eval x = cx at e1
      cases e1 with
      | app0 =>
        simp at hrc; subst hrc; simp at hlr; subst hlr
        exact OpOK.pure hr (hrun _ 0 0 0 0 bl br (Nat.le_refl _) (Nat.le_refl _) (Nat.le_refl _) hcx) (by simp; exact .imm0 _)
      | app1 _ _ _ ad =>
        simp at hrc; subst hrc; simp at hlr; subst hlr
        exact OpOK.pure hr (hrun _ 0 0 0 0 bl br (Nat.le_refl _) (Nat.le_refl _) (Nat.le_refl _) hcx) (by simp; exact .imm1 _ _ _)
      | app _ _ _ _ b cap F hu' hic hl hs hrr hc ht =>
        refine OpOK.pure hr (hrun _ _ cap l q bl br hlr hrc hc hcx) ?_
        by_cases hcl : cap = l
        · have hq : q = l := by omega
          subst hq
          rw [if_pos hcl]
          have : (c.take q).drop q = [] := by simp
          rw [this]
          simp
          exact .imm1 _ _ _
        · rw [if_neg hcl]
          simp only [Option.map_some, Addr.add_lit]
          exact sub_row hic hl hs hrr hlr hrc _ (by omega)
    · cases hv
  · rename_i id off n g1
    split at hv
    · rename_i s c g2
      split at hv
      · rename_i l q bl br
        obtain ⟨⟨rfl, hlr, hrc⟩, hv'⟩ := req_some hv
        cases hv'
        have e1 := he.eval h1 g1
        generalize hcx : a.eval x = cx at e1
        cases e1 with
        | ref _ _ _ cap ad hu' hc ha =>
          have hx := hrun _ _ cap l q bl br hlr hrc hc hcx
          have key : ∀ ad', (if cap = l then some ad else Option.map (fun x => x.add (l * i.size)) (some ad)) = some ad' → VR m h w (.ref id (off + l) (q - l)) (.slice (some ad') (q - l) (cap - l)) := by
            intro ad' hadd
            refine .ref _ _ _ _ _ hu' (by omega) fun sz c' hg => ?_
            obtain ⟨b, hb, hle, had, cc, T, hcc, hsz⟩ := ha sz c' hg
            rw [g2] at hg
            cases hg
            refine ⟨b, hb, by omega, ?_, cc, T, hcc, ?_⟩
            · by_cases hcl : cap = l
              · left; omega
              · rw [if_neg hcl] at hadd
                simp only [Option.map_some, Option.some.injEq] at hadd
                rcases had with h0 | rfl
                · left; omega
                · right; rw [← hadd, Addr.add_lit, Nat.add_mul]
            · rw [show off + l + (cap - l) = off + cap by omega]; exact hsz
          by_cases hcl : cap = l
          · exact OpOK.pure hr hx (by rw [if_pos hcl]; exact key _ (by rw [if_pos hcl]))
          · refine OpOK.pure hr hx ?_
            rw [if_neg hcl]
            simp only [Option.map_some]
            exact key _ (by rw [if_neg hcl]; rfl)
      · cases hv
    · cases hv
  · cases hv
end
end Go.Abs
