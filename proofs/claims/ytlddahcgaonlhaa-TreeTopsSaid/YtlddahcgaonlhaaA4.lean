/- The abstract layer, part 4: each instruction's answer is the real operation's. -/
import Derived.Test.YtlddahcgaonlhaaA3
set_option linter.all false
namespace Go.Abs
open Go

/-- What an operation does: its value (or none), its change of the heap. -/
def OpOK (P : Program) (o : Oper) (a : Act) (m : Inj) (h : AHeap) (w : World) (nm : Nat) (r : Option AV) (f : Eff) : Prop :=
  ∃ m' w', HR m' (f.on nm h) w' ∧ Step m h w m' (f.on nm h) w' ∧
    match r with
    | some v => ∃ cv, (execOp a.eval o).run P w = .ok (.value cv) w' ∧ VR m' (f.on nm h) w' v cv
    | none => (execOp a.eval o).run P w = .ok .skip w'

section
variable {P : Program} {N : Nat} {m : Inj} {h : AHeap} {w : World} {e : Env} {a : Act} {nm : Nat} {o : Oper}

theorem OpOK.pure (hr : HR m h w) {v : AV} {cv : Value} (hrun : (execOp a.eval o).run P w = .ok (.value cv) w) (hv : VR m h w v cv) : OpOK P o a m h w nm (some v) .none :=
  ⟨m, w, hr, Step.refl _ _ _, cv, hrun, hv⟩

theorem run_typeInfo' {t : TypeId} {i : TypeInfo} (hi : P.info? t = some i) (w : World) : (typeInfo t).run P w = .ok i w := by simp [typeInfo, hi]
theorem run_sizeOf' {t : TypeId} {i : TypeInfo} (hi : P.info? t = some i) (w : World) : (sizeOf t).run P w = .ok i.size w := by simp [sizeOf, run_typeInfo' hi]
theorem run_isAgg' {t : TypeId} {d : TypeDesc} (hu : P.underlying t = some d) (w : World) : (isAgg t).run P w = .ok (aggD d) w := by
  simp only [isAgg, Sem.run_bind, run_underlying hu, Result.andThen_ok]
  cases d <;> simp [aggD]

theorem tyI_some {t : TypeId} {sz : Nat} {ag : Bool} (ht : tyI P t = some (sz, ag)) : (∀ w, (sizeOf t).run P w = .ok sz w) ∧ (∀ w, (isAgg t).run P w = .ok ag w) := by
  unfold tyI at ht
  split at ht
  · rename_i i d h1 h2
    cases ht
    exact ⟨fun w => run_sizeOf' h1 w, fun w => run_isAgg' h2 w⟩
  · cases ht

theorem mapOpd {x : Operand} {f : Opd → Ins} {i : Ins} (hc : (ofOpd N x).map f = some i) : ∃ y, ofOpd N x = some y ∧ i = f y := by
  cases hx : ofOpd N x with
  | none => simp [hx] at hc
  | some y => simp [hx] at hc; exact ⟨y, rfl, hc.symm⟩

/-! ### copies, numbers -/
theorem ok_mov (hr : HR m h w) (he : ER N m h w e a) {x : Operand} {y : Opd} (ho : o.op = .move x ∨ o.op = .assign x) (hx : ofOpd N x = some y) {r : Option AV} {f : Eff} (hv : evalI nm (.mov y) e h.get = some (r, f)) :
    OpOK P o a m h w nm r f := by
  simp only [evalI] at hv
  split at hv
  · rename_i v h1
    cases hv
    refine OpOK.pure hr (cv := a.eval x) ?_ (he.eval hx h1)
    rcases ho with ho | ho <;> simp [execOp, ho]
  · cases hv

theorem vr_bool {b : Bool} {c : Value} (hv : VR m h w (.bool b) c) : c = .bool b := by cases hv; rfl
theorem vr_int {k : IntKind} {n : Int} {c : Value} (hv : VR m h w (.int k n) c) : c = .int k n := by cases hv; rfl

theorem ok_pick (hr : HR m h w) (he : ER N m h w e a) {c x y : Operand} {c' x' y' : Opd} (ho : o.op = .pick c x y) (h1 : ofOpd N c = some c') (h2 : ofOpd N x = some x') (h3 : ofOpd N y = some y')
    {r : Option AV} {f : Eff} (hv : evalI nm (.pick c' x' y') e h.get = some (r, f)) : OpOK P o a m h w nm r f := by
  simp only [evalI] at hv
  split at hv
  · rename_i t g1
    have hb := vr_bool (he.eval h1 g1)
    split at hv
    · rename_i v g2
      cases hv
      cases t
      · simp only [Bool.false_eq_true, if_false] at g2
        exact OpOK.pure hr (by simp [execOp, ho, hb, asBool]) (he.eval h3 g2)
      · simp only [if_true] at g2
        exact OpOK.pure hr (by simp [execOp, ho, hb, asBool]) (he.eval h2 g2)
    · cases hv
  · cases hv

theorem binOp_binA {op : BinOp} {t : TypeId} {k : IntKind} {x y : Int} {v : AV} (hb : binA op k x y = some v) : ∃ cv, (binOp op t (.int k x) (.int k y)).run P w = .ok cv w ∧ VR m h w v cv := by
  cases op <;> simp only [binA] at hb <;> try (cases hb; done)
  case quo =>
    obtain ⟨h0, h1⟩ := req_some hb
    cases h1
    refine ⟨_, ?_, .int _ _⟩
    simp [binOp_quo, Op.intDiv, h0]
  case rem =>
    obtain ⟨h0, h1⟩ := req_some hb
    cases h1
    refine ⟨_, ?_, .int _ _⟩
    simp [binOp_rem, Op.intDiv, h0]
  all_goals
    cases hb
    first
      | (refine ⟨_, ?_, .int _ _⟩; simp [binOp, Op.intArith, intBits_and, intBits_or, intBits_xor, intBits_andNot]; done)
      | (refine ⟨_, ?_, .bool _⟩; simp [binOp, Op.intCmp]; done)

theorem ok_bin (hr : HR m h w) (he : ER N m h w e a) {op : BinOp} {t u : TypeId} {x y : Operand} {x' y' : Opd} (ho : o.op = .binOp op t x y u) (h1 : ofOpd N x = some x') (h2 : ofOpd N y = some y')
    {r : Option AV} {f : Eff} (hv : evalI nm (.bin op x' y') e h.get = some (r, f)) : OpOK P o a m h w nm r f := by
  simp only [evalI] at hv
  split at hv
  · rename_i k i1 k' i2 g1 g2
    have e1 := vr_int (he.eval h1 g1)
    have e2 := vr_int (he.eval h2 g2)
    split at hv
    · rename_i ek
      subst ek
      split at hv
      · rename_i v g3
        cases hv
        obtain ⟨cv, hrun, hvr⟩ := binOp_binA (P := P) (m := m) (h := h) (w := w) (t := t) g3
        refine OpOK.pure hr (cv := cv) ?_ hvr
        simp [execOp, ho, e1, e2, eqGuard_at_int, hrun]
      · cases hv
    · cases hv
  · cases hv

theorem ok_sh (hr : HR m h w) (he : ER N m h w e a) {op : BinOp} {t u : TypeId} {x y : Operand} {x' y' : Opd} (ho : o.op = .binOp op t x y u) (h1 : ofOpd N x = some x') (h2 : ofOpd N y = some y')
    {r : Option AV} {f : Eff} (hv : evalI nm (.sh op x' y') e h.get = some (r, f)) : OpOK P o a m h w nm r f := by
  simp only [evalI] at hv
  split at hv
  · rename_i k i1 k' i2 g1 g2
    have e1 := vr_int (he.eval h1 g1)
    have e2 := vr_int (he.eval h2 g2)
    split at hv
    · rename_i v g3
      cases hv
      cases op <;> simp only [shA] at g3 <;> try (cases g3; done)
      all_goals
        obtain ⟨h0, h3⟩ := req_some g3
        cases h3
        refine OpOK.pure hr ?_ (.int _ _)
        have h0' : ¬ i2 < 0 := by omega
        simp [execOp, ho, e1, e2, eqGuard_at_int, binOp_shl, binOp_shr, Op.shift, h0']
    · cases hv
  · cases hv

theorem ok_not (hr : HR m h w) (he : ER N m h w e a) {t : TypeId} {x : Operand} {x' : Opd} (ho : o.op = .unOp .not t x) (h1 : ofOpd N x = some x')
    {r : Option AV} {f : Eff} (hv : evalI nm (.not x') e h.get = some (r, f)) : OpOK P o a m h w nm r f := by
  simp only [evalI] at hv
  split at hv
  · rename_i b g1
    cases hv
    have e1 := vr_bool (he.eval h1 g1)
    exact OpOK.pure hr (by simp [execOp, ho, e1, Op.unary]) (.bool _)
  · cases hv

theorem ok_conv (hr : HR m h w) (he : ER N m h w e a) {s d : TypeId} {k k0 : IntKind} (hs : P.underlying s = some (.int k0)) (hd : P.underlying d = some (.int k)) {x : Operand} {x' : Opd} (ho : o.op = .convert s d x) (h1 : ofOpd N x = some x')
    {r : Option AV} {f : Eff} (hv : evalI nm (.conv k x') e h.get = some (r, f)) : OpOK P o a m h w nm r f := by
  simp only [evalI] at hv
  split at hv
  · rename_i k1 n g1
    cases hv
    have e1 := vr_int (he.eval h1 g1)
    exact OpOK.pure hr (by simp [execOp, ho, e1, convert, run_underlying hs, run_underlying hd, Conv.intToInt]) (.int _ _)
  · cases hv

theorem ok_ext (hr : HR m h w) (he : ER N m h w e a) {n : Nat} {x : Operand} {x' : Opd} (ho : o.op = .extract x n) (h1 : ofOpd N x = some x')
    {r : Option AV} {f : Eff} (hv : evalI nm (.ext n x') e h.get = some (r, f)) : OpOK P o a m h w nm r f := by
  simp only [evalI] at hv
  split at hv
  · rename_i vs g1
    split at hv
    · rename_i v g2
      cases hv
      have e1 := he.eval h1 g1
      generalize hcx : a.eval x = cx at e1
      cases e1 with
      | tup _ cs hl hvs =>
        have hlt : n < cs.size := by rw [← hl]; exact (List.getElem?_eq_some_iff.1 g2).1
        have := hvs n v g2
        rw [Array.getD_eq_getD_getElem?, Array.getElem?_eq_getElem hlt] at this
        exact OpOK.pure hr (cv := cs[n]) (by simp [execOp, ho, hcx, Instr.extract, hlt]) this
    · cases hv
  · cases hv

theorem ok_mn (hr : HR m h w) (he : ER N m h w e a) {c : Call} {x y : Operand} {x' y' : Opd} (ho : o.op = .call c) (hc : c.callee = .builtin .min) (ha : c.args.toList = [x, y]) (h1 : ofOpd N x = some x') (h2 : ofOpd N y = some y')
    {r : Option AV} {f : Eff} (hv : evalI nm (.mn x' y') e h.get = some (r, f)) : OpOK P o a m h w nm r f := by
  simp only [evalI] at hv
  split at hv
  · rename_i k i1 k' i2 g1 g2
    have e1 := vr_int (he.eval h1 g1)
    have e2 := vr_int (he.eval h2 g2)
    split at hv
    · rename_i ek
      subst ek
      cases hv
      have ha' : c.args = #[x, y] := by rw [← Array.toArray_toList (xs := c.args), ha]
      refine OpOK.pure hr ?_ (.int _ _)
      simp [execOp, ho, resolve, hc, ha', e1, e2, invoke, builtin, Builtin.min_, Builtin.min2]
    · cases hv
  · cases hv

theorem ok_nilck (hr : HR m h w) (he : ER N m h w e a) {x : Operand} {x' : Opd} (ho : o.op = .nilCheck x) (h1 : ofOpd N x = some x')
    {r : Option AV} {f : Eff} (hv : evalI nm (.nilck x') e h.get = some (r, f)) : OpOK P o a m h w nm r f := by
  simp only [evalI] at hv
  split at hv <;> cases hv
  all_goals
    rename_i g1
    have e1 := he.eval h1 g1
    generalize hcx : a.eval x = cx at e1
    have e2 := e1
    cases e1
    exact OpOK.pure hr (by simp [execOp, ho, hcx]) e2

theorem ok_faddr (hr : HR m h w) (he : ER N m h w e a) {s : TypeId} {fs : Array Field} {fi : Nat} {fd : Field} {i : TypeInfo} (hs : P.underlying s = some (.struct fs)) (hf : fs[fi]? = some fd) (hi : P.info? fd.type = some i) (hz : i.size ≠ 0)
    {x : Operand} {x' : Opd} (ho : o.op = .fieldAddr s x fi) (h1 : ofOpd N x = some x')
    {r : Option AV} {f : Eff} (hv : evalI nm (.faddr fd.offset x') e h.get = some (r, f)) : OpOK P o a m h w nm r f := by
  have hrun : ∀ ad, (Instr.fieldAt s (.pointer (some ad)) fi).run P w = .ok (.pointer (some (ad.add fd.offset))) w := by
    intro ad
    simp [Instr.fieldAt, run_underlying hs, hf, Instr.sureAddr, fieldPlace, run_sizeOf' hi, hz]
  simp only [evalI] at hv
  split at hv <;> cases hv
  · rename_i id j off g1
    have e1 := he.eval h1 g1
    generalize hcx : a.eval x = cx at e1
    cases e1 with
    | ptr _ _ _ ad hu ha =>
      refine OpOK.pure hr (cv := .pointer (some (ad.add fd.offset))) (by simp [execOp, ho, hcx, hrun]) (.ptr _ _ _ _ hu fun sz c hg => ?_)
      obtain ⟨b, hb, rfl⟩ := ha sz c hg
      exact ⟨b, hb, by rw [Addr.add_lit]; congr 1; omega⟩
  · rename_i s' c' j off g1
    have e1 := he.eval h1 g1
    generalize hcx : a.eval x = cx at e1
    cases e1 with
    | iptr _ _ _ _ b o' F hic hl hsc hrr =>
      refine OpOK.pure hr (cv := .pointer (some (Addr.add ⟨b, o' + j * s' + off, none⟩ fd.offset))) (by simp [execOp, ho, hcx, hrun]) ?_
      have := VR.iptr s' c' j (off + fd.offset) b o' F hic hl hsc hrr
      rw [Addr.add_lit]
      rwa [Nat.add_assoc]
end
end Go.Abs
