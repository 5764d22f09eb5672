/- The abstract layer, part 0: values that carry their content, heaps by name, how they are tied to the real memory; that a step that changes no block that nobody owns keeps each such tie. -/
import Derived.WalkKit
import Derived.Orders
set_option linter.all false
namespace Go.Abs
open Go

/-- Abstract values. 'imm': a slice whose content never changes any more; 'app': such a slice, and the right to grow it in place, if it is the last one of token 'id' (generation 'g', length as the token says); 'ref': a slice of an owned row. -/
inductive AV where
  | bool (b : Bool)
  | int (k : IntKind) (n : Int)
  | str (s : List UInt8)
  | nilp
  | ptr (id i off : Nat)
  | iptr (sz : Nat) (c : List (List AV)) (i off : Nat)
  | nils
  | imm (sz : Nat) (c : List (List AV))
  | app (id g sz : Nat) (c : List (List AV))
  | ref (id off len : Nat)
  | nilm
  | map (id : Nat)
  | nilf
  | func (fn : Fn) (first captured : List AV)
  | nili
  | iface (t : TypeId) (v : AV)
  | agg (cells : List AV)
  | tup (vs : List AV)
  deriving Inhabited

inductive AObj where
  | mem (sz : Nat) (c : List (List AV))
  | tail (g n : Nat)
  | map (es : List (AV × AV))
  deriving Inhabited

structure AHeap where
  get : Nat → Option AObj
  next : Nat
  gap : Nat → Bool

def AHeap.used (h : AHeap) (id : Nat) : Prop := id < h.next ∧ h.gap id = false
def AV.scalar : AV → Bool
  | .agg _ | .tup _ => false
  | _ => true

abbrev Inj := Nat → Option (Nat × Nat)
def Own (m : Inj) (h : AHeap) (b o : Nat) : Prop := ∃ id t, (∃ x, h.get id = some x) ∧ m id = some (b, t) ∧ t ≤ o
def Free (m : Inj) (h : AHeap) (b : Nat) : Prop := ∀ id t x, h.get id = some x → m id ≠ some (b, t)

/-- n cells from ⟨b, o⟩ on hold F, none of them owned. -/
def IC (w : World) (own : Nat → Nat → Prop) (b o n : Nat) (F : Nat → Value) : Prop := ∀ k, k < n → w.cell? ⟨b, o + k, none⟩ = some (F k) ∧ ¬ own b (o + k)
/-- Every element is of sz cells, each of which is one cell's value. -/
def Len (sz : Nat) (c : List (List AV)) : Prop := ∀ x ∈ c, x.length = sz
/-- Token id at generation g: a value of length n has the right p just if it is the last one. -/
def TokC (h : AHeap) (id g n : Nat) (p : Prop) : Prop := ∀ g' n', h.get id = some (.tail g' n') → g ≤ g' ∧ (g = g' → n ≤ n' ∧ (n = n' → p))
def Scal (c : List (List AV)) : Prop := ∀ x ∈ c, ∀ v ∈ x, AV.scalar v = true

inductive VR (m : Inj) (h : AHeap) (w : World) : AV → Value → Prop
  | bool (b : Bool) : VR m h w (.bool b) (.bool b)
  | int (k : IntKind) (n : Int) : VR m h w (.int k n) (.int k n)
  | str (s : List UInt8) : VR m h w (.str s) (.string ⟨s.toArray⟩)
  | nilp : VR m h w .nilp (.pointer none)
  | ptr (id i off : Nat) (a : Addr) (hu : h.used id) (ha : ∀ sz c, h.get id = some (.mem sz c) → ∃ b, m id = some (b, 0) ∧ a = ⟨b, i * sz + off, none⟩) : VR m h w (.ptr id i off) (.pointer (some a))
  | iptr (sz : Nat) (c : List (List AV)) (i off b o : Nat) (F : Nat → Value) (hic : IC w (Own m h) b o (c.length * sz) F) (hl : Len sz c) (hs : Scal c)
      (hr : ∀ (i : Nat) (cells : List AV), c[i]? = some cells → ∀ (j : Nat) (v : AV), cells[j]? = some v → VR m h w v (F (i * sz + j))) : VR m h w (.iptr sz c i off) (.pointer (some ⟨b, o + i * sz + off, none⟩))
  | nils0 : VR m h w .nils (.slice none 0 0)
  | nils1 (a : Addr) : VR m h w .nils (.slice (some a) 0 0)
  | imm0 (sz : Nat) : VR m h w (.imm sz []) (.slice none 0 0)
  | imm1 (sz : Nat) (a : Addr) (cap : Nat) : VR m h w (.imm sz []) (.slice (some a) 0 cap)
  | imm (sz : Nat) (c : List (List AV)) (b o cap : Nat) (F : Nat → Value) (hic : IC w (Own m h) b o (c.length * sz) F) (hl : Len sz c) (hs : Scal c)
      (hr : ∀ (i : Nat) (cells : List AV), c[i]? = some cells → ∀ (j : Nat) (v : AV), cells[j]? = some v → VR m h w v (F (i * sz + j))) (hc : c.length ≤ cap) : VR m h w (.imm sz c) (.slice (some ⟨b, o, none⟩) c.length cap)
  | app0 (id g sz : Nat) (hu : h.used id) (ht : TokC h id g 0 (m id = none)) : VR m h w (.app id g sz []) (.slice none 0 0)
  | app1 (id g sz : Nat) (a : Addr) (hu : h.used id) (ht : TokC h id g 0 (m id = none)) : VR m h w (.app id g sz []) (.slice (some a) 0 0)
  | app (id g sz : Nat) (c : List (List AV)) (b cap : Nat) (F : Nat → Value) (hu : h.used id) (hic : IC w (Own m h) b 0 (c.length * sz) F) (hl : Len sz c) (hs : Scal c)
      (hr : ∀ (i : Nat) (cells : List AV), c[i]? = some cells → ∀ (j : Nat) (v : AV), cells[j]? = some v → VR m h w v (F (i * sz + j))) (hc : c.length ≤ cap)
      (ht : TokC h id g c.length (m id = some (b, c.length * sz) ∧ ∃ (cc : Array Value) (T : TypeId), w.heap[b]? = some (Obj.cells cc T (0, 0)) ∧ cap * sz ≤ cc.size)) : VR m h w (.app id g sz c) (.slice (some ⟨b, 0, none⟩) c.length cap)
  | ref (id off len cap : Nat) (a : Addr) (hu : h.used id) (hc : len ≤ cap)
      (ha : ∀ sz c, h.get id = some (.mem sz c) → ∃ b, m id = some (b, 0) ∧ off + len ≤ c.length ∧ (cap = 0 ∨ a = ⟨b, off * sz, none⟩) ∧ ∃ (cc : Array Value) (T : TypeId), w.heap[b]? = some (Obj.cells cc T (0, 0)) ∧ (off + cap) * sz ≤ cc.size) :
      VR m h w (.ref id off len) (.slice (some a) len cap)
  | nilm : VR m h w .nilm (.map none)
  | map (id r : Nat) (hu : h.used id) (ha : ∀ es, h.get id = some (.map es) → m id = some (r, 0)) : VR m h w (.map id) (.map (some r))
  | nilf : VR m h w .nilf .nilFunc
  | func (fn : Fn) (vs us : List AV) (cs ds : Array Value) (hv : vs.length = cs.size) (hu : us.length = ds.size) (hvs : ∀ (i : Nat) (v : AV), vs[i]? = some v → VR m h w v (cs.getD i undef)) (hus : ∀ (i : Nat) (v : AV), us[i]? = some v → VR m h w v (ds.getD i undef)) :
      VR m h w (.func fn vs us) (.func fn cs ds)
  | nili : VR m h w .nili .nilIface
  | iface (t : TypeId) (v : AV) (c : Value) (hv : VR m h w v c) : VR m h w (.iface t v) (.iface t c)
  | agg (vs : List AV) (cs : Array Value) (hv : vs.length = cs.size) (hs : ∀ v ∈ vs, AV.scalar v = true) (hvs : ∀ (i : Nat) (v : AV), vs[i]? = some v → VR m h w v (cs.getD i undef)) : VR m h w (.agg vs) (.agg cs)
  | tup (vs : List AV) (cs : Array Value) (hv : vs.length = cs.size) (hvs : ∀ (i : Nat) (v : AV), vs[i]? = some v → VR m h w v (cs.getD i undef)) : VR m h w (.tup vs) (.tuple cs)

/-- F's cells read as the content c. -/
def RowF (m : Inj) (h : AHeap) (w : World) (sz : Nat) (c : List (List AV)) (F : Nat → Value) : Prop :=
  Len sz c ∧ Scal c ∧ ∀ (i : Nat) (cells : List AV), c[i]? = some cells → ∀ (j : Nat) (v : AV), cells[j]? = some v → VR m h w v (F (i * sz + j))

/-- Object x stands at name id. -/
def OR (m : Inj) (h : AHeap) (w : World) (id : Nat) : AObj → Prop
  | .mem sz c => ∃ (b : Nat) (cc : Array Value) (T : TypeId), m id = some (b, 0) ∧ w.heap[b]? = some (Obj.cells cc T (0, 0)) ∧ c.length * sz ≤ cc.size ∧ RowF m h w sz c (fun k => cc.getD k undef)
  | .tail _ _ => ∀ b t, m id = some (b, t) → ∃ (cc : Array Value) (T : TypeId), w.heap[b]? = some (Obj.cells cc T (0, 0))
  | .map es => ∃ (b : Nat) (ens : Array MapEntry) (ck : Nat), m id = some (b, 0) ∧ w.heap[b]? = some (Obj.map ens ck) ∧ es.length = ens.size ∧
    (∀ (i : Nat) (k v : AV), es[i]? = some (k, v) → VR m h w k (ens.getD i default).key ∧ VR m h w v (ens.getD i default).val)

structure HR (m : Inj) (h : AHeap) (w : World) : Prop where
  gapl : ∀ id, h.gap id = true → id < h.next
  live : ∀ id x, h.get id = some x → h.used id
  inj : ∀ i j x y b s t, h.get i = some x → h.get j = some y → m i = some (b, s) → m j = some (b, t) → i = j
  obj : ∀ id x, h.get id = some x → OR m h w id x

def Compat : AObj → AObj → Prop
  | .mem sz c, .mem sz' c' => sz' = sz ∧ c.length ≤ c'.length
  | .tail g n, .tail g' n' => g < g' ∨ (g = g' ∧ n ≤ n')
  | .map _, .map _ => True
  | _, _ => False

def Same : AObj → AObj → Prop
  | .tail g n, .tail g' n' => g = g' ∧ n = n'
  | _, _ => True

structure Step (m : Inj) (h : AHeap) (w : World) (m' : Inj) (h' : AHeap) (w' : World) : Prop where
  os : w'.os = w.os
  tape : w'.tape = w.tape
  output : w'.output = w.output
  size : w.heap.size ≤ w'.heap.size
  kind : ∀ (b : Nat) (cc : Array Value) (T : TypeId) (fz : Nat × Nat), w.heap[b]? = some (Obj.cells cc T fz) → ¬ Free m' h' b → ∃ cc' : Array Value, w'.heap[b]? = some (Obj.cells cc' T fz) ∧ cc'.size = cc.size
  free : ∀ b, b < w.heap.size → Free m h b → w'.heap[b]? = w.heap[b]? ∧ Free m' h' b
  cell : ∀ b o v, w.cell? ⟨b, o, none⟩ = some v → ¬ Own m h b o → w'.cell? ⟨b, o, none⟩ = some v ∧ ¬ Own m' h' b o
  used : ∀ id, h.used id → h'.used id
  live : ∀ id x', h.used id → h'.get id = some x' → ∃ x, h.get id = some x ∧ (Same x x' → m' id = m id) ∧ Compat x x'

theorem Compat.refl (x : AObj) : Compat x x := by cases x <;> simp [Compat]
theorem Compat.trans {x y z : AObj} (h1 : Compat x y) (h2 : Compat y z) : Compat x z := by
  cases x <;> cases y <;> cases z <;> simp_all [Compat] <;> omega

theorem Same.mid {x y z : AObj} (h1 : Compat x y) (h2 : Compat y z) (hs : Same x z) : Same x y ∧ Same y z := by
  cases x <;> cases y <;> cases z <;> simp_all [Compat, Same] <;> omega

theorem Step.refl (m : Inj) (h : AHeap) (w : World) : Step m h w m h w :=
  ⟨rfl, rfl, rfl, Nat.le_refl _, fun _ cc _ _ h _ => ⟨cc, h, rfl⟩, fun _ _ h => ⟨rfl, h⟩, fun _ _ _ h hn => ⟨h, hn⟩, fun _ h => h, fun _ x _ h => ⟨x, h, fun _ => rfl, Compat.refl x⟩⟩

theorem Step.trans {m₁ m₂ m₃ : Inj} {h₁ h₂ h₃ : AHeap} {w₁ w₂ w₃ : World} (a : Step m₁ h₁ w₁ m₂ h₂ w₂) (b : Step m₂ h₂ w₂ m₃ h₃ w₃) : Step m₁ h₁ w₁ m₃ h₃ w₃ where
  os := b.os.trans a.os
  tape := b.tape.trans a.tape
  output := b.output.trans a.output
  size := Nat.le_trans a.size b.size
  kind := fun k cc T fz h hf => by
    have lt : k < w₁.heap.size := (Array.getElem?_eq_some_iff.1 h).1
    obtain ⟨c1, h1, e1⟩ := a.kind k cc T fz h fun hf2 => hf (b.free k (Nat.lt_of_lt_of_le lt a.size) hf2).2
    obtain ⟨c2, h2, e2⟩ := b.kind k c1 T fz h1 hf
    exact ⟨c2, h2, e2.trans e1⟩
  free := fun k hk hf => by
    obtain ⟨e1, f1⟩ := a.free k hk hf
    obtain ⟨e2, f2⟩ := b.free k (Nat.lt_of_lt_of_le hk a.size) f1
    exact ⟨e2.trans e1, f2⟩
  cell := fun k o v h hn => by
    obtain ⟨e1, f1⟩ := a.cell k o v h hn
    exact b.cell k o v e1 f1
  used := fun id h => b.used id (a.used id h)
  live := fun id x' hu h => by
    obtain ⟨y, hy, e2, c2⟩ := b.live id x' (a.used id hu) h
    obtain ⟨x, hx, e1, c1⟩ := a.live id y hu hy
    exact ⟨x, hx, fun hs => (e2 (Same.mid c1 c2 hs).2).trans (e1 (Same.mid c1 c2 hs).1), c1.trans c2⟩

theorem IC.step {m m' : Inj} {h h' : AHeap} {w w' : World} (s : Step m h w m' h' w') {b o n : Nat} {F : Nat → Value} (hic : IC w (Own m h) b o n F) : IC w' (Own m' h') b o n F :=
  fun k hk => s.cell _ _ _ (hic k hk).1 (hic k hk).2

theorem TokC.step {m m' : Inj} {h h' : AHeap} {w w' : World} {id g n : Nat} {p p' : Prop} (ht : TokC h id g n p) (s : Step m h w m' h' w') (hu : h.used id) (hp : (∃ x, h'.get id = some x) → m' id = m id → p → p') : TokC h' id g n p' := fun g' n' hg => by
  obtain ⟨x, hx, hm, hc⟩ := s.live _ _ hu hg
  cases x <;> simp [Compat] at hc
  rename_i g0 n0
  obtain ⟨q1, q2⟩ := ht _ _ hx
  refine ⟨by omega, fun e => ?_⟩
  obtain rfl : g = g0 := by omega
  obtain ⟨q3, q4⟩ := q2 rfl
  exact ⟨by omega, fun e2 => hp ⟨_, hg⟩ (hm ⟨e, by omega⟩) (q4 (by omega))⟩

theorem VR.step {m m' : Inj} {h h' : AHeap} {w w' : World} (s : Step m h w m' h' w') {v : AV} {c : Value} (hv : VR m h w v c) : VR m' h' w' v c := by
  induction hv with
  | bool b => exact .bool b
  | int k n => exact .int k n
  | str s => exact .str s
  | nilp => exact .nilp
  | ptr id i off a hu ha =>
    refine .ptr id i off a (s.used _ hu) fun sz c hg => ?_
    obtain ⟨x, hx, hm, hc⟩ := s.live _ _ hu hg
    cases x <;> simp [Compat] at hc
    obtain ⟨rfl, _⟩ := hc
    obtain ⟨b, hb, e⟩ := ha _ _ hx
    exact ⟨b, (hm trivial).trans hb, e⟩
  | iptr sz c i off b o F hic hl hs _ ih => exact .iptr sz c i off b o F (hic.step s) hl hs ih
  | nils0 => exact .nils0
  | nils1 a => exact .nils1 a
  | imm0 sz => exact .imm0 sz
  | imm1 sz a cap => exact .imm1 sz a cap
  | imm sz c b o cap F hic hl hs _ hc ih => exact .imm sz c b o cap F (hic.step s) hl hs ih hc
  | app0 id g sz hu ht => exact .app0 id g sz (s.used _ hu) (ht.step s hu fun _ hm p => hm.trans p)
  | app1 id g sz a hu ht => exact .app1 id g sz a (s.used _ hu) (ht.step s hu fun _ hm p => hm.trans p)
  | app id g sz c b cap F hu hic hl hs _ hc ht ih =>
    refine .app id g sz c b cap F (s.used _ hu) (hic.step s) hl hs ih hc (ht.step s hu fun hl' hm p => ?_)
    obtain ⟨e, cc, T, hw, hl⟩ := p
    obtain ⟨x', hx'⟩ := hl'
    obtain ⟨cc', hw', e'⟩ := s.kind _ _ _ _ hw fun hf => hf _ _ _ hx' (hm.trans e)
    exact ⟨hm.trans e, cc', T, hw', by omega⟩
  | ref id off len cap a hu hc ha =>
    refine .ref id off len cap a (s.used _ hu) hc fun sz c hg => ?_
    obtain ⟨x, hx, hm, hcc⟩ := s.live _ _ hu hg
    cases x <;> simp [Compat] at hcc
    obtain ⟨rfl, hle⟩ := hcc
    obtain ⟨b, hb, hl, e, cc, T, hw, hsz⟩ := ha _ _ hx
    obtain ⟨cc', hw', e'⟩ := s.kind _ _ _ _ hw fun hf => hf id 0 _ hg ((hm trivial).trans hb)
    exact ⟨b, (hm trivial).trans hb, by omega, e, cc', T, hw', by omega⟩
  | nilm => exact .nilm
  | map id r hu ha =>
    refine .map id r (s.used _ hu) fun es hg => ?_
    obtain ⟨x, hx, hm, hc⟩ := s.live _ _ hu hg
    cases x <;> simp [Compat] at hc
    exact (hm trivial).trans (ha _ hx)
  | nilf => exact .nilf
  | func fn vs us cs ds hv hu _ _ ih1 ih2 => exact .func fn vs us cs ds hv hu ih1 ih2
  | nili => exact .nili
  | iface t v c _ ih => exact .iface t v c ih
  | agg vs cs hv hs _ ih => exact .agg vs cs hv hs ih
  | tup vs cs hv _ ih => exact .tup vs cs hv ih

theorem RowF.step {m m' : Inj} {h h' : AHeap} {w w' : World} (s : Step m h w m' h' w') {sz : Nat} {c : List (List AV)} {F : Nat → Value} (hr : RowF m h w sz c F) : RowF m' h' w' sz c F :=
  ⟨hr.1, hr.2.1, fun i cells hi j v hj => (hr.2.2 i cells hi j v hj).step s⟩

theorem idx_lt {n sz i j : Nat} (hi : i < n) (hj : j < sz) : i * sz + j < n * sz := by
  have h1 : (i + 1) * sz ≤ n * sz := Nat.mul_le_mul_right _ hi
  rw [Nat.add_mul] at h1
  omega

section rows
variable {m : Inj} {h : AHeap} {w : World} {sz : Nat} {c d : List (List AV)} {F G : Nat → Value}
theorem RowF.congr (hr : RowF m h w sz c F) (e : ∀ k, k < c.length * sz → F k = G k) : RowF m h w sz c G := by
  refine ⟨hr.1, hr.2.1, fun i cells hi j v hj => ?_⟩
  have h1 : i < c.length := (List.getElem?_eq_some_iff.1 hi).1
  have h2 : j < sz := by rw [← hr.1 cells (List.mem_of_getElem? hi)]; exact (List.getElem?_eq_some_iff.1 hj).1
  rw [← e _ (idx_lt h1 h2)]
  exact hr.2.2 i cells hi j v hj
theorem RowF.nil : RowF m h w sz [] F := ⟨fun _ h => by simp at h, fun _ h => by simp at h, fun i cells hi => by simp at hi⟩
theorem RowF.take (hr : RowF m h w sz c F) (n : Nat) : RowF m h w sz (c.take n) F :=
  ⟨fun x hx => hr.1 x (List.mem_of_mem_take hx), fun x hx => hr.2.1 x (List.mem_of_mem_take hx), fun i cells hi => by
    rw [List.getElem?_take] at hi
    split at hi
    · exact hr.2.2 i cells hi
    · cases hi⟩
theorem RowF.drop (hr : RowF m h w sz c F) (n : Nat) : RowF m h w sz (c.drop n) (fun k => F (n * sz + k)) :=
  ⟨fun x hx => hr.1 x (List.mem_of_mem_drop hx), fun x hx => hr.2.1 x (List.mem_of_mem_drop hx), fun i cells hi j v hj => by
    rw [List.getElem?_drop] at hi
    have := hr.2.2 (n + i) cells hi j v hj
    rwa [Nat.add_mul, Nat.add_assoc] at this⟩
theorem RowF.append (hr : RowF m h w sz c F) (hd : RowF m h w sz d G) : RowF m h w sz (c ++ d) (fun k => if k < c.length * sz then F k else G (k - c.length * sz)) := by
  refine ⟨fun x hx => ?_, fun x hx => ?_, fun i cells hi j v hj => ?_⟩
  · rcases List.mem_append.1 hx with hx | hx
    · exact hr.1 x hx
    · exact hd.1 x hx
  · rcases List.mem_append.1 hx with hx | hx
    · exact hr.2.1 x hx
    · exact hd.2.1 x hx
  · by_cases hlt : i < c.length
    · rw [List.getElem?_append_left hlt] at hi
      have h2 : j < sz := by rw [← hr.1 cells (List.mem_of_getElem? hi)]; exact (List.getElem?_eq_some_iff.1 hj).1
      dsimp only
      rw [if_pos (idx_lt hlt h2)]
      exact hr.2.2 i cells hi j v hj
    · have hge : c.length ≤ i := by omega
      rw [List.getElem?_append_right hge] at hi
      have hmul : c.length * sz ≤ i * sz := Nat.mul_le_mul_right _ hge
      dsimp only
      rw [if_neg (by omega)]
      have := hd.2.2 _ cells hi j v hj
      rwa [show i * sz + j - c.length * sz = (i - c.length) * sz + j by rw [Nat.sub_mul]; omega]
theorem RowF.mono_eq (hr : RowF m h w sz c F) (e : F = G) : RowF m h w sz c G := e ▸ hr
end rows

theorem OR.step {m m' : Inj} {h h' : AHeap} {w w' : World} (s : Step m h w m' h' w') {id : Nat} {x : AObj} (hx : OR m h w id x) (hm : m' id = m id)
    (hb : ∀ b t, m id = some (b, t) → w'.heap[b]? = w.heap[b]?) : OR m' h' w' id x := by
  cases x with
  | mem sz c =>
    obtain ⟨b, cc, T, h1, h2, h3, h4⟩ := hx
    exact ⟨b, cc, T, hm.trans h1, (hb _ _ h1).trans h2, h3, h4.step s⟩
  | tail g n =>
    intro b t hbt
    rw [hm] at hbt
    rw [hb b t hbt]
    exact hx b t hbt
  | map es =>
    obtain ⟨b, ens, ck, h1, h2, h3, h4⟩ := hx
    exact ⟨b, ens, ck, hm.trans h1, (hb _ _ h1).trans h2, h3, fun i k v hi => ⟨((h4 i k v hi).1).step s, ((h4 i k v hi).2).step s⟩⟩

/-- The block of a live object stands in the heap. -/
theorem OR.lt {m : Inj} {h : AHeap} {w : World} {id : Nat} {x : AObj} (hx : OR m h w id x) {b t : Nat} (hm : m id = some (b, t)) : b < w.heap.size := by
  have key : ∀ {o : Obj}, w.heap[b]? = some o → b < w.heap.size := fun h => (Array.getElem?_eq_some_iff.1 h).1
  cases x with
  | mem sz c => obtain ⟨b', cc, T, h1, h2, _⟩ := hx; rw [hm] at h1; cases h1; exact key h2
  | tail g n => obtain ⟨cc, T, h2⟩ := hx b t hm; exact key h2
  | map es => obtain ⟨b', ens, ck, h1, h2, _⟩ := hx; rw [hm] at h1; cases h1; exact key h2

theorem VR.scalar_one {m : Inj} {h : AHeap} {w : World} {v : AV} {c : Value} (hv : VR m h w v c) (hs : v.scalar = true) : c.oneCell' = true := by
  cases hv <;> simp_all [AV.scalar, Value.oneCell']

end Go.Abs
