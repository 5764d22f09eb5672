/- What the statement's proof needs, part 1. -/
import Derived.Test.YthblcmnhiccnhaaGreatRows
import Derived.WalkKit
import Derived.ProofKit
import Derived.OpenShut
import Derived.ShutString
import Derived.ChangeOld
import Derived.Below
import Derived.Orders
import Derived.Laws.Bits64b
import Derived.Carry
import Derived.Test.YthblcmnhiccnhaaGreatProg
import Derived.MapKept
import Derived.Laws.IdiomStrings
import Derived.Lib.AppendZeros
import Derived.Lib.SlBytesConst
import Derived.Room.MakeNoZero
import Derived.RangeFuncLeaves
import Derived.RangeFuncCalls
set_option linter.all false
namespace Go.Abs
open Go

inductive AV where
 | bool (b : Bool)
 | int (k : IntKind) (n : Int)
 | str (s : List UInt8)
 | nilp
 | ptr (id i off : Nat)
 | iptr (sz : Nat) (c : List (List AV)) (i off : Nat)
 | nils
 | imm (sz : Nat) (c : List (List AV))
 | app (id g sz : Nat) (c : List (List AV))
 | ref (id off len : Nat)
 | nilm
 | map (id : Nat)
 | nilf
 | func (fn : Fn) (first captured : List AV)
 | nili
 | iface (t : TypeId) (v : AV)
 | agg (cells : List AV)
 | tup (vs : List AV)
 deriving Inhabited

inductive AObj where
 | mem (sz : Nat) (c : List (List AV))
 | tail (g n : Nat)
 | map (es : List (AV × AV))
 /-- The record l of a range over a function: its state; of the activation that it is of, how many temporaries, what is known of them, the function; the loop's variables, its codes; the block of deferred calls. -/
 | loop (l : Nat) (st : LoopState) (N : Nat) (es : List (Nat × AV)) (fn : FuncId) (ps : Array Tmp) (asg bdy : Code) (dfr : Nat)
 /-- Block b holds no deferred calls. -/
 | dfr (b : Nat) (o : Option (List Deferred))
 deriving Inhabited

structure AHeap where
 get:Nat→Option AObj
 next:Nat
 gap:Nat→Bool

def AHeap.used (h:AHeap)(id:Nat):Prop:=id < h.next∧h.gap id=false
def AV.scalar:AV→Bool
 | .agg _ | .tup _ => false
 | _ => true

abbrev Inj:=Nat→Option (Nat×Nat)
def Own (m:Inj)(h:AHeap)(b o:Nat):Prop:=∃ id t,(∃ x,h.get id=some x)∧m id=some (b,t)∧t≤o
def Free (m:Inj)(h:AHeap)(b:Nat):Prop:=∀ id t x,h.get id=some x→m id≠some (b,t)

def IC (w:World)(own:Nat→Nat→Prop)(b o n:Nat)(F:Nat→Value):Prop:=∀ k,k < n→w.cell? ⟨b,o+k,none⟩=some (F k)∧¬ own b (o+k)
def Len (sz:Nat)(c:List (List AV)):Prop:=∀ x∈c,x.length=sz
def TokC (h:AHeap)(id g n:Nat)(p:Prop):Prop:=∀ g' n',h.get id=some (.tail g' n')→g≤g'∧(g=g'→n≤n'∧(n=n'→p))
def Scal (c:List (List AV)):Prop:=∀ x∈c,∀ v∈x,AV.scalar v=true

inductive VR (m:Inj) (h:AHeap) (w:World):AV→Value→Prop
 | bool (b : Bool) : VR m h w (.bool b) (.bool b)
 | int (k : IntKind) (n : Int) : VR m h w (.int k n) (.int k n)
 | str (s : List UInt8) : VR m h w (.str s) (.string ⟨s.toArray⟩)
 | nilp : VR m h w .nilp (.pointer none)
 | ptr (id i off : Nat) (a : Addr) (hu : h.used id) (ha : ∀ sz c, h.get id = some (.mem sz c) → ∃ b, m id = some (b, 0) ∧ a = ⟨b, i * sz + off, none⟩) : VR m h w (.ptr id i off) (.pointer (some a))
 | iptr (sz : Nat) (c : List (List AV)) (i off b o : Nat) (F : Nat → Value) (hic : IC w (Own m h) b o (c.length * sz) F) (hl : Len sz c) (hs : Scal c)
   (hr:∀ (i:Nat) (cells:List AV),c[i]? = some cells→∀ (j:Nat) (v:AV),cells[j]? = some v→VR m h w v (F (i*sz+j))):VR m h w (.iptr sz c i off) (.pointer (some ⟨b,o+i*sz+off,none⟩))
 | nils0 : VR m h w .nils (.slice none 0 0)
 | nils1 (a : Addr) : VR m h w .nils (.slice (some a) 0 0)
 | imm0 (sz : Nat) : VR m h w (.imm sz []) (.slice none 0 0)
 | imm1 (sz : Nat) (a : Addr) (cap : Nat) : VR m h w (.imm sz []) (.slice (some a) 0 cap)
 | imm (sz : Nat) (c : List (List AV)) (b o cap : Nat) (F : Nat → Value) (hic : IC w (Own m h) b o (c.length * sz) F) (hl : Len sz c) (hs : Scal c)
   (hr:∀ (i:Nat) (cells:List AV),c[i]? = some cells→∀ (j:Nat) (v:AV),cells[j]? = some v→VR m h w v (F (i*sz+j))) (hc:c.length≤cap):VR m h w (.imm sz c) (.slice (some ⟨b,o,none⟩) c.length cap)
 | app0 (id g sz : Nat) (hu : h.used id) (ht : TokC h id g 0 (m id = none)) : VR m h w (.app id g sz []) (.slice none 0 0)
 | app1 (id g sz : Nat) (a : Addr) (hu : h.used id) (ht : TokC h id g 0 (m id = none)) : VR m h w (.app id g sz []) (.slice (some a) 0 0)
 | app (id g sz : Nat) (c : List (List AV)) (b cap : Nat) (F : Nat → Value) (hu : h.used id) (hic : IC w (Own m h) b 0 (c.length * sz) F) (hl : Len sz c) (hs : Scal c)
   (hr:∀ (i:Nat) (cells:List AV),c[i]? = some cells→∀ (j:Nat) (v:AV),cells[j]? = some v→VR m h w v (F (i*sz+j))) (hc:c.length≤cap)
   (ht:TokC h id g c.length (m id=some (b,c.length*sz)∧∃ (cc:Array Value) (T:TypeId),w.heap[b]? = some (Obj.cells cc T (0,0))∧cap*sz≤cc.size)):VR m h w (.app id g sz c) (.slice (some ⟨b,0,none⟩) c.length cap)
 | ref (id off len cap : Nat) (a : Addr) (hu : h.used id) (hc : len ≤ cap)
   (ha:∀ sz c,h.get id=some (.mem sz c)→∃ b,m id=some (b,0)∧off+len≤c.length∧(cap=0∨a=⟨b,off*sz,none⟩)∧∃ (cc:Array Value) (T:TypeId),w.heap[b]? = some (Obj.cells cc T (0,0))∧(off+cap)*sz≤cc.size) :
   VR m h w (.ref id off len) (.slice (some a) len cap)
 | nilm : VR m h w .nilm (.map none)
 | map (id r : Nat) (hu : h.used id) (ha : ∀ es, h.get id = some (.map es) → m id = some (r, 0)) : VR m h w (.map id) (.map (some r))
 | nilf : VR m h w .nilf .nilFunc
 | func (fn : Fn) (vs us : List AV) (cs ds : Array Value) (hv : vs.length = cs.size) (hu : us.length = ds.size) (hvs : ∀ (i : Nat) (v : AV), vs[i]? = some v → VR m h w v (cs.getD i undef)) (hus : ∀ (i : Nat) (v : AV), us[i]? = some v → VR m h w v (ds.getD i undef)) :
   VR m h w (.func fn vs us) (.func fn cs ds)
 | nili : VR m h w .nili .nilIface
 | iface (t : TypeId) (v : AV) (c : Value) (hv : VR m h w v c) : VR m h w (.iface t v) (.iface t c)
 | agg (vs : List AV) (cs : Array Value) (hv : vs.length = cs.size) (hs : ∀ v ∈ vs, AV.scalar v = true) (hvs : ∀ (i : Nat) (v : AV), vs[i]? = some v → VR m h w v (cs.getD i undef)) : VR m h w (.agg vs) (.agg cs)
 | tup (vs : List AV) (cs : Array Value) (hv : vs.length = cs.size) (hvs : ∀ (i : Nat) (v : AV), vs[i]? = some v → VR m h w v (cs.getD i undef)) : VR m h w (.tup vs) (.tuple cs)

def RowF (m:Inj)(h:AHeap)(w:World)(sz:Nat)(c:List (List AV))(F:Nat→Value):Prop :=
 Len sz c∧Scal c∧∀ (i:Nat) (cells:List AV),c[i]? = some cells→∀ (j:Nat) (v:AV),cells[j]? = some v→VR m h w v (F (i*sz+j))

def OR (m:Inj)(h:AHeap)(w:World)(id:Nat):AObj→Prop
 | .mem sz c => ∃ (b : Nat) (cc : Array Value) (T : TypeId), m id = some (b, 0) ∧ w.heap[b]? = some (Obj.cells cc T (0, 0)) ∧ c.length * sz ≤ cc.size ∧ RowF m h w sz c (fun k => cc.getD k undef)
 | .tail _ _ => ∀ b t, m id = some (b, t) → ∃ (cc : Array Value) (T : TypeId), w.heap[b]? = some (Obj.cells cc T (0, 0))
 | .map es => ∃ (b : Nat) (ens : Array MapEntry) (ck : Nat), m id = some (b, 0) ∧ w.heap[b]? = some (Obj.map ens ck) ∧ es.length = ens.size ∧
  (∀ (i:Nat) (k v:AV),es[i]? = some (k,v)→VR m h w k (ens.getD i default).key∧VR m h w v (ens.getD i default).val)
 | .loop l st N es fn ps asg bdy d => m id = some (l, 0) ∧ ∃ T : Array Value, w.heap[l]? = some (Obj.loop ⟨st, none, fn, T, ps, asg, bdy, d⟩) ∧ T.size = N ∧ ∀ (s : Nat) (v : AV), (s, v) ∈ es → VR m h w v (T.getD s undef)
 | .dfr b o => m id = some (b, 0) ∧ w.heap[b]? = some (Obj.deferred o)

structure HR (m:Inj)(h:AHeap)(w:World):Prop where
 gapl:∀ id,h.gap id=true→id < h.next
 live:∀ id x,h.get id=some x→h.used id
 inj:∀ i j x y b s t,h.get i=some x→h.get j=some y→m i=some (b,s)→m j=some (b,t)→i=j
 obj:∀ id x,h.get id=some x→OR m h w id x

def Compat:AObj→AObj→Prop
 | .mem sz c, .mem sz' c' => sz' = sz ∧ c.length ≤ c'.length
 | .tail g n, .tail g' n' => g < g' ∨ (g = g' ∧ n ≤ n')
 | .map _, .map _ => True
 | .loop l _ N es fn ps asg bdy d, .loop l' _ N' es' fn' ps' asg' bdy' d' => l' = l ∧ N' = N ∧ es' = es ∧ fn' = fn ∧ ps' = ps ∧ asg' = asg ∧ bdy' = bdy ∧ d' = d
 | .dfr b _, .dfr b' _ => b' = b
 | _, _ => False

def Same:AObj→AObj→Prop
 | .tail g n, .tail g' n' => g = g' ∧ n = n'
 | _, _ => True

structure Step (m:Inj)(h:AHeap)(w:World)(m':Inj)(h':AHeap)(w':World):Prop where
 os:w'.os=w.os
 tape:w'.tape=w.tape
 output:w'.output=w.output
 size:w.heap.size≤w'.heap.size
 kind:∀ (b:Nat) (cc:Array Value) (T:TypeId) (fz:Nat×Nat),w.heap[b]? = some (Obj.cells cc T fz)→¬ Free m' h' b→∃ cc':Array Value,w'.heap[b]? = some (Obj.cells cc' T fz)∧cc'.size=cc.size
 free:∀ b,b < w.heap.size→Free m h b→w'.heap[b]? = w.heap[b]?∧Free m' h' b
 cell:∀ b o v,w.cell? ⟨b,o,none⟩=some v→¬ Own m h b o→w'.cell? ⟨b,o,none⟩=some v∧¬ Own m' h' b o
 used:∀ id,h.used id→h'.used id
 live:∀ id x',h.used id→h'.get id=some x'→∃ x,h.get id=some x∧(Same x x'→m' id=m id)∧Compat x x'

theorem Compat.refl (x:AObj):Compat x x:=by cases x <;> simp [Compat]
theorem Compat.trans {x y z:AObj}(h1:Compat x y)(h2:Compat y z):Compat x z:=by
 cases x <;> cases y <;> cases z <;> simp_all [Compat] <;> omega

theorem Same.mid {x y z:AObj}(h1:Compat x y)(h2:Compat y z)(hs:Same x z):Same x y∧Same y z:=by
 cases x <;> cases y <;> cases z <;> simp_all [Compat,Same] <;> omega

theorem Step.refl (m:Inj)(h:AHeap)(w:World):Step m h w m h w :=
 ⟨rfl,rfl,rfl,Nat.le_refl _,fun _ cc _ _ h _=>⟨cc,h,rfl⟩,fun _ _ h=>⟨rfl,h⟩,fun _ _ _ h hn=>⟨h,hn⟩,fun _ h=>h,fun _ x _ h=>⟨x,h,fun _=>rfl,Compat.refl x⟩⟩

theorem Step.trans {m₁ m₂ m₃:Inj}{h₁ h₂ h₃:AHeap}{w₁ w₂ w₃:World}(a:Step m₁ h₁ w₁ m₂ h₂ w₂)(b:Step m₂ h₂ w₂ m₃ h₃ w₃):Step m₁ h₁ w₁ m₃ h₃ w₃ where
 os:=b.os.trans a.os
 tape:=b.tape.trans a.tape
 output:=b.output.trans a.output
 size:=Nat.le_trans a.size b.size
 kind:=fun k cc T fz h hf=>by
  have lt:k < w₁.heap.size:=(Array.getElem?_eq_some_iff.1 h).1
  obtain ⟨c1,h1,e1⟩:=a.kind k cc T fz h fun hf2=>hf (b.free k (Nat.lt_of_lt_of_le lt a.size) hf2).2
  obtain ⟨c2,h2,e2⟩:=b.kind k c1 T fz h1 hf
  exact ⟨c2,h2,e2.trans e1⟩
 free:=fun k hk hf=>by
  obtain ⟨e1,f1⟩:=a.free k hk hf
  obtain ⟨e2,f2⟩:=b.free k (Nat.lt_of_lt_of_le hk a.size) f1
  exact ⟨e2.trans e1,f2⟩
 cell:=fun k o v h hn=>by
  obtain ⟨e1,f1⟩:=a.cell k o v h hn
  exact b.cell k o v e1 f1
 used:=fun id h=>b.used id (a.used id h)
 live:=fun id x' hu h=>by
  obtain ⟨y,hy,e2,c2⟩:=b.live id x' (a.used id hu) h
  obtain ⟨x,hx,e1,c1⟩:=a.live id y hu hy
  exact ⟨x,hx,fun hs=>(e2 (Same.mid c1 c2 hs).2).trans (e1 (Same.mid c1 c2 hs).1),c1.trans c2⟩

theorem IC.step {m m':Inj}{h h':AHeap}{w w':World}(s:Step m h w m' h' w'){b o n:Nat}{F:Nat→Value}(hic:IC w (Own m h) b o n F):IC w' (Own m' h') b o n F :=
 fun k hk=>s.cell _ _ _ (hic k hk).1 (hic k hk).2

theorem TokC.step {m m':Inj}{h h':AHeap}{w w':World}{id g n:Nat}{p p':Prop}(ht:TokC h id g n p)(s:Step m h w m' h' w')(hu:h.used id)(hp:(∃ x,h'.get id=some x)→m' id=m id→p→p'):TokC h' id g n p':=fun g' n' hg=>by
 obtain ⟨x,hx,hm,hc⟩:=s.live _ _ hu hg
 cases x <;> simp [Compat] at hc
 rename_i g0 n0
 obtain ⟨q1,q2⟩:=ht _ _ hx
 refine ⟨by omega,fun e => ?_⟩
 obtain rfl:g=g0:=by omega
 obtain ⟨q3,q4⟩:=q2 rfl
 exact ⟨by omega,fun e2=>hp ⟨_,hg⟩ (hm ⟨e,by omega⟩) (q4 (by omega))⟩

theorem VR.step {m m':Inj}{h h':AHeap}{w w':World}(s:Step m h w m' h' w'){v:AV}{c:Value}(hv:VR m h w v c):VR m' h' w' v c:=by
 induction hv with
 | bool b => exact .bool b
 | int k n => exact .int k n
 | str s => exact .str s
 | nilp => exact .nilp
 | ptr id i off a hu ha =>
  refine .ptr id i off a (s.used _ hu) fun sz c hg => ?_
  obtain ⟨x,hx,hm,hc⟩:=s.live _ _ hu hg
  cases x <;> simp [Compat] at hc
  obtain ⟨rfl,_⟩:=hc
  obtain ⟨b,hb,e⟩:=ha _ _ hx
  exact ⟨b,(hm trivial).trans hb,e⟩
 | iptr sz c i off b o F hic hl hs _ ih => exact .iptr sz c i off b o F (hic.step s) hl hs ih
 | nils0 => exact .nils0
 | nils1 a => exact .nils1 a
 | imm0 sz => exact .imm0 sz
 | imm1 sz a cap => exact .imm1 sz a cap
 | imm sz c b o cap F hic hl hs _ hc ih => exact .imm sz c b o cap F (hic.step s) hl hs ih hc
 | app0 id g sz hu ht => exact .app0 id g sz (s.used _ hu) (ht.step s hu fun _ hm p => hm.trans p)
 | app1 id g sz a hu ht => exact .app1 id g sz a (s.used _ hu) (ht.step s hu fun _ hm p => hm.trans p)
 | app id g sz c b cap F hu hic hl hs _ hc ht ih =>
  refine .app id g sz c b cap F (s.used _ hu) (hic.step s) hl hs ih hc (ht.step s hu fun hl' hm p => ?_)
  obtain ⟨e,cc,T,hw,hl⟩:=p
  obtain ⟨x',hx'⟩:=hl'
  obtain ⟨cc',hw',e'⟩:=s.kind _ _ _ _ hw fun hf=>hf _ _ _ hx' (hm.trans e)
  exact ⟨hm.trans e,cc',T,hw',by omega⟩
 | ref id off len cap a hu hc ha =>
  refine .ref id off len cap a (s.used _ hu) hc fun sz c hg => ?_
  obtain ⟨x,hx,hm,hcc⟩:=s.live _ _ hu hg
  cases x <;> simp [Compat] at hcc
  obtain ⟨rfl,hle⟩:=hcc
  obtain ⟨b,hb,hl,e,cc,T,hw,hsz⟩:=ha _ _ hx
  obtain ⟨cc',hw',e'⟩:=s.kind _ _ _ _ hw fun hf=>hf id 0 _ hg ((hm trivial).trans hb)
  exact ⟨b,(hm trivial).trans hb,by omega,e,cc',T,hw',by omega⟩
 | nilm => exact .nilm
 | map id r hu ha =>
  refine .map id r (s.used _ hu) fun es hg => ?_
  obtain ⟨x,hx,hm,hc⟩:=s.live _ _ hu hg
  cases x <;> simp [Compat] at hc
  exact (hm trivial).trans (ha _ hx)
 | nilf => exact .nilf
 | func fn vs us cs ds hv hu _ _ ih1 ih2 => exact .func fn vs us cs ds hv hu ih1 ih2
 | nili => exact .nili
 | iface t v c _ ih => exact .iface t v c ih
 | agg vs cs hv hs _ ih => exact .agg vs cs hv hs ih
 | tup vs cs hv _ ih => exact .tup vs cs hv ih

theorem RowF.step {m m':Inj}{h h':AHeap}{w w':World}(s:Step m h w m' h' w'){sz:Nat}{c:List (List AV)}{F:Nat→Value}(hr:RowF m h w sz c F):RowF m' h' w' sz c F :=
 ⟨hr.1,hr.2.1,fun i cells hi j v hj=>(hr.2.2 i cells hi j v hj).step s⟩

theorem z65 {n sz i j:Nat}(hi:i < n)(hj:j < sz):i*sz+j < n*sz:=by
 have h1:(i+1)*sz≤n*sz:=Nat.mul_le_mul_right _ hi
 rw [Nat.add_mul] at h1
 omega

section rows
variable {m:Inj}{h:AHeap}{w:World}{sz:Nat}{c d:List (List AV)}{F G:Nat→Value}
theorem RowF.congr (hr:RowF m h w sz c F)(e:∀ k,k < c.length*sz→F k=G k):RowF m h w sz c G:=by
 refine ⟨hr.1,hr.2.1,fun i cells hi j v hj => ?_⟩
 have h1:i < c.length:=(List.getElem?_eq_some_iff.1 hi).1
 have h2:j < sz:=by rw [← hr.1 cells (List.mem_of_getElem? hi)];exact (List.getElem?_eq_some_iff.1 hj).1
 rw [← e _ (z65 h1 h2)]
 exact hr.2.2 i cells hi j v hj
theorem RowF.nil:RowF m h w sz [] F:=⟨fun _ h=>by simp at h,fun _ h=>by simp at h,fun i cells hi=>by simp at hi⟩
theorem RowF.take (hr:RowF m h w sz c F)(n:Nat):RowF m h w sz (c.take n) F :=
 ⟨fun x hx=>hr.1 x (List.mem_of_mem_take hx),fun x hx=>hr.2.1 x (List.mem_of_mem_take hx),fun i cells hi=>by
  rw [List.getElem?_take] at hi
  split at hi
  ·exact hr.2.2 i cells hi
  ·cases hi⟩
theorem RowF.drop (hr:RowF m h w sz c F)(n:Nat):RowF m h w sz (c.drop n) (fun k=>F (n*sz+k)) :=
 ⟨fun x hx=>hr.1 x (List.mem_of_mem_drop hx),fun x hx=>hr.2.1 x (List.mem_of_mem_drop hx),fun i cells hi j v hj=>by
  rw [List.getElem?_drop] at hi
  have:=hr.2.2 (n+i) cells hi j v hj
  rwa [Nat.add_mul,Nat.add_assoc] at this⟩
theorem RowF.append (hr:RowF m h w sz c F)(hd:RowF m h w sz d G):RowF m h w sz (c++d) (fun k=>if k < c.length*sz then F k else G (k - c.length*sz)):=by
 refine ⟨fun x hx => ?_,fun x hx => ?_,fun i cells hi j v hj => ?_⟩
 ·rcases List.mem_append.1 hx with hx | hx
  ·exact hr.1 x hx
  ·exact hd.1 x hx
 ·rcases List.mem_append.1 hx with hx | hx
  ·exact hr.2.1 x hx
  ·exact hd.2.1 x hx
 ·by_cases hlt:i < c.length
  ·rw [List.getElem?_append_left hlt] at hi
   have h2:j < sz:=by rw [← hr.1 cells (List.mem_of_getElem? hi)];exact (List.getElem?_eq_some_iff.1 hj).1
   dsimp only
   rw [if_pos (z65 hlt h2)]
   exact hr.2.2 i cells hi j v hj
  ·have hge:c.length≤i:=by omega
   rw [List.getElem?_append_right hge] at hi
   have hmul:c.length*sz≤i*sz:=Nat.mul_le_mul_right _ hge
   dsimp only
   rw [if_neg (by omega)]
   have:=hd.2.2 _ cells hi j v hj
   rwa [show i*sz+j - c.length*sz=(i - c.length)*sz+j by rw [Nat.sub_mul];omega]
theorem RowF.mono_eq (hr:RowF m h w sz c F)(e:F=G):RowF m h w sz c G:=e ▸ hr
end rows

theorem OR.step {m m':Inj}{h h':AHeap}{w w':World}(s:Step m h w m' h' w'){id:Nat}{x:AObj}(hx:OR m h w id x)(hm:m' id=m id)
  (hb:∀ b t,m id=some (b,t)→w'.heap[b]? = w.heap[b]?):OR m' h' w' id x:=by
 cases x with
 | mem sz c =>
  obtain ⟨b,cc,T,h1,h2,h3,h4⟩:=hx
  exact ⟨b,cc,T,hm.trans h1,(hb _ _ h1).trans h2,h3,h4.step s⟩
 | tail g n =>
  intro b t hbt
  rw [hm] at hbt
  rw [hb b t hbt]
  exact hx b t hbt
 | map es =>
  obtain ⟨b,ens,ck,h1,h2,h3,h4⟩:=hx
  exact ⟨b,ens,ck,hm.trans h1,(hb _ _ h1).trans h2,h3,fun i k v hi=>⟨((h4 i k v hi).1).step s,((h4 i k v hi).2).step s⟩⟩
 | loop l st N es fn ps asg bdy d =>
  obtain ⟨h1,T,h2,h3,h4⟩:=hx
  exact ⟨hm.trans h1,T,(hb _ _ h1).trans h2,h3,fun s0 v hi=>(h4 s0 v hi).step s⟩
 | dfr b o =>
  obtain ⟨h1,h2⟩:=hx
  exact ⟨hm.trans h1,(hb _ _ h1).trans h2⟩

theorem OR.lt {m:Inj}{h:AHeap}{w:World}{id:Nat}{x:AObj}(hx:OR m h w id x){b t:Nat}(hm:m id=some (b,t)):b < w.heap.size:=by
 have key:∀ {o:Obj},w.heap[b]? = some o→b < w.heap.size:=fun h=>(Array.getElem?_eq_some_iff.1 h).1
 cases x with
 | mem sz c => obtain ⟨b', cc, T, h1, h2, _⟩ := hx; rw [hm] at h1; cases h1; exact key h2
 | tail g n => obtain ⟨cc, T, h2⟩ := hx b t hm; exact key h2
 | map es => obtain ⟨b', ens, ck, h1, h2, _⟩ := hx; rw [hm] at h1; cases h1; exact key h2
 | loop l st N es fn ps asg bdy d => obtain ⟨h1, T, h2, _⟩ := hx; rw [hm] at h1; cases h1; exact key h2
 | dfr b o => obtain ⟨h1, h2⟩ := hx; rw [hm] at h1; cases h1; exact key h2

theorem VR.scalar_one {m:Inj}{h:AHeap}{w:World}{v:AV}{c:Value}(hv:VR m h w v c)(hs:v.scalar=true):c.oneCell'=true:=by
 cases hv <;> simp_all [AV.scalar,Value.oneCell']

end Go.Abs

namespace Go.Abs
open Go

def AHeap.put (h:AHeap)(nm:Nat)(x:AObj):AHeap :=
 { get:=fun j=>if j=nm then some x else h.get j,next:=if nm < h.next then h.next else nm+1,gap:=fun j=>if j=nm then false else h.gap j }
def AHeap.set (h:AHeap)(id:Nat)(x:Option AObj):AHeap:={ h with get:=fun j=>if j=id then x else h.get j }
def upd (m:Inj)(nm:Nat)(p:Option (Nat×Nat)):Inj:=fun j=>if j=nm then p else m j

section
variable {m:Inj}{h:AHeap}{w:World}

theorem zw {nm id:Nat}{x:AObj}(hu:h.used id):(h.put nm x).used id:=by
 obtain ⟨h1,h2⟩:=hu
 refine ⟨?_,?_⟩
 ·simp only [AHeap.put];split <;> omega
 ·simp only [AHeap.put];split <;> simp_all
theorem z2 {nm:Nat}{x:AObj}:(h.put nm x).used nm:=by
 refine ⟨?_,by simp [AHeap.put]⟩
 simp only [AHeap.put];split <;> omega
theorem z3e {nm id:Nat}(hf:¬ h.used nm)(hu:h.used id):id≠nm:=fun e=>hf (e ▸ hu)

theorem HR.put_gapl (hr:HR m h w){nm:Nat}{x:AObj}:∀ id,(h.put nm x).gap id=true→id < (h.put nm x).next:=by
 intro id hg
 simp only [AHeap.put] at hg ⊢
 split at hg
 ·cases hg
 ·have:=hr.gapl id hg;split <;> omega
theorem HR.put_live (hr:HR m h w){nm:Nat}{x:AObj}:∀ id y,(h.put nm x).get id=some y→(h.put nm x).used id:=by
 intro id y hg
 by_cases e:id=nm
 ·subst e;exact z2
 ·simp only [AHeap.put,if_neg e] at hg
  exact zw (hr.live id y hg)

theorem Step.of_heap {w':World}(h1:w'.os=w.os)(h2:w'.tape=w.tape)(h3:w'.output=w.output)(h4:w'.heap=w.heap):Step m h w m h w' :=
 ⟨h1,h2,h3,by rw [h4];exact Nat.le_refl _,fun b cc T fz hb _=>⟨cc,by rw [h4];exact hb,rfl⟩,fun b _ hf=>⟨by rw [h4],hf⟩,
  fun b o v hc hn=>⟨by rw [← hc];simp [World.cell?,h4],hn⟩,fun _ hu=>hu,fun _ x _ hg=>⟨x,hg,fun _=>rfl,Compat.refl x⟩⟩
theorem HR.of_heap (hr:HR m h w){w':World}(s:Step m h w m h w')(h4:w'.heap=w.heap):HR m h w' :=
 ⟨hr.gapl,hr.live,hr.inj,fun id x hg=>(hr.obj id x hg).step s rfl fun _ _ _=>by rw [h4]⟩

theorem step_drew:Step m h w m h w.drew:=Step.of_heap rfl rfl rfl rfl
theorem HR.drew (hr:HR m h w):HR m h w.drew:=hr.of_heap step_drew rfl

theorem z3n (hr:HR m h w)(o:Obj):Step m h w m h (w.alloc o) where
 os:=rfl
 tape:=rfl
 output:=rfl
 size:=by simp
 kind:=fun b cc T fz hb _=>⟨cc,by rw [heap_alloc_old w o (Array.getElem?_eq_some_iff.1 hb).1];exact hb,rfl⟩
 free:=fun b hb hf=>⟨heap_alloc_old w o hb,hf⟩
 cell:=fun b k v hc hn=>⟨by rw [World.cell?_alloc_lt w _ _ (World.block_lt_of_cell? w _ hc)];exact hc,hn⟩
 used:=fun _ hu=>hu
 live:=fun _ x _ hg=>⟨x,hg,fun _=>rfl,Compat.refl x⟩
theorem HR.alloc (hr:HR m h w)(o:Obj):HR m h (w.alloc o) :=
 ⟨hr.gapl,hr.live,hr.inj,fun id x hg=>(hr.obj id x hg).step (z3n hr o) rfl fun b t hm=>heap_alloc_old w o ((hr.obj id x hg).lt hm)⟩

theorem z4j (hr:HR m h w){nm:Nat}(hf:¬ h.used nm)(x:AObj)(o:Obj)(t:Nat):Step m h w (upd m nm (some (w.heap.size,t))) (h.put nm x) (w.alloc o) where
 os:=rfl
 tape:=rfl
 output:=rfl
 size:=by simp
 kind:=fun b cc T fz hb _=>⟨cc,by rw [heap_alloc_old w o (Array.getElem?_eq_some_iff.1 hb).1];exact hb,rfl⟩
 free:=fun b hb hfr=>⟨heap_alloc_old w o hb,fun id s y hg hm=>by
  by_cases e:id=nm
  ·subst e;simp only [upd,if_true] at hm;cases hm;omega
  ·simp only [AHeap.put,if_neg e] at hg;simp only [upd,if_neg e] at hm;exact hfr id s y hg hm⟩
 cell:=fun b k v hc hn=>⟨by rw [World.cell?_alloc_lt w _ _ (World.block_lt_of_cell? w _ hc)];exact hc,fun ⟨id,s,⟨y,hg⟩,hm,hle⟩=>by
  by_cases e:id=nm
  ·subst e;simp only [upd,if_true] at hm;cases hm
   have:=World.block_lt_of_cell? w _ hc
   simp at this
  ·simp only [AHeap.put,if_neg e] at hg;simp only [upd,if_neg e] at hm;exact hn ⟨id,s,⟨y,hg⟩,hm,hle⟩⟩
 used:=fun _ hu=>zw hu
 live:=fun id x' hu hg=>by
  have e:id≠nm:=z3e hf hu
  simp only [AHeap.put,if_neg e] at hg
  exact ⟨x',hg,fun _=>by simp [upd,e],Compat.refl _⟩
theorem HR.put (hr:HR m h w){nm:Nat}(hf:¬ h.used nm){x:AObj}{o:Obj}{t:Nat}(hx:OR (upd m nm (some (w.heap.size,t))) (h.put nm x) (w.alloc o) nm x) :
  HR (upd m nm (some (w.heap.size,t))) (h.put nm x) (w.alloc o) where
 gapl:=hr.put_gapl
 live:=hr.put_live
 inj:=fun i j y z b s r hi hj hmi hmj=>by
  by_cases ei:i=nm <;> by_cases ej:j=nm
  ·rw [ei,ej]
  ·subst ei
   simp only [upd,if_true] at hmi
   simp only [upd,if_neg ej] at hmj
   simp only [AHeap.put,if_neg ej] at hj
   cases hmi
   have:=(hr.obj j z hj).lt hmj
   omega
  ·subst ej
   simp only [upd,if_true] at hmj
   simp only [upd,if_neg ei] at hmi
   simp only [AHeap.put,if_neg ei] at hi
   cases hmj
   have:=(hr.obj i y hi).lt hmi
   omega
  ·simp only [AHeap.put,if_neg ei,if_neg ej] at hi hj
   simp only [upd,if_neg ei,if_neg ej] at hmi hmj
   exact hr.inj i j y z b s r hi hj hmi hmj
 obj:=fun id y hg=>by
  by_cases e:id=nm
  ·subst e;simp only [AHeap.put,if_true] at hg;cases hg;exact hx
  ·simp only [AHeap.put,if_neg e] at hg
   exact (hr.obj id y hg).step (z4j hr hf x o t) (by simp [upd,e]) fun b s hm=>heap_alloc_old w o ((hr.obj id y hg).lt hm)

theorem z3f (hr:HR m h w){nm:Nat}(hf:¬ h.used nm):Step m h w (upd m nm none) (h.put nm (.tail 0 0)) w where
 os:=rfl
 tape:=rfl
 output:=rfl
 size:=Nat.le_refl _
 kind:=fun b cc T fz hb _=>⟨cc,hb,rfl⟩
 free:=fun b hb hfr=>⟨rfl,fun id s y hg hm=>by
  by_cases e:id=nm
  ·subst e;simp [upd] at hm
  ·simp only [AHeap.put,if_neg e] at hg;simp only [upd,if_neg e] at hm;exact hfr id s y hg hm⟩
 cell:=fun b k v hc hn=>⟨hc,fun ⟨id,s,⟨y,hg⟩,hm,hle⟩=>by
  by_cases e:id=nm
  ·subst e;simp [upd] at hm
  ·simp only [AHeap.put,if_neg e] at hg;simp only [upd,if_neg e] at hm;exact hn ⟨id,s,⟨y,hg⟩,hm,hle⟩⟩
 used:=fun _ hu=>zw hu
 live:=fun id x' hu hg=>by
  have e:id≠nm:=z3e hf hu
  simp only [AHeap.put,if_neg e] at hg
  exact ⟨x',hg,fun _=>by simp [upd,e],Compat.refl _⟩
theorem HR.putv (hr:HR m h w){nm:Nat}(hf:¬ h.used nm):HR (upd m nm none) (h.put nm (.tail 0 0)) w where
 gapl:=hr.put_gapl
 live:=hr.put_live
 inj:=fun i j y z b s r hi hj hmi hmj=>by
  by_cases ei:i=nm
  ·subst ei;simp [upd] at hmi
  ·by_cases ej:j=nm
   ·subst ej;simp [upd] at hmj
   ·simp only [AHeap.put,if_neg ei,if_neg ej] at hi hj
    simp only [upd,if_neg ei,if_neg ej] at hmi hmj
    exact hr.inj i j y z b s r hi hj hmi hmj
 obj:=fun id y hg=>by
  by_cases e:id=nm
  ·subst e;simp only [AHeap.put,if_true] at hg;cases hg;intro b t hm;simp [upd] at hm
  ·simp only [AHeap.put,if_neg e] at hg
   exact (hr.obj id y hg).step (z3f hr hf) (by simp [upd,e]) fun b s hm=>rfl

theorem z2a (id:Nat):Step m h w m (h.set id none) w where
 os:=rfl
 tape:=rfl
 output:=rfl
 size:=Nat.le_refl _
 kind:=fun b cc T fz hb _=>⟨cc,hb,rfl⟩
 free:=fun b hb hfr=>⟨rfl,fun j s y hg hm=>by
  by_cases e:j=id
  ·simp [AHeap.set,e] at hg
  ·simp only [AHeap.set,if_neg e] at hg;exact hfr j s y hg hm⟩
 cell:=fun b k v hc hn=>⟨hc,fun ⟨j,s,⟨y,hg⟩,hm,hle⟩=>by
  by_cases e:j=id
  ·simp [AHeap.set,e] at hg
  ·simp only [AHeap.set,if_neg e] at hg;exact hn ⟨j,s,⟨y,hg⟩,hm,hle⟩⟩
 used:=fun _ hu=>hu
 live:=fun j x' _ hg=>by
  by_cases e:j=id
  ·simp [AHeap.set,e] at hg
  ·simp only [AHeap.set,if_neg e] at hg;exact ⟨x',hg,fun _=>rfl,Compat.refl _⟩
theorem HR.del (hr:HR m h w)(id:Nat):HR m (h.set id none) w:=by
 have sub:∀ j y,(h.set id none).get j=some y→h.get j=some y:=fun j y hg=>by
  by_cases e:j=id
  ·simp [AHeap.set,e] at hg
  ·simpa only [AHeap.set,if_neg e] using hg
 exact ⟨hr.gapl,fun j y hg=>hr.live j y (sub j y hg),fun i j y z b s r hi hj=>hr.inj i j y z b s r (sub i y hi) (sub j z hj),
  fun j y hg=>(hr.obj j y (sub j y hg)).step (z2a id) rfl fun _ _ _=>rfl⟩

structure WUpd (w w':World)(b:Nat):Prop where
 os:w'.os=w.os
 tape:w'.tape=w.tape
 output:w'.output=w.output
 size:w'.heap.size=w.heap.size
 other:∀ k,k≠b→w'.heap[k]? = w.heap[k]?
 kind:∀ (cc:Array Value) (T:TypeId) (fz:Nat×Nat),w.heap[b]? = some (Obj.cells cc T fz)→∃ cc':Array Value,w'.heap[b]? = some (Obj.cells cc' T fz)∧cc'.size=cc.size

theorem WUpd.setRow (w:World)(b:Nat)(cs cs':Array Value)(T:TypeId)(fz:Nat×Nat)(hb:w.heap[b]? = some (.cells cs T fz))(hs:cs'.size=cs.size):WUpd w (w.setRow b cs') b :=
 ⟨rfl,rfl,rfl,by simp,fun k hk=>setRow_other w b k cs' hk,fun cc T' fz' h=>by
  rw [hb] at h;cases h;exact ⟨cs',setRow_heap w b cs cs' T fz hb,hs⟩⟩

theorem z2b (hr:HR m h w){id:Nat}{x x1:AObj}(hid:h.get id=some x){b:Nat}(hm:m id=some (b,0))(hc:Compat x x1){w':World}(wu:WUpd w w' b) :
  Step m h w m (h.set id (some x1)) w' where
 os:=wu.os
 tape:=wu.tape
 output:=wu.output
 size:=by rw [wu.size];exact Nat.le_refl _
 kind:=fun k cc T fz hb _=>by
  by_cases e:k=b
  ·subst e;exact wu.kind cc T fz hb
  ·exact ⟨cc,by rw [wu.other k e];exact hb,rfl⟩
 free:=fun k hk hf=>by
  have hne:k≠b:=fun e=>hf id 0 x hid (e ▸ hm)
  refine ⟨wu.other k hne,fun j s y hg hmj => ?_⟩
  by_cases e:j=id
  ·subst e;rw [hm] at hmj;cases hmj;exact hne rfl
  ·simp only [AHeap.set,if_neg e] at hg;exact hf j s y hg hmj
 cell:=fun k o v hcell hn=>by
  have hne:k≠b:=fun e=>hn ⟨id,0,⟨x,hid⟩,e ▸ hm,Nat.zero_le _⟩
  refine ⟨by rw [← hcell];exact World.cell?_of_block (wu.other k hne),fun ⟨j,s,⟨y,hg⟩,hmj,hle⟩=>hn ?_⟩
  by_cases e:j=id
  ·subst e;exact ⟨j,s,⟨x,hid⟩,hmj,hle⟩
  ·simp only [AHeap.set,if_neg e] at hg;exact ⟨j,s,⟨y,hg⟩,hmj,hle⟩
 used:=fun _ hu=>hu
 live:=fun j x' _ hg=>by
  by_cases e:j=id
  ·subst e;simp only [AHeap.set,if_true] at hg;cases hg;exact ⟨x,hid,fun _=>rfl,hc⟩
  ·simp only [AHeap.set,if_neg e] at hg;exact ⟨x',hg,fun _=>rfl,Compat.refl _⟩
theorem HR.set (hr:HR m h w){id:Nat}{x x1:AObj}(hid:h.get id=some x){b:Nat}(hm:m id=some (b,0))(hc:Compat x x1){w':World}(wu:WUpd w w' b)
  (hx:OR m (h.set id (some x1)) w' id x1):HR m (h.set id (some x1)) w' where
 gapl:=hr.gapl
 live:=fun j y hg=>by
  by_cases e:j=id
  ·subst e;exact hr.live j x hid
  ·simp only [AHeap.set,if_neg e] at hg;exact hr.live j y hg
 inj:=fun i j y z c s r hi hj hmi hmj=>by
  have live:∀ k u,(h.set id (some x1)).get k=some u→∃ u',h.get k=some u':=fun k u hk=>by
   by_cases e:k=id
   ·exact ⟨x,e ▸ hid⟩
   ·simp only [AHeap.set,if_neg e] at hk;exact ⟨u,hk⟩
  obtain ⟨y',hy'⟩:=live i y hi
  obtain ⟨z',hz'⟩:=live j z hj
  exact hr.inj i j y' z' c s r hy' hz' hmi hmj
 obj:=fun j y hg=>by
  by_cases e:j=id
  ·subst e;simp only [AHeap.set,if_true] at hg;cases hg;exact hx
  ·simp only [AHeap.set,if_neg e] at hg
   refine (hr.obj j y hg).step (z2b hr hid hm hc wu) rfl fun c t hmj=>wu.other c fun ec=>e (hr.inj j id y x b t 0 hg hid (ec ▸ hmj) hm)

theorem zka (hr:HR m h w){id g n g' n':Nat}(hid:h.get id=some (.tail g n)){b t t':Nat}(hm:m id=some (b,t))(htt:t≤t')(hcc:Compat (.tail g n) (.tail g' n'))(hsm:Same (.tail g n) (.tail g' n')→t'=t){w':World}(wu:WUpd w w' b)
  (hlow:∀ o v,o < t→w.cell? ⟨b,o,none⟩=some v→w'.cell? ⟨b,o,none⟩=some v) :
  Step m h w (upd m id (some (b,t'))) (h.set id (some (.tail g' n'))) w':=by
 have sub:∀ j y,j≠id→(h.set id (some (.tail g' n'))).get j=some y→h.get j=some y:=fun j y hj hg=>by
  simpa only [AHeap.set,if_neg hj] using hg
 exact {
  os:=wu.os
  tape:=wu.tape
  output:=wu.output
  size:=by rw [wu.size];exact Nat.le_refl _
  kind:=fun k cc T fz hb _=>by
   by_cases e:k=b
   ·subst e;exact wu.kind cc T fz hb
   ·exact ⟨cc,by rw [wu.other k e];exact hb,rfl⟩
  free:=fun k hk hfr=>by
   have hkb:k≠b:=fun e=>hfr id t _ hid (e ▸ hm)
   refine ⟨wu.other k hkb,fun j s y hg hmj => ?_⟩
   by_cases e:j=id
   ·subst e;simp only [upd,if_true] at hmj;cases hmj;exact hkb rfl
   ·simp only [upd,if_neg e] at hmj;exact hfr j s y (sub j y e hg) hmj
  cell:=fun k o v hcell hn=>by
   refine ⟨?_,fun ⟨j,s,⟨y,hg⟩,hmj,hle⟩ => ?_⟩
   ·by_cases e:k=b
    ·subst e
     refine hlow o v ?_ hcell
     rcases Nat.lt_or_ge o t with h1 | h1
     ·exact h1
     ·exact absurd ⟨id,t,⟨_,hid⟩,hm,h1⟩ hn
    ·rw [← hcell];exact World.cell?_of_block (wu.other k e)
   ·by_cases e:j=id
    ·subst e;simp only [upd,if_true] at hmj;cases hmj;exact hn ⟨j,t,⟨_,hid⟩,hm,by omega⟩
    ·simp only [upd,if_neg e] at hmj;exact hn ⟨j,s,⟨y,sub j y e hg⟩,hmj,hle⟩
  used:=fun _ hu=>hu
  live:=fun j x' hu hg=>by
   by_cases e:j=id
   ·subst e
    simp only [AHeap.set,if_true] at hg
    cases hg
    exact ⟨_,hid,fun hs=>by simp only [upd,if_true];rw [hm,hsm hs],hcc⟩
   ·exact ⟨x',sub j x' e hg,fun _=>by simp [upd,e],Compat.refl _⟩ }
theorem HR.tok (hr:HR m h w){id g n g' n':Nat}(hid:h.get id=some (.tail g n)){b t t':Nat}(hm:m id=some (b,t))(htt:t≤t')(hcc:Compat (.tail g n) (.tail g' n'))(hsm:Same (.tail g n) (.tail g' n')→t'=t){w':World}(wu:WUpd w w' b)
  (hlow:∀ o v,o < t→w.cell? ⟨b,o,none⟩=some v→w'.cell? ⟨b,o,none⟩=some v):HR (upd m id (some (b,t'))) (h.set id (some (.tail g' n'))) w':=by
 have sub:∀ j y,j≠id→(h.set id (some (.tail g' n'))).get j=some y→h.get j=some y:=fun j y hj hg=>by
  simpa only [AHeap.set,if_neg hj] using hg
 have st:=zka hr hid hm htt hcc hsm wu hlow
 exact {
  gapl:=hr.gapl
  live:=fun j y hg=>by
   by_cases e:j=id
   ·subst e;exact hr.live j _ hid
   ·exact hr.live j y (sub j y e hg)
  inj:=fun i j y z c s r hi hj hmi hmj=>by
   by_cases ei:i=id <;> by_cases ej:j=id
   ·rw [ei,ej]
   ·subst ei
    simp only [upd,if_true] at hmi
    simp only [upd,if_neg ej] at hmj
    cases hmi
    exact absurd (hr.inj j i _ _ b r t (sub j z ej hj) hid hmj hm) ej
   ·subst ej
    simp only [upd,if_true] at hmj
    simp only [upd,if_neg ei] at hmi
    cases hmj
    exact absurd (hr.inj i j _ _ b s t (sub i y ei hi) hid hmi hm) ei
   ·simp only [upd,if_neg ei,if_neg ej] at hmi hmj
    exact hr.inj i j y z c s r (sub i y ei hi) (sub j z ej hj) hmi hmj
  obj:=fun j y hg=>by
   by_cases e:j=id
   ·subst e
    simp only [AHeap.set,if_true] at hg
    cases hg
    intro c s hmc
    simp only [upd,if_true] at hmc
    cases hmc
    obtain ⟨cc,T,hb⟩:=hr.obj j _ hid b t hm
    obtain ⟨cc',hb',_⟩:=wu.kind cc T (0,0) hb
    exact ⟨cc',T,hb'⟩
   ·have hg':=sub j y e hg
    refine (hr.obj j y hg').step st (by simp [upd,e]) fun c s hmj=>wu.other c fun ec=>e (hr.inj j id y _ b s t hg' hid (ec ▸ hmj) hm) }

theorem zn6 (hr:HR m h w){id g n g' n':Nat}(hid:h.get id=some (.tail g n))(hcc:Compat (.tail g n) (.tail g' n'))(hsm:¬ Same (.tail g n) (.tail g' n'))(o:Obj)(t:Nat) :
  Step m h w (upd m id (some (w.heap.size,t))) (h.set id (some (.tail g' n'))) (w.alloc o) where
 os:=rfl
 tape:=rfl
 output:=rfl
 size:=by simp
 kind:=fun b cc T fz hb _=>⟨cc,by rw [heap_alloc_old w o (Array.getElem?_eq_some_iff.1 hb).1];exact hb,rfl⟩
 free:=fun b hb hfr=>⟨heap_alloc_old w o hb,fun j s y hg hmj=>by
  by_cases e:j=id
  ·subst e;simp only [upd,if_true] at hmj;cases hmj;omega
  ·simp only [AHeap.set,if_neg e] at hg;simp only [upd,if_neg e] at hmj;exact hfr j s y hg hmj⟩
 cell:=fun b k v hc hn=>⟨by rw [World.cell?_alloc_lt w _ _ (World.block_lt_of_cell? w _ hc)];exact hc,fun ⟨j,s,⟨y,hg⟩,hmj,hle⟩=>by
  by_cases e:j=id
  ·subst e;simp only [upd,if_true] at hmj;cases hmj
   have:=World.block_lt_of_cell? w _ hc
   simp at this
  ·simp only [AHeap.set,if_neg e] at hg;simp only [upd,if_neg e] at hmj;exact hn ⟨j,s,⟨y,hg⟩,hmj,hle⟩⟩
 used:=fun _ hu=>hu
 live:=fun j x' hu hg=>by
  by_cases e:j=id
  ·subst e
   simp only [AHeap.set,if_true] at hg
   cases hg
   exact ⟨_,hid,fun hs=>absurd hs hsm,hcc⟩
  ·simp only [AHeap.set,if_neg e] at hg
   exact ⟨x',hg,fun _=>by simp [upd,e],Compat.refl _⟩
theorem HR.mv (hr:HR m h w){id g n g' n':Nat}(hid:h.get id=some (.tail g n))(hcc:Compat (.tail g n) (.tail g' n'))(hsm:¬ Same (.tail g n) (.tail g' n'))(cc:Array Value)(T:TypeId)(t:Nat) :
  HR (upd m id (some (w.heap.size,t))) (h.set id (some (.tail g' n'))) (w.alloc (.cells cc T)) where
 gapl:=hr.gapl
 live:=fun j y hg=>by
  by_cases e:j=id
  ·subst e;exact hr.live j _ hid
  ·simp only [AHeap.set,if_neg e] at hg;exact hr.live j y hg
 inj:=fun i j y z b s r hi hj hmi hmj=>by
  by_cases ei:i=id <;> by_cases ej:j=id
  ·rw [ei,ej]
  ·subst ei
   simp only [upd,if_true] at hmi
   simp only [upd,if_neg ej] at hmj
   simp only [AHeap.set,if_neg ej] at hj
   cases hmi
   have:=(hr.obj j z hj).lt hmj
   omega
  ·subst ej
   simp only [upd,if_true] at hmj
   simp only [upd,if_neg ei] at hmi
   simp only [AHeap.set,if_neg ei] at hi
   cases hmj
   have:=(hr.obj i y hi).lt hmi
   omega
  ·simp only [AHeap.set,if_neg ei,if_neg ej] at hi hj
   simp only [upd,if_neg ei,if_neg ej] at hmi hmj
   exact hr.inj i j y z b s r hi hj hmi hmj
 obj:=fun j y hg=>by
  by_cases e:j=id
  ·subst e
   simp only [AHeap.set,if_true] at hg
   cases hg
   intro b s hmb
   simp only [upd,if_true] at hmb
   cases hmb
   exact ⟨cc,T,heap_alloc_new w _⟩
  ·simp only [AHeap.set,if_neg e] at hg
   exact (hr.obj j y hg).step (zn6 hr hid hcc hsm _ t) (by simp [upd,e]) fun b s hm=>heap_alloc_old w _ ((hr.obj j y hg).lt hm)

theorem zi6 (hr:HR m h w){id g n g' n':Nat}(hid:h.get id=some (.tail g n))(hlt:g < g'):Step m h w (upd m id none) (h.set id (some (.tail g' n'))) w where
 os:=rfl
 tape:=rfl
 output:=rfl
 size:=Nat.le_refl _
 kind:=fun b cc T fz hb _=>⟨cc,hb,rfl⟩
 free:=fun b hb hfr=>⟨rfl,fun j s y hg hmj=>by
  by_cases e:j=id
  ·subst e;simp [upd] at hmj
  ·simp only [AHeap.set,if_neg e] at hg;simp only [upd,if_neg e] at hmj;exact hfr j s y hg hmj⟩
 cell:=fun b k v hc hn=>⟨hc,fun ⟨j,s,⟨y,hg⟩,hmj,hle⟩=>by
  by_cases e:j=id
  ·subst e;simp [upd] at hmj
  ·simp only [AHeap.set,if_neg e] at hg;simp only [upd,if_neg e] at hmj;exact hn ⟨j,s,⟨y,hg⟩,hmj,hle⟩⟩
 used:=fun _ hu=>hu
 live:=fun j x' hu hg=>by
  by_cases e:j=id
  ·subst e
   simp only [AHeap.set,if_true] at hg
   cases hg
   exact ⟨_,hid,fun hs=>absurd hs.1 (by omega),.inl hlt⟩
  ·simp only [AHeap.set,if_neg e] at hg
   exact ⟨x',hg,fun _=>by simp [upd,e],Compat.refl _⟩
theorem HR.anew (hr:HR m h w){id g n g' n':Nat}(hid:h.get id=some (.tail g n))(hlt:g < g'):HR (upd m id none) (h.set id (some (.tail g' n'))) w where
 gapl:=hr.gapl
 live:=fun j y hg=>by
  by_cases e:j=id
  ·subst e;exact hr.live j _ hid
  ·simp only [AHeap.set,if_neg e] at hg;exact hr.live j y hg
 inj:=fun i j y z b s r hi hj hmi hmj=>by
  by_cases ei:i=id
  ·subst ei;simp [upd] at hmi
  ·by_cases ej:j=id
   ·subst ej;simp [upd] at hmj
   ·simp only [AHeap.set,if_neg ei,if_neg ej] at hi hj
    simp only [upd,if_neg ei,if_neg ej] at hmi hmj
    exact hr.inj i j y z b s r hi hj hmi hmj
 obj:=fun j y hg=>by
  by_cases e:j=id
  ·subst e
   simp only [AHeap.set,if_true] at hg
   cases hg
   intro b s hmb
   simp [upd] at hmb
  ·simp only [AHeap.set,if_neg e] at hg
   exact (hr.obj j y hg).step (zi6 hr hid hlt) (by simp [upd,e]) fun _ _ _=>rfl
end
end Go.Abs

namespace Go.Abs
open Go

inductive Opd where
 | t (n : Nat)
 | c (v : AV)
 deriving Inhabited
abbrev Env:=List (Nat×Option AV)
def lk (i:Nat):Env→Option AV
  | [] => none
  | (j, v) :: e => match Nat.beq i j with
    | true => v
    | false => lk i e
theorem z1o {i:Nat}:lk i []=none:=rfl
theorem z6 {i j:Nat}{v:Option AV}{e:Env}:lk i ((j,v)::e)=if i=j then v else lk i e:=by
 show (match Nat.beq i j with | true=>v | false=>lk i e)=_
 cases h:Nat.beq i j with
 | true => rw [if_pos (Nat.eq_of_beq_eq_true h)]
 | false => rw [if_neg (Nat.ne_of_beq_eq_false h)]
def ev (e:Env):Opd→Option AV
 | .t n => lk n e
 | .c v => some v
def evL (e:Env):List Opd→Option (List AV)
 | [] => some []
 | x :: xs => match ev e x, evL e xs with
  | some v, some vs => some (v :: vs)
  | _, _ => none

structure ER (N:Nat)(m:Inj)(h:AHeap)(w:World)(e:Env)(a:Act):Prop where
 size:a.tmps.size=N
 defers:a.defers=[]
 val:∀ i v,lk i e=some v→VR m h w v (a.tmps.getD i undef)

def ofV:Value→Option AV
 | .bool b => some (.bool b)
 | .int k n => some (.int k n)
 | .string s => some (.str s.data.toList)
 | .pointer none => some .nilp
 | .slice none 0 0 => some .nils
 | .map none => some .nilm
 | .nilFunc => some .nilf
 | .nilIface => some .nili
 | _ => none
def ofOpd (N:Nat):Operand→Option Opd
 | .tmp t => if t < N then some (.t t) else none
 | .const v => (ofV v).map .c
 | .func f => some (.c (.func (.func f) [] []))
 | .global _ => none
def ofL {α β:Type}(f:α→Option β):List α→Option (List β)
 | [] => some []
 | x :: xs => match f x, ofL f xs with
  | some v, some vs => some (v :: vs)
  | _, _ => none

section
variable {P:Program}{N:Nat}{m:Inj}{h:AHeap}{w:World}{e:Env}{a:Act}

theorem zkb {c:Value}{v:AV}(hc:ofV c=some v):VR m h w v c:=by
 unfold ofV at hc
 split at hc <;> cases hc
 ·exact .bool _
 ·exact .int _ _
 ·rename_i s;exact .str s.data.toList
 ·exact .nilp
 ·exact .nils0
 ·exact .nilm
 ·exact .nilf
 ·exact .nili
theorem zo2 {c:Value}{v:AV}(hc:ofV c=some v):v.scalar=true:=by
 unfold ofV at hc
 split at hc <;> cases hc <;> rfl

theorem ER.eval (he:ER N m h w e a){x:Operand}{o:Opd}(ho:ofOpd N x=some o){v:AV}(hv:ev e o=some v):VR m h w v (a.eval x):=by
 cases x with
 | tmp t =>
  simp only [ofOpd] at ho
  split at ho
  ·cases ho;exact he.val t v hv
  ·cases ho
 | const c =>
  simp only [ofOpd] at ho
  cases hc:ofV c with
  | none => simp [hc] at ho
  | some u => simp [hc] at ho; subst ho; cases hv; exact zkb hc
 | func f => simp only [ofOpd] at ho; cases ho; cases hv; exact .func (.func f) [] [] #[] #[] rfl rfl (by simp) (by simp)
 | global g => simp [ofOpd] at ho

theorem ER.evalL (he:ER N m h w e a):∀ {xs:List Operand} {os:List Opd},ofL (ofOpd N) xs=some os→∀ {vs:List AV},evL e os=some vs →
  vs.length=xs.length∧∀ i v,vs[i]? = some v→VR m h w v ((xs.map a.eval).getD i undef):=by
 intro xs
 induction xs with
 | nil => intro os ho vs hv; simp [ofL] at ho; subst ho; simp [evL] at hv; subst hv; simp
 | cons x xs ih =>
  intro os ho vs hv
  simp only [ofL] at ho
  split at ho
  ·rename_i o os' h1 h2
   cases ho
   simp only [evL] at hv
   split at hv
   ·rename_i v vs' g1 g2
    cases hv
    obtain ⟨e1,e2⟩:=ih h2 g2
    refine ⟨by simp [e1],fun i u hu => ?_⟩
    cases i with
    | zero => simp at hu; subst hu; simpa using he.eval h1 g1
    | succ i => simp at hu; simpa using e2 i u hu
   ·cases hv
  ·cases ho

theorem ER.step {m':Inj}{h':AHeap}{w':World}(s:Step m h w m' h' w')(he:ER N m h w e a):ER N m' h' w' e a :=
 ⟨he.size,he.defers,fun i v hv=>(he.val i v hv).step s⟩
theorem ER.put (he:ER N m h w e a){d:Nat}(hd:d < N){v:AV}{c:Value}(hv:VR m h w v c):ER N m h w ((d,some v)::e) (a.put (some d) c):=by
 refine ⟨by simp [Act.put,he.size],he.defers,fun i u hu => ?_⟩
 simp only [z6,z1o] at hu
 split at hu
 ·rename_i hi;subst hi;cases hu
  simp only [Act.put,Array.getD_eq_getD_getElem?]
  rw [Array.getElem?_setIfInBounds_self_of_lt (by rw [he.size];exact hd)]
  exact hv
 ·rename_i hi
  simp only [Act.put,Array.getD_eq_getD_getElem?]
  rw [Array.getElem?_setIfInBounds_ne (fun e=>hi e.symm)]
  simpa using he.val i u hu
theorem ER.skip (he:ER N m h w e a)(d:Nat)(c:Value):ER N m h w ((d,none)::e) (a.put (some d) c):=by
 refine ⟨by simp [Act.put,he.size],he.defers,fun i u hu => ?_⟩
 simp only [z6,z1o] at hu
 split at hu
 ·cases hu
 ·rename_i hi
  simp only [Act.put,Array.getD_eq_getD_getElem?]
  rw [Array.getElem?_setIfInBounds_ne (fun e=>hi e.symm)]
  simpa using he.val i u hu
end

def rdP (g:Nat→Option AObj):AV→Option (Nat×List (List AV)×Nat×Nat)
 | .ptr id i off => match g id with
  | some (.mem sz c) => some (sz, c, i, off)
  | _ => none
 | .iptr sz c i off => some (sz, c, i, off)
 | _ => none
def rdS (g:Nat→Option AObj)(sz:Nat):AV→Option (List (List AV))
 | .nils => some []
 | .imm s c => if s = sz then some c else none
 | .app _ _ s c => if s = sz then some c else none
 | .ref id off len => match g id with
  | some (.mem s c) => if s = sz then some ((c.drop off).take len) else none
  | _ => none
 | _ => none
def AV.cs:AV→List AV
 | .agg l => l
 | v => [v]
def getC (sz:Nat)(ag:Bool)(cells:List AV)(off:Nat):Option AV :=
 if off+sz≤cells.length then (if ag then some (.agg ((cells.drop off).take sz)) else cells[off]?) else none
def putC (cells:List AV)(off:Nat)(vs:List AV):List AV:=cells.take off++vs++cells.drop (off+vs.length)

def aggD:TypeDesc→Bool
 | .struct _ | .array _ _ => true
 | _ => false
def tyI (P:Program)(t:TypeId):Option (Nat×Bool) :=
 match P.info? t,P.underlying t with
 | some i, some d => some (i.size, aggD d)
 | _, _ => none

section
variable {P:Program}{m:Inj}{h:AHeap}{w:World}

theorem zp8 (hr:HR m h w){p:AV}{cp:Value}(hv:VR m h w p cp){sz i off:Nat}{c:List (List AV)}(hp:rdP h.get p=some (sz,c,i,off)) :
  ∃ ad,cp = .pointer (some ad)∧Len sz c∧∀ cells,c[i]? = some cells→∃ G:Nat→Value,(∀ j,off+j < sz→w.cell? (ad.add j)=some (G j))∧(∀ j v,cells[off+j]? = some v→VR m h w v (G j))∧(∀ v∈cells,v.scalar=true):=by
 cases hv <;> simp only [rdP] at hp <;> try (cases hp;done)
 case ptr id i' off' ad hu ha =>
  cases hg:h.get id with
  | none => simp [hg] at hp
  | some x =>
   cases x with
   | mem s c' =>
    simp [hg] at hp
    obtain ⟨rfl,rfl,rfl,rfl⟩:=hp
    obtain ⟨b,hb,rfl⟩:=ha _ _ hg
    obtain ⟨b',cc,T,h1,h2,h3,h4⟩:=hr.obj _ _ hg
    rw [hb] at h1
    cases h1
    refine ⟨_,rfl,h4.1,fun cells hi=>⟨fun j=>cc.getD (i'*s+off'+j) undef,fun j hj => ?_,fun j v hv => ?_,h4.2.1 cells (List.mem_of_getElem? hi)⟩⟩
    ·have hlt:i'*s+(off'+j) < c'.length*s:=z65 (List.getElem?_eq_some_iff.1 hi).1 hj
     show w.cell? _=some (cc.getD _ undef)
     rw [Addr.add_lit,cell_of_row w b _ cc T (0,0) h2,Array.getD_eq_getD_getElem?]
     rw [Array.getElem?_eq_getElem (by omega)]
     rfl
    ·have:=h4.2.2 i' cells hi (off'+j) v hv
     simpa [Nat.add_assoc] using this
   | tail _ _ => simp [hg] at hp
   | map es => simp [hg] at hp
   | loop => simp [hg] at hp
   | dfr => simp [hg] at hp
 case iptr sz' c' i' off' b o F hic hl hs hrr =>
  simp at hp
  obtain ⟨rfl,rfl,rfl,rfl⟩:=hp
  refine ⟨_,rfl,hl,fun cells hi=>⟨fun j=>F (i'*sz'+(off'+j)),fun j hj => ?_,fun j v hv=>hrr i' cells hi (off'+j) v hv,hs cells (List.mem_of_getElem? hi)⟩⟩
  have:=(hic _ (z65 (List.getElem?_eq_some_iff.1 hi).1 hj)).1
  rw [Addr.add_lit]
  rw [← this]
  congr 2
  omega

theorem zp9 (hr:HR m h w){s:AV}{cs:Value}(hv:VR m h w s cs){sz:Nat}{c:List (List AV)}(hp:rdS h.get sz s=some c) :
  ∃ ad cap,cs = .slice ad c.length cap∧c.length≤cap∧∃ F,RowF m h w sz c F∧(c≠[]→∃ b o,ad=some ⟨b,o,none⟩∧∀ k,k < c.length*sz→w.cell? ⟨b,o+k,none⟩=some (F k)):=by
 cases hv <;> simp only [rdS] at hp <;> try (cases hp;done)
 case nils0=>cases hp;exact ⟨none,0,rfl,Nat.le_refl _,fun _=>undef,RowF.nil,by simp⟩
 case nils1 ad=>cases hp;exact ⟨some ad,0,rfl,Nat.le_refl _,fun _=>undef,RowF.nil,by simp⟩
 case imm0 s=>split at hp <;> cases hp;exact ⟨none,0,rfl,Nat.le_refl _,fun _=>undef,RowF.nil,by simp⟩
 case imm1 s ad cap=>split at hp <;> cases hp;exact ⟨some ad,cap,rfl,Nat.zero_le _,fun _=>undef,RowF.nil,by simp⟩
 case imm s c' b o cap F hic hl hs hrr hc =>
  split at hp
  ·rename_i e;subst e;cases hp
   exact ⟨_,cap,rfl,hc,F,⟨hl,hs,hrr⟩,fun _=>⟨b,o,rfl,fun k hk=>(hic k hk).1⟩⟩
  ·cases hp
 case app0 id g s hu ht=>split at hp <;> cases hp;exact ⟨none,0,rfl,Nat.le_refl _,fun _=>undef,RowF.nil,by simp⟩
 case app1 id g s ad hu ht=>split at hp <;> cases hp;exact ⟨some ad,0,rfl,Nat.le_refl _,fun _=>undef,RowF.nil,by simp⟩
 case app id g s c' b cap F hu hic hl hs hrr hc ht =>
  split at hp
  ·rename_i e;subst e;cases hp
   exact ⟨_,cap,rfl,hc,F,⟨hl,hs,hrr⟩,fun _=>⟨b,0,rfl,fun k hk=>(hic k hk).1⟩⟩
  ·cases hp
 case ref id off len cap ad hu hc ha =>
  cases hg:h.get id with
  | none => simp [hg] at hp
  | some x =>
   cases x with
   | mem s c' =>
    simp only [hg] at hp
    split at hp
    ·rename_i e;subst e;cases hp
     obtain ⟨b,hb,hle,had,cc,T,hcc,hsz⟩:=ha _ _ hg
     obtain ⟨b',cc',T',h1,h2,h3,h4⟩:=hr.obj _ _ hg
     rw [hb] at h1
     cases h1
     rw [h2] at hcc
     cases hcc
     have hlen:((c'.drop off).take len).length=len:=by simp;omega
     refine ⟨some ad,cap,by rw [hlen],by omega,_,(h4.drop off).take len,fun hne => ?_⟩
     have hl0:0 < len:=by
      rcases Nat.eq_zero_or_pos len with e | e
      ·subst e;simp at hne
      ·exact e
     rcases had with h0 | rfl
     ·omega
     ·refine ⟨b,off*s,rfl,fun k hk => ?_⟩
      rw [cell_of_row w b _ _ _ (0,0) h2,Array.getD_eq_getD_getElem?]
      have h5:(off+len)*s≤c'.length*s:=Nat.mul_le_mul_right _ hle
      rw [Nat.add_mul] at h5
      rw [hlen] at hk
      rw [Array.getElem?_eq_getElem (by omega)]
      rfl
    ·cases hp
   | tail _ _ => simp [hg] at hp
   | map es => simp [hg] at hp
   | loop => simp [hg] at hp
   | dfr => simp [hg] at hp

theorem z1t {v:AV}{c:Value}(hv:VR m h w v c)(hs:∀ u,v≠.tup u):v.cs.length=c.cells.size∧(∀ u∈v.cs,u.scalar=true)∧∀ i u,v.cs[i]? = some u→VR m h w u (c.cells.getD i undef):=by
 cases hv
 case agg vs cs hl hsc hvs=>exact ⟨hl,hsc,hvs⟩
 case tup vs cs hl hvs=>exact absurd rfl (hs vs)
 all_goals
  refine ⟨rfl,fun u hu => ?_,fun i u hu => ?_⟩
  ·simp only [AV.cs,List.mem_singleton] at hu;subst hu;rfl
  ·cases i with
   | zero => simp only [AV.cs, List.getElem?_cons_zero, Option.some.injEq] at hu; subst hu; simp only [Value.cells]; first | assumption | (constructor <;> assumption) | (constructor; done)
   | succ i => simp [AV.cs] at hu

theorem zkc {v:AV}{c:Value}(hv:VR m h w v c)(hs:∀ u,v≠.tup u):∀ u∈c.cells.toList,u.oneCell'=true:=by
 obtain ⟨h1,h2,h3⟩:=z1t hv hs
 intro u hu
 obtain ⟨i,hi,rfl⟩:=List.mem_iff_getElem.1 hu
 have hlt:i < v.cs.length:=by rw [h1];simpa using hi
 have:=h3 i _ (List.getElem?_eq_getElem hlt)
 have h4:=this.scalar_one (h2 _ (List.getElem_mem hlt))
 simpa [Array.getD_eq_getD_getElem?,Array.getElem?_eq_getElem (show i < c.cells.size by simpa using hi)] using h4
end
end Go.Abs

namespace Go.Abs
open Go

inductive CK where
 | i | b | s
 deriving Inhabited
inductive EK where
 | b | s | p | f
 | a (ks : List CK)
 deriving Inhabited

inductive MK where
 | i | s
 | a (ks : List CK)
 deriving Inhabited
inductive Ex where
 | mkmap
 | look (mk : MK) (z : AV) (ok : Bool) (m k : Opd)
 | mput (mk : MK) (m k v : Opd)
 | mlen (m : Opd)
 | s2b (x : Opd)
 | caps (x : Opd)
 | slc3 (sz : Nat) (x : Opd) (lo hi : Option Opd) (mx : Opd)
 | callx (f : Nat) (xs : List Opd)
 | strish (x : Opd)
 | appz (sz bytes : Nat) (z : List AV) (s n : Opd)
 | mkif (t : Nat) (x : Opd)
 | inv (name : String) (x : Opd) (xs : List Opd)
 | asrt (t : Nat) (ok : Bool) (z : AV) (x : Opd)
 | clr (sz : Nat) (z : List AV) (x : Opd)
 deriving Inhabited
inductive Ins where
 | mov (x : Opd)
 | pick (c a b : Opd)
 | alloc (z : List AV)
 | box (sz : Nat) (x : Opd)
 | build (z : List AV) (parts : List (Nat × Nat × Opd))
 | bsl0
 | bsl (sz : Nat) (xs : List Opd)
 | load (sz : Nat) (ag : Bool) (x : Opd)
 | store (sz : Nat) (p x : Opd)
 | nilck (x : Opd)
 | bin (op : BinOp) (x y : Opd)
 | sh (op : BinOp) (x y : Opd)
 | eqv (k : EK) (neg : Bool) (x y : Opd)
 | isnil (neg : Bool) (x : Opd)
 | not (x : Opd)
 | conv (k : IntKind) (x : Opd)
 | b2s (x : Opd)
 | mkf (fn : Fn) (xs ys : List Opd)
 | mksl (sz : Nat) (z : List AV) (bytes : Nat) (l c : Opd)
 | slc (sz : Nat) (x : Opd) (lo hi : Option Opd)
 | faddr (off : Nat) (x : Opd)
 | fld (off sz : Nat) (ag : Bool) (x : Opd)
 | iaddr (sz : Nat) (x i : Opd)
 | iaddrA (n sz : Nat) (x i : Opd)
 | ext (n : Nat) (x : Opd)
 | len (x : Opd)
 | app (sz bytes : Nat) (s x : Opd)
 | cpy (sz : Nat) (d s : Opd)
 | mn (x y : Opd)
 | call (f : Nat) (xs : List Opd)
 | callv (x : Opd) (xs : List Opd)
 | raw (x : Ex)
 | bad
 deriving Inhabited

inductive Eff where
 | none
 | set (id : Nat) (x : AObj)
 | new (x : AObj)
 | del (id : Nat)
def Eff.on (nm:Nat):Eff→AHeap→AHeap
 | .none, h => h
 | .set id x, h => h.set id (some x)
 | .new x, h => h.put nm x
 | .del id, h => h.set id Option.none

def req {α:Type}(p:Prop)[Decidable p](x:Option α):Option α:=if p then x else none
theorem z19 {α:Type}{p:Prop}[Decidable p]{x:Option α}(hp:p):req p x=x:=if_pos hp
theorem z12 {α:Type}{p:Prop}[Decidable p]{x:Option α}{y:α}(h:req p x=some y):p∧x=some y:=by
 unfold req at h
 split at h
 ·exact ⟨‹_›,h⟩
 ·cases h

def binA (op:BinOp)(k:IntKind)(a b:Int):Option AV :=
 match op with
 | .add => some (.int k (k.wrap (a + b)))
 | .sub => some (.int k (k.wrap (a - b)))
 | .mul => some (.int k (k.wrap (a * b)))
 | .quo => req (b ≠ 0) (some (.int k (k.wrap (a.tdiv b))))
 | .rem => req (b ≠ 0) (some (.int k (a.tmod b)))
 | .and => some (.int k (bits .and k a b))
 | .or => some (.int k (bits .or k a b))
 | .xor => some (.int k (bits .xor k a b))
 | .andNot => some (.int k (bits .andNot k a b))
 | .eql => some (.bool (a == b))
 | .neq => some (.bool (a != b))
 | .lss => some (.bool (decide (a < b)))
 | .leq => some (.bool (decide (a ≤ b)))
 | .gtr => some (.bool (decide (a > b)))
 | .geq => some (.bool (decide (a ≥ b)))
 | _ => none
def shA (op:BinOp)(k:IntKind)(a b:Int):Option AV :=
 match op with
 | .shl => req (0 ≤ b) (some (.int k (k.wrap (a * 2 ^ (min b.toNat k.bits)))))
 | .shr => req (0 ≤ b) (some (.int k (a.fdiv (2 ^ (min b.toNat k.bits)))))
 | _ => none
def z9:List CK→List AV→List AV→Option Bool
 | [], [], [] => some true
 | .i :: ks, .int k a :: xs, .int k' b :: ys => if k = k' then (z9 ks xs ys).map (fun r => (a == b) && r) else none
 | .b :: ks, .bool a :: xs, .bool b :: ys => (z9 ks xs ys).map (fun r => (a == b) && r)
 | .s :: ks, .str a :: xs, .str b :: ys => (z9 ks xs ys).map (fun r => (a == b) && r)
 | _, _, _ => none
def eqA:EK→AV→AV→Option Bool
 | .b, .bool a, .bool b => some (a == b)
 | .s, .str a, .str b => some (a == b)
 | .p, .nilp, .nilp => some true
 | .p, .ptr _ _ _, .nilp => some false
 | .p, .iptr _ _ _ _, .nilp => some false
 | .f, .nilf, .nilf => some true
 | .f, .func _ _ _, .nilf => some false
 | .a ks, .agg xs, .agg ys => z9 ks xs ys
 | _, _, _ => none
def zkd:AV→Option Bool
 | .imm _ (_ :: _) => some false
 | .app _ _ _ (_ :: _) => some false
 | .ref _ _ _ => some false
 | _ => none
def toB:List (List AV)→Option (List UInt8)
 | [] => some []
 | [.int .u8 n] :: r => (toB r).map (UInt8.ofNat n.toNat :: ·)
 | _ => none
def AV.isTup:AV→Bool
 | .tup _ => true
 | _ => false
def fillA:List AV→List (Nat×Nat×AV)→Option (List AV)
 | cells, [] => some cells
 | cells, (off, sz, v) :: r => if v.cs.length = sz ∧ off + sz ≤ cells.length ∧ v.isTup = false then fillA (putC cells off v.cs) r else none
def evP (e:Env):List (Nat×Nat×Opd)→Option (List (Nat×Nat×AV))
  | [] => some []
  | (o, s, x) :: r => match ev e x, evP e r with
    | some v, some vs => some ((o, s, v) :: vs)
    | _, _ => none
def z2y (sz:Nat):List AV→Option (List (List AV))
 | [] => some []
 | v :: r => if v.cs.length = sz ∧ v.isTup = false then (z2y sz r).map (v.cs :: ·) else none
def bnd (e:Env)(dflt:Nat):Option Opd→Option Nat
 | none => some dflt
 | some x => match ev e x with
  | some (.int _ n) => req (0 ≤ n) (some n.toNat)
  | _ => none
def rdL (g:Nat→Option AObj):AV→Option Nat
 | .nils => some 0
 | .imm _ c => some c.length
 | .app _ _ _ c => some c.length
 | .ref _ _ n => some n
 | _ => none

def evalI (nm:Nat)(i:Ins)(e:Env)(g:Nat→Option AObj):Option (Option AV×Eff) :=
 match i with
 | .mov x => match ev e x with
  | some v => some (some v, .none)
  | _ => none
 | .pick c a b => match ev e c with
  | some (.bool t) => match (if t then ev e a else ev e b) with
   | some v => some (some v, .none)
   | _ => none
  | _ => none
 | .alloc z => some (some (.ptr nm 0 0), .new (.mem z.length [z]))
 | .box sz x => match ev e x with
  | some v => if v.cs.length = sz ∧ v.isTup = false then some (some (.ptr nm 0 0), .new (.mem sz [v.cs])) else none
  | _ => none
 | .build z ps => match evP e ps with
  | some vs => match fillA z vs with
   | some cells => some (some (.agg cells), .none)
   | _ => none
  | _ => none
 | .bsl0 => some (some .nils, .none)
 | .bsl sz xs => match evL e xs with
  | some vs => match z2y sz vs with
   | some c => some (some (.imm sz c), .none)
   | _ => none
  | _ => none
 | .load sz ag x => match ev e x with
  | some p => match rdP g p with
   | some (s, c, i, off) => match c[i]? with
    | some cells => match getC sz ag cells off with
     | some v => some (some v, .none)
     | _ => none
    | _ => none
   | _ => none
  | _ => none
 | .store sz p x => match ev e p, ev e x with
  | some (.ptr id i off), some v => match g id with
   | some (.mem s c) => match c[i]? with
    | some cells => if v.cs.length = sz ∧ off + sz ≤ cells.length ∧ v.isTup = false then some (none, .set id (.mem s (c.set i (putC cells off v.cs)))) else none
    | _ => none
   | _ => none
  | _, _ => none
 | .nilck x => match ev e x with
  | some (.ptr id i off) => some (some (.ptr id i off), .none)
  | some (.iptr s c i off) => some (some (.iptr s c i off), .none)
  | some (.func (.func f) xs ys) => some (some (.func (.func f) xs ys), .none)
  | _ => none
 | .bin op x y => match ev e x, ev e y with
  | some (.int k a), some (.int k' b) => if k = k' then (match binA op k a b with | some v => some (some v, .none) | _ => none) else none
  | _, _ => none
 | .sh op x y => match ev e x, ev e y with
  | some (.int k a), some (.int _ b) => match shA op k a b with
   | some v => some (some v, .none)
   | _ => none
  | _, _ => none
 | .eqv k neg x y => match ev e x, ev e y with
  | some u, some v => match eqA k u v with
   | some r => some (some (.bool (if neg then !r else r)), .none)
   | _ => none
  | _, _ => none
 | .isnil neg x => match ev e x with
  | some u => match zkd u with
   | some r => some (some (.bool (if neg then !r else r)), .none)
   | _ => none
  | _ => none
 | .not x => match ev e x with
  | some (.bool b) => some (some (.bool (!b)), .none)
  | _ => none
 | .conv k x => match ev e x with
  | some (.int _ n) => some (some (.int k (k.wrap n)), .none)
  | _ => none
 | .b2s x => match ev e x with
  | some s => match rdS g 1 s with
   | some c => match toB c with
    | some l => some (some (.str l), .none)
    | _ => none
   | _ => none
  | _ => none
 | .mkf fn xs ys => match evL e xs, evL e ys with
  | some vs, some us => some (some (.func fn vs us), .none)
  | _, _ => none
 | .mksl sz z bytes l c => match ev e l, ev e c with
  | some (.int _ n), some (.int _ k) => req (0 ≤ n ∧ n = k ∧ n * bytes ≤ 140737488355328) (some (some (.ref nm 0 n.toNat), .new (.mem sz (List.replicate n.toNat z))))
  | _, _ => none
 | .slc sz x lo hi => match ev e x with
  | some .nils => match bnd e 0 lo, bnd e 0 hi with
   | some l, some r => req (l = 0 ∧ r = 0) (some (some .nils, .none))
   | _, _ => none
  | some (.imm s c) => match bnd e 0 lo, bnd e c.length hi with
   | some l, some r => req (s = sz ∧ l ≤ r ∧ r ≤ c.length) (some (some (.imm s ((c.take r).drop l)), .none))
   | _, _ => none
  | some (.app _ _ s c) => match bnd e 0 lo, bnd e c.length hi with
   | some l, some r => req (s = sz ∧ l ≤ r ∧ r ≤ c.length) (some (some (.imm s ((c.take r).drop l)), .none))
   | _, _ => none
  | some (.ref id off n) => match g id with
   | some (.mem s _) => match bnd e 0 lo, bnd e n hi with
    | some l, some r => req (s = sz ∧ l ≤ r ∧ r ≤ n) (some (some (.ref id (off + l) (r - l)), .none))
    | _, _ => none
   | _ => none
  | _ => none
 | .faddr d x => match ev e x with
  | some (.ptr id i off) => some (some (.ptr id i (off + d)), .none)
  | some (.iptr s c i off) => some (some (.iptr s c i (off + d)), .none)
  | _ => none
 | .fld off sz ag x => match ev e x with
  | some (.agg cells) => match getC sz ag cells off with
   | some v => some (some v, .none)
   | _ => none
  | _ => none
 | .iaddr sz x i => match ev e x, ev e i with
  | some (.imm s c), some (.int _ n) => req (s = sz ∧ 0 ≤ n ∧ n < c.length) (some (some (.iptr s c n.toNat 0), .none))
  | some (.app _ _ s c), some (.int _ n) => req (s = sz ∧ 0 ≤ n ∧ n < c.length) (some (some (.iptr s c n.toNat 0), .none))
  | some (.ref id off l), some (.int _ n) => match g id with
   | some (.mem s _) => req (s = sz ∧ 0 ≤ n ∧ n < l) (some (some (.ptr id (off + n.toNat) 0), .none))
   | _ => none
  | _, _ => none
 | .iaddrA k sz x i => match ev e x, ev e i with
  | some (.ptr id j off), some (.int _ n) => req (0 ≤ n ∧ n < k) (some (some (.ptr id j (off + n.toNat * sz)), .none))
  | some (.iptr s c j off), some (.int _ n) => req (0 ≤ n ∧ n < k) (some (some (.iptr s c j (off + n.toNat * sz)), .none))
  | _, _ => none
 | .ext n x => match ev e x with
  | some (.tup vs) => match vs[n]? with
   | some v => some (some v, .none)
   | _ => none
  | _ => none
 | .len x => match ev e x with
  | some s => match rdL g s with
   | some n => some (some (.int .i64 n), .none)
   | _ => none
  | _ => none
 | .app sz bytes s x => match ev e s, ev e x with
  | some .nils, some y => match rdS g sz y with
   | some d => req (d.length * bytes ≤ 140737488355328) (some (some (.app nm 0 sz d), .new (.tail 0 d.length)))
   | _ => none
  | some (.app id k s' c), some y => match rdS g sz y, g id with
   | some d, some (.tail k' n) => req (s' = sz ∧ k' = k ∧ n = c.length ∧ (c.length + d.length) * bytes ≤ 140737488355328) (some (some (.app id k sz (c ++ d)), .set id (.tail k (c.length + d.length))))
   | _, _ => none
  | _, _ => none
 | .cpy sz d s => match ev e d, ev e s with
  | some (.ref id off l), some y => match g id, rdS g sz y with
   | some (.mem s' c), some cs => req (s' = sz ∧ off + l ≤ c.length) (some (some (.int .i64 ((min cs.length l : Nat) : Int)), .set id (.mem s' (c.take off ++ cs.take (min cs.length l) ++ c.drop (off + min cs.length l)))))
   | _, _ => none
  | _, _ => none
 | .mn x y => match ev e x, ev e y with
  | some (.int k a), some (.int k' b) => if k = k' then some (some (.int k (if b < a then b else a)), .none) else none
  | _, _ => none
 | .call _ _ => none
 | .callv _ _ => none
 | .raw _ => none
 | .bad => none

def flatF (flat:TypeId→Option (List CK))(P:Program):Nat→List Field→Option (List CK)
 | _, [] => some []
 | o, f :: fs => match flat f.type, tyI P f.type with
  | some ks, some (sz, ag) => if f.name ≠ "_" ∧ f.offset = o ∧ ks.length = sz ∧ (ag = true ∨ sz = 1) then (flatF flat P (o + sz) fs).map (ks ++ ·) else none
  | _, _ => none
def flatN (ks:List CK):Nat→List CK
 | 0 => []
 | n + 1 => ks ++ flatN ks n
def flatK (P:Program):Nat→TypeId→Option (List CK)
 | 0, _ => none
 | d + 1, t => match P.underlying t with
  | some (.int _) => some [.i]
  | some .bool => some [.b]
  | some .string => some [.s]
  | some (.struct fs) => if P.stoodInHeld t = false then flatF (flatK P d) P 0 fs.toList else none
  | some (.array n el) => match flatK P d el, tyI P el with
   | some ks, some (sz, ag) => if ks.length = sz ∧ (ag = true ∨ sz = 1) then some (flatN ks n) else none
   | _, _ => none
  | _ => none
def z81 (P:Program)(t:TypeId)(y:Operand):Option EK :=
 match P.underlying t with
 | some .bool => some .b
 | some .string => some .s
 | some (.pointer _) => match y with
  | .const (.pointer none) => some .p
  | _ => none
 | some (.func _ _ _) => match y with
  | .const .nilFunc => some .f
  | _ => none
 | some (.struct _) | some (.array _ _) => if P.eqGuardType P.depth t = false then (flatK P 5 t).map .a else none
 | _ => none

def zb (P:Program)(N:Nat)(o:Oper):Option Ins :=
  match o.op with
  | .move x => (ofOpd N x).map .mov
  | .assign x => (ofOpd N x).map .mov
  | .pick c a b => match ofOpd N c, ofOpd N a, ofOpd N b with
    | some c, some a, some b => some (.pick c a b)
    | _, _, _ => none
  | .alloc t => match (P.info? t).bind (·.zero) with
    | some z => match z with
      | .tuple _ => none
      | z => (ofL ofV z.cells.toList).map .alloc
    | _ => none
  | .box t x => match P.info? t, ofOpd N x with
    | some i, some x => some (.box i.size x)
    | _, _ => none
  | .build t ps => match P.underlying t, (P.info? t).bind (·.zero) with
    | some (.struct fs), some z =>
      match ofL ofV z.cells.toList,ofL (fun (p:Nat×Operand)=>match fs[p.1]? with
          | some f => match P.info? f.type, ofOpd N p.2 with
            | some i, some x => some (f.offset, i.size, x)
            | _, _ => none
          | _ => none) ps.toList with
      | some z, some q => if fs.toList.all (fun f => (P.info? f.type).isSome) then some (.build z q) else none
      | _, _ => none
    | some (.array _ el), some z => match P.info? el with
      | some i => match ofL ofV z.cells.toList, ofL (fun (p : Nat × Operand) => match ofOpd N p.2 with
            | some x => some (p.1 * i.size, i.size, x)
            | _ => none) ps.toList with
        | some z, some q => some (.build z q)
        | _, _ => none
      | _ => none
    | _, _ => none
  | .buildSlice t n ps => match P.underlying t with
    | some (.slice el) => match P.info? el with
      | some i => if n = 0 ∧ ps.size = 0 then some .bsl0 else
        match ofL (fun (p:Nat×Operand)=>ofOpd N p.2) ps.toList,i.zero with
        | some xs, some z => if n * i.size ≤ 2 ^ 24 ∧ 0 < n ∧ 0 < i.size ∧ z.cells.size = i.size ∧ ps.toList.map (·.1) = List.range n then some (.bsl i.size xs) else none
        | _, _ => none
      | _ => none
    | _ => none
  | .load t x => match tyI P t, ofOpd N x with
    | some (sz, ag), some x => if ag ∨ sz = 1 then some (.load sz ag x) else none
    | _, _ => none
  | .store t p x => match P.info? t, ofOpd N p, ofOpd N x with
    | some i, some p, some x => some (.store i.size p x)
    | _, _, _ => none
  | .nilCheck x => (ofOpd N x).map .nilck
  | .binOp op t x y _ => match ofOpd N x, ofOpd N y with
    | some u, some v => match op with
      | .shl => some (.sh .shl u v)
      | .shr => some (.sh .shr u v)
      | .eql => match P.underlying t with
        | some (.int _) => some (.bin .eql u v)
        | some (.slice _) => match y with
          | .const (.slice none 0 0) => some (.isnil false u)
          | _ => none
        | _ => (z81 P t y).map fun k => .eqv k false u v
      | .neq => match P.underlying t with
        | some (.int _) => some (.bin .neq u v)
        | some (.slice _) => match y with
          | .const (.slice none 0 0) => some (.isnil true u)
          | _ => none
        | _ => (z81 P t y).map fun k => .eqv k true u v
      | op => some (.bin op u v)
    | _, _ => none
  | .unOp .not _ x => (ofOpd N x).map .not
  | .convert s d x => match P.underlying s, P.underlying d, ofOpd N x with
    | some (.int _), some (.int k), some x => some (.conv k x)
    | some (.slice el), some .string, some x => match P.underlying el with
      | some (.int .u8) => some (.b2s x)
      | _ => none
    | _, _, _ => none
  | .makeFunc fn xs ys => match ofL (ofOpd N) xs.toList, ofL (ofOpd N) ys.toList with
    | some xs, some ys => some (.mkf fn xs ys)
    | _, _ => none
  | .makeSlice t l c => match P.underlying t, ofOpd N l, ofOpd N c with
    | some (.slice el), some l, some c => match P.info? el with
      | some i => match i.zero with
        | some z => match ofL ofV z.cells.toList with
          | some zs => if 0 < i.bytes ∧ 0 < i.size ∧ z.cells.size = i.size then some (.mksl i.size zs i.bytes l c) else none
          | _ => none
        | _ => none
      | _ => none
    | _, _, _ => none
  | .slice t x lo hi none => match P.underlying t, ofOpd N x with
    | some (.slice el), some x => match P.info? el with
      | some i => match lo, hi with
        | none, none => some (.slc i.size x none none)
        | some l, none => (ofOpd N l).map fun l => .slc i.size x (some l) none
        | none, some r => (ofOpd N r).map fun r => .slc i.size x none (some r)
        | some l, some r => match ofOpd N l, ofOpd N r with
          | some l, some r => some (.slc i.size x (some l) (some r))
          | _, _ => none
      | _ => none
    | _, _ => none
  | .fieldAddr s x f => match P.underlying s, ofOpd N x with
    | some (.struct fs), some x => match fs[f]? with
      | some fd => match P.info? fd.type with
        | some i => if i.size ≠ 0 then some (.faddr fd.offset x) else none
        | _ => none
      | _ => none
    | _, _ => none
  | .field s x f => match P.underlying s, ofOpd N x with
    | some (.struct fs), some x => match fs[f]? with
      | some fd => match tyI P fd.type with
        | some (sz, ag) => if ag ∨ sz = 1 then some (.fld fd.offset sz ag x) else none
        | _ => none
      | _ => none
    | _, _ => none
  | .indexAddr t x i => match P.underlying t, ofOpd N x, ofOpd N i with
    | some (.slice el), some x, some i => match P.info? el with
      | some inf => some (.iaddr inf.size x i)
      | _ => none
    | some (.array n el), some x, some i => match P.info? el with
      | some inf => some (.iaddrA n inf.size x i)
      | _ => none
    | _, _, _ => none
  | .extract x n => (ofOpd N x).map (.ext n)
  | .call c => match c.callee with
    | .builtin .len => match c.args.toList, c.argTypes[0]? with
      | [x], some t => match P.underlying t, ofOpd N x with
        | some (.slice _), some x => some (.len x)
        | _, _ => none
      | _, _ => none
    | .builtin .append => match c.args.toList, c.argTypes.toList with
      | [s, x], [t, u] => match P.underlying t, P.underlying u, ofOpd N s, ofOpd N x with
        | some (.slice el), some (.slice el'), some s, some x => match P.info? el with
          | some i => match i.zero with
            | some z => if el' = el ∧ t = u ∧ 0 < i.size ∧ 0 < i.bytes ∧ z.cells.size = i.size then some (.app i.size i.bytes s x) else none
            | _ => none
          | _ => none
        | _, _, _, _ => none
      | _, _ => none
    | .builtin .copy => match c.args.toList, c.argTypes[0]? with
      | [d, s], some t => match P.underlying t, ofOpd N d, ofOpd N s with
        | some (.slice el), some d, some s => match P.info? el with
          | some i => some (.cpy i.size d s)
          | _ => none
        | _, _, _ => none
      | _, _ => none
    | .builtin .min => match c.args.toList with
      | [x, y] => match ofOpd N x, ofOpd N y with
        | some x, some y => some (.mn x y)
        | _, _ => none
      | _ => none
    | .value (.func f) => match P.funcs[f]?, ofL (ofOpd N) c.args.toList with
      | some fn, some xs => if fn.body.isSome && fn.name != "runtime.NumGoroutine" then some (.call f xs) else none
      | _, _ => none
    | .value (.tmp t) => match ofOpd N (.tmp t), ofL (ofOpd N) c.args.toList with
      | some x, some xs => some (.callv x xs)
      | _, _ => none
    | _ => none
  | _ => none
def mkind (P:Program)(t:TypeId):Option MK :=
 match P.underlying t with
 | some (.int _) => some .i
 | some .string => some .s
 | some (.struct _) | some (.array _ _) => if P.eqGuardType P.depth t = false then (flatK P 5 t).map .a else none
 | _ => none
def z7 (P:Program)(N:Nat)(o:Oper):Option Ex :=
 match o.op with
 | .makeMap _ none => some .mkmap
 | .lookup t m k ok => match P.underlying t, ofOpd N m, ofOpd N k with
  | some (.map kt et), some m, some k => match mkind P kt, P.info? et with
   | some mk, some i => match i.zero with
    | some z => match ofV z with
     | some v => some (.look mk v ok m k)
     | none => none
    | none => none
   | _, _ => none
  | _, _, _ => none
 | .mapUpdate t m k v | .insert t m k v => match P.underlying t, ofOpd N m, ofOpd N k, ofOpd N v with
  | some (.map kt _), some m, some k, some v => (mkind P kt).map fun mk => .mput mk m k v
  | _, _, _, _ => none
 | .convert s d x => match P.underlying s, P.underlying d, ofOpd N x with
  | some .string, some (.slice el), some x => match P.underlying el with
   | some (.int .u8) => some (.s2b x)
   | _ => none
  | some (.slice el), some (.slice _), some x => match P.underlying el with
   | some (.int .u8) => if s = d then some (.strish x) else none
   | _ => none
  | _, _, _ => none
 | .makeInterface t x => match P.underlying t, ofOpd N x with
  | some (.interface _), _ => none
  | some _, some x => some (.mkif t x)
  | _, _ => none
 | .typeAssert x _ t ok => match P.underlying t, (P.info? t).bind (·.zero), ofOpd N x with
  | some (.int _), some z, some x => match ofV z with
   | some v => some (.asrt t ok v x)
   | none => none
  | _, _, _ => none
 | .slice t x lo hi (some mx) => match P.underlying t, ofOpd N x, ofOpd N mx with
  | some (.slice el), some x, some mx => match P.info? el with
   | some i => match lo, hi with
    | none, none => some (.slc3 i.size x none none mx)
    | some l, none => (ofOpd N l).map fun l => .slc3 i.size x (some l) none mx
    | none, some r => (ofOpd N r).map fun r => .slc3 i.size x none (some r) mx
    | some l, some r => match ofOpd N l, ofOpd N r with
     | some l, some r => some (.slc3 i.size x (some l) (some r) mx)
     | _, _ => none
   | _ => none
  | _, _, _ => none
 | .call c => match c.callee with
  | .builtin .len => match c.args.toList, c.argTypes[0]? with
   | [x], some t => match P.underlying t, ofOpd N x with
    | some (.map _ _), some x => some (.mlen x)
    | _, _ => none
   | _, _ => none
  | .builtin .cap => match c.args.toList, c.argTypes[0]? with
   | [x], some t => match P.underlying t, ofOpd N x with
    | some (.slice _), some x => some (.caps x)
    | _, _ => none
   | _, _ => none
  | .builtin .append => match c.args.toList, c.argTypes.toList with
   | [s, x], [t, u] => match P.underlying t, P.underlying u, ofOpd N s, ofOpd N x with
    | some (.slice el), some (.int _), some s, some x => match P.info? el with
     | some i => match i.zero with
      | some z => match ofL ofV z.cells.toList with
       | some zs => if 0 < i.size ∧ 0 < i.bytes ∧ z.cells.size = i.size then some (.appz i.size i.bytes zs s x) else none
       | none => none
      | _ => none
     | _ => none
    | _, _, _, _ => none
   | _, _ => none
  | .builtin .clear => match c.args.toList, c.argTypes[0]? with
   | [x], some t => match P.underlying t, ofOpd N x with
    | some (.slice el), some x => match P.info? el with
     | some i => match i.zero with
      | some z => match ofL ofV z.cells.toList with
       | some zs => some (.clr i.size zs x)
       | none => none
      | none => none
     | _ => none
    | _, _ => none
   | _, _ => none
  | .value (.func f) => match P.funcs[f]?, ofL (ofOpd N) c.args.toList with
   | some fn, some xs => if fn.body.isNone then some (.callx f xs) else none
   | _, _ => none
  | .invoke x nm => match ofOpd N x, ofL (ofOpd N) c.args.toList with
   | some x, some xs => some (.inv nm x xs)
   | _, _ => none
  | _ => none
 | _ => none
end Go.Abs

namespace Go.Abs
open Go

def OpOK (P:Program)(o:Oper)(a:Act)(m:Inj)(h:AHeap)(w:World)(nm:Nat)(r:Option AV)(f:Eff):Prop :=
 ∃ m' w',HR m' (f.on nm h) w'∧Step m h w m' (f.on nm h) w' ∧
  match r with
  | some v => ∃ cv, (execOp a.eval o).run P w = .ok (.value cv) w' ∧ VR m' (f.on nm h) w' v cv
  | none => (execOp a.eval o).run P w = .ok .skip w'

section
variable {P:Program}{N:Nat}{m:Inj}{h:AHeap}{w:World}{e:Env}{a:Act}{nm:Nat}{o:Oper}

theorem OpOK.pure (hr:HR m h w){v:AV}{cv:Value}(hrun:(execOp a.eval o).run P w = .ok (.value cv) w)(hv:VR m h w v cv):OpOK P o a m h w nm (some v) .none :=
 ⟨m,w,hr,Step.refl _ _ _,cv,hrun,hv⟩

theorem z18 {t:TypeId}{i:TypeInfo}(hi:P.info? t=some i)(w:World):(typeInfo t).run P w = .ok i w:=by simp [typeInfo,hi]
theorem zt {t:TypeId}{i:TypeInfo}(hi:P.info? t=some i)(w:World):(sizeOf t).run P w = .ok i.size w:=by simp [sizeOf,z18 hi]
theorem zo3 {t:TypeId}{d:TypeDesc}(hu:P.underlying t=some d)(w:World):(isAgg t).run P w = .ok (aggD d) w:=by
 simp only [isAgg,Sem.run_bind,run_underlying hu,Result.andThen_ok]
 cases d <;> simp [aggD]

theorem z66 {t:TypeId}{sz:Nat}{ag:Bool}(ht:tyI P t=some (sz,ag)):(∀ w,(sizeOf t).run P w = .ok sz w)∧(∀ w,(isAgg t).run P w = .ok ag w):=by
 unfold tyI at ht
 split at ht
 ·rename_i i d h1 h2
  cases ht
  exact ⟨fun w=>zt h1 w,fun w=>zo3 h2 w⟩
 ·cases ht

theorem zb0 {x:Operand}{f:Opd→Ins}{i:Ins}(hc:(ofOpd N x).map f=some i):∃ y,ofOpd N x=some y∧i=f y:=by
 cases hx:ofOpd N x with
 | none => simp [hx] at hc
 | some y => simp [hx] at hc; exact ⟨y, rfl, hc.symm⟩

theorem zpa (hr:HR m h w)(he:ER N m h w e a){x:Operand}{y:Opd}(ho:o.op = .move x∨o.op = .assign x)(hx:ofOpd N x=some y){r:Option AV}{f:Eff}(hv:evalI nm (.mov y) e h.get=some (r,f)) :
  OpOK P o a m h w nm r f:=by
 simp only [evalI] at hv
 split at hv
 ·rename_i v h1
  cases hv
  refine OpOK.pure hr (cv:=a.eval x) ?_ (he.eval hx h1)
  rcases ho with ho | ho <;> simp [execOp,ho]
 ·cases hv

theorem z2r {b:Bool}{c:Value}(hv:VR m h w (.bool b) c):c = .bool b:=by cases hv;rfl
theorem zm {k:IntKind}{n:Int}{c:Value}(hv:VR m h w (.int k n) c):c = .int k n:=by cases hv;rfl

theorem zs4 (hr:HR m h w)(he:ER N m h w e a){c x y:Operand}{c' x' y':Opd}(ho:o.op = .pick c x y)(h1:ofOpd N c=some c')(h2:ofOpd N x=some x')(h3:ofOpd N y=some y')
  {r:Option AV} {f:Eff} (hv:evalI nm (.pick c' x' y') e h.get=some (r,f)):OpOK P o a m h w nm r f:=by
 simp only [evalI] at hv
 split at hv
 ·rename_i t g1
  have hb:=z2r (he.eval h1 g1)
  split at hv
  ·rename_i v g2
   cases hv
   cases t
   ·simp only [Bool.false_eq_true,if_false] at g2
    exact OpOK.pure hr (by simp [execOp,ho,hb,asBool]) (he.eval h3 g2)
   ·simp only [if_true] at g2
    exact OpOK.pure hr (by simp [execOp,ho,hb,asBool]) (he.eval h2 g2)
  ·cases hv
 ·cases hv

theorem zo4 {op:BinOp}{t:TypeId}{k:IntKind}{x y:Int}{v:AV}(hb:binA op k x y=some v):∃ cv,(binOp op t (.int k x) (.int k y)).run P w = .ok cv w∧VR m h w v cv:=by
 cases op <;> simp only [binA] at hb <;> try (cases hb;done)
 case quo =>
  obtain ⟨h0,h1⟩:=z12 hb
  cases h1
  refine ⟨_,?_,.int _ _⟩
  simp [binOp_quo,Op.intDiv,h0]
 case rem =>
  obtain ⟨h0,h1⟩:=z12 hb
  cases h1
  refine ⟨_,?_,.int _ _⟩
  simp [binOp_rem,Op.intDiv,h0]
 all_goals
  cases hb
  first
   | (refine ⟨_, ?_, .int _ _⟩; simp [binOp, Op.intArith, intBits_and, intBits_or, intBits_xor, intBits_andNot]; done)
   | (refine ⟨_, ?_, .bool _⟩; simp [binOp, Op.intCmp]; done)

theorem zpb (hr:HR m h w)(he:ER N m h w e a){op:BinOp}{t u:TypeId}{x y:Operand}{x' y':Opd}(ho:o.op = .binOp op t x y u)(h1:ofOpd N x=some x')(h2:ofOpd N y=some y')
  {r:Option AV} {f:Eff} (hv:evalI nm (.bin op x' y') e h.get=some (r,f)):OpOK P o a m h w nm r f:=by
 simp only [evalI] at hv
 split at hv
 ·rename_i k i1 k' i2 g1 g2
  have e1:=zm (he.eval h1 g1)
  have e2:=zm (he.eval h2 g2)
  split at hv
  ·rename_i ek
   subst ek
   split at hv
   ·rename_i v g3
    cases hv
    obtain ⟨cv,hrun,hvr⟩:=zo4 (P:=P) (m:=m) (h:=h) (w:=w) (t:=t) g3
    refine OpOK.pure hr (cv:=cv) ?_ hvr
    simp [execOp,ho,e1,e2,eqGuard_at_int,hrun]
   ·cases hv
  ·cases hv
 ·cases hv

theorem ok_sh (hr:HR m h w)(he:ER N m h w e a){op:BinOp}{t u:TypeId}{x y:Operand}{x' y':Opd}(ho:o.op = .binOp op t x y u)(h1:ofOpd N x=some x')(h2:ofOpd N y=some y')
  {r:Option AV} {f:Eff} (hv:evalI nm (.sh op x' y') e h.get=some (r,f)):OpOK P o a m h w nm r f:=by
 simp only [evalI] at hv
 split at hv
 ·rename_i k i1 k' i2 g1 g2
  have e1:=zm (he.eval h1 g1)
  have e2:=zm (he.eval h2 g2)
  split at hv
  ·rename_i v g3
   cases hv
   cases op <;> simp only [shA] at g3 <;> try (cases g3;done)
   all_goals
    obtain ⟨h0,h3⟩:=z12 g3
    cases h3
    refine OpOK.pure hr ?_ (.int _ _)
    have h0':¬ i2 < 0:=by omega
    simp [execOp,ho,e1,e2,eqGuard_at_int,binOp_shl,binOp_shr,Op.shift,h0']
  ·cases hv
 ·cases hv

theorem ztv (hr:HR m h w)(he:ER N m h w e a){t:TypeId}{x:Operand}{x':Opd}(ho:o.op = .unOp .not t x)(h1:ofOpd N x=some x')
  {r:Option AV} {f:Eff} (hv:evalI nm (.not x') e h.get=some (r,f)):OpOK P o a m h w nm r f:=by
 simp only [evalI] at hv
 split at hv
 ·rename_i b g1
  cases hv
  have e1:=z2r (he.eval h1 g1)
  exact OpOK.pure hr (by simp [execOp,ho,e1,Op.unary]) (.bool _)
 ·cases hv

theorem zs5 (hr:HR m h w)(he:ER N m h w e a){s d:TypeId}{k k0:IntKind}(hs:P.underlying s=some (.int k0))(hd:P.underlying d=some (.int k)){x:Operand}{x':Opd}(ho:o.op = .convert s d x)(h1:ofOpd N x=some x')
  {r:Option AV} {f:Eff} (hv:evalI nm (.conv k x') e h.get=some (r,f)):OpOK P o a m h w nm r f:=by
 simp only [evalI] at hv
 split at hv
 ·rename_i k1 n g1
  cases hv
  have e1:=zm (he.eval h1 g1)
  exact OpOK.pure hr (by simp [execOp,ho,e1,convert,run_underlying hs,run_underlying hd,Conv.intToInt]) (.int _ _)
 ·cases hv

theorem ztw (hr:HR m h w)(he:ER N m h w e a){n:Nat}{x:Operand}{x':Opd}(ho:o.op = .extract x n)(h1:ofOpd N x=some x')
  {r:Option AV} {f:Eff} (hv:evalI nm (.ext n x') e h.get=some (r,f)):OpOK P o a m h w nm r f:=by
 simp only [evalI] at hv
 split at hv
 ·rename_i vs g1
  split at hv
  ·rename_i v g2
   cases hv
   have e1:=he.eval h1 g1
   generalize hcx:a.eval x=cx at e1
   cases e1 with
   | tup _ cs hl hvs =>
    have hlt:n < cs.size:=by rw [← hl];exact (List.getElem?_eq_some_iff.1 g2).1
    have:=hvs n v g2
    rw [Array.getD_eq_getD_getElem?,Array.getElem?_eq_getElem hlt] at this
    exact OpOK.pure hr (cv:=cs[n]) (by simp [execOp,ho,hcx,Instr.extract,hlt]) this
  ·cases hv
 ·cases hv

theorem ok_mn (hr:HR m h w)(he:ER N m h w e a){c:Call}{x y:Operand}{x' y':Opd}(ho:o.op = .call c)(hc:c.callee = .builtin .min)(ha:c.args.toList=[x,y])(h1:ofOpd N x=some x')(h2:ofOpd N y=some y')
  {r:Option AV} {f:Eff} (hv:evalI nm (.mn x' y') e h.get=some (r,f)):OpOK P o a m h w nm r f:=by
 simp only [evalI] at hv
 split at hv
 ·rename_i k i1 k' i2 g1 g2
  have e1:=zm (he.eval h1 g1)
  have e2:=zm (he.eval h2 g2)
  split at hv
  ·rename_i ek
   subst ek
   cases hv
   have ha':c.args=#[x,y]:=by rw [← Array.toArray_toList (xs:=c.args),ha]
   refine OpOK.pure hr ?_ (.int _ _)
   simp [execOp,ho,resolve,hc,ha',e1,e2,invoke,builtin,Builtin.min_,Builtin.min2]
  ·cases hv
 ·cases hv

theorem zqp (hr:HR m h w)(he:ER N m h w e a){x:Operand}{x':Opd}(ho:o.op = .nilCheck x)(h1:ofOpd N x=some x')
  {r:Option AV} {f:Eff} (hv:evalI nm (.nilck x') e h.get=some (r,f)):OpOK P o a m h w nm r f:=by
 simp only [evalI] at hv
 split at hv <;> cases hv
 all_goals
  rename_i g1
  have e1:=he.eval h1 g1
  generalize hcx:a.eval x=cx at e1
  have e2:=e1
  cases e1
  exact OpOK.pure hr (by simp [execOp,ho,hcx]) e2

theorem zqq (hr:HR m h w)(he:ER N m h w e a){s:TypeId}{fs:Array Field}{fi:Nat}{fd:Field}{i:TypeInfo}(hs:P.underlying s=some (.struct fs))(hf:fs[fi]? = some fd)(hi:P.info? fd.type=some i)(hz:i.size≠0)
  {x:Operand} {x':Opd} (ho:o.op = .fieldAddr s x fi) (h1:ofOpd N x=some x')
  {r:Option AV} {f:Eff} (hv:evalI nm (.faddr fd.offset x') e h.get=some (r,f)):OpOK P o a m h w nm r f:=by
 have hrun:∀ ad,(Instr.fieldAt s (.pointer (some ad)) fi).run P w = .ok (.pointer (some (ad.add fd.offset))) w:=by
  intro ad
  simp [Instr.fieldAt,run_underlying hs,hf,Instr.sureAddr,fieldPlace,zt hi,hz]
 simp only [evalI] at hv
 split at hv <;> cases hv
 ·rename_i id j off g1
  have e1:=he.eval h1 g1
  generalize hcx:a.eval x=cx at e1
  cases e1 with
  | ptr _ _ _ ad hu ha =>
   refine OpOK.pure hr (cv := .pointer (some (ad.add fd.offset))) (by simp [execOp,ho,hcx,hrun]) (.ptr _ _ _ _ hu fun sz c hg => ?_)
   obtain ⟨b,hb,rfl⟩:=ha sz c hg
   exact ⟨b,hb,by rw [Addr.add_lit];congr 1;omega⟩
 ·rename_i s' c' j off g1
  have e1:=he.eval h1 g1
  generalize hcx:a.eval x=cx at e1
  cases e1 with
  | iptr _ _ _ _ b o' F hic hl hsc hrr =>
   refine OpOK.pure hr (cv := .pointer (some (Addr.add ⟨b,o'+j*s'+off,none⟩ fd.offset))) (by simp [execOp,ho,hcx,hrun]) ?_
   have:=VR.iptr s' c' j (off+fd.offset) b o' F hic hl hsc hrr
   rw [Addr.add_lit]
   rwa [Nat.add_assoc]
end
end Go.Abs

namespace Go.Abs
open Go

section
variable {P:Program}{N:Nat}{m:Inj}{h:AHeap}{w:World}{e:Env}{a:Act}{nm:Nat}{o:Oper}

theorem zpc {id i off:Nat}{c:Value}(hv:VR m h w (.ptr id i off) c):∃ ad,c = .pointer (some ad)∧h.used id∧∀ sz c',h.get id=some (.mem sz c')→∃ b,m id=some (b,0)∧ad=⟨b,i*sz+off,none⟩:=by
 cases hv with
 | ptr _ _ _ ad hu ha => exact ⟨ad, rfl, hu, ha⟩

theorem zo5 (G:Nat→Value)(n i:Nat)(hi:i < n):(((List.range n).map G).toArray).getD i undef=G i:=by
 simp [Array.getD_eq_getD_getElem?,hi]

theorem zgt {sz:Nat}{ag:Bool}{cells:List AV}{off s:Nat}{v:AV}(hg:getC sz ag cells off=some v)(hag:ag=true∨sz=1)(hl:cells.length=s)(hsc:∀ v∈cells,v.scalar=true){G:Nat→Value}
  (hG:∀ j v,cells[off+j]? = some v→VR m h w v (G j)):off+sz≤s∧(ag=true→VR m h w v (.agg ((List.range sz).map G).toArray))∧(ag=false→VR m h w v (G 0)):=by
 unfold getC at hg
 split at hg
 ·rename_i hle
  refine ⟨by omega,fun hat => ?_,fun haf => ?_⟩
  ·subst hat
   simp at hg
   subst hg
   refine .agg _ _ (by simp;omega) (fun v hv=>hsc v (List.mem_of_mem_drop (List.mem_of_mem_take hv))) fun i v hv => ?_
   rw [List.getElem?_take] at hv
   split at hv
   ·rename_i hi
    rw [List.getElem?_drop] at hv
    rw [zo5 G sz i hi]
    exact hG i v hv
   ·cases hv
  ·subst haf
   simp at hg
   exact hG 0 v (by simpa using hg)
 ·cases hg

theorem zs6 (hr:HR m h w)(he:ER N m h w e a){t:TypeId}{sz:Nat}{ag:Bool}(ht:tyI P t=some (sz,ag))(hag:ag=true∨sz=1){x:Operand}{x':Opd}(ho:o.op = .load t x)(h1:ofOpd N x=some x')
  {r:Option AV} {f:Eff} (hv:evalI nm (.load sz ag x') e h.get=some (r,f)):OpOK P o a m h w nm r f:=by
 obtain ⟨hsz,hagg⟩:=z66 ht
 simp only [evalI] at hv
 split at hv
 ·rename_i p g1
  split at hv
  ·rename_i s c i off g2
   split at hv
   ·rename_i cells g3
    split at hv
    ·rename_i v g4
     cases hv
     obtain ⟨ad,hp,hlen,hcell⟩:=zp8 hr (he.eval h1 g1) g2
     obtain ⟨G,hG1,hG2,hsc⟩:=hcell cells g3
     have hl:=hlen cells (List.mem_of_getElem? g3)
     obtain ⟨hle,hA,hB⟩:=zgt g4 hag hl hsc hG2
     cases ag with
     | true =>
      refine OpOK.pure hr ?_ (hA rfl)
      have:=run_loadCells (P:=P) w ad sz G (fun j hj=>hG1 j (by omega))
      simp [execOp,ho,hp,Instr.loadAt,Instr.sureAddr,loadVar,hagg,hsz,this]
     | false =>
      refine OpOK.pure hr ?_ (hB rfl)
      have h10:sz=1:=by simpa using hag
      have:=hG1 0 (by omega)
      rw [Addr.add_zero'] at this
      simp [execOp,ho,hp,Instr.loadAt,Instr.sureAddr,loadVar,hagg,this]
    ·cases hv
   ·cases hv
  ·cases hv
 ·cases hv

theorem ztx (hr:HR m h w)(he:ER N m h w e a){s:TypeId}{fs:Array Field}{fi:Nat}{fd:Field}{sz:Nat}{ag:Bool}(hs:P.underlying s=some (.struct fs))(hf:fs[fi]? = some fd)(ht:tyI P fd.type=some (sz,ag))(hag:ag=true∨sz=1)
  {x:Operand} {x':Opd} (ho:o.op = .field s x fi) (h1:ofOpd N x=some x')
  {r:Option AV} {f:Eff} (hv:evalI nm (.fld fd.offset sz ag x') e h.get=some (r,f)):OpOK P o a m h w nm r f:=by
 obtain ⟨hsz,hagg⟩:=z66 ht
 simp only [evalI] at hv
 split at hv
 ·rename_i cells g1
  split at hv
  ·rename_i v g2
   cases hv
   have e1:=he.eval h1 g1
   generalize hcx:a.eval x=cx at e1
   cases e1 with
   | agg _ cs hl hsc hvs =>
    obtain ⟨hle,hA,hB⟩:=zgt (G:=fun j=>cs.getD (fd.offset+j) undef) g2 hag hl hsc (fun j v hj=>hvs _ v hj)
    cases ag with
    | true =>
     refine OpOK.pure hr (cv := .agg (cs.extract fd.offset (fd.offset+sz))) ?_ ?_
     ·simp [execOp,ho,hcx,Instr.field,run_underlying hs,hf,asAgg,part,hagg,hsz]
     ·have:=hA rfl
      have e:cs.extract fd.offset (fd.offset+sz)=(List.map (fun j=>cs.getD (fd.offset+j) undef) (List.range sz)).toArray:=by
       apply Array.ext
       ·simp;omega
       ·intro i h1 h2
        simp at h1 h2
        simp [Array.getD_eq_getD_getElem?,Array.getElem?_eq_getElem (show fd.offset+i < cs.size by omega)]
      rw [e];exact this
    | false =>
     have h10:sz=1:=by simpa using hag
     have hlt:fd.offset < cs.size:=by omega
     refine OpOK.pure hr (cv:=cs[fd.offset]) ?_ ?_
     ·simp [execOp,ho,hcx,Instr.field,run_underlying hs,hf,asAgg,part,hagg,hlt]
     ·have:=hB rfl
      simpa [Array.getD_eq_getD_getElem?,hlt] using this
  ·cases hv
 ·cases hv

theorem RowF.put {sz:Nat}{c:List (List AV)}{F G:Nat→Value}{i off:Nat}{cells vs:List AV}(hrow:RowF m h w sz c F)(hi:c[i]? = some cells)(hvs:∀ u∈vs,u.scalar=true)(hle:off+vs.length≤cells.length)
  (hG:∀ j u,vs[j]? = some u→VR m h w u (G j)):RowF m h w sz (c.set i (putC cells off vs)) (fun k=>if i*sz+off≤k∧k < i*sz+off+vs.length then G (k - (i*sz+off)) else F k):=by
 have hilt:i < c.length:=(List.getElem?_eq_some_iff.1 hi).1
 have hcl:cells.length=sz:=hrow.1 cells (List.mem_of_getElem? hi)
 have hpl:(putC cells off vs).length=sz:=by simp [putC];omega
 refine ⟨fun x hx => ?_,fun x hx => ?_,fun i' cells' hi' j v hj => ?_⟩
 ·rcases List.mem_or_eq_of_mem_set hx with hx | rfl
  ·exact hrow.1 x hx
  ·exact hpl
 ·rcases List.mem_or_eq_of_mem_set hx with hx | rfl
  ·exact hrow.2.1 x hx
  ·intro u hu
   simp only [putC,List.mem_append] at hu
   rcases hu with (hu | hu) | hu
   ·exact hrow.2.1 cells (List.mem_of_getElem? hi) u (List.mem_of_mem_take hu)
   ·exact hvs u hu
   ·exact hrow.2.1 cells (List.mem_of_getElem? hi) u (List.mem_of_mem_drop hu)
 ·dsimp only
  by_cases e:i'=i
  ·subst e
   rw [List.getElem?_set_self hilt] at hi'
   cases hi'
   simp only [putC,List.append_assoc] at hj
   by_cases h1:j < off
   ·rw [List.getElem?_append_left (by simp;omega),List.getElem?_take,if_pos h1] at hj
    rw [if_neg (by omega)]
    exact hrow.2.2 _ cells hi j v hj
   ·rw [List.getElem?_append_right (by simp;omega)] at hj
    simp only [List.length_take,Nat.min_eq_left (show off≤cells.length by omega)] at hj
    by_cases h2:j < off+vs.length
    ·rw [List.getElem?_append_left (by omega)] at hj
     rw [if_pos (by omega),show i'*sz+j - (i'*sz+off)=j - off by omega]
     exact hG _ v hj
    ·rw [List.getElem?_append_right (by omega),List.getElem?_drop] at hj
     rw [if_neg (by omega)]
     exact hrow.2.2 _ cells hi j v (by rwa [show off+vs.length+(j - off - vs.length)=j by omega] at hj)
  ·rw [List.getElem?_set_ne (fun e'=>e e'.symm)] at hi'
   have hjl:j < sz:=by rw [← hrow.1 cells' (List.mem_of_getElem? hi')];exact (List.getElem?_eq_some_iff.1 hj).1
   have hne:¬ (i*sz+off≤i'*sz+j∧i'*sz+j < i*sz+off+vs.length):=by
    intro ⟨h1,h2⟩
    rcases Nat.lt_or_gt_of_ne e with h3 | h3
    ·have:(i'+1)*sz≤i*sz:=Nat.mul_le_mul_right _ h3
     rw [Nat.add_mul] at this;omega
    ·have:(i+1)*sz≤i'*sz:=Nat.mul_le_mul_right _ h3
     rw [Nat.add_mul] at this;omega
   rw [if_neg hne]
   exact hrow.2.2 i' cells' hi' j v hj

theorem z2z (cc:Array Value)(vs:List Value)(p:Nat)(hle:p+vs.length≤cc.size)(k:Nat) :
  ((cc.toList.take p++vs++cc.toList.drop (p+vs.length)).toArray).getD k undef=if p≤k∧k < p+vs.length then vs.getD (k - p) undef else cc.getD k undef:=by
 simp only [Array.getD_eq_getD_getElem?,List.getElem?_toArray,List.append_assoc,List.getD_eq_getElem?_getD]
 by_cases h1:k < p
 ·rw [List.getElem?_append_left (by simp;omega),List.getElem?_take,if_pos h1,if_neg (by omega)]
  simp
 ·rw [List.getElem?_append_right (by simp;omega)]
  simp only [List.length_take,Array.length_toList,Nat.min_eq_left (show p≤cc.size by omega)]
  by_cases h2:k < p+vs.length
  ·rw [List.getElem?_append_left (by omega),if_pos (by omega)]
  ·rw [List.getElem?_append_right (by omega),List.getElem?_drop,if_neg (by omega)]
   rw [show p+vs.length+(k - p - vs.length)=k by omega]
   simp

theorem zb1 (hr:HR m h w){id sz:Nat}{c c':List (List AV)}{b:Nat}{cc cc':Array Value}{T:TypeId}(hid:h.get id=some (.mem sz c))(hm:m id=some (b,0))(hb:w.heap[b]? = some (.cells cc T (0,0)))
  (hs:cc'.size=cc.size) (hl:c'.length=c.length) (hsz:c.length*sz≤cc.size) (hrow:RowF m h w sz c' (fun k=>cc'.getD k undef)) :
  HR m (h.set id (some (.mem sz c'))) (w.setRow b cc')∧Step m h w m (h.set id (some (.mem sz c'))) (w.setRow b cc'):=by
 have wu:=WUpd.setRow w b cc cc' T (0,0) hb hs
 have hc:Compat (.mem sz c) (.mem sz c'):=⟨rfl,by omega⟩
 have st:=z2b hr hid hm hc wu
 exact ⟨HR.set hr hid hm hc wu ⟨b,cc',T,hm,setRow_heap w b cc cc' T (0,0) hb,by rw [hl,hs];exact hsz,hrow.step st⟩,st⟩

theorem z1u {v:AV}(hv:v.isTup=false):∀ u,v≠.tup u:=by
 intro u e;subst e;simp [AV.isTup] at hv

theorem zqr (hr:HR m h w)(he:ER N m h w e a){t:TypeId}{i:TypeInfo}(ht:P.info? t=some i){x y:Operand}{x' y':Opd}(ho:o.op = .store t x y)(h1:ofOpd N x=some x')(h2:ofOpd N y=some y')
  {r:Option AV} {f:Eff} (hv:evalI nm (.store i.size x' y') e h.get=some (r,f)):OpOK P o a m h w nm r f:=by
 simp only [evalI] at hv
 split at hv
 ·rename_i id j off v g1 g2
  split at hv
  ·rename_i s c g3
   split at hv
   ·rename_i cells g4
    split at hv
    ·rename_i hcond
     cases hv
     obtain ⟨hvl,hle,htup⟩:=hcond
     obtain ⟨ad,hp,hu,ha⟩:=zpc (he.eval h1 g1)
     obtain ⟨b,hb,rfl⟩:=ha _ _ g3
     have hy:=he.eval h2 g2
     have hvc:=z1t hy (z1u htup)
     have hone:=zkc hy (z1u htup)
     obtain ⟨b',cc,T,hb',hcc,hsz,hrow⟩:=hr.obj _ _ g3
     rw [hb] at hb'
     cases hb'
     have hjlt:j < c.length:=(List.getElem?_eq_some_iff.1 g4).1
     have hcl:cells.length=s:=hrow.1 cells (List.mem_of_getElem? g4)
     have hmul:(j+1)*s≤c.length*s:=Nat.mul_le_mul_right _ hjlt
     rw [Nat.add_mul] at hmul
     have hlen:(a.eval y).cells.toList.length=i.size:=by simp [← hvc.1,hvl]
     have hst:=run_storeCells_at P b (j*s+off) T (a.eval y).cells.toList 0 cc w hcc (by omega) hone
     simp only [Nat.add_zero] at hst
     have hrow2:RowF m h w s (c.set j (putC cells off v.cs)) (fun k=>((cc.toList.take (j*s+off)++(a.eval y).cells.toList++cc.toList.drop (j*s+off+(a.eval y).cells.toList.length)).toArray).getD k undef):=by
      refine (hrow.put (G:=fun k=>(a.eval y).cells.toList.getD k undef) g4 hvc.2.1 (by omega) (fun k u hu => ?_)).mono_eq ?_
      ·have:=hvc.2.2 k u hu
       simpa [Array.getD_eq_getD_getElem?,List.getD_eq_getElem?_getD] using this
      ·funext k
       rw [z2z cc _ _ (by omega)]
       rw [show v.cs.length=(a.eval y).cells.toList.length by omega]
     obtain ⟨hr',st⟩:=zb1 hr g3 hb hcc (cc':=(cc.toList.take (j*s+off)++(a.eval y).cells.toList++cc.toList.drop (j*s+off+(a.eval y).cells.toList.length)).toArray)
      (by simp;omega) (by simp) hsz hrow2
     refine ⟨m,_,hr',st,?_⟩
     have hcs:(a.eval y).cells.size=i.size:=by simpa using hlen
     simp only [execOp,ho,hp,Instr.storeAt,Instr.sureAddr,storeVar,Sem.run_bind,Sem.run_pure,Result.andThen_ok,zt ht,hcs,ne_eq,not_true_eq_false,if_false,hst]
    ·cases hv
   ·cases hv
  ·cases hv
 ·cases hv
end
end Go.Abs

namespace Go.Abs
open Go

section
variable {P:Program}{N:Nat}{m:Inj}{h:AHeap}{w:World}{e:Env}{a:Act}{nm:Nat}{o:Oper}

theorem z4k {cs:List Value}:∀ {z:List AV},ofL ofV cs=some z→z.length=cs.length∧(∀ v∈z,v.scalar=true)∧∀ i v,z[i]? = some v→VR m h w v (cs.getD i undef):=by
 induction cs with
 | nil => intro z hz; simp [ofL] at hz; subst hz; simp
 | cons c cs ih =>
  intro z hz
  simp only [ofL] at hz
  split at hz
  ·rename_i v vs h1 h2
   cases hz
   obtain ⟨e1,e2,e3⟩:=ih h2
   refine ⟨by simp [e1],fun u hu => ?_,fun i u hu => ?_⟩
   ·rcases List.mem_cons.1 hu with rfl | hu
    ·exact zo2 h1
    ·exact e2 u hu
   ·cases i with
    | zero => simp at hu; subst hu; simpa using zkb h1
    | succ i => simp at hu; simpa using e3 i u hu
  ·cases hz

theorem RowF.one {sz:Nat}{cells:List AV}{F:Nat→Value}(hl:cells.length=sz)(hs:∀ v∈cells,v.scalar=true)(hv:∀ j v,cells[j]? = some v→VR m h w v (F j)):RowF m h w sz [cells] F:=by
 refine ⟨fun x hx => ?_,fun x hx => ?_,fun i c hi j v hj => ?_⟩
 ·simp at hx;subst hx;exact hl
 ·simp at hx;subst hx;exact hs
 ·cases i with
  | zero => simp at hi; subst hi; simpa using hv j v hj
  | succ i => simp at hi

theorem z4l (hr:HR m h w)(hf:¬ h.used nm){sz:Nat}{c:List (List AV)}{cc:Array Value}{T:TypeId}(hsz:c.length*sz≤cc.size)(hrow:RowF m h w sz c (fun k=>cc.getD k undef)) :
  HR (upd m nm (some (w.heap.size,0))) (h.put nm (.mem sz c)) (w.alloc (.cells cc T))∧Step m h w (upd m nm (some (w.heap.size,0))) (h.put nm (.mem sz c)) (w.alloc (.cells cc T)):=by
 have st:=z4j hr hf (.mem sz c) (.cells cc T) 0
 exact ⟨HR.put hr hf ⟨w.heap.size,cc,T,by simp [upd],heap_alloc_new w _,hsz,hrow.step st⟩,st⟩
theorem zn7 {sz:Nat}{c:List (List AV)}{t:Nat}{cc:Array Value}{T:TypeId}:VR (upd m nm (some (w.heap.size,0))) (h.put nm (.mem sz c)) (w.alloc (.cells cc T)) (.ptr nm 0 0) (.pointer (some ⟨w.heap.size,0,none⟩)) :=
 .ptr _ _ _ _ z2 fun s c' _=>⟨w.heap.size,by simp [upd],by simp⟩

theorem zqs (hr:HR m h w)(hf:¬ h.used nm){t:TypeId}{i:TypeInfo}{z:Value}{zs:List AV}(hi:P.info? t=some i)(hz:i.zero=some z)(hzs:ofL ofV z.cells.toList=some zs)(ho:o.op = .alloc t)
  {r:Option AV} {f:Eff} (hv:evalI nm (.alloc zs) e h.get=some (r,f)):OpOK P o a m h w nm r f:=by
 simp only [evalI] at hv
 cases hv
 obtain ⟨hl,hsc,hvr⟩:=z4k (m:=m) (h:=h) (w:=w) hzs
 have hrow:RowF m h w zs.length [zs] (fun k=>z.cells.getD k undef):=RowF.one rfl hsc fun j v hj=>by
  have:=hvr j v hj
  simpa [Array.getD_eq_getD_getElem?,List.getD_eq_getElem?_getD] using this
 obtain ⟨hr',st⟩:=z4l (nm:=nm) (T:=t) hr hf (by simp at hl;simp [hl]) hrow
 refine ⟨_,_,hr',st,_,?_,zn7 (t:=0)⟩
 simp [execOp,ho,Instr.alloc,zeroValue,z18 hi,hz,newVar,newRow]

theorem zty (hr:HR m h w)(hf:¬ h.used nm)(he:ER N m h w e a){t:TypeId}{i:TypeInfo}(hi:P.info? t=some i){x:Operand}{x':Opd}(ho:o.op = .box t x)(h1:ofOpd N x=some x')
  {r:Option AV} {f:Eff} (hv:evalI nm (.box i.size x') e h.get=some (r,f)):OpOK P o a m h w nm r f:=by
 simp only [evalI] at hv
 split at hv
 ·rename_i v g1
  split at hv
  ·rename_i hc
   cases hv
   have hvc:=z1t (he.eval h1 g1) (z1u hc.2)
   have hrow:RowF m h w i.size [v.cs] (fun k=>(a.eval x).cells.getD k undef):=RowF.one hc.1 hvc.2.1 hvc.2.2
   obtain ⟨hr',st⟩:=z4l (nm:=nm) (T:=t) hr hf (by simp [← hvc.1,hc.1]) hrow
   refine ⟨_,_,hr',st,_,?_,zn7 (t:=0)⟩
   simp [execOp,ho,Instr.box,newVar,newRow]
  ·cases hv
 ·cases hv

theorem ztz {s:AV}{c:Value}(hv:VR m h w s c){g:Nat→Option AObj}{n:Nat}(hn:rdL g s=some n):∃ ad cap,c = .slice ad n cap:=by
 cases hv <;> simp only [rdL] at hn <;> cases hn <;> exact ⟨_,_,rfl⟩

theorem zu0 (hr:HR m h w)(he:ER N m h w e a){c:Call}{x:Operand}{x':Opd}{t el:TypeId}(ho:o.op = .call c)(hc:c.callee = .builtin .len)(ha:c.args.toList=[x])(hat:c.argTypes[0]? = some t)(hu:P.underlying t=some (.slice el))(h1:ofOpd N x=some x')
  {r:Option AV} {f:Eff} (hv:evalI nm (.len x') e h.get=some (r,f)):OpOK P o a m h w nm r f:=by
 simp only [evalI] at hv
 split at hv
 ·rename_i s g1
  split at hv
  ·rename_i n g2
   cases hv
   obtain ⟨ad,cap,hs⟩:=ztz (he.eval h1 g1) g2
   have ha':c.args=#[x]:=by rw [← Array.toArray_toList (xs:=c.args),ha]
   refine OpOK.pure hr ?_ (.int _ _)
   simp [execOp,ho,resolve,hc,ha',invoke,builtin,Builtin.len_,hat,hs,run_underlying hu,goInt]
  ·cases hv
 ·cases hv

theorem zs7 (hr:HR m h w){t el:TypeId}{i:TypeInfo}(hu:P.underlying t=some (.slice el))(hi:P.info? el=some i)(ho:o.op = .buildSlice t 0 #[])
  {r:Option AV} {f:Eff} (hv:evalI nm .bsl0 e h.get=some (r,f)):OpOK P o a m h w nm r f:=by
 simp only [evalI] at hv
 cases hv
 refine ⟨m,w.alloc (.cells #[] el),hr.alloc _,z3n hr _,_,?_,.nils1 ⟨w.heap.size,0,none⟩⟩
 simp [execOp,ho,Instr.buildSlice,run_underlying hu,zt hi,Instr.fill,newRow,Array.range_zero']

theorem zu1 (hr:HR m h w)(he:ER N m h w e a){fn:Fn}{xs ys:Array Operand}{xs' ys':List Opd}(ho:o.op = .makeFunc fn xs ys)(h1:ofL (ofOpd N) xs.toList=some xs')(h2:ofL (ofOpd N) ys.toList=some ys')
  {r:Option AV} {f:Eff} (hv:evalI nm (.mkf fn xs' ys') e h.get=some (r,f)):OpOK P o a m h w nm r f:=by
 simp only [evalI] at hv
 split at hv
 ·rename_i vs us g1 g2
  cases hv
  obtain ⟨e1,e2⟩:=he.evalL h1 g1
  obtain ⟨e3,e4⟩:=he.evalL h2 g2
  refine OpOK.pure hr (cv := .func fn (xs.map a.eval) (ys.map a.eval)) (by simp [execOp,ho,Instr.makeFunc]) (.func _ _ _ _ _ (by simp [e1]) (by simp [e3]) (fun i v hi => ?_) (fun i v hi => ?_))
  ·have:=e2 i v hi;simpa [Array.getD_eq_getD_getElem?,List.getD_eq_getElem?_getD] using this
  ·have:=e4 i v hi;simpa [Array.getD_eq_getD_getElem?,List.getD_eq_getElem?_getD] using this
 ·cases hv

theorem zqt (hr:HR m h w)(he:ER N m h w e a){t el:TypeId}{i:TypeInfo}(hu:P.underlying t=some (.slice el))(hi:P.info? el=some i){x y:Operand}{x' y':Opd}(ho:o.op = .indexAddr t x y)(h1:ofOpd N x=some x')(h2:ofOpd N y=some y')
  {r:Option AV} {f:Eff} (hv:evalI nm (.iaddr i.size x' y') e h.get=some (r,f)):OpOK P o a m h w nm r f:=by
 have hrun:∀ (ad:Addr) (len cap:Nat) (k:IntKind) (n:Int),0≤n→n < (len:Int)→(Instr.indexAt t (.slice (some ad) len cap) (.int k n)).run P w = .ok (.pointer (some (ad.add (n.toNat*i.size)))) w:=by
  intro ad len cap k n h0 hn
  simp [Instr.indexAt,run_underlying hu,asIntOf,h0,hn,zt hi]
 simp only [evalI] at hv
 split at hv
 ·rename_i s c k n g1 g2
  obtain ⟨⟨rfl,h0,hn⟩,hv'⟩:=z12 hv
  cases hv'
  have e2:=zm (he.eval h2 g2)
  have e1:=he.eval h1 g1
  generalize hcx:a.eval x=cx at e1
  cases e1 with
  | imm0 => simp at hn; omega
  | imm1 => simp at hn; omega
  | imm _ _ b o' cap F hic hl hs hrr hc =>
   refine OpOK.pure hr (cv := .pointer (some (Addr.add ⟨b,o',none⟩ (n.toNat*i.size)))) (by simp [execOp,ho,hcx,e2,hrun _ _ _ _ _ h0 hn]) ?_
   rw [Addr.add_lit]
   exact VR.iptr i.size c n.toNat 0 b o' F hic hl hs hrr
 ·rename_i id s c k n g1 g2
  obtain ⟨⟨rfl,h0,hn⟩,hv'⟩:=z12 hv
  cases hv'
  have e2:=zm (he.eval h2 g2)
  have e1:=he.eval h1 g1
  generalize hcx:a.eval x=cx at e1
  cases e1 with
  | app0 => simp at hn; omega
  | app1 => simp at hn; omega
  | app _ _ _ _ b cap F hu' hic hl hs hrr hc ht =>
   refine OpOK.pure hr (cv := .pointer (some (Addr.add ⟨b,0,none⟩ (n.toNat*i.size)))) (by simp [execOp,ho,hcx,e2,hrun _ _ _ _ _ h0 hn]) ?_
   rw [Addr.add_lit]
   exact VR.iptr i.size c n.toNat 0 b 0 F hic hl hs hrr
 ·rename_i id off l k n g1 g2
  split at hv
  ·rename_i s c g3
   obtain ⟨⟨rfl,h0,hn⟩,hv'⟩:=z12 hv
   cases hv'
   have e2:=zm (he.eval h2 g2)
   have e1:=he.eval h1 g1
   generalize hcx:a.eval x=cx at e1
   cases e1 with
   | ref _ _ _ cap ad hu' hc ha =>
    refine OpOK.pure hr (cv := .pointer (some (Addr.add ad (n.toNat*i.size)))) (by simp [execOp,ho,hcx,e2,hrun _ _ _ _ _ h0 hn]) (.ptr _ _ _ _ hu' fun sz c' hg => ?_)
    obtain ⟨b,hb,hle,had,_⟩:=ha sz c' hg
    rw [g3] at hg
    cases hg
    rcases had with h00 | rfl
    ·omega
    ·exact ⟨b,hb,by rw [Addr.add_lit,Nat.add_mul];rfl⟩
  ·cases hv
 ·cases hv

theorem zpd (hr:HR m h w)(he:ER N m h w e a){t el:TypeId}{i:TypeInfo}{len:Nat}(hu:P.underlying t=some (.array len el))(hi:P.info? el=some i){x y:Operand}{x' y':Opd}(ho:o.op = .indexAddr t x y)(h1:ofOpd N x=some x')(h2:ofOpd N y=some y')
  {r:Option AV} {f:Eff} (hv:evalI nm (.iaddrA len i.size x' y') e h.get=some (r,f)):OpOK P o a m h w nm r f:=by
 have hrun:∀ (ad:Addr) (k:IntKind) (n:Int),0≤n→n < (len:Int)→(Instr.indexAt t (.pointer (some ad)) (.int k n)).run P w = .ok (.pointer (some (ad.add (n.toNat*i.size)))) w:=by
  intro ad k n h0 hn
  simp [Instr.indexAt,run_underlying hu,asIntOf,Instr.sureAddr,h0,hn,zt hi]
 simp only [evalI] at hv
 split at hv
 ·rename_i id j off k n g1 g2
  obtain ⟨⟨h0,hn⟩,hv'⟩:=z12 hv
  cases hv'
  have e2:=zm (he.eval h2 g2)
  obtain ⟨ad,hp,hu',ha⟩:=zpc (he.eval h1 g1)
  refine OpOK.pure hr (cv := .pointer (some (ad.add (n.toNat*i.size)))) (by simp [execOp,ho,hp,e2,hrun _ _ _ h0 hn]) (.ptr _ _ _ _ hu' fun sz c hg => ?_)
  obtain ⟨b,hb,rfl⟩:=ha sz c hg
  exact ⟨b,hb,by rw [Addr.add_lit];congr 1;omega⟩
 ·rename_i s c j off k n g1 g2
  obtain ⟨⟨h0,hn⟩,hv'⟩:=z12 hv
  cases hv'
  have e2:=zm (he.eval h2 g2)
  have e1:=he.eval h1 g1
  generalize hcx:a.eval x=cx at e1
  cases e1 with
  | iptr _ _ _ _ b o' F hic hl hsc hrr =>
   refine OpOK.pure hr (cv := .pointer (some (Addr.add ⟨b,o'+j*s+off,none⟩ (n.toNat*i.size)))) (by simp [execOp,ho,hcx,e2,hrun _ _ _ h0 hn]) ?_
   have:=VR.iptr s c j (off+n.toNat*i.size) b o' F hic hl hsc hrr
   rw [Addr.add_lit]
   rwa [Nat.add_assoc]
 ·cases hv

theorem zgu {dflt:Nat}{e:Env}(he:ER N m h w e a){x:Operand}{x':Opd}(h1:ofOpd N x=some x'){n:Nat}(hb:bnd e dflt (some x')=some n):∃ k,a.eval x = .int k (n:Int):=by
 simp only [bnd] at hb
 split at hb
 ·rename_i k i g
  obtain ⟨h0,hb⟩:=z12 hb
  cases hb
  exact ⟨k,by rw [zm (he.eval h1 g),Int.toNat_of_nonneg h0]⟩
 ·cases hb

def OOpd (N:Nat):Option Operand→Option Opd→Prop
 | none, none => True
 | some x, some x' => ofOpd N x = some x'
 | _, _ => False
theorem zo6 (he:ER N m h w e a){len cap l r:Nat}{lo hi:Option Operand}{lo' hi':Option Opd}(hlo:OOpd N lo lo')
  (hhi:OOpd N hi hi') (bl:bnd e 0 lo'=some l) (br:bnd e len hi'=some r) (hlr:l≤r) (hrc:r≤len) (hlc:len≤cap) :
  (Instr.sliceBounds true len cap (lo.map a.eval) (hi.map a.eval) none).run P w = .ok (l,r,cap) w:=by
 have sb:∀ k (i:Nat) (y:Nat) (cd:BoundsCode),i≤y→(Instr.sliceBound (.int k (i:Int)) y cd).run P w = .ok i w:=by
  intro k i y cd hiy
  have:=run_sliceBound (P:=P) w k (i:Int) y cd (by omega) (by omega)
  simpa using this
 cases lo <;> cases lo' <;> simp only [OOpd] at hlo
 ·cases hi <;> cases hi' <;> simp only [OOpd] at hhi
  ·simp [bnd] at bl br;subst bl;subst br;simp [Instr.sliceBounds]
  ·obtain ⟨k,ek⟩:=zgu he hhi br
   simp [bnd] at bl;subst bl
   simp [Instr.sliceBounds,ek,sb _ _ _ _ (show r≤cap by omega)]
 ·obtain ⟨k,ek⟩:=zgu he hlo bl
  cases hi <;> cases hi' <;> simp only [OOpd] at hhi
  ·simp [bnd] at br;subst br
   simp [Instr.sliceBounds,ek,sb _ _ _ _ (show l≤len by omega)]
  ·obtain ⟨k2,ek2⟩:=zgu he hhi br
   simp [Instr.sliceBounds,ek,ek2,sb _ _ _ _ (show r≤cap by omega),sb _ _ _ _ hlr]

theorem IC.sub {own:Nat→Nat→Prop}{b o n:Nat}{F:Nat→Value}(hic:IC w own b o n F)(d k:Nat)(hk:d+k≤n):IC w own b (o+d) k (fun j=>F (d+j)):=by
 intro j hj
 have:=hic (d+j) (by omega)
 rwa [← Nat.add_assoc] at this

theorem zgv {sz:Nat}{c:List (List AV)}{F:Nat→Value}{b o' l r:Nat}(hic:IC w (Own m h) b o' (c.length*sz) F)(hl:Len sz c)(hs:Scal c)
  (hrr:∀ (i:Nat) (cells:List AV),c[i]? = some cells→∀ (j:Nat) (v:AV),cells[j]? = some v→VR m h w v (F (i*sz+j))) (hlr:l≤r) (hrc:r≤c.length) (cap:Nat) (hcap:r - l≤cap) :
  VR m h w (.imm sz ((c.take r).drop l)) (.slice (some ⟨b,o'+l*sz,none⟩) (r - l) cap):=by
 have hrow:RowF m h w sz ((c.take r).drop l) (fun k=>F (l*sz+k)):=(RowF.take (F:=F) ⟨hl,hs,hrr⟩ r).drop l
 have hlen:((c.take r).drop l).length=r - l:=by simp;omega
 have:=VR.imm (m:=m) (h:=h) (w:=w) sz ((c.take r).drop l) b (o'+l*sz) cap (fun k=>F (l*sz+k)) (hic.sub _ _ (by rw [hlen,← Nat.add_mul];exact Nat.mul_le_mul_right _ (by omega))) hrow.1 hrow.2.1 hrow.2.2 (by omega)
 rwa [hlen] at this

theorem zf1 (hr:HR m h w)(he:ER N m h w e a){t el:TypeId}{i:TypeInfo}(hu:P.underlying t=some (.slice el))(hi:P.info? el=some i){x:Operand}{x':Opd}{lo hi':Option Operand}{lo' hj':Option Opd}(ho:o.op = .slice t x lo hi' none)(h1:ofOpd N x=some x')
  (hlo:OOpd N lo lo') (hhi:OOpd N hi' hj')
  {r:Option AV} {f:Eff} (hv:evalI nm (.slc i.size x' lo' hj') e h.get=some (r,f)):OpOK P o a m h w nm r f:=by
 have hrun:∀ ad len cap l r,bnd e 0 lo'=some l→bnd e len hj'=some r→l≤r→r≤len→len≤cap→a.eval x = .slice ad len cap →
   (execOp a.eval o).run P w = .ok (.value (.slice (if cap=l then ad else ad.map (·.add (l*i.size))) (r - l) (cap - l))) w:=by
  intro ad len cap l r bl br hlr hrc hlc hx
  have:=zo6 (P:=P) he hlo hhi bl br hlr hrc hlc
  simp [execOp,ho,hx,Instr.sliceAt,run_underlying hu,Instr.slice,this,zt hi]
 simp only [evalI] at hv
 split at hv
 ·rename_i g1
  split at hv
  ·rename_i l q bl br
   obtain ⟨⟨rfl,rfl⟩,hv'⟩:=z12 hv
   cases hv'
   have e1:=he.eval h1 g1
   generalize hcx:a.eval x=cx at e1
   cases e1 with
   | nils0 => exact OpOK.pure hr (hrun _ 0 0 0 0 bl br (Nat.le_refl _) (Nat.le_refl _) (Nat.le_refl _) hcx) (by simp; exact .nils0)
   | nils1 ad => exact OpOK.pure hr (hrun _ 0 0 0 0 bl br (Nat.le_refl _) (Nat.le_refl _) (Nat.le_refl _) hcx) (by simp; exact .nils1 _)
  ·cases hv
 ·rename_i s c g1
  split at hv
  ·rename_i l q bl br
   obtain ⟨⟨rfl,hlr,hrc⟩,hv'⟩:=z12 hv
   cases hv'
   have e1:=he.eval h1 g1
   generalize hcx:a.eval x=cx at e1
   cases e1 with
   | imm0 =>
    simp at hrc;subst hrc;simp at hlr;subst hlr
    exact OpOK.pure hr (hrun _ 0 0 0 0 bl br (Nat.le_refl _) (Nat.le_refl _) (Nat.le_refl _) hcx) (by simp;exact .imm0 _)
   | imm1 _ ad cap =>
    simp at hrc;subst hrc;simp at hlr;subst hlr
    refine OpOK.pure hr (hrun _ 0 cap 0 0 bl br (Nat.le_refl _) (Nat.le_refl _) (Nat.zero_le _) hcx) ?_
    have:(if cap=0 then some ad else Option.map (fun x=>x.add (0*i.size)) (some ad))=some ad:=by simp [Addr.add]
    rw [this];simp;exact .imm1 _ _ _
   | imm _ _ b o' cap F hic hl hs hrr hc =>
    refine OpOK.pure hr (hrun _ _ cap l q bl br hlr hrc hc hcx) ?_
    by_cases hcl:cap=l
    ·have hq:q=l:=by omega
     subst hq
     rw [if_pos hcl]
     have:(c.take q).drop q=[]:=by simp
     rw [this]
     simp
     exact .imm1 _ _ _
    ·rw [if_neg hcl]
     simp only [Option.map_some,Addr.add_lit]
     exact zgv hic hl hs hrr hlr hrc _ (by omega)
  ·cases hv
 ·rename_i id s c g1
  split at hv
  ·rename_i l q bl br
   obtain ⟨⟨rfl,hlr,hrc⟩,hv'⟩:=z12 hv
   cases hv'
   have e1:=he.eval h1 g1
   generalize hcx:a.eval x=cx at e1
   cases e1 with
   | app0 =>
    simp at hrc;subst hrc;simp at hlr;subst hlr
    exact OpOK.pure hr (hrun _ 0 0 0 0 bl br (Nat.le_refl _) (Nat.le_refl _) (Nat.le_refl _) hcx) (by simp;exact .imm0 _)
   | app1 _ _ _ ad =>
    simp at hrc;subst hrc;simp at hlr;subst hlr
    exact OpOK.pure hr (hrun _ 0 0 0 0 bl br (Nat.le_refl _) (Nat.le_refl _) (Nat.le_refl _) hcx) (by simp;exact .imm1 _ _ _)
   | app _ _ _ _ b cap F hu' hic hl hs hrr hc ht =>
    refine OpOK.pure hr (hrun _ _ cap l q bl br hlr hrc hc hcx) ?_
    by_cases hcl:cap=l
    ·have hq:q=l:=by omega
     subst hq
     rw [if_pos hcl]
     have:(c.take q).drop q=[]:=by simp
     rw [this]
     simp
     exact .imm1 _ _ _
    ·rw [if_neg hcl]
     simp only [Option.map_some,Addr.add_lit]
     exact zgv hic hl hs hrr hlr hrc _ (by omega)
  ·cases hv
 ·rename_i id off n g1
  split at hv
  ·rename_i s c g2
   split at hv
   ·rename_i l q bl br
    obtain ⟨⟨rfl,hlr,hrc⟩,hv'⟩:=z12 hv
    cases hv'
    have e1:=he.eval h1 g1
    generalize hcx:a.eval x=cx at e1
    cases e1 with
    | ref _ _ _ cap ad hu' hc ha =>
     have hx:=hrun _ _ cap l q bl br hlr hrc hc hcx
     have key:∀ ad',(if cap=l then some ad else Option.map (fun x=>x.add (l*i.size)) (some ad))=some ad'→VR m h w (.ref id (off+l) (q - l)) (.slice (some ad') (q - l) (cap - l)):=by
      intro ad' hadd
      refine .ref _ _ _ _ _ hu' (by omega) fun sz c' hg => ?_
      obtain ⟨b,hb,hle,had,cc,T,hcc,hsz⟩:=ha sz c' hg
      rw [g2] at hg
      cases hg
      refine ⟨b,hb,by omega,?_,cc,T,hcc,?_⟩
      ·by_cases hcl:cap=l
       ·left;omega
       ·rw [if_neg hcl] at hadd
        simp only [Option.map_some,Option.some.injEq] at hadd
        rcases had with h0 | rfl
        ·left;omega
        ·right;rw [← hadd,Addr.add_lit,Nat.add_mul]
      ·rw [show off+l+(cap - l)=off+cap by omega];exact hsz
     by_cases hcl:cap=l
     ·exact OpOK.pure hr hx (by rw [if_pos hcl];exact key _ (by rw [if_pos hcl]))
     ·refine OpOK.pure hr hx ?_
      rw [if_neg hcl]
      simp only [Option.map_some]
      exact key _ (by rw [if_neg hcl];rfl)
   ·cases hv
  ·cases hv
 ·cases hv
end
end Go.Abs

namespace Go.Abs
open Go

section
variable {P:Program}{N:Nat}{m:Inj}{h:AHeap}{w:World}{e:Env}{a:Act}{nm:Nat}{o:Oper}

theorem z82 (off:Nat):∀ (vs:List Value) (s:Nat) (cells:Array Value),
  ((vs.zipIdx s).foldl (fun (cs:Array Value) (p:Value×Nat)=>cs.setIfInBounds (off+p.2) p.1) cells).size=cells.size ∧
  ∀ k,((vs.zipIdx s).foldl (fun (cs:Array Value) (p:Value×Nat)=>cs.setIfInBounds (off+p.2) p.1) cells).getD k undef=if off+s≤k∧k < off+s+vs.length∧k < cells.size then vs.getD (k - (off+s)) undef else cells.getD k undef
 | [], s, cells => by
  refine ⟨rfl,fun k => ?_⟩
  rw [if_neg (by simp;omega)]
  rfl
 | v :: vs, s, cells => by
  obtain ⟨h1,h2⟩:=z82 off vs (s+1) (cells.setIfInBounds (off+s) v)
  simp only [List.zipIdx_cons,List.foldl_cons]
  refine ⟨by rw [h1];simp,fun k => ?_⟩
  rw [h2 k]
  simp only [Array.size_setIfInBounds,List.length_cons,Array.getD_eq_getD_getElem?,List.getD_eq_getElem?_getD]
  by_cases h3:k=off+s
  ·subst h3
   rw [if_neg (by omega)]
   by_cases h4:off+s < cells.size
   ·rw [if_pos (by omega),Array.getElem?_setIfInBounds_self_of_lt h4]
    simp
   ·rw [if_neg (by omega),Array.getElem?_setIfInBounds]
    simp [h4]
  ·rw [Array.getElem?_setIfInBounds_ne (fun e=>h3 e.symm)]
   by_cases h5:off+(s+1)≤k∧k < off+(s+1)+vs.length∧k < cells.size
   ·rw [if_pos h5,if_pos (by omega)]
    rw [show k - (off+s)=(k - (off+(s+1)))+1 by omega]
    simp
   ·rw [if_neg h5,if_neg (by omega)]

theorem zi7 (off:Nat)(v:Array Value)(cells:Array Value)(hle:off+v.size≤cells.size) :
  (v.zipIdx.foldl (fun (cs:Array Value) (p:Value×Nat)=>cs.setIfInBounds (off+p.2) p.1) cells).size=cells.size ∧
  ∀ k,(v.zipIdx.foldl (fun (cs:Array Value) (p:Value×Nat)=>cs.setIfInBounds (off+p.2) p.1) cells).getD k undef=if off≤k∧k < off+v.size then v.getD (k - off) undef else cells.getD k undef:=by
 rw [← Array.foldl_toList,Array.toList_zipIdx]
 obtain ⟨h1,h2⟩:=z82 off v.toList 0 cells
 refine ⟨h1,fun k => ?_⟩
 rw [h2 k]
 simp only [Array.length_toList,Nat.add_zero]
 by_cases h3:off≤k∧k < off+v.size
 ·rw [if_pos h3,if_pos (by omega)]
  simp [Array.getD_eq_getD_getElem?,List.getD_eq_getElem?_getD]
 ·rw [if_neg h3,if_neg (by omega)]

theorem zqu {cells vs:List AV}{off k:Nat}(hle:off+vs.length≤cells.length):(putC cells off vs)[k]? = if off≤k∧k < off+vs.length then vs[k - off]? else cells[k]? := by
 simp only [putC,List.append_assoc]
 by_cases h1:k < off
 ·rw [List.getElem?_append_left (by simp;omega),List.getElem?_take,if_pos h1,if_neg (by omega)]
 ·rw [List.getElem?_append_right (by simp;omega)]
  simp only [List.length_take,Nat.min_eq_left (show off≤cells.length by omega)]
  by_cases h2:k < off+vs.length
  ·rw [List.getElem?_append_left (by omega),if_pos (by omega)]
  ·rw [List.getElem?_append_right (by omega),List.getElem?_drop,if_neg (by omega)]
   congr 1
   omega

theorem zgw (place:Nat→Option (Nat×Nat)):∀ (ps:List (Nat×Nat×AV)) (qs:List (Nat×Value)) (cells:List AV) (cs:Array Value) (out:List AV),
    ps.length=qs.length→(∀ (k off sz:Nat) (v:AV),ps[k]? = some (off,sz,v)→∃ (i:Nat) (c:Value),qs[k]? = some (i,c)∧place i=some (off,sz)∧VR m h w v c) →
    cells.length=cs.size→(∀ v∈cells,v.scalar=true)→(∀ (k:Nat) (v:AV),cells[k]? = some v→VR m h w v (cs.getD k undef))→fillA cells ps=some out →
    ∃ ocs,Instr.fill place cs qs=some ocs∧out.length=ocs.size∧(∀ v∈out,v.scalar=true)∧(∀ (k:Nat) (v:AV),out[k]? = some v→VR m h w v (ocs.getD k undef))
  | [], qs, cells, cs, out, hl, _, hcl, hsc, hvr, ho => by
    cases qs with
    | nil => simp [fillA] at ho; subst ho; exact ⟨cs, rfl, hcl, hsc, hvr⟩
    | cons q qs => simp at hl
  | (off, sz, v) :: ps, qs, cells, cs, out, hl, hq, hcl, hsc, hvr, ho => by
    cases qs with
    | nil => simp at hl
    | cons q qs =>
      obtain ⟨i,c⟩:=q
      obtain ⟨i',c',hq0,hp,hv⟩:=hq 0 off sz v rfl
      simp at hq0
      obtain ⟨rfl,rfl⟩:=hq0
      simp only [fillA] at ho
      split at ho
      · rename_i hcond
        obtain ⟨h1,h2,h3⟩:=hcond
        have hvc:=z1t hv (z1u h3)
        have hcsz:c.cells.size=sz:=by rw [← hvc.1];exact h1
        obtain ⟨f1,f2⟩:=zi7 off c.cells cs (by omega)
        have hput:(putC cells off v.cs).length=cells.length:=by simp [putC];omega
        obtain ⟨ocs,r1,r2,r3,r4⟩:=zgw place ps qs (putC cells off v.cs) (c.cells.zipIdx.foldl (fun (cs:Array Value) (p:Value×Nat)=>cs.setIfInBounds (off+p.2) p.1) cs) out (by simpa using hl)
          (fun k o s u hk=>by simpa using hq (k+1) o s u hk) (by rw [f1,hput];exact hcl)
          (fun u hu=>by
            simp only [putC,List.mem_append] at hu
            rcases hu with (hu | hu) | hu
            · exact hsc u (List.mem_of_mem_take hu)
            · exact hvc.2.1 u hu
            · exact hsc u (List.mem_of_mem_drop hu))
          (fun k u hk=>by
            rw [zqu (by omega)] at hk
            rw [f2 k]
            by_cases hin:off≤k∧k < off+v.cs.length
            · rw [if_pos hin] at hk
              rw [if_pos (by omega)]
              exact hvc.2.2 _ u hk
            · rw [if_neg hin] at hk
              rw [if_neg (by omega)]
              exact hvr k u hk) ho
        refine ⟨ocs,?_,r2,r3,r4⟩
        have hne:¬ (c.cells.size≠sz∨off+c.cells.size > cs.size):=by omega
        simp only [Instr.fill,hp]
        rw [if_neg (by simpa using hne)]
        exact r1
      · cases ho

theorem zke {e:Env}{N:Nat}{g:Nat→Option (Nat×Nat)}(he:ER N m h w e a):∀ {ps:List (Nat×Operand)} {q:List (Nat×Nat×Opd)} {f:Nat×Operand→Option (Nat×Nat×Opd)},
  (∀ p off sz y,f p=some (off,sz,y)→g p.1=some (off,sz)∧ofOpd N p.2=some y)→ofL f ps=some q→∀ {vs:List (Nat×Nat×AV)},evP e q=some vs →
  vs.length=ps.length∧∀ (k off sz:Nat) (v:AV),vs[k]? = some (off,sz,v)→∃ i c,(ps.map fun (p:Nat×Operand)=>(p.1,a.eval p.2))[k]? = some (i,c)∧g i=some (off,sz)∧VR m h w v c:=by
 intro ps
 induction ps with
 | nil => intro q f _ hq vs hvs; simp [ofL] at hq; subst hq; simp [evP] at hvs; subst hvs; simp
 | cons p ps ih =>
  intro q f hf hq vs hvs
  simp only [ofL] at hq
  split at hq
  ·rename_i y ys h1 h2
   cases hq
   obtain ⟨off,sz,y⟩:=y
   simp only [evP] at hvs
   split at hvs
   ·rename_i v vs' g1 g2
    cases hvs
    obtain ⟨e1,e2⟩:=ih hf h2 g2
    obtain ⟨hp,ho⟩:=hf p off sz y h1
    refine ⟨by simp [e1],fun k off' sz' u hu => ?_⟩
    cases k with
    | zero => simp at hu; obtain ⟨rfl, rfl, rfl⟩ := hu; exact ⟨p.1, a.eval p.2, by simp, hp, he.eval ho g1⟩
    | succ k => simp at hu; simpa using e2 k off' sz' u hu
   ·cases hvs
  ·cases hq

theorem zf2 (hr:HR m h w)(he:ER N m h w e a){t:TypeId}{it:TypeInfo}{fs:Array Field}{z:Value}{zs:List AV}{ps:Array (Nat×Operand)}{q:List (Nat×Nat×Opd)}(hu:P.underlying t=some (.struct fs))(hi:P.info? t=some it)(hz:it.zero=some z)
    (hzs:ofL ofV z.cells.toList=some zs) (hall:fs.toList.all (fun f=>(P.info? f.type).isSome)=true)
    (hq:ofL (fun (p:Nat×Operand)=>match fs[p.1]? with
        | some f => match P.info? f.type, ofOpd N p.2 with
          | some i, some x => some (f.offset, i.size, x)
          | _, _ => none
        | _ => none) ps.toList = some q) (ho : o.op = .build t ps)
    {r:Option AV} {f:Eff} (hv:evalI nm (.build zs q) e h.get=some (r,f)):OpOK P o a m h w nm r f:=by
  simp only [evalI] at hv
  split at hv
  · rename_i vs g1
    split at hv
    · rename_i cells g2
      cases hv
      obtain ⟨hzl,hzsc,hzv⟩:=z4k (m:=m) (h:=h) (w:=w) hzs
      obtain ⟨places,hpl⟩:∃ places,fs.toList.mapM (fun f=>(P.info? f.type).map fun i=>(f.offset,i.size))=some places:=by
        have:∀ (l:List Field),l.all (fun f=>(P.info? f.type).isSome)=true→∃ places,l.mapM (fun f=>(P.info? f.type).map fun i=>(f.offset,i.size))=some places:=by
          intro l
          induction l with
          | nil => intro _; exact ⟨[], rfl⟩
          | cons x l ih =>
            intro hx
            simp only [List.all_cons,Bool.and_eq_true] at hx
            obtain ⟨i,hi⟩:=Option.isSome_iff_exists.1 hx.1
            obtain ⟨pl,hpl⟩:=ih hx.2
            exact ⟨(x.offset,i.size)::pl,by simp [List.mapM_cons,hi,hpl]⟩
        exact this _ hall
      have hget:∀ (l:List Field) (pl:List (Nat×Nat)),l.mapM (fun f=>(P.info? f.type).map fun i=>(f.offset,i.size))=some pl→∀ (k:Nat) (f:Field) (i:TypeInfo),l[k]? = some f→P.info? f.type=some i→pl[k]? = some (f.offset,i.size):=by
        intro l
        induction l with
        | nil => intro pl _ k f i hk; simp at hk
        | cons x l ih =>
          intro pl hpl k f i hk hf
          simp only [List.mapM_cons,Option.bind_eq_bind,Option.pure_def] at hpl
          cases hx:P.info? x.type with
          | none => simp [hx] at hpl
          | some ix =>
            cases hr':l.mapM (fun f=>(P.info? f.type).map fun i=>(f.offset,i.size)) with
            | none => simp [hx, hr'] at hpl
            | some rest =>
              simp [hx,hr'] at hpl
              subst hpl
              cases k with
              | zero => simp at hk; subst hk; rw [hx] at hf; cases hf; rfl
              | succ k => simp at hk; simpa using ih rest hr' k f i hk hf
      obtain ⟨e1,e2⟩:=zke (g:=(places.toArray[·]?)) he (fun p off sz y hf=>by
        split at hf
        · rename_i fd hfd
          split at hf
          · rename_i i x hi' hx
            cases hf
            refine ⟨?_,hx⟩
            have:=hget fs.toList places hpl p.1 fd i (by simpa using hfd) hi'
            simpa using this
          · cases hf
        · cases hf) hq g1
      obtain ⟨ocs,r1,r2,r3,r4⟩:=zgw (m:=m) (h:=h) (w:=w) (places.toArray[·]?) vs (ps.toList.map fun (p:Nat×Operand)=>(p.1,a.eval p.2)) zs z.cells cells (by simp [e1]) e2 (by simpa using hzl) hzsc
        (fun k v hk=>by have:=hzv k v hk;simpa [Array.getD_eq_getD_getElem?,List.getD_eq_getElem?_getD] using this) g2
      refine OpOK.pure hr (cv := .agg ocs) ?_ (.agg _ _ r2 r3 r4)
      have hb:P.built t (ps.map fun (p:Nat×Operand)=>(p.1,a.eval p.2)).toList=some ocs:=by
        simp only [Program.built,hi,hu,hz,hpl]
        simpa using r1
      have:=run_build (P:=P) w t (ps.map fun (p:Nat×Operand)=>(p.1,a.eval p.2)) ocs hb
      simp [execOp,ho,this]
    · cases hv
  · cases hv

theorem zgx (hr:HR m h w)(he:ER N m h w e a){t el:TypeId}{it ie:TypeInfo}{n:Nat}{z:Value}{zs:List AV}{ps:Array (Nat×Operand)}{q:List (Nat×Nat×Opd)}(hu:P.underlying t=some (.array n el))(hi:P.info? t=some it)(hie:P.info? el=some ie)(hz:it.zero=some z)
    (hzs:ofL ofV z.cells.toList=some zs)
    (hq:ofL (fun (p:Nat×Operand)=>match ofOpd N p.2 with
            | some x => some (p.1 * ie.size, ie.size, x)
            | _ => none) ps.toList = some q) (ho : o.op = .build t ps)
    {r:Option AV} {f:Eff} (hv:evalI nm (.build zs q) e h.get=some (r,f)):OpOK P o a m h w nm r f:=by
  simp only [evalI] at hv
  split at hv
  · rename_i vs g1
    split at hv
    · rename_i cells g2
      cases hv
      obtain ⟨hzl,hzsc,hzv⟩:=z4k (m:=m) (h:=h) (w:=w) hzs
      obtain ⟨e1,e2⟩:=zke (g:=fun i=>some (i*ie.size,ie.size)) he (fun p off sz y hf=>by
        split at hf
        · rename_i x hx
          cases hf
          exact ⟨rfl,hx⟩
        · cases hf) hq g1
      obtain ⟨ocs,r1,r2,r3,r4⟩:=zgw (m:=m) (h:=h) (w:=w) (fun i=>some (i*ie.size,ie.size)) vs (ps.toList.map fun (p:Nat×Operand)=>(p.1,a.eval p.2)) zs z.cells cells (by simp [e1]) e2 (by simpa using hzl) hzsc
        (fun k v hk=>by have:=hzv k v hk;simpa [Array.getD_eq_getD_getElem?,List.getD_eq_getElem?_getD] using this) g2
      refine OpOK.pure hr (cv := .agg ocs) ?_ (.agg _ _ r2 r3 r4)
      have hb:P.built t (ps.map fun (p:Nat×Operand)=>(p.1,a.eval p.2)).toList=some ocs:=by
        simp only [Program.built,hi,hu,hz,hie]
        simpa using r1
      have:=run_build (P:=P) w t (ps.map fun (p:Nat×Operand)=>(p.1,a.eval p.2)) ocs hb
      simp [execOp,ho,this]
    · cases hv
  · cases hv

theorem ze1 (size:Nat):∀ (qs:List (Nat×Value)) (s:Nat) (cells:Array Value),qs.map (·.1)=List.range' s qs.length→(∀ q∈qs,q.2.cells.size=size)→(s+qs.length)*size≤cells.size →
    ∃ out,Instr.fill (fun i=>some (i*size,size)) cells qs=some out∧out.size=cells.size∧(∀ k,k < s*size→out.getD k undef=cells.getD k undef) ∧
      ∀ i q,qs[i]? = some q→∀ j,j < size→out.getD ((s+i)*size+j) undef=q.2.cells.getD j undef
  | [], s, cells, _, _, _ => ⟨cells, rfl, rfl, fun _ _ => rfl, fun i q hq => by simp at hq⟩
  | (i0, v) :: qs, s, cells, hi, hs, hle => by
    simp only [List.map_cons,List.length_cons,List.range'_succ,List.cons.injEq] at hi
    obtain ⟨rfl,hi⟩:=hi
    have hv:v.cells.size=size:=hs (i0,v) (by simp)
    have h1:(i0+1)*size≤cells.size:=Nat.le_trans (Nat.mul_le_mul_right _ (by simp)) hle
    rw [Nat.add_mul] at h1
    obtain ⟨f1,f2⟩:=zi7 (i0*size) v.cells cells (by omega)
    obtain ⟨out,r1,r2,r3,r4⟩:=ze1 size qs (i0+1) _ hi (fun q hq=>hs q (by simp [hq])) (by rw [f1];simp only [List.length_cons] at hle;rwa [show i0+1+qs.length=i0+(qs.length+1) by omega])
    refine ⟨out,?_,r2.trans f1,fun k hk => ?_,fun i q hq j hj => ?_⟩
    · simp only [Instr.fill]
      rw [if_neg (by simp;omega)]
      exact r1
    · rw [r3 k (by rw [Nat.add_mul];omega),f2 k,if_neg (by omega)]
    · cases i with
      | zero =>
        simp at hq
        subst hq
        rw [Nat.add_zero,r3 _ (by rw [Nat.add_mul];omega),f2,if_pos (by omega)]
        congr 1
        omega
      | succ i =>
        simp at hq
        have:=r4 i q hq j hj
        rwa [show i0+(i+1)=i0+1+i by omega]

theorem zdb {sz:Nat}:∀ {vs:List AV} {c:List (List AV)},z2y sz vs=some c→c.length=vs.length∧∀ (i:Nat) (v:AV),vs[i]? = some v→c[i]? = some v.cs∧v.cs.length=sz∧v.isTup=false:=by
 intro vs
 induction vs with
 | nil => intro c hc; simp [z2y] at hc; subst hc; simp
 | cons v vs ih =>
  intro c hc
  simp only [z2y] at hc
  split at hc
  ·rename_i hcond
   cases hr:z2y sz vs with
   | none => simp [hr] at hc
   | some c' =>
    simp [hr] at hc
    subst hc
    obtain ⟨h1,h2⟩:=ih hr
    refine ⟨by simp [h1],fun i u hu => ?_⟩
    cases i with
    | zero => simp at hu; subst hu; exact ⟨by simp, hcond⟩
    | succ i => simp at hu; simpa using h2 i u hu
  ·cases hc

theorem zu2 (hr:HR m h w)(he:ER N m h w e a){t el:TypeId}{i:TypeInfo}{z:Value}{n:Nat}{ps:Array (Nat×Operand)}{xs:List Opd}(hu:P.underlying t=some (.slice el))(hi:P.info? el=some i)(hz:i.zero=some z)
  (hxs:ofL (fun (p:Nat×Operand)=>ofOpd N p.2) ps.toList=some xs) (hbig:n*i.size≤2 ^ 24) (hn:0 < n) (hsz:0 < i.size) (hzs:z.cells.size=i.size) (hidx:ps.toList.map (·.1)=List.range n) (ho:o.op = .buildSlice t n ps)
  {r:Option AV} {f:Eff} (hv:evalI nm (.bsl i.size xs) e h.get=some (r,f)):OpOK P o a m h w nm r f:=by
 have ofL_map:∀ (l:List (Nat×Operand)) {ys:List Opd},ofL (fun (p:Nat×Operand)=>ofOpd N p.2) l=some ys→ofL (ofOpd N) (l.map (·.2))=some ys:=by
  intro l
  induction l with
  | nil => intro ys hy; simpa [ofL] using hy
  | cons p l ih =>
   intro ys hy
   simp only [ofL] at hy
   split at hy
   ·rename_i y ys' h1 h2
    cases hy
    simp [ofL,h1,ih h2]
   ·cases hy
 simp only [evalI] at hv
 split at hv
 ·rename_i vs g1
  split at hv
  ·rename_i c g2
   cases hv
   obtain ⟨e1,e2⟩:=he.evalL (ofL_map _ hxs) g1
   obtain ⟨c1,c2⟩:=zdb g2
   have hpl:ps.toList.length=n:=by have:=congrArg List.length hidx;simpa using this
   have hvl:vs.length=n:=by simp at e1;simpa [e1] using hpl
   have key:∀ (k:Nat) (v:AV),vs[k]? = some v→∃ p:Nat×Operand,ps.toList[k]? = some p∧VR m h w v (a.eval p.2)∧v.cs.length=i.size∧v.isTup=false∧c[k]? = some v.cs:=by
    intro k v hk
    have hlt:k < ps.toList.length:=by rw [hpl,← hvl];exact (List.getElem?_eq_some_iff.1 hk).1
    refine ⟨ps.toList[k],List.getElem?_eq_getElem hlt,?_,(c2 k v hk).2.1,(c2 k v hk).2.2,(c2 k v hk).1⟩
    have:=e2 k v hk
    simpa [List.getD_eq_getElem?_getD,List.getElem?_eq_getElem hlt,List.getElem?_map] using this
   obtain ⟨out,r1,r2,r3,r4⟩:=ze1 i.size (ps.toList.map fun (p:Nat×Operand)=>(p.1,a.eval p.2)) 0 ((Array.range (n*i.size)).map (z.cells[· % z.cells.size]!))
    (by simp only [List.map_map,List.length_map,hpl];rw [show ((fun x:Nat×Value=>x.1) ∘ fun p:Nat×Operand=>(p.1,a.eval p.2))=(·.1) from rfl,hidx,List.range_eq_range'])
    (fun q hq=>by
     obtain ⟨k,hk,rfl⟩:=List.mem_iff_getElem.1 hq
     simp only [List.length_map] at hk
     have hkv:k < vs.length:=by omega
     obtain ⟨p,hp,hvr,hl,ht,_⟩:=key k vs[k] (List.getElem?_eq_getElem hkv)
     have:=(z1t hvr (z1u ht)).1
     have hp':ps.toList[k]=p:=by simpa [List.getElem?_eq_getElem hk] using hp
     simp only [List.getElem_map,hp']
     omega)
    (by simp [hpl])
   have hne:¬ (n*i.size=0):=by have:=Nat.mul_pos hn hsz;omega
   refine ⟨m,w.alloc (.cells out el),hr.alloc _,z3n hr _,.slice (some ⟨w.heap.size,0,none⟩) n n,?_,?_⟩
   ·have hbig':¬ (16777216 < n*i.size):=by simp at hbig;omega
    have r1':=r1
    simp only [execOp,ho,Instr.buildSlice,Sem.run_bind,Sem.run_pure,Result.andThen_ok,run_underlying hu,zt hi,zeroValue,z18 hi,hz]
    simp only [show (2:Nat) ^ 24=16777216 from rfl,gt_iff_lt,hbig',if_false,hne,Sem.run_bind,Sem.run_pure,Result.andThen_ok,z18 hi,hz]
    have hmap:(ps.map fun (x:Nat×Operand)=>(x.1,a.eval x.2)).toList=ps.toList.map fun (p:Nat×Operand)=>(p.1,a.eval p.2):=by simp
    rw [hmap,r1']
    simp [newRow]
   ·have st:=z3n hr (.cells out el)
    have hcl:c.length=n:=by omega
    have hmem:∀ x∈c,∃ (k:Nat) (v:AV),vs[k]? = some v∧x=v.cs:=by
     intro x hx
     obtain ⟨k,hk,rfl⟩:=List.mem_iff_getElem.1 hx
     have hkv:k < vs.length:=by omega
     have:=(c2 k _ (List.getElem?_eq_getElem hkv)).1
     exact ⟨k,vs[k],List.getElem?_eq_getElem hkv,by rw [List.getElem?_eq_getElem hk] at this;simpa using this⟩
    have:=VR.imm (m:=m) (h:=h) (w:=w.alloc (.cells out el)) i.size c w.heap.size 0 n (fun k=>out.getD k undef) (fun k hk=>⟨?_,?_⟩) (fun x hx => ?_) (fun x hx => ?_) (fun k cells hk j u hj => ?_) (by omega)
    ·rwa [hcl] at this
    ·rw [Nat.zero_add,World.cell?_alloc_new]
     have hlt:k < out.size:=by rw [r2];simp;rw [hcl] at hk;exact hk
     simp [Array.getD_eq_getD_getElem?,hlt]
    ·rintro ⟨id,t',⟨x,hx⟩,hmx,_⟩
     have:=(hr.obj id x hx).lt hmx
     omega
    ·obtain ⟨k,v,hk,rfl⟩:=hmem x hx
     exact (c2 k v hk).2.1
    ·obtain ⟨k,v,hk,rfl⟩:=hmem x hx
     obtain ⟨p,hp,hvr,_,ht,_⟩:=key k v hk
     exact (z1t hvr (z1u ht)).2.1
    ·have hkl:k < vs.length:=by have:=(List.getElem?_eq_some_iff.1 hk).1;omega
     obtain ⟨p,hp,hvr,hl,ht,hck⟩:=key k vs[k] (List.getElem?_eq_getElem hkl)
     rw [hk] at hck
     cases hck
     have hjl:j < i.size:=by rw [← hl];exact (List.getElem?_eq_some_iff.1 hj).1
     have:=r4 k (p.1,a.eval p.2) (by simp [hp]) j hjl
     rw [Nat.zero_add] at this
     rw [this]
     exact ((z1t hvr (z1u ht)).2.2 j u hj).step st
  ·cases hv
 ·cases hv

theorem zs8 (hr:HR m h w)(hf:¬ h.used nm)(he:ER N m h w e a){t el:TypeId}{i:TypeInfo}{z:Value}{zs:List AV}(hu:P.underlying t=some (.slice el))(hi:P.info? el=some i)(hz:i.zero=some z)(hzs:ofL ofV z.cells.toList=some zs)(hb:0 < i.bytes)(hsz:0 < i.size)(hzz:z.cells.size=i.size)
  {x y:Operand} {x' y':Opd} (ho:o.op = .makeSlice t x y) (h1:ofOpd N x=some x') (h2:ofOpd N y=some y')
  {r:Option AV} {f:Eff} (hv:evalI nm (.mksl i.size zs i.bytes x' y') e h.get=some (r,f)):OpOK P o a m h w nm r f:=by
 simp only [evalI] at hv
 split at hv
 ·rename_i k n k' n' g1 g2
  obtain ⟨⟨h0,rfl,hbig⟩,hv'⟩:=z12 hv
  cases hv'
  have e1:=zm (he.eval h1 g1)
  have e2:=zm (he.eval h2 g2)
  obtain ⟨hzl,hzsc,hzv⟩:=z4k (m:=m) (h:=h) (w:=w) hzs
  have hzl':zs.length=i.size:=by simpa [hzz] using hzl
  have hn63:n≤140737488355328:=by
   have h2:n*1≤n*(i.bytes:Int):=Int.mul_le_mul_of_nonneg_left (by omega) h0
   omega
  have hrun:=run_make (P:=P) w t el i z hu hi hz k k' n n h0 (Int.le_refl _) (by rw [Int.mul_comm];omega) (by omega)
  have hrow:RowF m h w i.size (List.replicate n.toNat zs) (fun k=>(madeCells z.cells (n.toNat*i.size)).getD k undef):=by
   refine ⟨fun x hx=>by rw [List.eq_of_mem_replicate hx];exact hzl',fun x hx=>by rw [List.eq_of_mem_replicate hx];exact hzsc,fun q cells hq j v hj => ?_⟩
   have hql:q < n.toNat:=by simpa using (List.getElem?_eq_some_iff.1 hq).1
   have hc:cells=zs:=List.eq_of_mem_replicate (List.mem_of_getElem? hq)
   subst hc
   have hjl:j < i.size:=by rw [← hzl'];exact (List.getElem?_eq_some_iff.1 hj).1
   have hlt:=z65 hql hjl
   have:=hzv j v hj
   simp only [madeCells,Array.getD_eq_getD_getElem?]
   rw [Array.getElem?_map,Array.getElem?_range,if_pos hlt]
   simp only [Option.map_some,Option.getD_some]
   have hmod:(q*i.size+j) % z.cells.size=j:=by rw [hzz,Nat.mul_comm,Nat.mul_add_mod,Nat.mod_eq_of_lt hjl]
   rw [hmod]
   simpa [List.getD_eq_getElem?_getD,Array.getElem?_eq_getElem (show j < z.cells.size by omega),getElem!_pos z.cells j (by omega)] using this
  obtain ⟨hr',st⟩:=z4l (nm:=nm) (T:=el) hr hf (by rw [size_madeCells];simp) hrow
  refine ⟨_,_,hr',st,.slice (some ⟨w.heap.size,0,none⟩) n.toNat n.toNat,by simp [execOp,ho,e1,e2,hrun],.ref _ _ _ _ _ z2 (Nat.le_refl _) fun sz c hg => ?_⟩
  simp only [Eff.on,AHeap.put,if_true,Option.some.injEq,AObj.mem.injEq] at hg
  obtain ⟨rfl,rfl⟩:=hg
  exact ⟨w.heap.size,by simp [upd],by simp,.inr (by simp),_,el,heap_alloc_new w _,by rw [size_madeCells];simp⟩
 ·cases hv
end
end Go.Abs

namespace Go.Abs
open Go

section
variable {P:Program}{N:Nat}{m:Inj}{h:AHeap}{w:World}{e:Env}{a:Act}{nm:Nat}{o:Oper}

theorem z67 (hr:HR m h w){s:AV}{cs:Value}(hv:VR m h w s cs){sz:Nat}{d:List (List AV)}(hp:rdS h.get sz s=some d) :
  ∃ ad cap F,cs = .slice ad d.length cap∧d.length≤cap∧RowF m h w sz d F∧(∀ u∈(List.range (d.length*sz)).map F,u.oneCell'=true)∧(d≠[]→∃ b o,ad=some ⟨b,o,none⟩∧∀ j v,((List.range (d.length*sz)).map F)[j]? = some v→w.cell? ((⟨b,o,none⟩:Addr).add j)=some v):=by
 obtain ⟨ad,cap,rfl,hcap,F,hrow,hcell⟩:=zp9 hr hv hp
 refine ⟨ad,cap,F,rfl,hcap,hrow,fun u hu => ?_,fun hne => ?_⟩
 ·simp only [List.mem_map,List.mem_range] at hu
  obtain ⟨k,hk,rfl⟩:=hu
  have hsz:0 < sz:=by
   rcases Nat.eq_zero_or_pos sz with e | e
   ·subst e;simp at hk
   ·exact e
  have h1:k / sz < d.length:=by rw [Nat.div_lt_iff_lt_mul hsz];exact hk
  have h2:k % sz < sz:=Nat.mod_lt _ hsz
  have hl:=hrow.1 d[k / sz] (List.getElem_mem h1)
  have h3:k % sz < d[k / sz].length:=by omega
  have:=hrow.2.2 (k / sz) d[k / sz] (List.getElem?_eq_getElem h1) (k % sz) _ (List.getElem?_eq_getElem h3)
  rw [Nat.mul_comm,Nat.div_add_mod] at this
  exact this.scalar_one (hrow.2.1 _ (List.getElem_mem h1) _ (List.getElem_mem h3))
 ·obtain ⟨b,o,rfl,hc⟩:=hcell hne
  refine ⟨b,o,rfl,fun j v hj => ?_⟩
  have hj':=hj
  rw [List.getElem?_map] at hj
  have hlt:j < d.length*sz:=by simpa using (List.getElem?_eq_some_iff.1 hj').1
  rw [List.getElem?_range hlt] at hj
  simp at hj
  subst hj
  rw [Addr.add_lit]
  exact hc j hlt

theorem z70 (t ty el:TypeId)(i:TypeInfo)(ht:P.underlying t=some (.slice el))(hi:P.info? el=some i)(base ad:Option Addr)(sLen sCap cap:Nat)(hle:sLen≤sCap) :
  (Builtin.append_ #[t,t] ty #[.slice base sLen sCap,.slice ad 0 cap]).run P w = .ok (.slice base sLen sCap) w:=by
 cases ad <;> cases base <;> simp [Builtin.append_,run_underlying ht,zt hi,Builtin.lenOf,hle,Builtin.firstCells,loadCells,loadCellsFrom,storeCells]

theorem z68 (t ty el T:TypeId)(i:TypeInfo)(ht:P.underlying t=some (.slice el))(hi:P.info? el=some i)
  (g sLen sCap:Nat) (cur:Array Value) (hg:w.heap[g]? = some (.cells cur T (0,0)))
  (ad:Addr) (n c:Nat) (news:List Value) (hl:news.length=n*i.size) (hnews:∀ j u,news[j]? = some u→w.cell? (ad.add j)=some u) (h1:∀ u∈news,u.oneCell'=true)
  (hroom:sLen+n≤sCap) (hfit:sLen*i.size+news.length≤cur.size) :
  (Builtin.append_ #[t,t] ty #[.slice (some ⟨g,0,none⟩) sLen sCap,.slice (some ad) n c]).run P w =
   .ok (.slice (some ⟨g,0,none⟩) (sLen+n) sCap) (w.setRow g (cur.toList.take (sLen*i.size)++news++cur.toList.drop (sLen*i.size+news.length)).toArray):=by
 have hf:=run_firstCells_some (P:=P) w i.size n ad n c news hl hnews
 have hst:=run_storeCells_at P g (sLen*i.size) T news 0 cur w hg (by simpa using hfit) h1
 simp only [Nat.add_zero] at hst
 simp [Builtin.append_,run_underlying ht,sizeOf,typeInfo,hi,Builtin.lenOf,hroom,hf,Addr.add_lit,hst]

theorem zkf {id j:Nat}{x:Option AObj}:(h.set id x).used j ↔ h.used j:=Iff.rfl

theorem zpe (hr:HR m h w)(hf:¬ h.used nm){sz cap:Nat}{d:List (List AV)}{F:Nat→Value}{cc:Array Value}{T:TypeId}(hrow:RowF m h w sz d F)(hcap:d.length≤cap)(hcc:cap*sz≤cc.size)
  (hF:∀ k,k < d.length*sz→cc[k]? = some (F k)) :
  HR (upd m nm (some (w.heap.size,d.length*sz))) (h.put nm (.tail 0 d.length)) (w.drew.alloc (.cells cc T))∧Step m h w (upd m nm (some (w.heap.size,d.length*sz))) (h.put nm (.tail 0 d.length)) (w.drew.alloc (.cells cc T)) ∧
   VR (upd m nm (some (w.heap.size,d.length*sz))) (h.put nm (.tail 0 d.length)) (w.drew.alloc (.cells cc T)) (.app nm 0 sz d) (.slice (some ⟨w.heap.size,0,none⟩) d.length cap):=by
 have hr1:=hr.drew
 have st:=Step.trans (step_drew (m:=m) (h:=h) (w:=w)) (z4j hr1 hf (.tail 0 d.length) (.cells cc T) (d.length*sz))
 have hrr:=HR.put (t:=d.length*sz) (o := .cells cc T) (x := .tail 0 d.length) hr1 hf (fun b s hb=>by
  simp only [upd,if_true] at hb
  cases hb
  exact ⟨cc,T,heap_alloc_new w.drew _⟩)
 refine ⟨hrr,st,.app nm 0 sz d w.heap.size cap F z2 (fun k hk=>⟨?_,?_⟩) hrow.1 hrow.2.1 (fun i cells hi j v hj=>(hrow.2.2 i cells hi j v hj).step st) hcap fun g' n' hg => ?_⟩
 ·rw [Nat.zero_add]
  have:=World.cell?_alloc_new w.drew cc T k
  rw [show w.drew.heap.size=w.heap.size from rfl] at this
  rw [this]
  exact hF k hk
 ·rintro ⟨id,t,⟨x,hx⟩,hmx,hle⟩
  by_cases e:id=nm
  ·subst e;simp only [upd,if_true] at hmx;cases hmx;omega
  ·simp only [AHeap.put,if_neg e] at hx
   simp only [upd,if_neg e] at hmx
   have:=(hr.obj id x hx).lt hmx
   omega
 ·simp only [AHeap.put,if_true,Option.some.injEq,AObj.tail.injEq] at hg
  obtain ⟨rfl,rfl⟩:=hg
  exact ⟨Nat.le_refl _,fun _=>⟨Nat.le_refl _,fun _=>⟨by simp [upd],cc,T,heap_alloc_new w.drew _,hcc⟩⟩⟩
theorem z96 {id:Nat}{x:AObj}(hg:h.get id=some x):h.set id (some x)=h:=by
 cases h with
 | mk get next gap =>
  simp only [AHeap.set,AHeap.mk.injEq,and_true]
  funext j
  split
  ·rename_i e;subst e;exact hg.symm
  ·rfl
theorem zkg (hr:HR m h w){id g n:Nat}(hid:h.get id=some (.tail g n)){sz cap:Nat}{d:List (List AV)}{F:Nat→Value}{cc:Array Value}{T:TypeId}(hrow:RowF m h w sz d F)(hn:n < d.length)(hcap:d.length≤cap)(hcc:cap*sz≤cc.size)
  (hF:∀ k,k < d.length*sz→cc[k]? = some (F k)) :
  HR (upd m id (some (w.heap.size,d.length*sz))) (h.set id (some (.tail g d.length))) (w.drew.alloc (.cells cc T))∧Step m h w (upd m id (some (w.heap.size,d.length*sz))) (h.set id (some (.tail g d.length))) (w.drew.alloc (.cells cc T)) ∧
   VR (upd m id (some (w.heap.size,d.length*sz))) (h.set id (some (.tail g d.length))) (w.drew.alloc (.cells cc T)) (.app id g sz d) (.slice (some ⟨w.heap.size,0,none⟩) d.length cap):=by
 have hr1:=hr.drew
 have hns:¬ Same (.tail g n) (.tail g d.length):=fun e=>by have:=e.2;omega
 have hcm:Compat (.tail g n) (.tail g d.length) := .inr ⟨rfl,by omega⟩
 have st:=Step.trans (step_drew (m:=m) (h:=h) (w:=w)) (zn6 hr1 hid hcm hns (.cells cc T) (d.length*sz))
 refine ⟨HR.mv hr1 hid hcm hns cc T _,st,.app id g sz d w.heap.size cap F (hr.live _ _ hid) (fun k hk=>⟨?_,?_⟩) hrow.1 hrow.2.1 (fun i cells hi j v hj=>(hrow.2.2 i cells hi j v hj).step st) hcap fun g' n' hg => ?_⟩
 ·rw [Nat.zero_add]
  have:=World.cell?_alloc_new w.drew cc T k
  rw [show w.drew.heap.size=w.heap.size from rfl] at this
  rw [this]
  exact hF k hk
 ·rintro ⟨j,t,⟨x,hx⟩,hmx,hle⟩
  by_cases e:j=id
  ·subst e;simp only [upd,if_true] at hmx;cases hmx;omega
  ·simp only [AHeap.set,if_neg e] at hx
   simp only [upd,if_neg e] at hmx
   have:=(hr.obj j x hx).lt hmx
   omega
 ·simp only [AHeap.set,if_true,Option.some.injEq,AObj.tail.injEq] at hg
  obtain ⟨rfl,rfl⟩:=hg
  exact ⟨Nat.le_refl _,fun _=>⟨Nat.le_refl _,fun _=>⟨by simp [upd],cc,T,heap_alloc_new w.drew _,hcc⟩⟩⟩

theorem z4w (F:Nat→Value)(n k:Nat)(hk:k < n)(zs:Array Value):(((List.range n).map F).toArray++zs)[k]? = some (F k):=by
 rw [Array.getElem?_append_left (by simp;exact hk)]
 simp [hk]

theorem zb2 (hr:HR m h w)(hf:¬ h.used nm){t ty el:TypeId}{i:TypeInfo}{z:Value}(hu:P.underlying t=some (.slice el))(hi:P.info? el=some i)(hz:i.zero=some z)(hsz:0 < i.size)(hb:0 < i.bytes)(hzz:z.cells.size=i.size)
  {base:Option Addr} {x:AV} {cx:Value} (hx:VR m h w x cx) {d:List (List AV)} (hd:rdS h.get i.size x=some d) (hbig:d.length*i.bytes≤140737488355328) :
  ∃ m' w' cv,(Builtin.append_ #[t,t] ty #[.slice base 0 0,cx]).run P w = .ok cv w'∧HR m' (h.put nm (.tail 0 d.length)) w'∧Step m h w m' (h.put nm (.tail 0 d.length)) w'∧VR m' (h.put nm (.tail 0 d.length)) w' (.app nm 0 i.size d) cv:=by
 obtain ⟨ad,cap,F,rfl,hcap,hrow,h1c,hcell⟩:=z67 hr hx hd
 by_cases hne:d=[]
 ·subst hne
  have tk:TokC (h.put nm (.tail 0 0)) nm 0 0 (upd m nm none nm=none):=fun g' n' hg=>by
   simp only [AHeap.put,if_true,Option.some.injEq,AObj.tail.injEq] at hg
   exact ⟨by omega,fun _=>⟨by omega,fun _=>by simp [upd]⟩⟩
  refine ⟨upd m nm none,w,.slice base 0 0,z70 t ty el i hu hi base ad 0 0 cap (Nat.le_refl _),hr.putv hf,z3f hr hf,?_⟩
  cases base with
  | none => exact .app0 _ _ _ z2 tk
  | some b => exact .app1 _ _ _ _ z2 tk
 ·obtain ⟨b,o',rfl,hc⟩:=hcell hne
  have hpos:0 < d.length:=List.length_pos_iff.2 hne
  have hn1:d.length*1≤d.length*i.bytes:=Nat.mul_le_mul_left _ hb
  have hg:=grownCap_ge w d.length 0 el
  have hsize:∀ n,d.length≤n→n*i.size≤(((List.range (d.length*i.size)).map F).toArray++Builtin.zeroCells z.cells (n - d.length)).size:=by
   intro n hn
   simp only [Array.size_append,List.size_toArray,List.length_map,List.length_range,size_zeroCells,hzz,← Nat.add_mul]
   exact Nat.mul_le_mul_right _ (by omega)
  obtain ⟨r1,r2,r3⟩:=zpe (T:=el) hr hf hrow hg (hsize _ hg) (fun k hk=>z4w F _ k hk _)
  cases base with
  | none =>
   exact ⟨_,_,_,run_append_nil (P:=P) w t ty el i z hu hi hz ⟨b,o',none⟩ d.length cap _ (by simp) hc hpos (by omega) (by omega),r1,r2,r3⟩
  | some bb =>
   have hrun:=run_append_grow (P:=P) w t ty el i z hu hi hz bb 0 0 [] (by simp) (by simp) ⟨b,o',none⟩ d.length cap ((List.range (d.length*i.size)).map F) (by simp) hc (by omega) (by omega) (growslice_fits (by omega) (by rw [Nat.zero_add];exact hbig))
   simp only [Nat.zero_add,Array.empty_append] at hrun
   exact ⟨_,_,_,hrun,r1,r2,r3⟩

theorem zo7 (hr:HR m h w){t ty el:TypeId}{i:TypeInfo}{z:Value}(hu:P.underlying t=some (.slice el))(hi:P.info? el=some i)(hz:i.zero=some z)(hsz:0 < i.size)(hb:0 < i.bytes)(hzz:z.cells.size=i.size)
  {id g:Nat} {c:List (List AV)} {cs:Value} (hs:VR m h w (.app id g i.size c) cs) (hid:h.get id=some (.tail g c.length)) {x:AV} {cx:Value} (hx:VR m h w x cx) {d:List (List AV)} (hd:rdS h.get i.size x=some d) (hbig:(c.length+d.length)*i.bytes≤140737488355328) :
  ∃ m' w' cv,(Builtin.append_ #[t,t] ty #[cs,cx]).run P w = .ok cv w'∧HR m' (h.set id (some (.tail g (c.length+d.length)))) w'∧Step m h w m' (h.set id (some (.tail g (c.length+d.length)))) w'∧VR m' (h.set id (some (.tail g (c.length+d.length)))) w' (.app id g i.size (c++d)) cv:=by
 obtain ⟨ad,capx,G,rfl,hcapx,hrow,h1c,hcell⟩:=z67 hr hx hd
 by_cases hd0:d=[]
 ·subst hd0
  have e1:h.set id (some (.tail g (c.length+([]:List (List AV)).length)))=h:=z96 hid
  rw [e1,List.append_nil]
  have hq:∃ bb n cp,cs = .slice bb n cp∧n≤cp:=by
   cases hs with
   | app0 => exact ⟨_, _, _, rfl, Nat.le_refl _⟩
   | app1 => exact ⟨_, _, _, rfl, Nat.le_refl _⟩
   | app _ _ _ _ b cap F hu' hic hl hsc hrr hc ht => exact ⟨_, _, _, rfl, hc⟩
  obtain ⟨bb,n,cp,rfl,hle⟩:=hq
  exact ⟨m,w,_,z70 t ty el i hu hi bb ad n cp capx hle,hr,Step.refl _ _ _,hs⟩
 obtain ⟨b2,o2,rfl,hc2⟩:=hcell hd0
 have hposd:0 < d.length:=List.length_pos_iff.2 hd0
 have hn1:(c.length+d.length)*1≤(c.length+d.length)*i.bytes:=Nat.mul_le_mul_left _ hb
 have hcl:(c++d).length=c.length+d.length:=List.length_append
 -- the row in a new block
 have fresh:∀ (base:Addr) (cap:Nat) (F:Nat→Value),RowF m h w i.size c F→c.length≤cap→cap < c.length+d.length→(∀ j v,((List.range (c.length*i.size)).map F)[j]? = some v→w.cell? (base.add j)=some v) →
   ∃ m' w' cv,(Builtin.append_ #[t,t] ty #[.slice (some base) c.length cap,.slice (some ⟨b2,o2,none⟩) d.length capx]).run P w = .ok cv w'∧HR m' (h.set id (some (.tail g (c.length+d.length)))) w'∧Step m h w m' (h.set id (some (.tail g (c.length+d.length)))) w'∧VR m' (h.set id (some (.tail g (c.length+d.length)))) w' (.app id g i.size (c++d)) cv:=by
  intro base cap F hrc hcap hfull holds
  have hrowcd:=RowF.append hrc hrow
  have hg:=grownCap_ge w (c.length+d.length) cap el
  obtain ⟨r1,r2,r3⟩:=zkg (T:=el) (cap:=grownCap w (c.length+d.length) cap el) (cc:=((List.range (c.length*i.size)).map F).toArray++((List.range (d.length*i.size)).map G).toArray++Builtin.zeroCells z.cells (grownCap w (c.length+d.length) cap el - (c.length+d.length))) hr hid hrowcd (by omega) (by omega)
   (by
    simp only [Array.size_append,List.size_toArray,List.length_map,List.length_range,size_zeroCells,hzz,← Nat.add_mul]
    exact Nat.mul_le_mul_right _ (by omega))
   (fun k hk=>by
    rw [hcl,Nat.add_mul] at hk
    rw [Array.getElem?_append_left (by simp;omega)]
    by_cases hk1:k < c.length*i.size
    ·rw [if_pos hk1];exact z4w F _ k hk1 _
    ·rw [if_neg hk1,Array.getElem?_append_right (by simp;omega)]
     simp [List.getElem?_range (show k - c.length*i.size < d.length*i.size by omega)])
  rw [hcl] at r1 r2 r3
  exact ⟨_,_,_,run_append_grow (P:=P) w t ty el i z hu hi hz base c.length cap ((List.range (c.length*i.size)).map F) (by simp) holds ⟨b2,o2,none⟩ d.length capx ((List.range (d.length*i.size)).map G) (by simp) hc2 (by omega) (by omega) (growslice_fits (by omega) hbig),r1,r2,r3⟩
 cases hs with
 | app0 _ _ _ hu' ht =>
  simp only [List.length_nil,Nat.zero_add,List.nil_append] at hbig hid hn1 hcl ⊢
  have hg:=grownCap_ge w d.length 0 el
  obtain ⟨r1,r2,r3⟩:=zkg (T:=el) (cap:=grownCap w d.length 0 el) (cc:=((List.range (d.length*i.size)).map G).toArray++Builtin.zeroCells z.cells (grownCap w d.length 0 el - d.length)) hr hid hrow hposd hg
   (by
    simp only [Array.size_append,List.size_toArray,List.length_map,List.length_range,size_zeroCells,hzz,← Nat.add_mul]
    exact Nat.mul_le_mul_right _ (by omega))
   (fun k hk=>z4w G _ k hk _)
  exact ⟨_,_,_,run_append_nil (P:=P) w t ty el i z hu hi hz ⟨b2,o2,none⟩ d.length capx _ (by simp) hc2 hposd (by omega) (by omega),r1,r2,r3⟩
 | app1 _ _ _ ad hu' ht => exact fresh ad 0 (fun _ => undef) RowF.nil (Nat.le_refl _) (by simp; omega) (by simp)
 | app _ _ _ _ b cap F hu' hic hl hsc hrr hc ht =>
  have holds:∀ j v,((List.range (c.length*i.size)).map F)[j]? = some v→w.cell? ((⟨b,0,none⟩:Addr).add j)=some v:=by
   intro j v hj
   have hlt:j < c.length*i.size:=by simpa using (List.getElem?_eq_some_iff.1 hj).1
   rw [List.getElem?_map,List.getElem?_range hlt] at hj
   simp at hj
   subst hj
   rw [Addr.add_lit]
   exact (hic j hlt).1
  by_cases hroom:c.length+d.length≤cap
  ·obtain ⟨hm,cc,T,hcc,hcs⟩:=((ht _ _ hid).2 rfl).2 rfl
   have hF:∀ k,k < c.length*i.size→cc[k]? = some (F k):=fun k hk=>by
    have:=(hic k hk).1
    rwa [Nat.zero_add,cell_of_row w b k cc T (0,0) hcc] at this
   have hrowcd:=(RowF.append (F:=F) (G:=G) ⟨hl,hsc,hrr⟩ hrow)
   have hmul:(c.length+d.length)*i.size≤cap*i.size:=Nat.mul_le_mul_right _ hroom
   rw [Nat.add_mul] at hmul
   have hrun:=z68 (P:=P) (w:=w) t ty el T i hu hi b c.length cap cc hcc ⟨b2,o2,none⟩ d.length capx ((List.range (d.length*i.size)).map G) (by simp) hc2 h1c hroom (by simp;omega)
   generalize hnew:(cc.toList.take (c.length*i.size)++(List.range (d.length*i.size)).map G++cc.toList.drop (c.length*i.size+((List.range (d.length*i.size)).map G).length)).toArray=cc' at hrun
   have hsz':cc'.size=cc.size:=by rw [← hnew];simp;omega
   have wu:=WUpd.setRow w b cc cc' T (0,0) hcc hsz'
   have hget:∀ k,cc'.getD k undef=if c.length*i.size≤k∧k < c.length*i.size+d.length*i.size then G (k - c.length*i.size) else cc.getD k undef:=by
    intro k
    rw [← hnew,z2z cc _ _ (by simp;omega)]
    simp only [List.length_map,List.length_range]
    split
    ·rename_i hk
     simp [List.getD_eq_getElem?_getD,List.getElem?_map,List.getElem?_range (show k - c.length*i.size < d.length*i.size by omega)]
    ·rfl
   have hcell':∀ k,k < cc.size→(w.setRow b cc').cell? ⟨b,k,none⟩=some (cc'.getD k undef):=by
    intro k hk
    rw [cell_setRow_same w b k cc cc' T (0,0) hcc]
    simp [Array.getD_eq_getD_getElem?,show k < cc'.size by omega]
   have hlow:∀ o v,o < c.length*i.size→w.cell? ⟨b,o,none⟩=some v→(w.setRow b cc').cell? ⟨b,o,none⟩=some v:=by
    intro o v ho hv
    have holt:o < cc.size:=by omega
    rw [hcell' o holt,hget o,if_neg (by omega)]
    rw [cell_of_row w b o cc T (0,0) hcc] at hv
    simp [Array.getD_eq_getD_getElem?,hv]
   have hns:Same (.tail g c.length) (.tail g (c.length+d.length))→(c.length+d.length)*i.size=c.length*i.size:=fun e=>by have:=e.2;omega
   have hcm:Compat (.tail g c.length) (.tail g (c.length+d.length)) := .inr ⟨rfl,by omega⟩
   have st:=zka (t':=(c.length+d.length)*i.size) hr hid hm (Nat.mul_le_mul_right _ (by omega)) hcm hns wu hlow
   refine ⟨_,_,_,hrun,HR.tok hr hid hm (Nat.mul_le_mul_right _ (by omega)) hcm hns wu hlow,st,?_⟩
   have:=VR.app (m:=upd m id (some (b,(c.length+d.length)*i.size))) (h:=h.set id (some (.tail g (c.length+d.length)))) (w:=w.setRow b cc') id g i.size (c++d) b cap (fun k=>if k < c.length*i.size then F k else G (k - c.length*i.size)) hu'
    (fun k hk=>⟨?_,?_⟩) hrowcd.1 hrowcd.2.1 (fun i' cells hi' j v hj=>(hrowcd.2.2 i' cells hi' j v hj).step st) (by omega) (fun g' n' hg => ?_)
   ·rwa [hcl] at this
   ·rw [hcl,Nat.add_mul] at hk
    show _=some (if k < c.length*i.size then F k else G (k - c.length*i.size))
    rw [Nat.zero_add,hcell' k (by omega),hget k]
    by_cases hk1:k < c.length*i.size
    ·rw [if_neg (by omega),if_pos hk1]
     simp [Array.getD_eq_getD_getElem?,hF k hk1]
    ·rw [if_pos (by omega),if_neg hk1]
   ·rw [hcl] at hk
    rintro ⟨j,s,⟨y,hy⟩,hmy,hle⟩
    by_cases e:j=id
    ·subst e;simp only [upd,if_true] at hmy;cases hmy;omega
    ·simp only [AHeap.set,if_neg e] at hy
     simp only [upd,if_neg e] at hmy
     exact e (hr.inj j id y _ b s _ hy hid hmy hm)
   ·simp only [AHeap.set,if_true,Option.some.injEq,AObj.tail.injEq] at hg
    obtain ⟨rfl,rfl⟩:=hg
    exact ⟨Nat.le_refl _,fun _=>⟨by omega,fun _=>⟨by simp [upd,hcl],cc',T,setRow_heap w b cc cc' T (0,0) hcc,by omega⟩⟩⟩
  ·exact fresh ⟨b,0,none⟩ cap F ⟨hl,hsc,hrr⟩ hc (by omega) holds

theorem zu3 (hr:HR m h w)(hf:¬ h.used nm)(he:ER N m h w e a){c:Call}{s x:Operand}{s' x':Opd}{t el:TypeId}{i:TypeInfo}{z:Value}(ho:o.op = .call c)(hc:c.callee = .builtin .append)(ha:c.args.toList=[s,x])(hat:c.argTypes.toList=[t,t])
  (hu:P.underlying t=some (.slice el)) (hi:P.info? el=some i) (hz:i.zero=some z) (hsz:0 < i.size) (hb:0 < i.bytes) (hzz:z.cells.size=i.size) (h1:ofOpd N s=some s') (h2:ofOpd N x=some x')
  {r:Option AV} {f:Eff} (hv:evalI nm (.app i.size i.bytes s' x') e h.get=some (r,f)):OpOK P o a m h w nm r f:=by
 have ha':c.args=#[s,x]:=by rw [← Array.toArray_toList (xs:=c.args),ha]
 have hat':c.argTypes=#[t,t]:=by rw [← Array.toArray_toList (xs:=c.argTypes),hat]
 have hrun:∀ {cv w'},(Builtin.append_ #[t,t] o.type #[a.eval s,a.eval x]).run P w = .ok cv w'→(execOp a.eval o).run P w = .ok (.value cv) w':=by
  intro cv w' hr'
  simp [execOp,ho,resolve,hc,ha',hat',invoke,builtin,hr']
 simp only [evalI] at hv
 split at hv
 ·rename_i y g1 g2
  split at hv
  ·rename_i d g3
   obtain ⟨hbig,hv'⟩:=z12 hv
   cases hv'
   have e1:=he.eval h1 g1
   generalize hcs:a.eval s=cs at e1 hrun
   cases e1 with
   | nils0 =>
    obtain ⟨m',w',cv,q1,q2,q3,q4⟩:=zb2 (P:=P) (ty:=o.type) hr hf hu hi hz hsz hb hzz (base:=none) (he.eval h2 g2) g3 hbig
    exact ⟨m',w',q2,q3,cv,hrun q1,q4⟩
   | nils1 ad =>
    obtain ⟨m',w',cv,q1,q2,q3,q4⟩:=zb2 (P:=P) (ty:=o.type) hr hf hu hi hz hsz hb hzz (base:=some ad) (he.eval h2 g2) g3 hbig
    exact ⟨m',w',q2,q3,cv,hrun q1,q4⟩
  ·cases hv
 ·rename_i id k s2 cont y g1 g2
  split at hv
  ·rename_i d k' n g3 g4
   obtain ⟨⟨rfl,rfl,rfl,hbig⟩,hv'⟩:=z12 hv
   cases hv'
   obtain ⟨m',w',cv,q1,q2,q3,q4⟩:=zo7 (P:=P) (ty:=o.type) hr hu hi hz hsz hb hzz (he.eval h1 g1) g4 (he.eval h2 g2) g3 hbig
   exact ⟨m',w',q2,q3,cv,hrun q1,q4⟩
  ·cases hv
 ·cases hv

theorem zu4 (hr:HR m h w)(he:ER N m h w e a){c:Call}{s x:Operand}{s' x':Opd}{t el:TypeId}{i:TypeInfo}(ho:o.op = .call c)(hc:c.callee = .builtin .copy)(ha:c.args.toList=[s,x])(hat:c.argTypes[0]? = some t)
  (hu:P.underlying t=some (.slice el)) (hi:P.info? el=some i) (h1:ofOpd N s=some s') (h2:ofOpd N x=some x')
  {r:Option AV} {f:Eff} (hv:evalI nm (.cpy i.size s' x') e h.get=some (r,f)):OpOK P o a m h w nm r f:=by
 have ha':c.args=#[s,x]:=by rw [← Array.toArray_toList (xs:=c.args),ha]
 have hrun:∀ {cv w'},(Builtin.copy_ c.argTypes o.type #[a.eval s,a.eval x]).run P w = .ok cv w'→(execOp a.eval o).run P w = .ok (.value cv) w':=by
  intro cv w' hr'
  simp [execOp,ho,resolve,hc,ha',invoke,builtin,hr']
 simp only [evalI] at hv
 split at hv
 ·rename_i id off l y g1 g2
  split at hv
  ·rename_i sz cont cs g3 g4
   obtain ⟨⟨rfl,hle⟩,hv'⟩:=z12 hv
   cases hv'
   have e1:=he.eval h1 g1
   generalize hcs:a.eval s=cv1 at e1 hrun
   cases e1 with
   | ref _ _ _ cap ad hu' hcl hab =>
    obtain ⟨b,hb,_,had,cc,T,hcc,hcsz⟩:=hab _ _ g3
    obtain ⟨b',cc',T',hb',hcc',hsz,hrow⟩:=hr.obj _ _ g3
    rw [hb] at hb'
    cases hb'
    rw [hcc'] at hcc
    cases hcc
    obtain ⟨adx,capx,G,hcx,hcapx,hrowx,h1c,hcell⟩:=z67 hr (he.eval h2 g2) g4
    rw [hcx] at hrun
    by_cases hn0:min cs.length l=0
    ·refine ⟨m,w,?_,?_,goInt 0,hrun ?_,?_⟩
     ·have:cont.take off++cs.take (min cs.length l)++cont.drop (off+min cs.length l)=cont:=by rw [hn0];simp
      rw [this]
      have wu:WUpd w w b:=⟨rfl,rfl,rfl,rfl,fun _ _=>rfl,fun cc T fz h=>⟨cc,h,rfl⟩⟩
      exact HR.set hr g3 hb (Compat.refl _) wu ⟨b,cc,T,hb,hcc',hsz,hrow.step (z2b hr g3 hb (Compat.refl _) wu)⟩
     ·have:cont.take off++cs.take (min cs.length l)++cont.drop (off+min cs.length l)=cont:=by rw [hn0];simp
      rw [this]
      have wu:WUpd w w b:=⟨rfl,rfl,rfl,rfl,fun _ _=>rfl,fun cc T fz h=>⟨cc,h,rfl⟩⟩
      exact z2b hr g3 hb (Compat.refl _) wu
     ·have hn0':Nat.min cs.length l=0:=hn0
      cases adx <;> simp [Builtin.copy_,hat,run_underlying hu,Builtin.lenOf,hn0',zt hi,Builtin.firstCells,loadCells,loadCellsFrom,storeCells]
     ·rw [hn0];exact .int _ _
    ·have hnec:cs≠[]:=by intro e;subst e;simp at hn0
     have hl0:0 < l:=by omega
     obtain ⟨b2,o2,rfl,hc2⟩:=hcell hnec
     rcases had with h00 | rfl
     ·omega
     ·have hmul:(off+l)*i.size≤cont.length*i.size:=Nat.mul_le_mul_right _ hle
      have hmul2:(off+min cs.length l)*i.size≤(off+l)*i.size:=Nat.mul_le_mul_right _ (by omega)
      rw [Nat.add_mul] at hmul2
      have hsub:∀ j v,((List.range (min cs.length l*i.size)).map G)[j]? = some v→w.cell? ((⟨b2,o2,none⟩:Addr).add j)=some v:=by
       intro j v hj
       have hlt:j < min cs.length l*i.size:=by simpa using (List.getElem?_eq_some_iff.1 hj).1
       have hlt2:j < cs.length*i.size:=Nat.lt_of_lt_of_le hlt (Nat.mul_le_mul_right _ (Nat.min_le_left _ _))
       refine hc2 j v ?_
       rw [List.getElem?_map,List.getElem?_range hlt] at hj
       rw [List.getElem?_map,List.getElem?_range hlt2]
       exact hj
      have hone:∀ u∈(List.range (min cs.length l*i.size)).map G,u.oneCell'=true:=by
       intro u hu
       refine h1c u ?_
       simp only [List.mem_map,List.mem_range] at hu ⊢
       obtain ⟨k,hk,rfl⟩:=hu
       exact ⟨k,Nat.lt_of_lt_of_le hk (Nat.mul_le_mul_right _ (Nat.min_le_left _ _)),rfl⟩
      have hload:=run_firstCells_some (P:=P) w i.size (min cs.length l) ⟨b2,o2,none⟩ cs.length capx ((List.range (min cs.length l*i.size)).map G) (by simp) hsub
      have hst:=run_storeCells_at P b (off*i.size) T ((List.range (min cs.length l*i.size)).map G) 0 cc w hcc' (by simp;omega) hone
      simp only [Nat.add_zero] at hst
      have hget:=fun k=>z2z cc ((List.range (min cs.length l*i.size)).map G) (off*i.size) (by simp;omega) k
      have hlen':(cont.take off++cs.take (min cs.length l)++cont.drop (off+min cs.length l)).length=cont.length:=by simp;omega
      have hrowA:RowF m h w i.size (cont.take off++cs.take (min cs.length l)++cont.drop (off+min cs.length l)) (fun k=>((cc.toList.take (off*i.size)++(List.range (min cs.length l*i.size)).map G++cc.toList.drop (off*i.size+((List.range (min cs.length l*i.size)).map G).length)).toArray).getD k undef):=by
       refine RowF.congr (((hrow.take off).append (hrowx.take (min cs.length l))).append (hrow.drop (off+min cs.length l))) fun k hk => ?_
       rw [hlen'] at hk
       simp only [List.length_append,List.length_take,Nat.min_eq_left (show off≤cont.length by omega),Nat.min_eq_left (Nat.min_le_left cs.length l)]
       rw [hget k]
       simp only [List.length_map,List.length_range]
       rw [Nat.add_mul]
       by_cases hk1:k < off*i.size
       ·rw [if_pos (by omega),if_pos hk1,if_neg (by omega)]
       ·by_cases hk2:k < off*i.size+min cs.length l*i.size
        ·rw [if_pos hk2,if_neg hk1,if_pos (by omega)]
         simp [List.getD_eq_getElem?_getD,List.getElem?_map,List.getElem?_range (show k - off*i.size < min cs.length l*i.size by omega)]
        ·rw [if_neg hk2,if_neg (by omega)]
         congr 1
         omega
      obtain ⟨hr',st⟩:=zb1 hr g3 hb hcc' (cc':=(cc.toList.take (off*i.size)++(List.range (min cs.length l*i.size)).map G++cc.toList.drop (off*i.size+((List.range (min cs.length l*i.size)).map G).length)).toArray) (by simp;omega) hlen' hsz hrowA
      refine ⟨m,_,hr',st,goInt ((min cs.length l:Nat):Int),hrun ?_,.int _ _⟩
      have hload':(Builtin.firstCells i.size (Nat.min cs.length l) (.slice (some ⟨b2,o2,none⟩) cs.length capx)).run P w = .ok ((List.range (min cs.length l*i.size)).map G).toArray w:=hload
      have hun:(underlying t).run P w = .ok (.slice el) w:=run_underlying hu w
      simp only [Builtin.copy_,hat,List.getElem?_toArray,List.getElem?_cons_zero,List.getElem?_cons_succ,Builtin.lenOf,Sem.run_bind,Sem.run_pure,Result.andThen_ok,hun,zt hi,hload',hst]
  ·cases hv
 ·cases hv
end
end Go.Abs

namespace Go.Abs
open Go

section
variable {P:Program}{N:Nat}{m:Inj}{h:AHeap}{w:World}{e:Env}{a:Act}{nm:Nat}{o:Oper}

theorem zkh:∀ {c:List (List AV)} {l:List UInt8},toB c=some l→∃ ns:List Int,c=ns.map (fun n=>[AV.int .u8 n])∧l=ns.map (fun n=>UInt8.ofNat n.toNat)
 | [], l, hc => by simp [toB] at hc; subst hc; exact ⟨[], rfl, rfl⟩
 | x :: r, l, hc => by
  unfold toB at hc
  split at hc
  ·rename_i heq;cases heq
  ·rename_i n r' heq
   cases heq
   cases hr:toB r with
   | none => simp [hr] at hc
   | some l' =>
    simp [hr] at hc
    subst hc
    obtain ⟨ns,rfl,rfl⟩:=zkh hr
    exact ⟨n::ns,rfl,rfl⟩
  ·cases hc

theorem zu5 (hr:HR m h w)(he:ER N m h w e a){s d el:TypeId}(hs:P.underlying s=some (.slice el))(hd:P.underlying d=some .string)(hel:P.underlying el=some (.int .u8)){x:Operand}{x':Opd}(ho:o.op = .convert s d x)(h1:ofOpd N x=some x')
  {r:Option AV} {f:Eff} (hv:evalI nm (.b2s x') e h.get=some (r,f)):OpOK P o a m h w nm r f:=by
 simp only [evalI] at hv
 split at hv
 ·rename_i y g1
  split at hv
  ·rename_i c g2
   split at hv
   ·rename_i l g3
    cases hv
    obtain ⟨ad,cap,hx,hcap,F,hrow,hcell⟩:=zp9 hr (he.eval h1 g1) g2
    obtain ⟨ns,rfl,rfl⟩:=zkh g3
    refine OpOK.pure hr ?_ (.str _)
    by_cases hne:ns=[]
    ·subst hne
     simp only [execOp,ho,hx,List.map_nil,List.length_nil]
     cases ad with
     | none => simp [run_convert_bytes_nil w s el hs hel 0 cap d hd]; rfl
     | some ad =>
      have:=run_convert_bytes_string (P:=P) w s d el (some ad) 0 cap hs hel hd
      simp [this,Conv.bytesToString,loadCells,loadCellsFrom]
      rfl
    ·obtain ⟨b,o',rfl,hc⟩:=hcell (by simpa using hne)
     have:=run_convert_bytes_arg (P:=P) w s el hs hel b o' (ns.map (fun n=>[AV.int .u8 n])).length cap ns (by simp) (fun i hi=>by
      simp only [List.length_map] at hi
      rw [hc i (by simpa using hi)]
      have:=hrow.2.2 i [AV.int .u8 ns[i]] (by simp [hi]) 0 _ rfl
      have:=zm this
      simp only [Nat.mul_one,Nat.add_zero] at this
      rw [this]
      simp [List.getD_eq_getElem?_getD,hi]) d hd
     simp [execOp,ho,hx] at this ⊢
     simp [this]
     rfl
   ·cases hv
  ·cases hv
 ·cases hv

theorem z69 {t el:TypeId}(ht:P.underlying t=some (.slice el))(d:Nat)(ad:Addr)(l c:Nat):(Op.equalIn (d+1) t (.slice (some ad) l c) (.slice none 0 0)).run P w = .ok false w:=by
 simp [Op.equalIn,run_underlying ht]
theorem zgy {t el:TypeId}(ht:P.underlying t=some (.pointer el))(d:Nat)(z:Option Addr):(Op.equalIn (d+1) t (.pointer z) (.pointer none)).run P w = .ok z.isNone w:=by
 cases z <;> simp [Op.equalIn,run_underlying ht]
theorem zf3 {t:TypeId}{a1 a2:Array TypeId}{a3:Bool}(ht:P.underlying t=some (.func a1 a2 a3))(d:Nat)(fn:Fn)(c1 c2:Array Value):(Op.equalIn (d+1) t (.func fn c1 c2) .nilFunc).run P w = .ok false w:=by
 simp [Op.equalIn,run_underlying ht]
theorem zgz {t:TypeId}{a1 a2:Array TypeId}{a3:Bool}(ht:P.underlying t=some (.func a1 a2 a3))(d:Nat):(Op.equalIn (d+1) t .nilFunc .nilFunc).run P w = .ok true w:=by
 simp [Op.equalIn,run_underlying ht]

theorem zqv (hr:HR m h w)(he:ER N m h w e a){op:BinOp}{neg:Bool}(hop:op = .eql∧neg=false∨op = .neq∧neg=true){t u el:TypeId}(ht:P.underlying t=some (.slice el)){x:Operand}{x':Opd}(ho:o.op = .binOp op t x (.const (.slice none 0 0)) u)(h1:ofOpd N x=some x')
  {r:Option AV} {f:Eff} (hv:evalI nm (.isnil neg x') e h.get=some (r,f)):OpOK P o a m h w nm r f:=by
 simp only [evalI] at hv
 split at hv
 ·rename_i y g1
  split at hv
  ·rename_i q g2
   cases hv
   have key:q=false∧∃ ad l c,a.eval x = .slice (some ad) l c:=by
    have e1:=he.eval h1 g1
    generalize a.eval x=cx at e1 ⊢
    unfold zkd at g2
    split at g2 <;> cases g2 <;> refine ⟨rfl,?_⟩
    ·cases e1 with
     | imm => exact ⟨_, _, _, rfl⟩
    ·cases e1 with
     | app => exact ⟨_, _, _, rfl⟩
    ·cases e1 with
     | ref => exact ⟨_, _, _, rfl⟩
   obtain ⟨rfl,ad,l,c,hx⟩:=key
   have heq:(Op.equal t (.slice (some ad) l c) (.slice none 0 0)).run P w = .ok false w:=z69 ht 9999 ad l c
   have hy:a.eval (.const (.slice none 0 0)) = .slice none 0 0:=rfl
   refine OpOK.pure hr (cv := .bool neg) ?_ (by cases neg <;> exact .bool _)
   rcases hop with ⟨rfl,rfl⟩ | ⟨rfl,rfl⟩
   ·simp [execOp,ho,hx,hy,eqGuard_at_slice,binOp,heq]
   ·simp [execOp,ho,hx,hy,eqGuard_at_slice,binOp,heq]
  ·cases hv
 ·cases hv

theorem z7r:∀ {ks:List CK} {us vs:List AV} {r:Bool},z9 ks us vs=some r→us.length=ks.length∧vs.length=ks.length
 | [], us, vs, r, hq => by
  cases us <;> cases vs <;> simp [z9] at hq
  exact ⟨rfl,rfl⟩
 | k :: ks, us, vs, r, hq => by
  cases us with
  | nil => cases k <;> simp [z9] at hq
  | cons u us =>
   cases vs with
   | nil => cases k <;> cases u <;> simp [z9] at hq
   | cons v vs =>
    have step:∀ (t:Bool),(z9 ks us vs).map (fun r=>t&&r)=some r→us.length=ks.length∧vs.length=ks.length:=by
     intro t ht
     cases hr:z9 ks us vs with
     | none => simp [hr] at ht
     | some r' => exact z7r hr
    have fin:us.length=ks.length∧vs.length=ks.length:=by
     cases k <;> cases u <;> cases v <;> simp only [z9] at hq <;> try (cases hq;done)
     ·split at hq
      ·exact step _ hq
      ·cases hq
     ·exact step _ hq
     ·exact step _ hq
    simp [fin.1,fin.2]

theorem z5b:∀ (k1:List CK) {k2:List CK} {us vs:List AV} {r:Bool},z9 (k1++k2) us vs=some r →
  ∃ r1 r2,z9 k1 (us.take k1.length) (vs.take k1.length)=some r1∧z9 k2 (us.drop k1.length) (vs.drop k1.length)=some r2∧r=(r1&&r2)
 | [], k2, us, vs, r, hq => ⟨true, r, by simp [z9], by simpa using hq, by simp⟩
 | k :: k1, k2, us, vs, r, hq => by
  cases us with
  | nil => cases k <;> simp [z9] at hq
  | cons u us =>
   cases vs with
   | nil => cases k <;> cases u <;> simp [z9] at hq
   | cons v vs =>
    have step:∀ (t:Bool),(z9 (k1++k2) us vs).map (fun r=>t&&r)=some r→∃ r1 r2,(z9 k1 (us.take k1.length) (vs.take k1.length)).map (fun r=>t&&r)=some r1∧z9 k2 (us.drop k1.length) (vs.drop k1.length)=some r2∧r=(r1&&r2):=by
     intro t ht
     cases hr:z9 (k1++k2) us vs with
     | none => simp [hr] at ht
     | some r' =>
      simp [hr] at ht
      obtain ⟨r1,r2,e1,e2,e3⟩:=z5b k1 hr
      exact ⟨t&&r1,r2,by simp [e1],e2,by rw [← ht,e3,Bool.and_assoc]⟩
    cases k <;> cases u <;> cases v <;> simp only [List.cons_append,z9] at hq <;> try (cases hq;done)
    ·split at hq
     ·rename_i hk
      obtain ⟨r1,r2,e1,e2,e3⟩:=step _ hq
      exact ⟨r1,r2,by simp only [List.length_cons,List.take_succ_cons,z9,hk,if_true];exact e1,by simpa using e2,e3⟩
     ·cases hq
    ·obtain ⟨r1,r2,e1,e2,e3⟩:=step _ hq
     exact ⟨r1,r2,by simp only [List.length_cons,List.take_succ_cons,z9];exact e1,by simpa using e2,e3⟩
    ·obtain ⟨r1,r2,e1,e2,e3⟩:=step _ hq
     exact ⟨r1,r2,by simp only [List.length_cons,List.take_succ_cons,z9];exact e1,by simpa using e2,e3⟩

def CR (m:Inj)(h:AHeap)(w:World)(us:List AV)(xs:Array Value):Prop:=us.length=xs.size∧∀ i v,us[i]? = some v→VR m h w v (xs.getD i undef)

theorem CR.sub {us:List AV}{xs:Array Value}(hc:CR m h w us xs)(off sz:Nat)(hle:off+sz≤us.length):CR m h w ((us.drop off).take sz) (xs.extract off (off+sz)):=by
 have hl:=hc.1
 refine ⟨by simp;omega,fun i v hi => ?_⟩
 rw [List.getElem?_take] at hi
 split at hi
 ·rename_i hlt
  rw [List.getElem?_drop] at hi
  have:=hc.2 _ v hi
  have e1:off+i < xs.size:=by omega
  simpa [Array.getD_eq_getD_getElem?,Array.getElem?_extract,show i < min (off+sz) xs.size - off by omega,e1] using this
 ·cases hi

def EqT (P:Program)(m:Inj)(h:AHeap)(w:World)(d:Nat)(t:TypeId)(ks:List CK):Prop :=
 ∀ D,(∀ us vs xs ys r,aggD ((P.underlying t).getD .invalid)=true→CR m h w us xs→CR m h w vs ys→z9 ks us vs=some r→(Op.equalIn (D+d) t (.agg xs) (.agg ys)).run P w = .ok r w) ∧
  (∀ u v x y r,aggD ((P.underlying t).getD .invalid)=false→VR m h w u x→VR m h w v y→z9 ks [u] [v]=some r→(Op.equalIn (D+d) t x y).run P w = .ok r w)

theorem zs9 {t:TypeId}{sz:Nat}{ag:Bool}(ht:tyI P t=some (sz,ag)):aggD ((P.underlying t).getD .invalid)=ag:=by
 unfold tyI at ht
 split at ht
 ·rename_i i d h1 h2;cases ht;simp [h2]
 ·cases ht

theorem EqT.part {d:Nat}{t:TypeId}{ks:List CK}(he:EqT P m h w d t ks){sz:Nat}{ag:Bool}(ht:tyI P t=some (sz,ag))(hag:ag=true∨sz=1)(D:Nat){us vs:List AV}{xs ys:Array Value}{off:Nat}{r:Bool}(hx:CR m h w us xs)(hy:CR m h w vs ys)(hu:off+sz≤us.length)(hv:off+sz≤vs.length)
  (hq:z9 ks ((us.drop off).take sz) ((vs.drop off).take sz)=some r) :
  ∃ pa pb,(part t xs off).run P w = .ok pa w∧(part t ys off).run P w = .ok pb w∧(Op.equalIn (D+d) t pa pb).run P w = .ok r w:=by
 obtain ⟨hsz,hagg⟩:=z66 ht
 have hat:=zs9 ht
 cases ag with
 | true =>
  exact ⟨_,_,by simp [Go.part,hagg,hsz],by simp [Go.part,hagg,hsz],(he D).1 _ _ _ _ r hat (hx.sub off sz hu) (hy.sub off sz hv) hq⟩
 | false =>
  have h10:sz=1:=by simpa using hag
  subst h10
  have hxl:off < xs.size:=by rw [← hx.1];omega
  have hyl:off < ys.size:=by rw [← hy.1];omega
  have g1:(us.drop off).take 1=[us[off]'(by omega)]:=by rw [List.drop_eq_getElem_cons (by omega)];rfl
  have g2:(vs.drop off).take 1=[vs[off]'(by omega)]:=by rw [List.drop_eq_getElem_cons (by omega)];rfl
  rw [g1,g2] at hq
  have v1:=hx.2 off _ (List.getElem?_eq_getElem (by omega))
  have v2:=hy.2 off _ (List.getElem?_eq_getElem (by omega))
  refine ⟨xs[off],ys[off],by simp [Go.part,hagg,hxl],by simp [Go.part,hagg,hyl],(he D).2 _ _ _ _ r hat ?_ ?_ hq⟩
  ·simpa [Array.getD_eq_getD_getElem?,hxl] using v1
  ·simpa [Array.getD_eq_getD_getElem?,hyl] using v2

theorem zdc {d D:Nat}{flat:TypeId→Option (List CK)}(hflat:∀ t ks,flat t=some ks→EqT P m h w d t ks):∀ (fs:List Field) (o:Nat) {ks:List CK} {us vs:List AV} {xs ys:Array Value} {r:Bool},flatF flat P o fs=some ks→CR m h w us xs→CR m h w vs ys→o≤us.length→o≤vs.length →
  z9 ks (us.drop o) (vs.drop o)=some r→(Op.eqFields (D+d) xs ys fs).run P w = .ok r w
 | [], o, ks, us, vs, xs, ys, r, hf, hx, hy, _, _, hq => by
  simp [flatF] at hf
  subst hf
  cases hu:us.drop o <;> cases hv:vs.drop o <;> simp [hu,hv,z9] at hq
  subst hq
  simp [Op.eqFields]
 | f :: fs, o, ks, us, vs, xs, ys, r, hf, hx, hy, hou, hov, hq => by
  simp only [flatF] at hf
  split at hf
  ·rename_i k1 sz ag g1 g2
   split at hf
   ·rename_i hcond
    obtain ⟨hname,rfl,hlen,hag⟩:=hcond
    cases hr:flatF flat P (f.offset+sz) fs with
    | none => simp [hr] at hf
    | some k2 =>
     simp [hr] at hf
     subst hf
     have hL:=z7r hq
     simp only [List.length_append,List.length_drop] at hL
     obtain ⟨r1,r2,e1,e2,rfl⟩:=z5b k1 hq
     rw [hlen] at e1 e2
     simp only [List.drop_drop] at e2
     obtain ⟨pa,pb,p1,p2,p3⟩:=(hflat _ _ g1).part g2 hag D hx hy (by omega) (by omega) e1
     have ih:=zdc (D:=D) hflat fs (f.offset+sz) hr hx hy (by omega) (by omega) e2
     simp only [Op.eqFields,ne_eq,hname,not_false_eq_true,if_true,Sem.run_bind,p1,p2,p3,Result.andThen_ok]
     cases r1
     ·simp
     ·simp [ih]
   ·cases hf
  ·cases hf

theorem zf4 {d D:Nat}{el:TypeId}{ks:List CK}(he:EqT P m h w d el ks){sz:Nat}{ag:Bool}(ht:tyI P el=some (sz,ag))(hag:ag=true∨sz=1)(hlen:ks.length=sz):∀ (n s:Nat) {us vs:List AV} {xs ys:Array Value} {r:Bool},CR m h w us xs→CR m h w vs ys→s*sz≤us.length→s*sz≤vs.length →
  z9 (flatN ks n) (us.drop (s*sz)) (vs.drop (s*sz))=some r →
  (forIn (List.range' s n) ((none,()):Option Bool×Unit) fun i _=>do
    let pa ← part el xs (i*sz)
    let pb ← part el ys (i*sz)
    let q ← Op.equalIn (D+d) el pa pb
    if (!q)=true then pure (ForInStep.done (some false,())) else pure (ForInStep.yield (none,())):Sem (Option Bool×Unit)).run P w = .ok (if r then (none,()) else (some false,())) w
 | 0, s, us, vs, xs, ys, r, hx, hy, hou, hov, hq => by
  simp only [flatN] at hq
  cases hu:us.drop (s*sz) <;> cases hv:vs.drop (s*sz) <;> simp [hu,hv,z9] at hq
  subst hq
  simp
 | n + 1, s, us, vs, xs, ys, r, hx, hy, hou, hov, hq => by
  simp only [flatN] at hq
  have hL:=z7r hq
  simp only [List.length_append,List.length_drop] at hL
  obtain ⟨r1,r2,e1,e2,rfl⟩:=z5b ks hq
  rw [hlen] at e1 e2
  simp only [List.drop_drop] at e2
  rw [show s*sz+sz=(s+1)*sz by rw [Nat.add_mul];omega] at e2
  obtain ⟨pa,pb,p1,p2,p3⟩:=he.part ht hag D hx hy (by omega) (by omega) e1
  have ih:=zf4 (D:=D) he ht hag hlen n (s+1) hx hy (by rw [Nat.add_mul];omega) (by rw [Nat.add_mul];omega) e2
  simp only [List.range'_succ,List.forIn_cons,Sem.run_bind,p1,p2,p3,Result.andThen_ok]
  cases r1
  ·simp
  ·simp only [Bool.not_true,Bool.false_eq_true,if_false,Sem.run_pure,Result.andThen_ok,Bool.true_and]
   exact ih

theorem zki:∀ (d:Nat) {t:TypeId} {ks:List CK},flatK P d t=some ks→EqT P m h w d t ks
 | 0, t, ks, hk => by simp [flatK] at hk
 | d + 1, t, ks, hk => by
  intro D
  have ih:∀ t ks,flatK P d t=some ks→EqT P m h w d t ks:=fun t ks hk=>zki d hk
  unfold flatK at hk
  split at hk
  ·rename_i k hu
   cases hk
   refine ⟨fun _ _ _ _ _ ha=>by simp [hu,aggD] at ha,fun u v x y r _ hx hy hq => ?_⟩
   cases u <;> cases v <;> simp [z9] at hq
   obtain ⟨rfl,rfl⟩:=hq
   rw [zm hx,zm hy]
   exact run_equalIn_int w (D+d) t _ _ _ _ hu
  ·rename_i hu
   cases hk
   refine ⟨fun _ _ _ _ _ ha=>by simp [hu,aggD] at ha,fun u v x y r _ hx hy hq => ?_⟩
   cases u <;> cases v <;> simp [z9] at hq
   subst hq
   rw [z2r hx,z2r hy]
   exact run_equalIn_bool' w (D+d) t _ _ hu
  ·rename_i hu
   cases hk
   refine ⟨fun _ _ _ _ _ ha=>by simp [hu,aggD] at ha,fun u v x y r _ hx hy hq => ?_⟩
   cases u <;> cases v <;> simp [z9] at hq
   subst hq
   cases hx
   cases hy
   have:=run_equalIn_string (P:=P) w (D+d) t ⟨‹List UInt8›.toArray⟩ ⟨‹List UInt8›.toArray⟩ hu
   rename_i s1 s2
   have e:=run_equalIn_string (P:=P) w (D+d) t ⟨s1.toArray⟩ ⟨s2.toArray⟩ hu
   simpa [ByteArray.toList_eq,Nat.add_assoc] using e
  ·rename_i fs hu
   split at hk
   ·rename_i hst
    refine ⟨fun us vs xs ys r _ hx hy hq => ?_,fun _ _ _ _ _ ha=>by simp [hu,aggD] at ha⟩
    have hfo:P.fieldsOf t=fs:=by simp [Program.fieldsOf,hu]
    rw [show D+(d+1)=(D+d)+1 by omega,run_equalIn_struct w (D+d) t xs ys (by rw [hfo];exact hu) hst,hfo]
    exact zdc ih fs.toList 0 hk hx hy (Nat.zero_le _) (Nat.zero_le _) (by simpa using hq)
   ·cases hk
  ·rename_i n el hu
   split at hk
   ·rename_i k1 sz ag g1 g2
    split at hk
    ·rename_i hcond
     cases hk
     refine ⟨fun us vs xs ys r _ hx hy hq => ?_,fun _ _ _ _ _ ha=>by simp [hu,aggD] at ha⟩
     have:=zf4 (D:=D) (ih _ _ g1) g2 hcond.2 hcond.1 n 0 hx hy (by simp) (by simp) (by simpa using hq)
     rw [show D+(d+1)=(D+d)+1 by omega]
     simp only [Op.equalIn,Sem.run_bind,run_underlying hu,Result.andThen_ok,(z66 g2).1]
     simp only [Std.Legacy.Range.forIn_eq_forIn_range',Std.Legacy.Range.size,Nat.sub_zero,Nat.add_one_sub_one,Nat.div_one]
     rw [this]
     cases r <;> simp
    ·cases hk
   ·cases hk
  ·cases hk

theorem zkj {op:BinOp}{neg:Bool}(hop:op = .eql∧neg=false∨op = .neq∧neg=true){t:TypeId}{x y:Operand}{k:EK}{p q:AV}{b:Bool}{cx cy:Value}(hu:aggD ((P.underlying t).getD .invalid)=true)
  (hk:(if P.eqGuardType P.depth t=false then (flatK P 5 t).map .a else none)=some k) (g3:eqA k p q=some b) (e1:VR m h w p cx) (e2:VR m h w q cy) :
  (eqGuard op t x y cx cy).run P w = .ok () w∧(binOp op t cx cy).run P w = .ok (.bool (if neg then !b else b)) w:=by
 split at hk
 ·rename_i hg
  cases hf:flatK P 5 t with
  | none => simp [hf] at hk
  | some ks =>
   simp [hf] at hk
   subst hk
   cases p <;> cases q <;> simp only [eqA] at g3 <;> try (cases g3;done)
   cases e1 with
   | agg us xs l1 s1 v1 =>
    cases e2 with
    | agg vs ys l2 s2 v2 =>
     have hq:=((zki (P:=P) (m:=m) (h:=h) (w:=w) 5 hf) 9995).1 _ _ xs ys b hu ⟨l1,v1⟩ ⟨l2,v2⟩ g3
     have heq:(Op.equal t (.agg xs) (.agg ys)).run P w = .ok b w:=hq
     refine ⟨run_eqGuard_agg w op t x y xs ys hg,?_⟩
     rcases hop with ⟨rfl,rfl⟩ | ⟨rfl,rfl⟩ <;> simp [binOp,heq]
 ·cases hk

theorem zu6 (hr:HR m h w)(he:ER N m h w e a){op:BinOp}{neg:Bool}(hop:op = .eql∧neg=false∨op = .neq∧neg=true){t u:TypeId}{x y:Operand}{x' y':Opd}{k:EK}(hk:z81 P t y=some k)(ho:o.op = .binOp op t x y u)(h1:ofOpd N x=some x')(h2:ofOpd N y=some y')
  {r:Option AV} {f:Eff} (hv:evalI nm (.eqv k neg x' y') e h.get=some (r,f)):OpOK P o a m h w nm r f:=by
 simp only [evalI] at hv
 split at hv
 ·rename_i p q g1 g2
  split at hv
  ·rename_i b g3
   cases hv
   have e1:=he.eval h1 g1
   have e2:=he.eval h2 g2
   suffices hs:(eqGuard op t x y (a.eval x) (a.eval y)).run P w = .ok () w∧(binOp op t (a.eval x) (a.eval y)).run P w = .ok (.bool (if neg then !b else b)) w by
    exact OpOK.pure hr (cv := .bool (if neg then !b else b)) (by simp [execOp,ho,hs.1,hs.2]) (.bool _)
   unfold z81 at hk
   split at hk
   ·rename_i hu
    cases hk
    cases p <;> cases q <;> simp [eqA] at g3
    subst g3
    rw [z2r e1,z2r e2]
    have heq:∀ a b,(Op.equal t (.bool a) (.bool b)).run P w = .ok (a==b) w:=fun a b=>run_equalIn_bool' w 9999 t a b hu
    rcases hop with ⟨rfl,rfl⟩ | ⟨rfl,rfl⟩ <;> simp [eqGuard_at_bool,binOp,heq]
   ·rename_i hu
    cases hk
    cases p <;> cases q <;> simp [eqA] at g3
    subst g3
    generalize a.eval x=cx at e1 ⊢
    generalize a.eval y=cy at e2 ⊢
    cases e1
    cases e2
    rcases hop with ⟨rfl,rfl⟩ | ⟨rfl,rfl⟩ <;> simp [eqGuard_at_string,binOp,Op.stringOp,ByteArray.toList_eq,bne]
   ·rename_i el hu
    split at hk
    ·cases hk
     have hb:b=false∧(∃ ad,a.eval x = .pointer (some ad))∨b=true∧a.eval x = .pointer none:=by
      generalize a.eval x=cx at e1 ⊢
      cases p <;> cases q <;> simp [eqA] at g3 <;> subst g3 <;> cases e1 <;> simp
     have hy:a.eval (.const (.pointer none)) = .pointer none:=rfl
     rw [hy]
     have hq:∀ z,(Op.equal t (.pointer z) (.pointer none)).run P w = .ok z.isNone w:=fun z=>zgy hu 9999 z
     rcases hb with ⟨rfl,ad,hx⟩ | ⟨rfl,hx⟩ <;> rw [hx] <;> rcases hop with ⟨rfl,rfl⟩ | ⟨rfl,rfl⟩ <;> simp [eqGuard_at_pointer,binOp,hq]
    ·cases hk
   ·rename_i a1 a2 a3 hu
    split at hk
    ·cases hk
     have hb:b=false∧(∃ fn c1 c2,a.eval x = .func fn c1 c2)∨b=true∧a.eval x = .nilFunc:=by
      generalize a.eval x=cx at e1 ⊢
      cases p <;> cases q <;> simp [eqA] at g3 <;> subst g3 <;> cases e1 <;> simp
     have hy:a.eval (.const .nilFunc) = .nilFunc:=rfl
     rw [hy]
     rcases hb with ⟨rfl,fn,c1,c2,hx⟩ | ⟨rfl,hx⟩ <;> rw [hx]
     ·have hq:(Op.equal t (.func fn c1 c2) .nilFunc).run P w = .ok false w:=zf3 hu 9999 fn c1 c2
      rcases hop with ⟨rfl,rfl⟩ | ⟨rfl,rfl⟩ <;> simp [eqGuard_at_func,binOp,hq]
     ·have hq:(Op.equal t .nilFunc .nilFunc).run P w = .ok true w:=zgz hu 9999
      rcases hop with ⟨rfl,rfl⟩ | ⟨rfl,rfl⟩ <;> simp [eqGuard_at_nilFunc,binOp,hq]
    ·cases hk
   ·rename_i fs hu
    exact zkj hop (by simp [hu,aggD]) hk g3 e1 e2
   ·rename_i n el hu
    exact zkj hop (by simp [hu,aggD]) hk g3 e1 e2
   ·cases hk
  ·cases hv
 ·cases hv
end
end Go.Abs


