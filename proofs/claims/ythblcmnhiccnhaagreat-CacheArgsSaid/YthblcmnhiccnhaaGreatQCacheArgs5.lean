/- What the statement's proof needs, part 5. -/
import Derived.Test.YthblcmnhiccnhaaGreatQCacheArgs4
set_option linter.all false
namespace Go.Abs
open Go
section
variable {P:Program}{N:Nat}{e:Env}{h:AHeap}{m:Inj}{w:World}{nm:Nat}
theorem zg8 (hr:HR m h w)(hf:¬ h.used nm){id sz b:Nat}{c:List (List AV)}(hg:h.get id=some (.mem sz c))(hb:m id=some (b,0)) :
  HR (upd m nm (some (b,0))) ((h.set id none).put nm (.mem sz c)) w∧Step m h w (upd m nm (some (b,0))) ((h.set id none).put nm (.mem sz c)) w:=by
 have hrd:=hr.del id
 obtain ⟨b',cc,T,q1,q2,q3,q4⟩:=hr.obj _ _ hg
 rw [hb] at q1;cases q1
 have hne:id≠nm:=z3e hf (hr.live _ _ hg)
 have sub:∀ j y,j≠nm→((h.set id none).put nm (.mem sz c)).get j=some y→h.get j=some y∧j≠id:=fun j y hj hgj=>by
  simp only [AHeap.put,if_neg hj,AHeap.set] at hgj
  by_cases e:j=id
  ·simp [e] at hgj
  ·rw [if_neg e] at hgj;exact ⟨hgj,e⟩
 have st:Step m h w (upd m nm (some (b,0))) ((h.set id none).put nm (.mem sz c)) w:={
  os:=rfl
  tape:=rfl
  output:=rfl
  size:=Nat.le_refl _
  kind:=fun k cc T fz hb _=>⟨cc,hb,rfl⟩
  free:=fun k hk hfr=>⟨rfl,fun j s y hgj hmj=>by
   by_cases e:j=nm
   ·subst e
    simp only [upd,if_true] at hmj
    cases hmj
    exact hfr id 0 _ hg hb
   ·simp only [upd,if_neg e] at hmj;exact hfr j s y (sub j y e hgj).1 hmj⟩
  cell:=fun k o v hcell hn=>⟨hcell,fun ⟨j,s,⟨y,hgj⟩,hmj,hle⟩=>by
   by_cases e:j=nm
   ·subst e
    simp only [upd,if_true] at hmj
    cases hmj
    exact hn ⟨id,0,⟨_,hg⟩,hb,Nat.zero_le _⟩
   ·simp only [upd,if_neg e] at hmj;exact hn ⟨j,s,⟨y,(sub j y e hgj).1⟩,hmj,hle⟩⟩
  used:=fun _ hu=>zw (h:=h.set id none) hu
  live:=fun j x' huj hgj=>by
   have e:j≠nm:=z3e hf huj
   exact ⟨x',(sub j x' e hgj).1,fun _=>by simp [upd,e],Compat.refl _⟩ }
 refine ⟨⟨hrd.put_gapl,hrd.put_live,fun i j y z b2 s r hi hj hmi hmj => ?_,fun j y hgj => ?_⟩,st⟩
 ·by_cases ei:i=nm <;> by_cases ej:j=nm
  ·rw [ei,ej]
  ·subst ei
   simp only [upd,if_true] at hmi
   simp only [upd,if_neg ej] at hmj
   cases hmi
   exact absurd (hr.inj j id z _ b r 0 (sub j z ej hj).1 hg hmj hb) (sub j z ej hj).2
  ·subst ej
   simp only [upd,if_true] at hmj
   simp only [upd,if_neg ei] at hmi
   cases hmj
   exact absurd (hr.inj i id y _ b s 0 (sub i y ei hi).1 hg hmi hb) (sub i y ei hi).2
  ·simp only [upd,if_neg ei,if_neg ej] at hmi hmj
   exact hr.inj i j y z b2 s r (sub i y ei hi).1 (sub j z ej hj).1 hmi hmj
 ·by_cases e:j=nm
  ·subst e
   simp only [AHeap.put,if_true] at hgj
   cases hgj
   exact ⟨b,cc,T,by simp [upd],q2,q3,q4.step st⟩
  ·exact (hr.obj j y (sub j y e hgj).1).step st (by simp [upd,e]) fun _ _ _=>rfl
theorem zot (hr:HR m h w)(hf:¬ h.used nm){t ty el:TypeId}{i:TypeInfo}{z:Value}(hu:P.underlying t=some (.slice el))(hi:P.info? el=some i)(hz:i.zero=some z)(hsz:0 < i.size)(hb:0 < i.bytes)(hzz:z.cells.size=i.size)
  {id n:Nat} {c:List (List AV)} {cs:Value} (hs:VR m h w (.ref id 0 n) cs) (hid:h.get id=some (.mem i.size c)) (hn:c.length=n) {x:AV} {cx:Value} (hx:VR m h w x cx) {d:List (List AV)} (hd:rdS h.get i.size x=some d) (hd0:d≠[]) (hbig:(n+d.length)*i.bytes≤140737488355328) :
  ∃ m' w' cv,(Builtin.append_ #[t,t] ty #[cs,cx]).run P w = .ok cv w'∧HR m' ((h.set id none).put nm (.mem i.size (c++d))) w'∧Step m h w m' ((h.set id none).put nm (.mem i.size (c++d))) w'∧VR m' ((h.set id none).put nm (.mem i.size (c++d))) w' (.ref nm 0 (n+d.length)) cv:=by
 subst hn
 obtain ⟨ad,capx,G,rfl,hcapx,hrow,h1c,hcell⟩:=z67 hr hx hd
 obtain ⟨b2,o2,rfl,hc2⟩:=hcell hd0
 have hposd:0 < d.length:=List.length_pos_iff.2 hd0
 have hn1:(c.length+d.length)*1≤(c.length+d.length)*i.bytes:=Nat.mul_le_mul_left _ hb
 have hcl:(c++d).length=c.length+d.length:=List.length_append
 cases hs with
 | ref _ _ _ cap a hu' hc ha =>
  obtain ⟨b,hmb,hle,had,cc,T,hcc,hsz2⟩:=ha _ _ hid
  obtain ⟨b',cc',T',q1,q2,q3,q4⟩:=hr.obj _ _ hid
  rw [hmb] at q1;cases q1
  rw [q2] at hcc;cases hcc
  have hrowcd:=RowF.append q4 hrow
  have sd:Step m h w m (h.set id none) w:=z2a id
  have hfd:¬ (h.set id none).used nm:=hf
  -- the row in a new block
  have fresh:∀ (base:Addr),cap < c.length+d.length→(∀ j v,((List.range (c.length*i.size)).map (fun k=>cc.getD k undef))[j]? = some v→w.cell? (base.add j)=some v) →
    ∃ m' w' cv,(Builtin.append_ #[t,t] ty #[.slice (some base) c.length cap,.slice (some ⟨b2,o2,none⟩) d.length capx]).run P w = .ok cv w'∧HR m' ((h.set id none).put nm (.mem i.size (c++d))) w'∧Step m h w m' ((h.set id none).put nm (.mem i.size (c++d))) w'∧VR m' ((h.set id none).put nm (.mem i.size (c++d))) w' (.ref nm 0 (c.length+d.length)) cv:=by
   intro base hfull holds
   have hg:=grownCap_ge w (c.length+d.length) cap el
   obtain ⟨r1,r2,r3⟩:=zil (T:=el) (cap:=grownCap w (c.length+d.length) cap el) (cc:=((List.range (c.length*i.size)).map (fun k=>cc.getD k undef)).toArray++((List.range (d.length*i.size)).map G).toArray++Builtin.zeroCells z.cells (grownCap w (c.length+d.length) cap el - (c.length+d.length))) (hr.del id) hfd (hrowcd.step sd) (by omega)
    (by
     simp only [Array.size_append,List.size_toArray,List.length_map,List.length_range,size_zeroCells,hzz,← Nat.add_mul]
     exact Nat.mul_le_mul_right _ (by omega))
    (fun k hk=>by
     rw [hcl,Nat.add_mul] at hk
     rw [Array.getElem?_append_left (by simp;omega)]
     by_cases hk1:k < c.length*i.size
     ·rw [if_pos hk1];exact z4w (fun k=>cc.getD k undef) _ k hk1 _
     ·rw [if_neg hk1,Array.getElem?_append_right (by simp;omega)]
      simp [List.getElem?_range (show k - c.length*i.size < d.length*i.size by omega)])
   rw [hcl] at r3
   exact ⟨_,_,_,run_append_grow (P:=P) w t ty el i z hu hi hz base c.length cap ((List.range (c.length*i.size)).map (fun k=>cc.getD k undef)) (by simp) holds ⟨b2,o2,none⟩ d.length capx ((List.range (d.length*i.size)).map G) (by simp) hc2 (by omega) (by omega) (growslice_fits (by omega) hbig),r1,Step.trans sd r2,r3⟩
  by_cases hc0:cap=0
  ·subst hc0
   have h0:c.length=0:=by omega
   exact fresh a (by omega) (by rw [h0];simp)
  ·rcases had with h00 | rfl
   ·exact absurd h00 hc0
   ·have holds:∀ j v,((List.range (c.length*i.size)).map (fun k=>cc.getD k undef))[j]? = some v→w.cell? ((⟨b,0*i.size,none⟩:Addr).add j)=some v:=by
     intro j v hj
     have hlt:j < c.length*i.size:=by simpa using (List.getElem?_eq_some_iff.1 hj).1
     rw [List.getElem?_map,List.getElem?_range hlt] at hj
     simp only [Option.map_some,Option.some.injEq] at hj
     subst hj
     rw [Nat.zero_mul,Addr.add_lit,Nat.zero_add,cell_of_row w b j cc T (0,0) q2]
     simp [Array.getD_eq_getD_getElem?,show j < cc.size by omega]
    by_cases hroom:c.length+d.length≤cap
    ·have hmul:(c.length+d.length)*i.size≤cap*i.size:=Nat.mul_le_mul_right _ hroom
     rw [Nat.zero_add] at hsz2
     rw [Nat.add_mul] at hmul
     have hrun:=z68 (P:=P) (w:=w) t ty el T i hu hi b c.length cap cc q2 ⟨b2,o2,none⟩ d.length capx ((List.range (d.length*i.size)).map G) (by simp) hc2 h1c hroom (by simp;omega)
     generalize hnew:(cc.toList.take (c.length*i.size)++(List.range (d.length*i.size)).map G++cc.toList.drop (c.length*i.size+((List.range (d.length*i.size)).map G).length)).toArray=c2 at hrun
     have hsz':c2.size=cc.size:=by rw [← hnew];simp;omega
     have wu:=WUpd.setRow w b cc c2 T (0,0) q2 hsz'
     have hget:∀ k,k < (c++d).length*i.size→(if k < c.length*i.size then cc.getD k undef else G (k - c.length*i.size))=c2.getD k undef:=by
      intro k hk
      rw [hcl,Nat.add_mul] at hk
      rw [← hnew,z2z cc _ _ (by simp;omega)]
      simp only [List.length_map,List.length_range]
      by_cases hk1:k < c.length*i.size
      ·rw [if_pos hk1,if_neg (by omega)]
      ·rw [if_neg hk1,if_pos (by omega)]
       simp [List.getD_eq_getElem?_getD,List.getElem?_map,List.getElem?_range (show k - c.length*i.size < d.length*i.size by omega)]
     have hcm:Compat (.mem i.size c) (.mem i.size (c++d)):=⟨rfl,by omega⟩
     have st:=z2b hr hid hmb hcm wu
     have hr2:=HR.set hr hid hmb hcm wu ⟨b,c2,T,hmb,setRow_heap w b cc c2 T (0,0) q2,by rw [hcl,Nat.add_mul];omega,(hrowcd.congr hget).step st⟩
     obtain ⟨r1,r2⟩:=zg8 (nm:=nm) hr2 (show ¬ (h.set id _).used nm from hf) (show (h.set id (some (.mem i.size (c++d)))).get id=some (.mem i.size (c++d)) by simp [AHeap.set]) hmb
     have hss:(h.set id (some (.mem i.size (c++d)))).set id none=h.set id none:=by
      simp only [AHeap.set,AHeap.mk.injEq,and_true]
      funext j;split <;> rfl
     rw [hss] at r1 r2
     rw [Nat.zero_mul]
     refine ⟨_,_,_,hrun,r1,Step.trans st r2,.ref nm 0 _ cap _ z2 hroom fun sz c' hg => ?_⟩
     simp only [AHeap.put,if_true,Option.some.injEq,AObj.mem.injEq] at hg
     obtain ⟨rfl,rfl⟩:=hg
     exact ⟨b,by simp [upd],by omega,.inr (by simp),c2,T,setRow_heap w b cc c2 T (0,0) q2,by rw [Nat.zero_add,hsz'];exact hsz2⟩
    ·exact fresh _ (by omega) holds
theorem FX.appR {d:Nat}{sz bytes:Nat}{x y:Opd}{g:Option (Nat×Bool)}{v:AV}{id n:Nat}{c c2:List (List AV)}(hf:¬ h.used nm)(hx:ev e x=some (.ref id 0 n))(hid:h.get id=some (.mem sz c))(hn:c.length=n)(hy:ev e y=some v)(hc:rdS h.get sz v=some c2)(hne:c2≠[])(hb:(n+c2.length)*bytes≤140737488355328)(hg:met e g) :
  FX P N ⟨some d,.app sz bytes x y,g⟩ e h (some (.ref nm 0 (n+c2.length))) ((h.set id none).put nm (.mem sz (c++c2))):=by
 intro ops j o ho hcc e2 hs m w a K Q hr he hk
 have hraw:=z5w hcc rfl
 rcases zx hcc with ⟨hb1,hb2⟩ | ⟨hd,hdst,_,hgd⟩
 ·cases hb1
 ·obtain ⟨w1,w2⟩:=zl he hgd
  have hi:∀ s∈z16 (.app sz bytes x y),lk s e2=lk s e:=fun s h=>hs s (by unfold zk;split <;> simp [h])
  have hw:Region.wanted o (yielded ops a.tmps)=true:=by
   cases g with
   | none => exact w1 rfl
   | some sb =>
    obtain ⟨s,b⟩:=sb
    have hl:lk s e2=some (.bool b):=(hs s (by simp [zk])).trans hg
    rw [w2 s b b rfl hl];simp
  simp only [wpOp,ho]
  rw [if_pos hw]
  left
  obtain ⟨cl,s,n',t,el,i,z,hop,hcal,hargs,hat,hu,h1,h2,hinf,hz,p1,p2,p3,rfl,rfl⟩:=zpi hraw
  have hx2:ev e2 x=some (.ref id 0 n):=(z5 fun s h=>hi s (by simp [z16,h])).trans hx
  have hy2:ev e2 y=some v:=(z5 fun s h=>hi s (by simp [z16,h])).trans hy
  have ha':cl.args=#[s,n']:=by rw [← Array.toArray_toList (xs:=cl.args),hargs]
  have hat':cl.argTypes=#[t,t]:=by rw [← Array.toArray_toList (xs:=cl.argTypes),hat]
  have e1:=he.eval h1 hx2
  have e3:=he.eval h2 hy2
  obtain ⟨m',w',cv,q1,q2,q3,q4⟩:=zot (P:=P) (ty:=o.type) hr hf hu hinf hz p1 p2 p3 e1 hid hn e3 hc hne hb
  have hrun:(execOp a.eval o).run P w = .ok (.value cv) w':=by simp [execOp,hop,resolve,hcal,ha',hat',invoke,builtin,q1]
  have hd':some d=o.dst:=hd
  unfold Oper.wp
  rw [hrun,Oper.upon_value]
  refine hk m' w' _ q2 ?_ q3
  show ER N m' _ w' (putR (some d) (some _) e2) _
  rw [hd']
  exact (he.step q3).putR hdst q4
end
end Go.Abs


namespace Go.Proofs.YthblcmnhiccnhaaGreat
open Go Go.Abs

theorem zhp {cells:List AV}{off:Nat}{v:AV}(h:off < cells.length):putC cells off [v]=cells.set off v:=by
 rw [putC,List.set_eq_take_append_cons_drop,if_pos h];simp
theorem z8v {m:List AV}(hm:m.length=32)(a u0 u1 u2 v:AV):putC (a::(m++[u0,u1,u2])) 33 [v]=a::(m++[v,u1,u2])∧putC (a::(m++[u0,u1,u2])) 34 [v]=a::(m++[u0,v,u2])∧putC (a::(m++[u0,u1,u2])) 35 [v]=a::(m++[u0,u1,v]):=by
 refine ⟨?_,?_,?_⟩ <;> (rw [zhp (by simp;omega),List.set_cons_succ,List.set_append_right _ _ (by omega)];simp [hm])
theorem zrf {m:List AV}(hm:m.length=32)(a:AV)(r:List AV)(v:AV){i:Nat}(hi:i < 32):putC (a::(m++r)) (1+i) [v]=a::(m.set i v++r):=by
 rw [zhp (by simp;omega),Nat.add_comm,List.set_cons_succ,List.set_append_left _ _ (by omega)]
theorem z64 {m:List AV}(hm:m.length=32)(a u0 u1 u2:AV):(a::(m++[u0,u1,u2]))[33]? = some u0∧(a::(m++[u0,u1,u2]))[34]? = some u1∧(a::(m++[u0,u1,u2]))[35]? = some u2:=by
 refine ⟨?_,?_,?_⟩ <;> (rw [List.getElem?_cons_succ,List.getElem?_append_right (by omega)];simp [hm])
theorem zrg {m:List AV}(a:AV)(r:List AV){i:Nat}(hi:i < m.length):(a::(m++r))[1+i]? = some m[i]:=by
 rw [Nat.add_comm,List.getElem?_cons_succ,List.getElem?_append_left hi,List.getElem?_eq_getElem hi]
theorem z3d {cells:List AV}{off:Nat}{v:AV}(hx:cells[off]? = some v):getC 1 false cells off=some v:=ze hx rfl
theorem zg9 (h:AHeap)(d:Nat)(lba:Int):AE Tryz.prog 86 [.ptr d 0 0,.int .i64 lba] h (.bool (decide (0≤lba)&&decide (lba < 32))) h:=by
 refine AE.pureW zg6 (by simp) ?_
 unfold z8q;dsimp only [qQ,qR,qM,qG]
 (refine go ?_)
 (apply WL.andB;exact rfl;exact rfl;exact rfl;exact BP.of;intro hz1)
 ·(repeat first | (apply GW.goS;exact Stp.auto) | apply GW.nil | exact rfl)
 (refine go ?_)
 refine WW.ret (PureQ.finD ?_)
 exact fz_b (by simp)
def dkPut (n:DkN)(w:PwS)(x:DkS)(h:AHeap):AHeap:=(((h.set n.p (some (.mem 4 [w.row]))).set n.w (some (.tail x.gen x.waits.length))).set n.t (some (.tail 0 x.trace.length))).set n.d (some (.mem 36 [dkRow n.p n.w n.t x]))
structure DkNe (h:AHeap)(n:DkN):Prop where
 a1:n.p < h.next
 a2:n.d < h.next
 a4:n.w < h.next
 a5:n.t < h.next
 b1:n.p≠n.d
 b3:n.p≠n.w
 b4:n.p≠n.t
 b6:n.d≠n.w
 b7:n.d≠n.t
 bx:n.w≠n.t
theorem DkAt.nes {h:AHeap}{n:DkN}{w:PwS}{x:DkS}(hd:DkAt h n w x)(hwf:∀ id y,h.get id=some y→id < h.next):DkNe h n:=by
 obtain ⟨q1,q2,q4,q5,q6,q7⟩:=hd
 have key:∀ {i j:Nat} {y z:AObj},h.get i=some y→h.get j=some z→y≠z→i≠j:=fun hi hj hne e=>by
  subst e;rw [hi] at hj;exact hne (Option.some.inj hj)
 refine ⟨hwf _ _ q1,hwf _ _ q2,hwf _ _ q4,hwf _ _ q5,key q1 q2 ?_,key q1 q4 ?_,key q1 q5 ?_,key q2 q4 ?_,key q2 q5 ?_,q6⟩ <;> simp
theorem DkAt.put {h:AHeap}{n:DkN}(hn:DkNe h n)(w':PwS){x':DkS}(hl:x'.lasts.length=32):DkAt (dkPut n w' x' h) n w' x':=by
 obtain ⟨a1,a2,a4,a5,b1,b3,b4,b6,b7,bx⟩:=hn
 unfold dkPut
 exact ⟨gH,gH,gH,gH,bx,hl⟩
theorem zq1 {h:AHeap}{n:DkN}{w':PwS}{x':DkS}{id:Nat}(h1:id≠n.p)(h2:id≠n.d)(h4:id≠n.w)(h5:id≠n.t):(dkPut n w' x' h).get id=h.get id :=
 z1 h2 (z1 h5 (z1 h4 (z1 h1 rfl)))
theorem z6t {h h1:AHeap}{n:DkN}{w':PwS}{x':DkS}(hk:KeepsB [n.p,n.d,n.w,n.t] h h1)(hd:DkAt h1 n w' x'):Keeps (dkPut n w' x' h) h1:=by
 refine ⟨hk.1,fun id hu => ?_⟩
 simp only [dkPut,zc]
 split
 ·rename_i e;rw [e,hd.ob]
 ·split
  ·rename_i e;rw [e,hd.tr]
  ·split
   ·rename_i e;rw [e,hd.wt]
   ·split
    ·rename_i e;rw [e,hd.pw]
    ·rename_i e1 e2 e3 e5
     exact hk.2 id hu (by simp [e1,e2,e3,e5])
theorem zq2 (b:Bs)(N:Nat→Prop):Clo N (encBl b) := .imm _ _ fun y hy u hu=>by
 obtain ⟨c,_,rfl⟩:=List.mem_map.1 hy
 exact z13 (by simp only [encB,List.mem_singleton] at hu;subst hu;rfl)
theorem zq3 {h:AHeap}{n:DkN}{w:PwS}{x:DkS}(hd:DkAt h n w x)(w':PwS)(x':DkS):Ext h (dkPut n w' x' h):=by
 obtain ⟨q1,q2,q4,q5,q6,q7⟩:=hd
 refine Ext.set (Ext.set (x := .tail _ _) (Ext.set (x := .tail _ _) (Ext.set Ext.refl (Nm.old q1) (z58 (PwS.flat _))) (Nm.old q4) trivial) (Nm.old q5) trivial) (Nm.old q2) ?_
 intro y hy v hv
 simp only [List.mem_singleton] at hy
 subst hy
 simp only [dkRow,List.mem_cons,List.mem_append,List.mem_map,List.not_mem_nil,or_false] at hv
 rcases hv with rfl | ⟨b,_,rfl⟩ | rfl | rfl | rfl
 ·exact .ptr _ _ _ (Nm.old q1)
 ·exact zq2 b _
 ·exact .app _ _ _ _ (Nm.old q4) zcs
 ·exact .app _ _ _ _ (Nm.old q5) zcs
 ·exact .bool _
def DkS.may (x:DkS)(lba:Int)(b:Bs):Bool:=decide (0≤lba)&&decide (lba < 32)&&decide (b.length=32) && !x.refuses
def DkS.write (x:DkS)(o:Wr)(ok:Bool):DkS:=if ok then { x with waits:=x.waits++[o],trace:=x.trace++[o] } else x
set_option maxHeartbeats 1000000 in
theorem zjy {h:AHeap}{n:DkN}{w:PwS}{x:DkS}{k:Nat}(hd:DkAt h n w x)(hw:w.Ok k)(hk:k≤1000000000)(h1:x.waits.length≤1000000)(h2:x.trace.length≤1000000)(lba:Int)(b:Bs)(hb:b.length≤1000000) :
  AE Tryz.prog 35 [.ptr n.d 0 0,.int .i64 lba,.imm 1 (b.map encB)] h (.bool (x.may lba b&&w.can)) (dkPut n (if x.may lba b then w.spend else w) (x.write (lba,b) (x.may lba b&&w.can)) h):=by
 refine AE.wf fun hwf => ?_
 have hns:=hd.nes hwf
 obtain ⟨a1,a2,a4,a5,b1,b3,b4,b6,b7,bx⟩:=id hns
 have hd':=hd
 obtain ⟨q1,q2,q4,q5,q6,q7⟩:=hd
 have hm:(x.lasts.map encBl).length=32:=by simpa using q7
 obtain ⟨r33,r34,r35⟩:=z64 hm (.ptr n.p 0 0) (.app n.w x.gen 2 (x.waits.map encO)) (.app n.t 0 2 (x.trace.map encO)) (.bool x.refuses)
 have hno:∀ e1,x.may lba b=false→h=e1→Keeps (dkPut n (if x.may lba b then w.spend else w) (x.write (lba,b) (x.may lba b&&w.can)) h) e1:=fun e1 hf he=>by
  subst he
  refine z6t KeepsB.refl ?_
  rw [hf,if_neg (by simp),Bool.false_and,DkS.write,if_neg (by simp)]
  exact hd'
 refine AE.effW zc3 (by simp) (zq3 hd' _ _) ?_
 unfold z5s;dsimp only [qQ,qR,qM,qG]
 (refine go ?_)
 refine WL.call rfl gM gSL (zg9 _ n.d lba) ?_
 (refine go ?_)
 (refine WL.spB rfl (fun hz1 => ?_) (fun hz1 => ?_))
 ·(refine go ?_)
  refine WW.ret (EffQ.finD ?_ ?_)
  ·exact hno _ (by simp only [DkS.may,hz1,Bool.false_and]) rfl
  ·exact fz_b (by simp only [DkS.may,hz1,Bool.false_and])
 (refine go ?_)
 (refine WL.spB rfl (fun hz2 => ?_) (fun hz2 => ?_))
 ·have hmay:x.may lba b=false:=by
   have:decide (b.length=32)=false:=decide_eq_false (by omega)
   simp [DkS.may,this]
  (refine go ?_)
  refine WW.ret (EffQ.finD ?_ ?_)
  ·exact hno _ hmay rfl
  ·exact fz_b (by rw [hmay];rfl)
 have hz2':b.length=32:=by omega
 (refine go ?_)
 refine WL.go (hs:=Stp.load1 rfl q2 (z3d r35) gM) ?_
 cases hr:x.refuses with
 | true =>
  have hmay:x.may lba b=false:=by rw [DkS.may,hr];simp
  (refine go ?_)
  refine WW.ret (EffQ.finD ?_ ?_)
  ·exact hno _ hmay rfl
  ·exact fz_b (by rw [hmay];rfl)
 | false =>
  have hmay:x.may lba b=true:=by rw [DkS.may,hz1,hr,decide_eq_true hz2'];rfl
  (refine go ?_)
  refine WL.call rfl gM gSL (z1a q1 hw hk) ?_
  cases hcan:w.can with
  | false =>
   (refine go ?_)
   refine WW.ret (EffQ.finD ?_ ?_)
   ·refine z6t gKB ?_
    rw [hmay,if_pos rfl,Bool.and_false,DkS.write,if_neg (by simp)]
    exact ⟨gH,gH,gH,gH,bx,q7⟩
   ·exact fz_b (by rw [hmay];rfl)
  | true =>
   (repeat first | refine WL.go ?_ | refine WW.seq ?_ | refine WW.reg ?_ | refine WL.nil ?_ | refine WW.skip ?_ | refine WW.block ?_ | refine WW.exit ?_ | refine WW.condT rfl ?_ | refine WW.condF rfl ?_ | refine WL.gox ?_ | refine thenN ?_ | refine blkN ?_)
   refine WW.dregX [10,13] [] [n.w,n.d] gN (by decide +kernel) ?_
   iterate 4 (refine DW.go ?_)
   refine DW.go (hs:=Stp.load1 rfl (gH:_=some (.mem 36 [dkRow n.p n.w n.t x])) (z3d r33) gM) ?_
   (refine go ?_)
   refine DW.callS rfl gM gSL rfl (zp b hb _) ?_
   (refine go ?_)
   refine DW.goW (hs:=Stp.store1N (cs := .ptr n.p 0 0::(x.lasts.map encBl++[.app n.w x.gen 2 (x.waits.map encO++[encO (lba,b)]),.app n.t 0 2 (x.trace.map encO),.bool x.refuses])) rfl rfl (gH:_=some (.mem 36 [dkRow n.p n.w n.t x])) rfl (by simp [dkRow,q7]) rfl (z8v hm _ _ _ _ _).1 gM) ?_ (fun hp=>PhiW.setW (by simp) hp)
   refine DW.endL ?_
   refine thenN ?_
   (repeat first | refine WW.seq ?_ | refine WW.reg ?_ | refine WL.nil ?_ | refine WW.skip ?_ | refine WW.block ?_ | refine thenN ?_ | refine blkN ?_)
   refine WW.dregX [10,13] [] [n.t,n.d] gN (by decide +kernel) ?_
   iterate 4 (refine DW.go ?_)
   refine DW.go (hs:=Stp.load1 rfl gH (z3d (z64 hm _ _ _ _).2.1) gM) ?_
   (refine go ?_)
   refine DW.callS rfl gM gSL rfl (zp b hb _) ?_
   iterate 2 (refine DW.go ?_)
   refine DW.goWP ?_
   iterate 2 (refine DW.go ?_)
   refine DW.goW (hs:=Stp.store1N (cs := .ptr n.p 0 0::(x.lasts.map encBl++[.app n.w x.gen 2 (x.waits.map encO++[encO (lba,b)]),.app n.t 0 2 (x.trace.map encO++[encO (lba,b)]),.bool x.refuses])) rfl rfl gH rfl (by simp [q7]) rfl (z8v hm _ _ _ _ _).2.1 gM) ?_ (fun hp=>PhiW.setW (by simp) hp)
   refine DW.endL ?_
   (refine go ?_)
   refine WW.ret (EffQ.finD ?_ ?_)
   ·refine z6t gKB ?_
    rw [hmay,if_pos rfl,Bool.and_self,DkS.write,if_pos rfl]
    have ho:dkRow n.p n.w n.t { x with waits:=x.waits++[(lba,b)],trace:=x.trace++[(lba,b)] } = .ptr n.p 0 0::(x.lasts.map encBl++[.app n.w x.gen 2 (x.waits.map encO++[encO (lba,b)]),.app n.t 0 2 (x.trace.map encO++[encO (lba,b)]),.bool x.refuses]):=by simp [dkRow]
    have e1:(x.waits++[(lba,b)]).length=x.waits.length+1:=by simp
    have e2:(x.trace++[(lba,b)]).length=x.trace.length+1:=by simp
    refine ⟨gH,?_,?_,?_,bx,q7⟩
    ·rw [ho];exact gH
    ·simp only [e1];exact gH
    ·simp only [e2];exact gH
   ·exact fz_b (by rw [hmay];rfl)
def DkS.block (x:DkS)(lba:Int):Bs:=x.waits.foldl (fun b o=>if o.1=lba then o.2 else b) (x.lasts.getD lba.toNat [])
theorem zll {h:AHeap}{n:DkN}{w:PwS}{x:DkS}(hd:DkAt h n w x)(h1:x.waits.length≤1000000)(hb:∀ b∈x.lasts,b.length≤1000000)(hw:∀ o∈x.waits,o.2.length≤1000000)(lba:Int) :
  AE Tryz.prog 32 [.ptr n.d 0 0,.int .i64 lba] h (.tup [.imm 1 ((if decide (0≤lba)&&decide (lba < 32) && !w.gone then x.block lba else []).map encB),.bool (decide (0≤lba)&&decide (lba < 32) && !w.gone)]) h:=by
 refine AE.wf fun hwf => ?_
 obtain ⟨a1,a2,a4,a5,b1,b3,b4,b6,b7,bx⟩:=hd.nes hwf
 have hd':=hd
 obtain ⟨q1,q2,q4,q5,q6,q7⟩:=hd
 have hm:(x.lasts.map encBl).length=32:=by simpa using q7
 obtain ⟨r33,r34,r35⟩:=z64 hm (.ptr n.p 0 0) (.app n.w x.gen 2 (x.waits.map encO)) (.app n.t 0 2 (x.trace.map encO)) (.bool x.refuses)
 refine AE.pureW zda (by simp) ?_
 unfold z6q;dsimp only [qQ,qR,qM,qG]
 (refine go ?_)
 refine WL.call rfl gM gSL (zg9 _ n.d lba) ?_
 cases hin:(decide (0≤lba)&&decide (lba < 32)) with
 | false =>
  (refine go ?_)
  refine WW.ret (PureQ.finD ?_)
  exact Fz.tup2 (.nil _) (fz_b rfl)
 | true =>
  (refine go ?_)
  refine WL.call rfl gM gSL (z1x q1) ?_
  cases hg:w.gone with
  | true =>
   (refine go ?_)
   refine WW.ret (PureQ.finD ?_)
   exact Fz.tup2 (.nil _) (fz_b rfl)
  | false =>
   have hl:0≤lba∧lba < 32:=by simpa using hin
   (refine go ?_)
   have hi:lba.toNat < x.lasts.length:=by omega
   have hgb:(dkRow n.p n.w n.t x)[0+1+lba.toNat*1]? = some (encBl x.lasts[lba.toNat]):=by
    rw [show 0+1+lba.toNat*1=1+lba.toNat by omega,dkRow,zrg _ _ (by simpa using hi)];simp
   refine WL.go (hs:=Stp.load1 rfl q2 (z3d hgb) gM) ?_
   have hst:(x.waits.drop 0).foldl (fun b o=>if o.1=lba then o.2 else b) x.lasts[lba.toNat]=x.block lba:=by
    rw [DkS.block,List.getD_eq_getElem?_getD,List.getElem?_eq_getElem hi];rfl
   have hb0:x.lasts[lba.toNat].length≤1000000:=hb _ (List.getElem_mem hi)
   generalize x.lasts[lba.toNat]=b0 at *
   unfold encBl
   (refine go ?_)
   refine WL.go (hs:=Stp.load1 rfl q2 (z3d r33) gM) ?_
   (refine go ?_)
   refine WW.loopE (fun (s:Nat×Bs)=>[(1,some (.int .i64 lba)),(6,some (.imm 1 (s.2.map encB))),(30,some (.app n.w x.gen 2 (x.waits.map encO))),(31,some (.int .i64 x.waits.length)),(32,some (.int .i64 s.1))])
    (fun s h'=>Keeps h h'∧h.next≤h'.next∧s.1≤x.waits.length∧s.2.length≤1000000∧(x.waits.drop s.1).foldl (fun b o=>if o.1=lba then o.2 else b) s.2=x.block lba)
    (fun s=>x.waits.length - s.1) (0,b0) gSUB ⟨Keeps.refl _,Nat.le_refl _,Nat.zero_le _,hb0,hst⟩ ?_
   rintro ⟨i,b⟩ h' ⟨g1,g2,g3,g4,g5⟩
   dsimp only at g1 g2 g3 g4 g5 ⊢
   obtain ⟨nx,hnx⟩:∃ nx,h'.next=nx:=⟨_,rfl⟩
   (refine go ?_)
   (refine WW.ifB rfl (fun hz1 => ?_) (fun hz1 => ?_))
   ·have hi2:i < x.waits.length:=by omega
    have hwi:=hw x.waits[i] (List.getElem_mem hi2)
    (refine go ?_)
    (refine WW.ifB rfl (fun hz2 => ?_) (fun hz2 => ?_))
    ·(refine go ?_)
     refine ⟨(i+1,x.waits[i].2),gSUB,⟨gK,(leN gN (by omega)),by dsimp only;omega,hwi,?_⟩,by dsimp only;omega⟩
     rw [← g5,List.drop_eq_getElem_cons hi2,List.foldl_cons,if_pos hz2]
    ·(refine go ?_)
     refine ⟨(i+1,b),gSUB,⟨gK,(leN gN (by omega)),by dsimp only;omega,g4,?_⟩,by dsimp only;omega⟩
     rw [← g5,List.drop_eq_getElem_cons hi2,List.foldl_cons,if_neg hz2]
   ·have hi2:i=x.waits.length:=by omega
    subst hi2
    simp only [List.drop_length,List.foldl_nil] at g5
    (refine go ?_)
    refine WL.call rfl gM gSL (zp b g4 _) ?_
    (refine go ?_)
    refine WW.ret (PureQ.finD ?_)
    exact Fz.tup2 (z6r (by rw [← g5];rfl)) (fz_b rfl)
end Go.Proofs.YthblcmnhiccnhaaGreat


namespace Go.Proofs.YthblcmnhiccnhaaGreat
open Go Go.Abs

structure zga (f:Nat):Prop where
 ok:z2j Tryz.prog f=true
def z22 (K:Nat→Bool):Nat→List Wr→Bs→Bs
 | _, [], b => b
 | i, x :: r, b => z22 K (i + 1) r (if K i then layO b x else b)
theorem z5y (K:Nat→Bool)(n:Nat):∀ (l:List Wr) (i:Nat) (b:Bs),(∀ x∈l,0≤x.1∧x.1+x.2.length≤n)→b.length=n→(z22 K i l b).length=n
 | [], _, _, _, hb => hb
 | x :: r, i, b, hw, hb => by
  rw [z22]
  refine z5y K n r (i+1) _ (fun y hy=>hw y (by simp [hy])) ?_
  split
  ·rw [z9q _ _ (by have:=hw x (by simp);omega),hb]
  ·exact hb
def SdS.settle (x:SdS)(K:Nat→Bool):SdS:={ x with lasts:=z22 K 0 x.waits x.lasts,waits:=[],gen:=x.gen+1 }
theorem znn (b:Bs)(o:Int)(d:Bs):List.take o.toNat (b.map encB)++List.take (min (d.map encB).length (b.length - o.toNat)) (d.map encB)++List.drop (o.toNat+min (d.map encB).length (b.length - o.toNat)) (b.map encB)=(layO b (o,d)).map encB:=by
 simp [layO,List.map_take,List.map_drop]
set_option maxHeartbeats 1000000 in
theorem zhq {h:AHeap}{n:SdN}{w:PwS}{x:SdS}(hd:SdAt h n w x)(hl:x.lasts.length≤1000000)(h1:x.waits.length≤1000000)(hw:∀ o∈x.waits,0≤o.1∧o.1+o.2.length≤x.lasts.length)(K:Nat→Bool){f:Nat}{us ts:List AV}(hb:zga f)
  (hK:∀ h2,KeepsB [n.B] h h2→∀ i:Nat,i < x.waits.length→AE Tryz.prog f (us++[.int .i64 i]++ts) h2 (.bool (K i)) h2) :
  AE Tryz.prog 92 [.ptr n.s 0 0,.func (.func f) us ts] h (.tup []) (sdPut n w (x.settle K) h):=by
 refine AE.wfU fun hwu => ?_
 obtain ⟨a1,a2,a3,a4,a5,b1,b2,b3,b4,b5,b6,b7,b8,b9,bx⟩:=hd.nes fun id y hy=>(hwu id y hy).1
 have hd':=hd
 obtain ⟨q1,q2,q3,q4,q5,q6⟩:=hd
 refine AE.effW zc1 (by simp) (zlg hd' _ _) ?_
 unfold z5q;dsimp only [qQ,qR,qM,qG]
 have q2':=q2
 simp only [SdS.obj] at q2'
 (refine go ?_)
 refine WW.loopE (fun (s:Nat×Bs)=>[(0,some (.ptr n.s 0 0)),(1,some (.func (.func f) us ts)),(9,some (.app n.w x.gen 2 (x.waits.map encO))),(10,some (.int .i64 x.waits.length)),(11,some (.int .i64 s.1))])
  (fun s h'=>h'.get n.B=some (.mem 1 (s.2.map encB))∧KeepsB [n.B] h h'∧s.2.length=x.lasts.length∧s.1≤x.waits.length∧z22 K s.1 (x.waits.drop s.1) s.2=z22 K 0 x.waits x.lasts)
  (fun s=>x.waits.length - s.1) (0,x.lasts) gSUB ⟨gH,KeepsB.refl,rfl,Nat.zero_le _,rfl⟩ ?_
 rintro ⟨i,b⟩ h' ⟨g1,g2,g3,g4,g5⟩
 dsimp only at g1 g2 g3 g4 g5 ⊢
 have gn:=g2.1
 obtain ⟨nx,hnx⟩:∃ nx,h'.next=nx:=⟨_,rfl⟩
 have p2:=(g2.2 n.s (hwu _ _ q2) (by simpa using b5)).trans q2'
 (refine go ?_)
 (refine WW.ifB rfl (fun hz1 => ?_) (fun hz1 => ?_))
 ·have hi:i < x.waits.length:=by omega
  have hwi:=hw x.waits[i] (List.getElem_mem hi)
  (repeat first | refine WW.seq ?_ | refine WW.reg ?_ | refine WL.nil ?_ | refine WW.skip ?_ | refine WW.block ?_ | refine thenN ?_ | refine blkN ?_);iterate 6 (refine WL.go ?_)
  (repeat first | refine WW.seq ?_ | refine WW.reg ?_ | refine WL.nil ?_ | refine WW.skip ?_ | refine WW.block ?_ | refine thenN ?_ | refine blkN ?_);iterate 2 (refine WL.go ?_)
  refine WL.fx1 (FX.callv rfl rfl gM hb.ok (hK _ gKB i hi)) ?_
  cases hKi:K i with
  | true =>
   (repeat first | refine WL.go ?_ | refine WW.seq ?_ | refine WW.reg ?_ | refine WL.nil ?_ | refine WW.skip ?_ | refine WW.block ?_ | refine WW.exit ?_ | refine WW.condT rfl ?_ | refine WW.condF rfl ?_ | refine WL.gox ?_ | refine thenN ?_ | refine blkN ?_)
   refine WW.dregX [9] [] [n.B] gN (by decide +kernel) ?_
   (refine go ?_)
   have hm:List.take (0+x.waits[i].1.toNat) (b.map encB)++List.take (min (x.waits[i].2.map encB).length (x.lasts.length - x.waits[i].1.toNat)) (x.waits[i].2.map encB)++List.drop (0+x.waits[i].1.toNat+min (x.waits[i].2.map encB).length (x.lasts.length - x.waits[i].1.toNat)) (b.map encB)=(layO b x.waits[i]).map encB:=by
    rw [Nat.zero_add,← g3];exact znn b x.waits[i].1 x.waits[i].2
   refine ⟨(i+1,layO b x.waits[i]),gSUB,⟨?_,gKB,by dsimp only;rw [z9q _ _ (by omega),g3],by dsimp only;omega,?_⟩,by dsimp only;omega⟩
   ·dsimp only
    rw [← hm];exact gH
   ·rw [← g5,List.drop_eq_getElem_cons hi,z22,hKi];rfl
  | false =>
   (refine go ?_)
   refine ⟨(i+1,b),gSUB,⟨gH,gKB,g3,by dsimp only;omega,?_⟩,by dsimp only;omega⟩
   rw [← g5,List.drop_eq_getElem_cons hi,z22,hKi];rfl
 ·have hi:i=x.waits.length:=by omega
  have p4:=(g2.2 n.w (hwu _ _ q4) (by simpa using Ne.symm b8)).trans q4
  subst hi
  simp only [List.drop_length,z22] at g5
  refine WW.exit ?_
  (repeat first | refine WW.seq ?_ | refine WW.reg ?_ | refine WL.nil ?_ | refine WW.skip ?_ | refine WW.block ?_ | refine thenN ?_ | refine blkN ?_);iterate 4 (refine WL.go ?_)
  refine WL.cvt (Cvt.anewM 2 (id:=n.s) (i:=0) (j:=2) (t:=n.w) (g:=x.gen) (n:=x.waits.length) gH gH rfl rfl) ?_
  (refine go ?_)
  have p1:=(g2.2 n.p (hwu _ _ q1) (by simpa using b2)).trans q1
  have p5:=(g2.2 n.t (hwu _ _ q5) (by simpa using Ne.symm b9)).trans q5
  have gk:KeepsB [n.p,n.s,n.B,n.w,n.t] h h':=⟨g2.1,fun id hu hn=>g2.2 id hu (by simp at hn ⊢;exact hn.2.2.1)⟩
  have hlen:=z5y K x.lasts.length x.waits 0 x.lasts hw rfl
  subst g5
  refine EffQ.fin (.inr rfl) ?_ gRES ?_
  ·refine z4t gKB ⟨gH,?_,gH,gH,gH,bx⟩
   have ho:(x.settle K).obj n = .mem 4 [[.ptr n.p 0 0,.ref n.B 0 x.lasts.length,.app n.w (x.gen+1) 2 [],.app n.t 0 2 (x.trace.map encO)]]:=by simp [SdS.obj,SdS.settle,hlen]
   rw [ho]
   exact gH
  ·exact zt9
theorem zou (i:Int)(h:AHeap):AE Tryz.prog 93 [.int .i64 i] h (.bool true) h:=by
 refine AE.pureW zop (by simp) ?_
 unfold ziv;dsimp only [qQ,qR,qM,qG]
 (refine go ?_)
 refine WW.ret (PureQ.finD ?_)
 exact fz_b rfl
def SdS.barrier (x:SdS)(ok:Bool):SdS:=if ok then { x.settle (fun _=>true) with trace:=x.trace++[(-1,[])] } else x
theorem zhr {h:AHeap}{n:SdN}{w:PwS}{x:SdS}{k:Nat}(hd:SdAt h n w x)(hwk:w.Ok k)(hk:k≤1000000000)(hl:x.lasts.length≤1000000)(h1:x.waits.length≤1000000)(h2:x.trace.length≤1000000)(hw:∀ o∈x.waits,0≤o.1∧o.1+o.2.length≤x.lasts.length) :
  AE Tryz.prog 254 [.ptr n.s 0 0] h (.bool w.can) (sdPut n w.spend (x.barrier w.can) h):=by
 refine AE.wf fun hwf => ?_
 have hns:=hd.nes hwf
 obtain ⟨a1,a2,a3,a4,a5,b1,b2,b3,b4,b5,b6,b7,b8,b9,bx⟩:=id hns
 have hd':=hd
 obtain ⟨q1,q2,q3,q4,q5,q6⟩:=hd
 refine AE.effW zc2 (by simp) (zlg hd' _ _) ?_
 unfold z5r;dsimp only [qQ,qR,qM,qG]
 have q2':=q2
 simp only [SdS.obj] at q2'
 (refine go ?_)
 refine WL.call rfl gM gSL (z1a q1 hwk hk) ?_
 cases hcan:w.can with
 | false =>
  (refine go ?_)
  refine WW.ret (EffQ.finD ?_ ?_)
  ·refine z4t gKB ?_
   rw [SdS.barrier,if_neg (by simp)]
   exact ⟨gH,gH,gH,gH,gH,bx⟩
  ·exact fz_b rfl
 | true =>
  (refine go ?_)
  have hs:SdAt (h.set n.p (some (.mem 4 [w.spend.row]))) n w.spend x:=⟨gH,gH,gH,gH,gH,bx⟩
  refine WL.call rfl gM gSL (zhq hs hl h1 hw (fun _=>true) ⟨by kernel_rfl⟩ (fun h2 _ i _=>zou i h2)) ?_
  refine WL.named (fun h5=>SdAt h5 n w.spend (x.settle fun _=>true)∧KeepsB [n.p,n.s,n.B,n.w,n.t] h h5) ⟨SdAt.put (h:=h.set n.p (some (.mem 4 [w.spend.row]))) ⟨a1,a2,a3,a4,a5,b1,b2,b3,b4,b5,b6,b7,b8,b9,bx⟩ _ _,?_⟩ ?_
  ·unfold sdPut;exact gKB
  rintro h5 ⟨⟨r1,r2,r3,r4,r5,_⟩,r6⟩
  have r7:=r6.1
  have r2':=r2
  simp only [SdS.obj,SdS.settle,List.map_nil] at r2'
  simp only [SdS.settle] at r3 r4 r5
  (repeat first | refine WW.seq ?_ | refine WW.reg ?_ | refine WL.nil ?_ | refine WW.skip ?_ | refine WW.block ?_ | refine thenN ?_ | refine blkN ?_);iterate 6 (refine WL.go ?_)
  refine WL.cvt (Cvt.sub1 (s:=20) (v := .agg (encO (-1,[]))) rfl (SubV.agg (.cons (.refl _) (.cons .nil .nil)) (by simp [AV.scalar]))) ?_
  (refine go ?_)
  refine WW.ret (EffQ.finD ?_ ?_)
  ·have ho:(x.barrier true).obj n = .mem 4 [[.ptr n.p 0 0,.ref n.B 0 (z22 (fun _=>true) 0 x.waits x.lasts).length,.app n.w (x.gen+1) 2 [],.app n.t 0 2 (x.trace.map encO++[encO (-1,[])])]]:=by simp [SdS.obj,SdS.barrier,SdS.settle]
   have e2:(x.trace++[((-1:Int),([]:Bs))]).length=x.trace.length+1:=by simp
   refine z4t gKB ⟨gH,?_,gH,gH,?_,bx⟩
   ·rw [ho];exact gH
   ·show _=some (AObj.tail 0 (x.trace++[((-1:Int),([]:Bs))]).length)
    rw [e2];exact gH
  ·exact fz_b rfl
theorem zgb {h:AHeap}{B nx:Nat}{l:Bs}(hn:h.next=nx)(hB:h.get B=some (.mem 1 (l.map encB)))(hne:l≠[])(hl:l.length≤1000000):AE Tryz.prog 87 [.ref B 0 l.length] h (.ref nx 0 l.length) (h.put nx (.mem 1 (l.map encB))):=by
 subst hn
 refine AE.wf fun hwf => ?_
 have h0:=hwf _ _ hB
 refine AC.introW z8g (by simp) ?_
 unfold z5e;dsimp only [qQ,qR,qM,qG]
 (repeat first | refine WW.seq ?_ | refine WW.reg ?_ | refine WL.nil ?_ | refine WW.skip ?_ | refine WW.block ?_ | refine thenN ?_ | refine blkN ?_);iterate 1 (refine WL.go ?_)
 (repeat first | refine WW.seq ?_ | refine WW.reg ?_ | refine WL.nil ?_ | refine WW.skip ?_ | refine WW.block ?_ | refine thenN ?_ | refine blkN ?_);iterate 1 (refine WL.go ?_)
 refine WL.go (hs:=Stp.isnil (t:=false) rfl rfl gM) ?_
 (repeat first | refine WW.seq ?_ | refine WW.reg ?_ | refine WL.nil ?_ | refine WW.skip ?_ | refine WW.block ?_ | refine thenN ?_ | refine blkN ?_)
 refine WW.condF rfl ?_
 (repeat first | refine WW.seq ?_ | refine WW.reg ?_ | refine WL.nil ?_ | refine WW.skip ?_ | refine WW.block ?_ | refine thenN ?_ | refine blkN ?_)
 (repeat first | refine WW.seq ?_ | refine WW.reg ?_ | refine WL.nil ?_ | refine WW.skip ?_ | refine WW.block ?_ | refine thenN ?_ | refine blkN ?_);iterate 2 (refine WL.go ?_)
 refine WL.fx1 (FX.appM (nm:=h.next) (c:=l.map encB) (fun hu=>Nat.lt_irrefl _ hu.1) rfl rfl (by rw [z62 hB,List.drop_zero,List.take_of_length_le (by simp)]) (by simpa using hne) (by simp;omega) gM) ?_
 rw [List.length_map]
 (refine go ?_)
 exact WW.ret ⟨.inl rfl,_,gRES,rfl,rfl⟩
set_option maxHeartbeats 1000000 in
theorem zn0 {h:AHeap}{n:SdN}{w:PwS}{x:SdS}(hd:SdAt h n w x)(hl:x.lasts.length≤1000000)(hl0:x.lasts≠[])(h1:x.waits.length≤1000000)(hw:∀ o∈x.waits,0≤o.1∧o.1+o.2.length≤x.lasts.length) :
  AE Tryz.prog 37 [.ptr n.s 0 0] h (.imm 1 (x.snap.map encB)) h:=by
 refine AE.wf fun hwf => ?_
 obtain ⟨a1,a2,a3,a4,a5,b1,b2,b3,b4,b5,b6,b7,b8,b9,bx⟩:=hd.nes hwf
 obtain ⟨q1,q2,q3,q4,q5,q6⟩:=hd
 refine AE.pureW zg4 (by simp) ?_
 unfold z8p;dsimp only [qQ,qR,qM,qG]
 simp only [SdS.obj] at q2
 (refine go ?_)
 refine WL.call rfl gM gSL (zgb (nx:=h.next) rfl q3 hl0 hl) ?_
 (refine go ?_)
 refine WW.loopE (fun (s:Nat×Bs)=>[(3,some (.ref h.next 0 x.lasts.length)),(16,some (.app n.w x.gen 2 (x.waits.map encO))),(17,some (.int .i64 x.waits.length)),(18,some (.int .i64 s.1))])
  (fun s h'=>h'.get h.next=some (.mem 1 (s.2.map encB))∧Keeps h h'∧h.next+1≤h'.next∧s.2.length=x.lasts.length∧s.1≤x.waits.length∧(x.waits.drop s.1).foldl layO s.2=x.snap)
  (fun s=>x.waits.length - s.1) (0,x.lasts) gSUB ⟨gH,gK,(leN gN (by omega)),rfl,Nat.zero_le _,rfl⟩ ?_
 rintro ⟨i,b⟩ h' ⟨g1,g2,g3,g4,g5,g6⟩
 dsimp only at g1 g2 g3 g4 g5 g6 ⊢
 obtain ⟨nx,hnx⟩:∃ nx,h'.next=nx:=⟨_,rfl⟩
 (refine go ?_)
 (refine WW.ifB rfl (fun hz1 => ?_) (fun hz1 => ?_))
 ·have hi:i < x.waits.length:=by omega
  have hwi:=hw x.waits[i] (List.getElem_mem hi)
  (repeat first | refine WW.seq ?_ | refine WW.reg ?_ | refine WL.nil ?_ | refine WW.skip ?_ | refine WW.block ?_ | refine thenN ?_ | refine blkN ?_);iterate 4 (refine WL.go ?_)
  (repeat first | refine WL.go ?_ | refine WW.seq ?_ | refine WW.reg ?_ | refine WL.nil ?_ | refine WW.skip ?_ | refine WW.block ?_ | refine WW.exit ?_ | refine WW.condT rfl ?_ | refine WW.condF rfl ?_ | refine WL.gox ?_ | refine thenN ?_ | refine blkN ?_)
  refine WW.dregX [6] [] [h.next] gN (by decide +kernel) ?_
  (refine go ?_)
  have hm:List.take (0+x.waits[i].1.toNat) (b.map encB)++List.take (min (x.waits[i].2.map encB).length (x.lasts.length - x.waits[i].1.toNat)) (x.waits[i].2.map encB)++List.drop (0+x.waits[i].1.toNat+min (x.waits[i].2.map encB).length (x.lasts.length - x.waits[i].1.toNat)) (b.map encB)=(layO b x.waits[i]).map encB:=by
   rw [Nat.zero_add,← g4];exact znn b x.waits[i].1 x.waits[i].2
  refine ⟨(i+1,layO b x.waits[i]),gSUB,⟨?_,gK,(leN gN (by omega)),by dsimp only;rw [z9q _ _ (by omega),g4],by dsimp only;omega,?_⟩,by dsimp only;omega⟩
  ·dsimp only
   rw [← hm];exact gH
  ·rw [← g6,List.drop_eq_getElem_cons hi,List.foldl_cons]
 ·have hi:i=x.waits.length:=by omega
  subst hi
  simp only [List.drop_length,List.foldl_nil] at g6
  (refine go ?_)
  rw [← g6]
  refine WW.ret (PureQ.finD ?_)
  exact zb5 gH (Nat.le_refl _) (by simp [g4]) rfl (flatB _)
theorem zno:∀ (l:List Wr) (b:Bs) (n:Nat),b.length=n→(∀ o∈l,0≤o.1∧o.1+o.2.length≤n)→(l.foldl layO b).length=n
 | [], _, _, hb, _ => hb
 | o :: l, b, n, hb, hw => by
  rw [List.foldl_cons]
  exact zno l _ n (by rw [z9q _ _ (by have:=hw o (by simp);omega),hb]) fun y hy=>hw y (by simp [hy])
theorem zlm {x:SdS}(hw:∀ o∈x.waits,0≤o.1∧o.1+o.2.length≤x.lasts.length):x.snap.length=x.lasts.length:=zno _ _ _ rfl hw
theorem z7z {h:AHeap}{n:SdN}{w:PwS}{x:SdS}(hd:SdAt h n w x)(hl:x.lasts.length≤1000000)(hl0:x.lasts≠[])(h1:x.waits.length≤1000000)(hw:∀ o∈x.waits,0≤o.1∧o.1+o.2.length≤x.lasts.length)(off k:Int)(hk:k≤9223372036854775807) :
  AE Tryz.prog 182 [.ptr n.s 0 0,.int .i64 off,.int .i64 k] h (.tup [.imm 1 ((if inB x.lasts.length off k && !w.gone then (x.snap.drop off.toNat).take k.toNat else []).map encB),.bool (inB x.lasts.length off k && !w.gone)]) h:=by
 have hd':=hd
 obtain ⟨q1,q2,q3,q4,q5,q6⟩:=hd
 refine AE.wf fun hwf => ?_
 have h0:=hwf _ _ q2
 refine AE.pureW zg3 (by simp) ?_
 unfold z8o;dsimp only [qQ,qR,qM,qG]
 (refine go ?_)
 refine WL.call rfl gM gSL (ziy q2 hl off k hk) ?_
 have q2':=q2
 simp only [SdS.obj] at q2'
 cases hin:inB x.lasts.length off k with
 | false =>
  (refine go ?_)
  refine WW.ret (PureQ.finD ?_)
  exact Fz.tup2 (.nil _) (fz_b rfl)
 | true =>
  (refine go ?_)
  refine WL.call rfl gM gSL (z1x q1) ?_
  cases hg:w.gone with
  | true =>
   (refine go ?_)
   refine WW.ret (PureQ.finD ?_)
   exact Fz.tup2 (.nil _) (fz_b rfl)
  | false =>
   have hin':0≤off∧0≤k∧off≤x.lasts.length∧k≤x.lasts.length - off:=by simpa [inB,and_assoc] using hin
   have hsl:x.snap.length=x.lasts.length:=zlm hw
   (refine go ?_)
   refine WL.call rfl gM gSL (zn0 hd' hl hl0 h1 hw) ?_
   (refine go ?_)
   have he:List.drop off.toNat (List.take (off+k).toNat (x.snap.map encB))=((x.snap.drop off.toNat).take k.toNat).map encB:=by
    rw [← List.map_take,← List.map_drop,List.drop_take,show (off+k).toNat - off.toNat=k.toNat by omega]
   rw [he]
   refine WW.ret (PureQ.finD ?_)
   exact Fz.tup2 (z6r rfl) (fz_b rfl)
def keepF (keep:List Bool)(i:Nat):Bool:=keep.getD i false
def SdS.smash (x:SdS)(o:Wr):SdS:=if inB x.lasts.length o.1 o.2.length then { x.settle (fun _=>true) with lasts:=layO (x.settle fun _=>true).lasts o } else x
def sd0 (k:Nat):SdS:=⟨List.replicate k 0,[],[],0⟩
def sdNew (p nx k:Nat)(h:AHeap):AHeap:=(((h.put nx (.mem 1 ((sd0 k).lasts.map encB))).put (nx+1) ((sd0 k).obj ⟨p,nx+1,nx,nx+2,nx+3⟩)).put (nx+2) (.tail 0 0)).put (nx+3) (.tail 0 0)
theorem zov {h:AHeap}{p nx:Nat}(hn:h.next=nx)(hp:p < nx)(k:Nat)(hk:k≤65536):AE Tryz.prog 66 [.int .i64 k,.ptr p 0 0] h (.ptr (nx+1) 0 0) (sdNew p nx k h):=by
 subst hn
 refine AC.introW zoo (by simp) ?_
 unfold ziu;dsimp only [qQ,qR,qM,qG]
 (refine go ?_)
 (refine WW.ifB rfl (fun hz1 => ?_) (fun hz1 => ?_))
 ·exfalso;omega
 (repeat first | refine WW.seq ?_ | refine WW.reg ?_ | refine WL.nil ?_ | refine WW.skip ?_ | refine WW.block ?_ | refine thenN ?_ | refine blkN ?_)
 (repeat first | refine WW.seq ?_ | refine WW.reg ?_ | refine WL.nil ?_ | refine WW.skip ?_ | refine WW.block ?_ | refine thenN ?_ | refine blkN ?_);iterate 2 (refine WL.go ?_)
 (repeat first | refine WW.seq ?_ | refine WW.reg ?_ | refine WL.nil ?_ | refine WW.skip ?_ | refine WW.block ?_ | refine thenN ?_ | refine blkN ?_);iterate 4 (refine WL.go ?_)
 have hz:List.replicate k [AV.int .u8 0]=(sd0 k).lasts.map encB:=by show _=(List.replicate k (0:UInt8)).map encB;rw [List.map_replicate];rfl
 rw [hz]
 refine WL.cvt (Cvt.adoptM 2 (id:=h.next+1) (i:=0) (j:=2) gH rfl rfl gN) ?_
 refine WL.cvt (Cvt.adoptM 2 (id:=h.next+1) (i:=0) (j:=3) gH rfl rfl gN) ?_
 (refine go ?_)
 refine WW.ret ⟨.inl rfl,_,gRES,rfl,zcr (fun i => ?_) ?_ fun i=>rfl⟩
 ·have ho:(sd0 k).obj ⟨p,h.next+1,h.next,h.next+2,h.next+3⟩ = .mem 4 [[.ptr p 0 0,.ref h.next 0 k,.app (h.next+2) 0 2 [],.app (h.next+3) 0 2 []]]:=by simp [SdS.obj,sd0]
  unfold sdNew
  rw [ho]
  simp only [zn,zc]
  (repeat' split) <;> first | rfl | omega
 ·unfold sdNew;exact (gN:_=h.next+1+1+1+1).trans (gN:_=h.next+1+1+1+1).symm
end Go.Proofs.YthblcmnhiccnhaaGreat


namespace Go.Proofs.YthblcmnhiccnhaaGreat
open Go Go.Abs

def reC:List AV:=[.func (.func 113) [] [],.func (.func 114) [] [],.func (.func 115) [] [],.func (.func 116) [.nilp] [],.func (.func 117) [.nilp] []]
theorem zln {h:AHeap}{nx:Nat}(hn:h.next=nx):AE Tryz.prog 64 [] h (.ptr nx 0 0) (h.put nx (.mem 5 [reC])):=by
 subst hn
 refine AC.introW zkx (by simp) ?_
 unfold zdk;dsimp only [qQ,qR,qM,qG]
 (refine go ?_)
 exact WW.ret ⟨.inl rfl,_,gRES,rfl,rfl⟩
theorem zlo {h:AHeap}{l:Nat}(hl:h.get l=some (.mem 5 [reC]))(rows:List Bs)(hr1:rows.length≤1000000)(hr2:rows.flatten.length≤1000000) :
  AE Tryz.prog 281 [.ptr l 0 0,.imm 1 (rows.map encR)] h (.agg (encP (z2s rows.flatten))) h:=by
 refine AE.wf fun hwf => ?_
 have h0:=hwf _ _ hl
 refine AE.pureW z6k (by simp) ?_
 unfold z40;dsimp only [qQ,qR,qM,qG]
 simp only [reC] at hl
 (refine go ?_)
 refine WL.fx1 (FX.callv rfl rfl gM (by kernel_rfl) (zjs rows hr1 hr2 _)) ?_
 generalize rows.flatten=p at *
 (refine go ?_)
 refine WW.ret (PureQ.finD ?_)
 exact zd rfl (flatP (z2s p))
theorem zaf {h:AHeap}{l:Nat}(hl:h.get l=some (.mem 5 [reC]))(key:Pr)(n:Nn)(head data:Bs)(h1:head.length≤4000)(h2:data.length≤4000) :
  AE Tryz.prog 201 [.ptr l 0 0,.agg (encP key),.agg (encN n),.imm 1 (head.map encB),.imm 1 (data.map encB)] h (.tup [.agg (encS (gcmB key n data) (gcmT key n head (gcmB key n data))),.bool true]) h:=by
 refine AE.wf fun hwf => ?_
 have h0:=hwf _ _ hl
 refine AE.pureW z5m (by simp) ?_
 unfold z3a;dsimp only [qQ,qR,qM,qG]
 simp only [reC] at hl
 (refine go ?_)
 refine DW.fxR (FX.callv rfl rfl gM (by kernel_rfl) (zmr key n head data h1 h2 _)) rfl rfl ?_
 (refine go ?_)
 refine WW.ret (PureQ.finD ?_)
 exact znk _ _
theorem zjz {h:AHeap}{l:Nat}(hl:h.get l=some (.mem 5 [reC]))(key:Pr)(n:Nn)(head b:Bs)(tg:Pr)(h1:head.length≤4000)(h2:b.length≤4000) :
  AE Tryz.prog 197 [.ptr l 0 0,.agg (encP key),.agg (encN n),.imm 1 (head.map encB),.agg (encS b tg)] h (.tup [.imm 1 (((gcmO key n head b tg).getD []).map encB),.bool (gcmO key n head b tg).isSome]) h:=by
 refine AE.wf fun hwf => ?_
 have h0:=hwf _ _ hl
 refine AE.pureW z5n (by simp) ?_
 unfold z3b;dsimp only [qQ,qR,qM,qG]
 simp only [reC] at hl
 (refine go ?_)
 refine DW.fxR (FX.callv rfl rfl gM (by kernel_rfl) (zms key n head b tg h1 h2 _)) rfl rfl ?_
 (refine go ?_)
 refine WW.ret (PureQ.finD ?_)
 exact Fz.tup2 (z8k rfl) (fz_b rfl)
end Go.Proofs.YthblcmnhiccnhaaGreat


namespace Go.Proofs.YthblcmnhiccnhaaGreat
open Go Go.Abs

theorem zag {h:AHeap}{l o t s g:Nat}{L:List Iss}{S:List Bs}(hl:IdAt h l o t s g L S)(hL:L.length≤1000000)(k:Pr)(n:Nn)(head data:Bs)(hh:head.length≤4000)(hd:data.length≤4000) :
  AE Tryz.prog 201 [.ptr l 0 0,.agg (encP k),.agg (encN n),.imm 1 (head.map encB),.imm 1 (data.map encB)] h
   (.tup [.agg (encS (newI (L.length+1) k n head data).out (newI (L.length+1) k n head data).tag),.bool true])
   ((h.set t (some (.tail g (L.length+1)))).set o (some (.mem 2 [[.app t g 10 ((L++[newI (L.length+1) k n head data]).map encI),.map s]]))):=by
 obtain ⟨q0,hO⟩:=hl
 obtain ⟨q1,q2,q3⟩:=id hO
 refine AE.wf fun hwf => ?_
 have h0:=hwf _ _ q0
 have ho:=hwf _ _ q1
 have ht:=hwf _ _ q2
 have hs:=hwf _ _ q3
 have d1:l≠o:=fun e=>by subst e;rw [q0] at q1;cases q1
 have d2:l≠t:=fun e=>by subst e;rw [q0] at q2;cases q2
 have d3:t≠o:=fun e=>by subst e;rw [q1] at q2;cases q2
 refine AE.effW z5m (by simp) ?_ ?_
 ·refine Ext.set (Ext.set (x := .tail _ _) Ext.refl (Nm.old q2) trivial) (Nm.old q1) ?_
  intro x hx v hv
  simp only [List.mem_singleton] at hx
  subst hx
  simp only [List.mem_cons,List.not_mem_nil,or_false] at hv
  rcases hv with rfl | rfl
  ·exact .app _ _ _ _ (Nm.old q2) fun x hx v hv=>by
    obtain ⟨i,_,rfl⟩:=List.mem_map.1 hx
    exact zee i v hv
  ·exact .map _ (Nm.old q3)
 unfold z3a;dsimp only [qQ,qR,qM,qG]
 simp only [idC] at q0
 (repeat first | refine WL.go ?_ | refine WW.seq ?_ | refine WW.reg ?_ | refine WL.nil ?_ | refine WW.skip ?_ | refine WW.block ?_ | refine WW.exit ?_ | refine WW.condT rfl ?_ | refine WW.condF rfl ?_ | refine WL.gox ?_ | refine thenN ?_ | refine blkN ?_)
 refine WW.dregX [8,11] [] [t,o,h.next+2] gN (by decide +kernel) ?_
 (refine go ?_)
 have hcon:=zhe (h:=((h.put h.next (.mem 2 [encP k])).put (h.next+1) (.mem 3 [encN n])).put (h.next+2) (.mem 3 [[.nils,.int .u64 0,.int .u64 0]])) (z9p hO gE gE gE) hL k n head data hh hd
 refine DW.fx0 (FX.callv rfl rfl gM (by kernel_rfl) hcon) rfl rfl (fun hp=>PhiW.setW (by simp) (PhiW.setW (by simp) hp)) rfl ?_
 (refine go ?_)
 generalize newI (L.length+1) k n head data=x at *
 refine WW.ret (EffQ.finD ?_ ?_)
 ·refine ⟨gLE,fun id hu => ?_⟩;have hlt:id < AHeap.next h:=hu.1;simp only [zn,zc];(repeat' split) <;> first | rfl | omega | (simp [];done)
 ·refine .clo _ (.tup _ fun v hv => ?_)
  simp only [List.mem_cons,List.not_mem_nil,or_false] at hv
  rcases hv with rfl | rfl
  ·exact .agg _ (z9m x.out x.tag)
  ·exact .bool _
theorem zk0 {h:AHeap}{l o t s g:Nat}{L:List Iss}{S:List Bs}(hl:IdAt h l o t s g L S)(hL:L.length≤1000000)(hd:∀ x∈L,x.data.length≤1000000)(k:Pr)(n:Nn)(head b:Bs)(tg:Pr) :
  AE Tryz.prog 197 [.ptr l 0 0,.agg (encP k),.agg (encN n),.imm 1 (head.map encB),.agg (encS b tg)] h
   (.tup [.imm 1 (((openO L k n head b tg).getD []).map encB),.bool (openO L k n head b tg).isSome]) h:=by
 obtain ⟨q0,hO⟩:=hl
 obtain ⟨q1,q2,q3⟩:=id hO
 refine AE.wf fun hwf => ?_
 have h0:=hwf _ _ q0
 have ho:=hwf _ _ q1
 have ht:=hwf _ _ q2
 have hs:=hwf _ _ q3
 refine AE.pureW z5n (by simp) ?_
 unfold z3b;dsimp only [qQ,qR,qM,qG]
 simp only [idC] at q0
 (refine go ?_)
 refine DW.fxR (FX.callv rfl rfl gM (by kernel_rfl) (zhf (z9p hO gE gE gE) hL hd k n head b tg)) rfl rfl ?_
 (refine go ?_)
 refine WW.ret (PureQ.finD ?_)
 exact Fz.tup2 (z8k rfl) (fz_b rfl)
end Go.Proofs.YthblcmnhiccnhaaGreat


namespace Go.Proofs.YthblcmnhiccnhaaGreat
open Go Go.Abs

structure WS where
 n:Int
 pw:PwS
 sd:SdS
 dk:DkS
 ct:CtS
 ks:KsS
 L:List Iss
 S:List Bs
structure WN where
 p:Nat
 l:Nat
 o:Nat
 t:Nat
 q:Nat
 a:Nat
 B:Nat
 E:Nat
def wRow (n:WN)(k:Int):List AV:=[.int .i64 k,.ptr n.p 0 0,.ptr (n.a+1) 0 0,.ptr (n.a+4) 0 0,.ptr (n.a+7) 0 0,.ptr (n.a+9) 0 0,.ptr n.l 0 0]
structure LkAt (md:Bool)(h:AHeap)(l o t q:Nat)(L:List Iss)(S:List Bs):Prop where
 id:md=true→IdAt h l o t q 0 L S
 re:md=false→h.get l=some (.mem 5 [reC])
structure WAt (md:Bool)(h:AHeap)(n:WN)(s:WS):Prop where
 sd:SdAt h ⟨n.p,n.a+1,n.B,n.a+2,n.a+3⟩ s.pw s.sd
 dk:DkAt h ⟨n.p,n.a+4,n.a+5,n.a+6⟩ s.pw s.dk
 ct:h.get (n.a+7)=some (s.ct.obj n.p)
 ks:KsAt h n.p (n.a+9) n.E s.ks
 w:h.get (n.a+10)=some (.mem 7 [wRow n s.n])
 lk:LkAt md h n.l n.o n.t n.q s.L s.S
 op:n.p < n.a
 ol:n.l < n.a
 oo:md=true→n.o < n.a∧n.t < n.a∧n.q < n.a
 nx:n.a+11≤h.next
 oB:(n.B=n.a∨n.a+11≤n.B)∧(n.E=n.a+8∨n.a+11≤n.E)∧n.B≠n.E
 nB:n.B < h.next∧n.E < h.next
def ws0 (k:Nat)(seed:Int):WS:=⟨k,⟨false,false,0,0⟩,sd0 (k*160+120),dk0,⟨0,0,0⟩,⟨seed,[1]⟩,[],[]⟩
theorem SdAt.same {h h':AHeap}{n:SdN}{w:PwS}{x:SdS}(hd:SdAt h n w x)(h1:h'.get n.p=h.get n.p)(h2:h'.get n.s=h.get n.s)(h3:h'.get n.B=h.get n.B)(h4:h'.get n.w=h.get n.w)(h5:h'.get n.t=h.get n.t):SdAt h' n w x :=
 ⟨h1.trans hd.pw,h2.trans hd.ob,h3.trans hd.bl,h4.trans hd.wt,h5.trans hd.tr,hd.ne⟩
theorem DkAt.same {h h':AHeap}{n:DkN}{w:PwS}{x:DkS}(hd:DkAt h n w x)(h1:h'.get n.p=h.get n.p)(h2:h'.get n.d=h.get n.d)(h4:h'.get n.w=h.get n.w)(h5:h'.get n.t=h.get n.t):DkAt h' n w x :=
 ⟨h1.trans hd.pw,h2.trans hd.ob,h4.trans hd.wt,h5.trans hd.tr,hd.ne,hd.ll⟩
theorem KsAt.same {h h':AHeap}{p k te:Nat}{s:KsS}(hd:KsAt h p k te s)(h2:h'.get k=h.get k)(h3:h'.get te=h.get te):KsAt h' p k te s :=
 ⟨h2.trans hd.ob,h3.trans hd.tl,hd.ne,hd.sm⟩
theorem LkAt.same {md:Bool}{h h':AHeap}{l o t q:Nat}{L:List Iss}{S:List Bs}(hd:LkAt md h l o t q L S)(h1:h'.get l=h.get l)(h2:md=true→h'.get o=h.get o∧h'.get t=h.get t∧h'.get q=h.get q):LkAt md h' l o t q L S:=by
 refine ⟨fun e => ?_,fun e=>h1.trans (hd.re e)⟩
 obtain ⟨g1,g2,g3⟩:=h2 e
 obtain ⟨q0,q1,q2,q3⟩:=hd.id e
 exact ⟨h1.trans q0,⟨g1.trans q1,g2.trans q2,g3.trans q3⟩⟩
theorem zrh {h:AHeap}{p nx k:Nat}{w:PwS}(hn:h.next=nx)(hp:p < nx)(hw:h.get p=some (.mem 4 [w.row])):∃ h1,sdNew p nx k h=h1∧SdAt h1 ⟨p,nx+1,nx,nx+2,nx+3⟩ w (sd0 k)∧h1.next=nx+4∧(∀ id,id < nx→h1.get id=h.get id)∧(∀ h0:AHeap,Keeps h0 h→Keeps h0 h1):=by
 subst hn
 refine ⟨_,rfl,?_,?_,fun id hi => ?_,fun h0 k0 => ?_⟩
 ·unfold sdNew
  exact zta gH gH gH gH gH (by omega)
 ·unfold sdNew;show AHeap.next _=h.next+1+1+1+1;exact gN
 ·unfold sdNew;exact gE
 ·have:=k0.1
  unfold sdNew;exact gK
theorem zri {h:AHeap}{p nx:Nat}{w:PwS}(hn:h.next=nx)(hp:p < nx)(hw:h.get p=some (.mem 4 [w.row])):∃ h1,dkNew p nx h=h1∧DkAt h1 ⟨p,nx,nx+1,nx+2⟩ w dk0∧h1.next=nx+3∧(∀ id,id < nx→h1.get id=h.get id)∧(∀ h0:AHeap,Keeps h0 h→Keeps h0 h1):=by
 subst hn
 refine ⟨_,rfl,?_,?_,fun id hi => ?_,fun h0 k0 => ?_⟩
 ·unfold dkNew
  exact ztb gH gH gH gH (by omega) (by simp [dk0])
 ·unfold dkNew;show AHeap.next _=h.next+1+1+1;exact gN
 ·unfold dkNew;exact gE
 ·have:=k0.1
  unfold dkNew;exact gK
set_option maxHeartbeats 2000000 in
theorem zlp (md:Bool)(k:Nat)(hk:isG k=true)(seed:Int)(h:AHeap):AC Tryz.prog 22 [.int .i64 k,.int .u64 seed,.bool md] h
  (fun r h'=>∃ n:WN,r = .tup [.ptr (n.a+10) 0 0,.int .i64 0]∧WAt md h' n (ws0 k seed)∧h.next≤n.p∧h.next≤n.l∧(md=true→h.next≤n.o∧h.next≤n.t∧h.next≤n.q)∧h.next≤h'.next∧∀ h0:AHeap,Keeps h0 h→Keeps h0 h'):=by
 refine AC.introW zl4 (by simp) ?_
 unfold zdp;dsimp only [qQ,qR,qM,qG]
 (refine go ?_)
 refine WL.call rfl gM gSL (z5x k _) ?_
 rw [hk]
 (refine go ?_)
 refine WL.call rfl gM gSL (zld rfl) ?_
 (refine go ?_)
 refine WL.call rfl gM gSL (zln (nx:=h.next+1+1) gN) ?_
 refine WL.go ?_
 refine WL.nil ?_
 refine thenN ?_
 have hkk:=z8 hk
 have hsz:sizeG (k:Int)=((k*160+120:Nat):Int):=by rw [sizeG,if_pos hk];omega
 rw [z4u]
 refine WW.seqM (fun e7 h7=>∃ l o t q a,subE [(1,some (.int .u64 seed)),(8,some (.ptr (h.next+1) 0 0)),(9,some (.ptr h.next 0 0)),(10,some (.ptr l 0 0))] e7 ∧
  h7.get h.next=some (.mem 4 [(⟨false,false,0,0⟩:PwS).row])∧h7.get (h.next+1)=some (.mem 1 [[.int .i64 k]])∧LkAt md h7 l o t q [] []∧h7.next=a∧h.next+2≤l∧l < a∧(md=true→h.next+2≤o∧o < a∧h.next+2≤t∧t < a∧h.next+2≤q∧q < a)∧∀ h0:AHeap,Keeps h0 h→Keeps h0 h7) ?_ ?_
 ·cases md with
  | false =>
   (refine go ?_)
   refine ⟨rfl,h.next+1+1,0,0,0,h.next+1+1+1,gSUB,gH,gH,⟨nofun,fun _=>gH⟩,gN,by omega,by omega,nofun,fun h0 k0 => ?_⟩
   have:=k0.1
   exact gK
  | true =>
   (refine go ?_)
   refine WL.call rfl gM gSL (zjk (nx:=h.next+1+1+1) gN) ?_
   obtain ⟨h2,e2,o2,n2,m2,k2⟩:=zt2 (h:=((h.put h.next (.mem 4 [(⟨false,false,0,0⟩:PwS).row])).put (h.next+1) (.mem 1 [[.int .i64 k]])).put (h.next+1+1) (.mem 5 [reC])) (nx:=h.next+1+1+1) gN
   rw [e2]
   clear e2
   have hx0:Keeps h (((h.put h.next (.mem 4 [(⟨false,false,0,0⟩:PwS).row])).put (h.next+1) (.mem 1 [[.int .i64 k]])).put (h.next+1+1) (.mem 5 [reC])):=gK
   (refine go ?_)
   refine ⟨rfl,_,_,_,_,_,gSUB,(m2 _ (by omega)).trans gH,(m2 _ (by omega)).trans gH,⟨fun _=>o2,nofun⟩,n2,by omega,by omega,fun _=>⟨by omega,by omega,by omega,by omega,by omega,by omega⟩,fun h0 k0=>k2 h0 ?_⟩
   have:=k0.1
   exact gK
 ·rintro e7 h7 ⟨l,o,t,q,a,hs7,hp0,hg0,hlk,hn7,l1,l2,hid,hK⟩
  refine WW.cvt (Cvt.sub hs7) ?_
  have hKh:=(hK h (Keeps.refl _)).1
  (repeat first | refine WL.go ?_ | refine WW.seq ?_ | refine WW.reg ?_ | refine WL.nil ?_ | refine WW.skip ?_ | refine WW.block ?_ | refine WW.exit ?_ | refine WW.condT rfl ?_ | refine WW.condF rfl ?_ | refine WL.gox ?_ | refine thenN ?_ | refine blkN ?_)
  refine WW.dregX [5,7,9,12,15] [0] [] gN (by decide +kernel) ?_
  (refine go ?_)
  refine DW.callS rfl gM gSL rfl (zlj k _) ?_
  rw [hsz]
  (refine go ?_)
  refine DW.callSW rfl gM gSL rfl rfl (fun hp=>by unfold sdNew;exact PhiW.put (by omega) (PhiW.put (by omega) (PhiW.put (by omega) (PhiW.put (by omega) hp)))) (zov (nx:=a) hn7 (by omega) (k*160+120) (by omega)) ?_
  obtain ⟨h1,e1,d1,n1,m1,k1⟩:=zrh (k:=k*160+120) (nx:=a) hn7 (by omega) hp0
  rw [e1]
  clear e1
  have hp1:=(m1 h.next (by omega)).trans hp0
  (refine go ?_)
  refine DW.callSW rfl gM gSL rfl rfl (fun hp=>by unfold dkNew;exact PhiW.put (by omega) (PhiW.put (by omega) (PhiW.put (by omega) hp))) (zmw (nx:=a+4) n1 (by omega)) ?_
  obtain ⟨h2,e2,d2,n2,m2,k2⟩:=zri n1 (by omega) hp1
  rw [e2]
  clear e2
  (refine go ?_)
  refine DW.callSW rfl gM gSL rfl rfl (fun hp=>by repeat first | exact hp | refine PhiW.put (by omega) ?_ | refine PhiW.setN (by omega) ?_ | refine PhiW.setW (by simp;done) ?_) (zle (nx:=a+4+3) gN (p:=h.next)) ?_
  (refine go ?_)
  refine DW.callSW rfl gM gSL rfl rfl (fun hp=>by repeat first | exact hp | refine PhiW.put (by omega) ?_ | refine PhiW.setN (by omega) ?_ | refine PhiW.setW (by simp;done) ?_) (zmy (nx:=a+4+3+1) gN seed) ?_
  (refine go ?_)
  refine WW.named (fun hF=>(∀ id,id < a+7→hF.get id=h2.get id)∧hF.get (a+7)=some (CtS.obj h.next ⟨0,0,0⟩)∧hF.get (a+8)=some (.mem 1 [[.int .u32 1]])∧hF.get (a+9)=some ((⟨seed,[1]⟩:KsS).obj h.next (a+8))∧hF.get (a+10)=some (.mem 7 [[.int .i64 k,.ptr h.next 0 0,.ptr (a+1) 0 0,.ptr (a+4) 0 0,.ptr (a+7) 0 0,.ptr (a+9) 0 0,.ptr l 0 0]])∧hF.next=a+11∧∀ h0:AHeap,Keeps h0 h→Keeps h0 hF)
   ⟨fun id hi=>gE,gH,gH,gH,gH,?_,fun h0 k0 => ?_⟩ ?_
  ·show AHeap.next _=a+4+3+1+1+1+1
   exact gN
  ·have k3:=k2 h0 (k1 h0 (hK h0 k0))
   have k4:=(hK h0 k0).1
   exact gK
  rintro hF ⟨f1,f2,f3,f4,f5,f6,f7⟩
  have f8:∀ id,id < a+4→hF.get id=h1.get id:=fun id hi=>(f1 id (by omega)).trans (m2 id hi)
  have f9:∀ id,id < a→hF.get id=h7.get id:=fun id hi=>(f8 id (by omega)).trans (m1 id hi)
  refine WW.ret ⟨.inl rfl,_,gRES,⟨h.next,l,o,t,q,a,a,a+8⟩,rfl,⟨d1.same (f8 _ ?_) (f8 _ ?_) (f8 _ ?_) (f8 _ ?_) (f8 _ ?_),d2.same (f1 _ ?_) (f1 _ ?_) (f1 _ ?_) (f1 _ ?_),f2,⟨f4,f3,by simp [ws0],by simp [ws0]⟩,f5,hlk.same (f9 _ l2) fun e=>⟨f9 _ (hid e).2.1,f9 _ (hid e).2.2.2.1,f9 _ (hid e).2.2.2.2.2⟩,?_,l2,fun e=>⟨(hid e).2.1,(hid e).2.2.2.1,(hid e).2.2.2.2.2⟩,?_,⟨.inl rfl,.inl rfl,?_⟩,?_⟩,Nat.le_refl _,?_,fun e=>⟨?_,?_,?_⟩,?_,f7⟩
  all_goals (first | omega | (dsimp only;omega) | (have:=hid e;omega) | (have:=hid e;dsimp only;omega))
end Go.Proofs.YthblcmnhiccnhaaGreat


namespace Go.Proofs.YthblcmnhiccnhaaGreat
open Go Go.Abs

def WS.key (s:WS):Pr:=if s.ks.cur∈s.ks.epochs then ofK s.ks.seed s.ks.cur else (0,0)
theorem z6u {md:Bool}{h:AHeap}{n:WN}{s:WS}(hw:WAt md h n s)(hc:0≤s.ks.cur∧s.ks.cur < 4294967296):AE Tryz.prog 199 [.ptr (n.a+10) 0 0] h (.tup [.int .u32 s.ks.cur,.agg (encP s.key)]) h:=by
 have hn:=hw.nx
 have hob:=hw.w
 simp only [wRow] at hob
 refine AE.pureW zbs (by simp) ?_
 have hnB:=hw.nB
 unfold z5p;dsimp only [qQ,qR,qM,qG]
 (refine go ?_)
 refine WL.call rfl gM gSL (z1r (hw.ks.same gE gE)) ?_
 (refine go ?_)
 refine WL.call rfl gM gSL (z7y (hw.ks.same gE gE) s.ks.cur hc) ?_
 (refine go ?_)
 refine WW.ret (PureQ.finD ?_)
 exact Fz.tup2 (.clo _ (.int _ _)) (zd rfl (flatP _))
def sealP (md:Bool)(L:List Iss)(k:Pr)(n:Nn)(head data:Bs):Bs×Pr:=match md with
 | true => ((newI (L.length + 1) k n head data).out, (newI (L.length + 1) k n head data).tag)
 | false => (gcmB k n data, gcmT k n head (gcmB k n data))
def sealL (md:Bool)(L:List Iss)(k:Pr)(n:Nn)(head data:Bs):List Iss:=match md with
 | true => L ++ [newI (L.length + 1) k n head data]
 | false => L
end Go.Proofs.YthblcmnhiccnhaaGreat


namespace Go.Proofs.YthblcmnhiccnhaaGreat
open Go Go.Abs

abbrev WN.sdN (n:WN):SdN:=⟨n.p,n.a+1,n.B,n.a+2,n.a+3⟩
abbrev WN.dkN (n:WN):DkN:=⟨n.p,n.a+4,n.a+5,n.a+6⟩
theorem WAt.nep {md:Bool}{h:AHeap}{n:WN}{s:WS}(hw:WAt md h n s):n.l≠n.p∧(md=true→n.o≠n.p∧n.t≠n.p∧n.q≠n.p):=by
 have key:∀ {i j:Nat} {y z:AObj},h.get i=some y→h.get j=some z→y≠z→i≠j:=fun hi hj hne e=>by
  subst e;rw [hi] at hj;exact hne (Option.some.inj hj)
 have hp:=hw.sd.pw
 refine ⟨?_,fun e => ?_⟩
 ·cases md with
  | true => exact key (hw.lk.id rfl).cells hp (by simp)
  | false => exact key (hw.lk.re rfl) hp (by simp)
 ·obtain ⟨q0,q1,q2,q3⟩:=hw.lk.id e
  exact ⟨key q1 hp (by simp),key q2 hp (by simp),key q3 hp (by simp)⟩
def WN.still (md:Bool)(n:WN)(id:Nat):Prop:=id=n.a+10∨id=n.l∨(md=true∧(id=n.o∨id=n.t∨id=n.q))
theorem WAt.re {md:Bool}{h h':AHeap}{n:WN}{s s':WS}(hw:WAt md h n s)(hn:s'.n=s.n)(hL:s'.L=s.L)(hS:s'.S=s.S)(hx:h.next≤h'.next)(sd:SdAt h' n.sdN s'.pw s'.sd)(dk:DkAt h' n.dkN s'.pw s'.dk)(ct:h'.get (n.a+7)=some (s'.ct.obj n.p))(ks:KsAt h' n.p (n.a+9) n.E s'.ks)(fr:∀ id,n.still md id→h'.get id=h.get id):WAt md h' n s':=by
 refine ⟨sd,dk,ct,ks,(fr _ (.inl rfl)).trans (by rw [hn];exact hw.w),?_,hw.op,hw.ol,hw.oo,Nat.le_trans hw.nx hx,hw.oB,⟨Nat.lt_of_lt_of_le hw.nB.1 hx,Nat.lt_of_lt_of_le hw.nB.2 hx⟩⟩
 rw [hL,hS]
 exact hw.lk.same (fr _ (.inr (.inl rfl))) fun e=>⟨fr _ (.inr (.inr ⟨e,.inl rfl⟩)),fr _ (.inr (.inr ⟨e,.inr (.inl rfl)⟩)),fr _ (.inr (.inr ⟨e,.inr (.inr rfl)⟩))⟩
theorem WAt.still {md:Bool}{h:AHeap}{n:WN}{s:WS}(hw:WAt md h n s){id:Nat}(hi:n.still md id):id≠n.p∧(id < n.a∨id=n.a+10):=by
 have hp:=hw.nep
 have h1:=hw.op
 have hoB:=hw.oB
 have h2:=hw.ol
 rcases hi with rfl | rfl | ⟨e,rfl | rfl | rfl⟩
 ·omega
 ·omega
 ·have:=hw.oo e;have:=hp.2 e;omega
 ·have:=hw.oo e;have:=hp.2 e;omega
 ·have:=hw.oo e;have:=hp.2 e;omega
theorem WAt.sdNe {md:Bool}{h:AHeap}{n:WN}{s:WS}(hw:WAt md h n s):SdNe h n.sdN:=by
 have h1:=hw.op
 have hoB:=hw.oB
 have h2:=hw.nx
 have h3:=hw.nB
 constructor <;> dsimp only <;> omega
theorem WAt.putSd {md:Bool}{h:AHeap}{n:WN}{s:WS}(hw:WAt md h n s)(w':PwS)(x':SdS):WAt md (sdPut n.sdN w' x' h) n { s with pw:=w',sd:=x' }:=by
 have h1:=hw.op
 have hoB:=hw.oB
 have hd:=hw.dk
 have hp:=SdAt.put hw.sdNe w' x'
 have g:∀ id,id≠n.p→(id≠n.B∧(id < n.a∨n.a+4≤id))→(sdPut n.sdN w' x' h).get id=h.get id:=fun id e1 e2=>zix (by dsimp only;omega) (by dsimp only;omega) (by dsimp only;omega) (by dsimp only;omega) (by dsimp only;omega)
 refine hw.re rfl rfl rfl (Nat.le_refl _) hp ⟨hp.pw,(g _ (by dsimp only;omega) (by dsimp only;omega)).trans hd.ob,(g _ (by dsimp only;omega) (by dsimp only;omega)).trans hd.wt,(g _ (by dsimp only;omega) (by dsimp only;omega)).trans hd.tr,hd.ne,hd.ll⟩ ((g _ (by omega) (by omega)).trans hw.ct) (hw.ks.same (g _ (by omega) (by omega)) (g _ (by omega) (by omega))) fun id hi => ?_
 have:=hw.still hi
 exact g id this.1 (by omega)
theorem WAt.putPw {md:Bool}{h:AHeap}{n:WN}{s:WS}(hw:WAt md h n s)(w':PwS):WAt md (h.set n.p (some (.mem 4 [w'.row]))) n { s with pw:=w' }:=by
 have h1:=hw.op
 have hoB:=hw.oB
 have hd:=hw.dk
 have hs:=hw.sd
 have g:∀ id,id≠n.p→(h.set n.p (some (.mem 4 [w'.row]))).get id=h.get id:=fun id e1=>z1 e1 rfl
 refine hw.re rfl rfl rfl (Nat.le_refl _) ⟨za,(g _ (by dsimp only;omega)).trans hs.ob,(g _ (by dsimp only;omega)).trans hs.bl,(g _ (by dsimp only;omega)).trans hs.wt,(g _ (by dsimp only;omega)).trans hs.tr,hs.ne⟩ ⟨za,(g _ (by dsimp only;omega)).trans hd.ob,(g _ (by dsimp only;omega)).trans hd.wt,(g _ (by dsimp only;omega)).trans hd.tr,hd.ne,hd.ll⟩ ((g _ (by omega)).trans hw.ct) (hw.ks.same (g _ (by omega)) (g _ (by omega))) fun id hi => ?_
 exact g id (hw.still hi).1
theorem WAt.putCt {md:Bool}{h:AHeap}{n:WN}{s:WS}(hw:WAt md h n s)(w':PwS)(c':CtS):WAt md ((h.set n.p (some (.mem 4 [w'.row]))).set (n.a+7) (some (c'.obj n.p))) n { s with pw:=w',ct:=c' }:=by
 have h1:=hw.op
 have hoB:=hw.oB
 have hd:=hw.dk
 have hs:=hw.sd
 have g:∀ id,id≠n.p→id≠n.a+7→((h.set n.p (some (.mem 4 [w'.row]))).set (n.a+7) (some (c'.obj n.p))).get id=h.get id:=fun id e1 e2=>z1 e2 (z1 e1 rfl)
 have gp:((h.set n.p (some (.mem 4 [w'.row]))).set (n.a+7) (some (c'.obj n.p))).get n.p=some (.mem 4 [w'.row]):=z1 (by omega) za
 refine hw.re rfl rfl rfl (Nat.le_refl _) ⟨gp,(g _ (by dsimp only;omega) (by dsimp only;omega)).trans hs.ob,(g _ (by dsimp only;omega) (by dsimp only;omega)).trans hs.bl,(g _ (by dsimp only;omega) (by dsimp only;omega)).trans hs.wt,(g _ (by dsimp only;omega) (by dsimp only;omega)).trans hs.tr,hs.ne⟩ ⟨gp,(g _ (by dsimp only;omega) (by dsimp only;omega)).trans hd.ob,(g _ (by dsimp only;omega) (by dsimp only;omega)).trans hd.wt,(g _ (by dsimp only;omega) (by dsimp only;omega)).trans hd.tr,hd.ne,hd.ll⟩ za (hw.ks.same (g _ (by omega) (by omega)) (g _ (by omega) (by omega))) fun id hi => ?_
 have:=hw.still hi
 exact g id this.1 (by omega)
end Go.Proofs.YthblcmnhiccnhaaGreat


namespace Go.Proofs.YthblcmnhiccnhaaGreat
open Go Go.Abs

def z1s (K:Nat→Bool):Nat→List Wr→List Bs→List Bs
 | _, [], b => b
 | i, o :: r, b => z1s K (i + 1) r (if K i then b.set o.1.toNat o.2 else b)
def DkS.crash (x:DkS)(K:Nat→Bool):DkS:={ x with lasts:=z1s K 0 x.waits x.lasts,waits:=[],gen:=x.gen+1 }
theorem ziz (K:Nat→Bool):∀ (l:List Wr) (i:Nat) (b:List Bs),(z1s K i l b).length=b.length
 | [], _, _ => rfl
 | o :: r, i, b => by
  rw [z1s,ziz K r]
  split <;> simp
theorem WAt.dkNe {md:Bool}{h:AHeap}{n:WN}{s:WS}(hw:WAt md h n s):DkNe h n.dkN:=by
 have h1:=hw.op
 have hoB:=hw.oB
 have h2:=hw.nx
 constructor <;> dsimp only <;> omega
theorem WAt.putDk {md:Bool}{h:AHeap}{n:WN}{s:WS}(hw:WAt md h n s)(w':PwS)(x':DkS)(hl:x'.lasts.length=32):WAt md (dkPut n.dkN w' x' h) n { s with pw:=w',dk:=x' }:=by
 have h1:=hw.op
 have hoB:=hw.oB
 have hs:=hw.sd
 have hp:=DkAt.put hw.dkNe w' hl
 have g:∀ id,id≠n.p→(id < n.a+4∨n.a+7≤id)→(dkPut n.dkN w' x' h).get id=h.get id:=fun id e1 e2=>zq1 (by dsimp only;omega) (by dsimp only;omega) (by dsimp only;omega) (by dsimp only;omega)
 refine hw.re rfl rfl rfl (Nat.le_refl _) ⟨hp.pw,(g _ (by dsimp only;omega) (by dsimp only;omega)).trans hs.ob,(g _ (by dsimp only;omega) (by dsimp only;omega)).trans hs.bl,(g _ (by dsimp only;omega) (by dsimp only;omega)).trans hs.wt,(g _ (by dsimp only;omega) (by dsimp only;omega)).trans hs.tr,hs.ne⟩ hp ((g _ (by omega) (by omega)).trans hw.ct) (hw.ks.same (g _ (by omega) (by omega)) (g _ (by omega) (by omega))) fun id hi => ?_
 have:=hw.still hi
 exact g id this.1 (by omega)
end Go.Proofs.YthblcmnhiccnhaaGreat


namespace Go.Proofs.YthblcmnhiccnhaaGreat
open Go Go.Abs

structure Kp (W:Nat→Prop)(h h1:AHeap):Prop where
 next:h.next≤h1.next
 us:∀ id,h.used id→h1.used id
 get:∀ id,h.used id→¬ W id→h1.get id=h.get id
section
variable {W:Nat→Prop}{h h1 h2:AHeap}
theorem Kp.refl:Kp W h h:=⟨Nat.le_refl _,fun _ h=>h,fun _ _ _=>rfl⟩
theorem Kp.put (hk:Kp W h h1){nm:Nat}(hn:h.next≤nm)(x:AObj):Kp W h (h1.put nm x) :=
 ⟨z32 hk.next,fun id hu=>zw (hk.us id hu),fun id hu hw=>by
  rw [zn,if_neg (by have:=hu.1;omega)]
  exact hk.get id hu hw⟩
theorem Kp.setN (hk:Kp W h h1){nm:Nat}(hn:h.next≤nm)(x:Option AObj):Kp W h (h1.set nm x) :=
 ⟨hk.next,hk.us,fun id hu hw=>by
  rw [zc,if_neg (by have:=hu.1;omega)]
  exact hk.get id hu hw⟩
theorem Kp.setW (hk:Kp W h h1){nm:Nat}(hn:W nm)(x:Option AObj):Kp W h (h1.set nm x) :=
 ⟨hk.next,hk.us,fun id hu hw=>by
  rw [zc,if_neg (fun e=>hw (by rw [e];exact hn))]
  exact hk.get id hu hw⟩
theorem Kp.keep (hk:Kp W h h1)(k:Nat):Kp W h (h1.keep k):=⟨Nat.le_trans hk.next (Nat.le_add_right _ _),fun id hu=>zbn (hk.us id hu),hk.get⟩
theorem Kp.trans (hk:Kp W h h1)(hk2:Kp W h1 h2):Kp W h h2:=⟨Nat.le_trans hk.next hk2.next,fun id hu=>hk2.us id (hk.us id hu),fun id hu hw=>(hk2.get id (hk.us id hu) hw).trans (hk.get id hu hw)⟩
theorem Kp.trans2 {V:Nat→Prop}(hk:Kp V h h1)(hk2:Kp W h1 h2)(hv:∀ id,W id→V id∨h.next≤id):Kp V h h2:=⟨Nat.le_trans hk.next hk2.next,fun id hu=>hk2.us id (hk.us id hu),fun id hu hw=>(hk2.get id (hk.us id hu) fun e=>(hv id e).elim hw fun e2=>by have:=hu.1;omega).trans (hk.get id hu hw)⟩
theorem Kp.mono {V:Nat→Prop}(hk:Kp W h h1)(hv:∀ id,h.used id→W id→V id):Kp V h h1:=⟨hk.next,hk.us,fun id hu hw=>hk.get id hu fun e=>hw (hv id hu e)⟩
theorem Kp.keeps (hk:Kp W h h1)(hv:∀ id,W id→h.next≤id):Keeps h h1:=⟨hk.next,fun id hu=>hk.get id hu fun e=>by have:=hv id e;have:=hu.1;omega⟩
end
def WN.own (md:Bool)(n:WN)(id:Nat):Prop:=id=n.p∨((n.a < id∧id < n.a+8)∨id=n.a+9∨id=n.B∨id=n.E)∨(md=true∧(id=n.o∨id=n.t∨id=n.q))
def WN.all (md:Bool)(n:WN)(id:Nat):Prop:=id=n.p∨id=n.l∨((n.a < id∧id < n.a+8)∨id=n.a+9∨id=n.a+10∨id=n.B∨id=n.E)∨(md=true∧(id=n.o∨id=n.t∨id=n.q))
theorem WN.own_all {md:Bool}{n:WN}{id:Nat}(h:n.own md id):n.all md id:=by
 rcases h with h | h | h
 ·exact .inl h
 ·exact .inr (.inr (.inl (by omega)))
 ·exact .inr (.inr (.inr h))
theorem kp_sd {md:Bool}{h:AHeap}(n:WN)(w:PwS)(x:SdS):Kp (n.own md) h (sdPut n.sdN w x h):=by
 unfold sdPut
 refine Kp.setW (Kp.setW (Kp.setW (Kp.setW (Kp.setW Kp.refl (.inl rfl) _) (.inr (.inl ?_)) _) (.inr (.inl ?_)) _) (.inr (.inl ?_)) _) (.inr (.inl ?_)) _ <;> dsimp only <;> omega
theorem kp_dk {md:Bool}{h:AHeap}(n:WN)(w:PwS)(x:DkS):Kp (n.own md) h (dkPut n.dkN w x h):=by
 unfold dkPut
 refine Kp.setW (Kp.setW (Kp.setW (Kp.setW Kp.refl (.inl rfl) _) (.inr (.inl ?_)) _) (.inr (.inl ?_)) _) (.inr (.inl ?_)) _ <;> dsimp only <;> omega
theorem kp_pw {md:Bool}{h:AHeap}(n:WN)(w:PwS):Kp (n.own md) h (h.set n.p (some (.mem 4 [w.row]))):=Kp.setW Kp.refl (.inl rfl) _
theorem kp_ct {md:Bool}{h:AHeap}(n:WN)(w:PwS)(c:CtS):Kp (n.own md) h ((h.set n.p (some (.mem 4 [w.row]))).set (n.a+7) (some (c.obj n.p))):=Kp.setW (Kp.setW Kp.refl (.inl rfl) _) (.inr (.inl (by omega))) _
def WS.crash (s:WS)(K:Nat→Bool):WS:={ s with pw:={ s.pw with gone:=false,fuse:=false },sd:=s.sd.settle K,dk:=s.dk.crash K }
end Go.Proofs.YthblcmnhiccnhaaGreat


namespace Go.Proofs.YthblcmnhiccnhaaGreat
open Go Go.Abs

theorem zc8 (p:Pr):(pairB p).length=16:=by simp [pairB]
def leafK (b:Bs):Bs:=0::b
def nodeK (a b:Pr):Bs:=1::(pairB a++pairB b)
def sumP (S:List Bs)(k:Bs):Pr:=(eees,(sumN S k:Int))
theorem ztc (S:List Bs)(k:Bs):(sumS S k).length≤S.length+1:=by unfold sumS;split <;> simp
theorem zlq {h k:AHeap}(h1:∀ i,h.get i=k.get i)(h2:h.next=k.next)(h3:∀ i,h.gap i=k.gap i):h=k:=by
 cases h;cases k
 simp only at h1 h2 h3
 rw [funext h1,h2,funext h3]
theorem z9v {h:AHeap}{s:Nat}(hs:h.get s=none):h.set s none=h :=
  zlq (fun i=>by rw [zc];split;· rename_i e;rw [e,hs]
                 · rfl) rfl fun _=>rfl
def gP (md:Bool)(S:List Bs)(k:Bs):Pr:=match md with | true=>sumP S k | false=>z2s k
def gS (md:Bool)(S:List Bs)(k:Bs):List Bs:=match md with | true=>sumS S k | false=>S
def gO (md:Bool)(S:List Bs):Option AObj:=match md with | true=>some (.map (encM S)) | false=>none
theorem gS_le (md:Bool)(S:List Bs)(k:Bs):(gS md S k).length≤S.length+1:=by
 cases md
 ·exact Nat.le_succ _
 ·exact ztc S k
structure GAt (md:Bool)(h:AHeap)(l s:Nat)(S:List Bs):Prop where
 id:md=true→∃ o t g L,IdAt h l o t s g L S
 re:md=false→h.get l=some (.mem 5 [reC])
 sm:h.get s=gO md S
 ls:s < h.next
 ll:l < h.next
theorem GAt.ne {md:Bool}{h:AHeap}{l s:Nat}{S:List Bs}(hl:GAt md h l s S):l≠s:=by
 rintro rfl
 cases md with
 | true => obtain ⟨o, t, g, L, q, q1⟩ := hl.id rfl; rw [q1.sums] at q; cases q
 | false => have := hl.re rfl; rw [hl.sm] at this; cases this
structure GLt (md:Bool)(h:AHeap)(l s:Nat)(S:List Bs):Prop where
 a1:l < h.next
 a2:s < h.next
 a3:h.get s=gO md S
 a4:l≠s
theorem GAt.lt {md:Bool}{h:AHeap}{l s:Nat}{S:List Bs}(hl:GAt md h l s S):GLt md h l s S:=⟨hl.ll,hl.ls,hl.sm,hl.ne⟩
theorem GAt.frame {md:Bool}{h h':AHeap}{l s:Nat}{S S':List Bs}(hl:GAt md h l s S)(hu:∀ id x,h.get id=some x→h.used id)(hk:KeepsB [s] h h')(hs:h'.get s=gO md S'):GAt md h' l s S':=by
 refine ⟨fun e => ?_,fun e => ?_,hs,Nat.lt_of_lt_of_le hl.ls hk.1,Nat.lt_of_lt_of_le hl.ll hk.1⟩
 ·obtain ⟨o,t,g,L,q0,q1,q2,q3⟩:=hl.id e
  subst e
  have d1:o≠s:=by rintro rfl;rw [q1] at q3;cases q3
  have d2:t≠s:=by rintro rfl;rw [q2] at q3;cases q3
  exact ⟨o,t,g,L,(hk.2 l (hu _ _ q0) (by simpa using hl.ne)).trans q0,⟨(hk.2 o (hu _ _ q1) (by simpa using d1)).trans q1,(hk.2 t (hu _ _ q2) (by simpa using d2)).trans q2,hs⟩⟩
 ·have q0:=hl.re e
  exact (hk.2 l (hu _ _ q0) (by simpa using hl.ne)).trans q0
theorem GAt.ext {md:Bool}{h:AHeap}{l s:Nat}{S:List Bs}(hl:GAt md h l s S)(_hu:∀ id x,h.get id=some x→h.used id)(S':List Bs):Ext h (h.set s (gO md S')):=by
 cases md with
 | true => exact Ext.set (x := .map _) Ext.refl (Nm.old hl.sm) (zef _)
 | false => rw [show gO false S' = none from rfl, z9v hl.sm]; exact Ext.refl
theorem zc9 {md:Bool}{h:AHeap}{l s:Nat}{S:List Bs}(hl:GAt md h l s S)(hS:S.length≤1000000)(rows:List Bs)(hr1:rows.length≤1000000)(hr2:rows.flatten.length≤1000000) :
  AE Tryz.prog 281 [.ptr l 0 0,.imm 1 (rows.map encR)] h (.agg (encP (gP md S rows.flatten))) (h.set s (gO md (gS md S rows.flatten))):=by
 cases md with
 | true =>
  obtain ⟨o,t,g,L,q⟩:=hl.id rfl
  exact zl3 q hS rows hr1 hr2
 | false =>
  rw [show gO false (gS false S rows.flatten)=none from rfl,z9v hl.sm]
  exact zlo (hl.re rfl) rows hr1 hr2
attribute [local irreducible] z2s
theorem zgc {md:Bool}{h:AHeap}{l s:Nat}{S:List Bs}(hl:GAt md h l s S)(hS:S.length≤200000)(b:Bs)(hb:b.length≤100000) :
  AE Tryz.prog 245 [.ptr l 0 0,.imm 1 (b.map encB)] h (.agg (encP (gP md S (leafK b)))) (h.set s (gO md (gS md S (leafK b)))):=by
 refine AE.wfU fun hwu => ?_
 obtain ⟨w1,w4,w5,w6⟩:=hl.lt
 refine AE.effW zfn (by simp) (hl.ext hwu _) ?_
 unfold z8i;dsimp only [qQ,qR,qM,qG]
 (refine go ?_)
 have hcon:=zc9 (h:=h.put h.next (.mem 2 [[.int .u64 0,.int .u64 0]])) (hl.frame hwu gKB gH) (by omega) [[0],b] (by simp) (by simp;omega)
 rw [show [[(0:UInt8)],b].flatten=leafK b by simp [leafK]] at hcon
 refine WL.call rfl gM gSL (hcon) ?_
 (refine go ?_)
 refine WW.ret (EffQ.finD ?_ ?_)
 ·refine ⟨gLE,fun id hu => ?_⟩;have hlt:id < AHeap.next h:=hu.1;simp only [zn,zc];(repeat' split) <;> first | rfl | omega | (simp [putM];done)
 ·exact .clo _ (.agg _ fun v hv=>z13 (zc6 (gP md S (leafK b)) v hv))

theorem zgd {md:Bool}{h:AHeap}{l s:Nat}{S:List Bs}(hl:GAt md h l s S)(hS:S.length≤200000)(a b:Pr) :
  AE Tryz.prog 246 [.ptr l 0 0,.agg (encP a),.agg (encP b)] h (.agg (encP (gP md S (nodeK a b)))) (h.set s (gO md (gS md S (nodeK a b)))):=by
 refine AE.wfU fun hwu => ?_
 obtain ⟨w1,w4,w5,w6⟩:=hl.lt
 refine AE.effW zfo (by simp) (hl.ext hwu _) ?_
 unfold z8j;dsimp only [qQ,qR,qM,qG]
 (repeat first | refine WL.go ?_ | refine WW.seq ?_ | refine WW.reg ?_ | refine WL.nil ?_ | refine WW.skip ?_ | refine WW.block ?_ | refine WW.exit ?_ | refine WW.condT rfl ?_ | refine WW.condF rfl ?_ | refine WL.gox ?_ | refine thenN ?_ | refine blkN ?_)
 refine WW.dregX [7,8] [] [s,h.next+2] gN (by decide +kernel) ?_
 (refine go ?_)
 refine DW.callS rfl gM gSL rfl (z1e a _) ?_
 (refine go ?_)
 refine DW.callS rfl gM gSL rfl (z1e b _) ?_
 (refine go ?_)
 have hcon:=zc9 (h:=((h.put h.next (.mem 2 [encP a])).put (h.next+1) (.mem 2 [encP b])).put (h.next+2) (.mem 2 [[.int .u64 0,.int .u64 0]])) (hl.frame hwu gKB gH) (by omega) [[1],pairB a,pairB b] (by simp) (by simp [zc8])
 rw [show [[(1:UInt8)],pairB a,pairB b].flatten=nodeK a b by simp [nodeK]] at hcon
 refine DW.callSW rfl gM gSL rfl rfl (fun hp=>by repeat first | exact hp | refine PhiW.put (by omega) ?_ | refine PhiW.setN (by omega) ?_ | refine PhiW.setW (by simp;done) ?_) (hcon) ?_
 (refine go ?_)
 refine WW.ret (EffQ.finD ?_ ?_)
 ·refine ⟨gLE,fun id hu => ?_⟩;have hlt:id < AHeap.next h:=hu.1;simp only [zn,zc];(repeat' split) <;> first | rfl | omega | (simp [putM];done)
 ·exact .clo _ (.agg _ fun v hv=>z13 (zc6 (gP md S (nodeK a b)) v hv))

def lfF (md:Bool):List Bs→Nat→List Pr→List Bs→List Pr×List Bs
 | [], _, N, S => (N, S)
 | b :: r, k, N, S => lfF md r (k + 1) (N.set k (gP md S (leafK b))) (gS md S (leafK b))
def kidK (N:List Pr)(i:Nat):Bs:=nodeK (N.getD (2*i) (0,0)) (N.getD (2*i+1) (0,0))
def upF (md:Bool):Nat→List Pr→List Bs→List Pr×List Bs
 | 0, N, S => (N, S)
 | i + 1, N, S => upF md i (N.set (i + 1) (gP md S (kidK N (i + 1)))) (gS md S (kidK N (i + 1)))
def zr (md:Bool)(lv:List Bs)(S:List Bs):List Pr×List Bs :=
 upF md (lv.length - 1) (lfF md lv lv.length (List.replicate (2*lv.length) (0,0)) S).1 (lfF md lv lv.length (List.replicate (2*lv.length) (0,0)) S).2
theorem z8w (md:Bool):∀ (lv:List Bs) (k:Nat) (N:List Pr) (S:List Bs),(lfF md lv k N S).1.length=N.length∧(lfF md lv k N S).2.length≤S.length+lv.length
 | [], _, _, _ => ⟨rfl, Nat.le_refl _⟩
 | b :: r, k, N, S => by
  have h1:=z8w md r (k+1) (N.set k (gP md S (leafK b))) (gS md S (leafK b))
  have h2:=gS_le md S (leafK b)
  simp only [lfF,List.length_set,List.length_cons] at *
  omega
theorem z8x (md:Bool):∀ (i:Nat) (N:List Pr) (S:List Bs),(upF md i N S).1.length=N.length∧(upF md i N S).2.length≤S.length+i
 | 0, _, _ => ⟨rfl, Nat.le_refl _⟩
 | i + 1, N, S => by
  have h1:=z8x md i (N.set (i+1) (gP md S (kidK N (i+1)))) (gS md S (kidK N (i+1)))
  have h2:=gS_le md S (kidK N (i+1))
  simp only [upF,List.length_set] at *
  omega

theorem zq4 {h:AHeap}{nd s:Nat}{x y:AObj}{a b:Option AObj}(hs:s≠nd):(((h.put nd x).set s a).set s b).set nd (some y)=(h.put nd y).set s b:=by
 refine zlq (fun i => ?_) rfl fun i=>rfl
 simp only [zn,zc]
 by_cases h1:i=nd
 ·subst h1;rw [if_pos rfl,if_neg (fun e=>hs e.symm),if_pos rfl]
 ·rw [if_neg h1]
  by_cases h2:i=s
  ·rw [if_pos h2,if_pos h2]
  ·rw [if_neg h2,if_neg h2,if_neg h2,if_neg h1,if_neg h1]
theorem zuo {h:AHeap}{nd s:Nat}{x:AObj}{y:Option AObj}(hs:s≠nd)(hg:h.get s=y):h.put nd x=(h.put nd x).set s y:=by
 refine zlq (fun i => ?_) rfl fun i=>rfl
 simp only [zn,zc]
 by_cases h2:i=s
 ·subst h2;rw [if_neg hs,if_pos rfl,hg]
 ·rw [if_neg h2]
theorem ztd {n:Nat}:List.replicate n [AV.int .u64 0,.int .u64 0]=(List.replicate n ((0,0):Pr)).map encP:=by
 rw [List.map_replicate];rfl
theorem znp (N:List Pr)(k:Nat)(p:Pr):(N.map encP).set k (encP p)=(N.set k p).map encP:=by rw [List.map_set]

theorem zah {md:Bool}{h:AHeap}{l s:Nat}{S:List Bs}(hl:GAt md h l s S)(hS:S.length≤100000)(lv:List Bs)(hG:isG lv.length=true)(hb:∀ b∈lv,b.length≤100000) :
  AE Tryz.prog 187 [.ptr l 0 0,.imm 1 (lv.map encR)] h (.tup [.imm 2 ((zr md lv S).1.map encP),.bool true]) (h.set s (gO md (zr md lv S).2)):=by
 have hn:lv.length≤16∧1≤lv.length:=by simp [isG] at hG;omega
 refine AE.wfU fun hwu => ?_
 obtain ⟨w1,w4,w5,w6⟩:=hl.lt
 refine AE.effW zjg (by simp) (hl.ext hwu _) ?_
 unfold zbj;dsimp only [qQ,qR,qM,qG]
 (refine go ?_)
 refine WL.call rfl gM gSL (z5x _ _) ?_
 rw [hG]
 (refine go ?_)
 have g0:(h.put h.next (.mem 2 (List.replicate (2*lv.length) [.int .u64 0,.int .u64 0])))=(h.put h.next (.mem 2 ((List.replicate (2*lv.length) ((0,0):Pr)).map encP))).set s (gO md S):=by
  rw [ztd];exact zuo (by omega) hl.sm
 rw [g0]
 refine WW.loopE (fun (q:Nat×List Pr×List Bs)=>[(0,some (.ptr l 0 0)),(6,some (.int .i64 lv.length)),(7,some (.ref h.next 0 (2*lv.length))),(19,some (.imm 1 (lv.map encR))),(20,some (.int .i64 lv.length)),(21,some (.int .i64 q.1))])
  (fun q h'=>h'=(h.put h.next (.mem 2 (q.2.1.map encP))).set s (gO md q.2.2)∧q.1≤lv.length∧q.2.1.length=2*lv.length∧q.2.2.length≤S.length+q.1∧lfF md (lv.drop q.1) (lv.length+q.1) q.2.1 q.2.2=lfF md lv lv.length (List.replicate (2*lv.length) (0,0)) S) (fun q=>lv.length - q.1) (0,List.replicate (2*lv.length) (0,0),S) gSUB
  ⟨rfl,Nat.zero_le _,by simp,by simp,by simp⟩ ?_
 rintro ⟨i,N,S1⟩ h' ⟨rfl,c1,c2,c3,c4⟩
 dsimp only at c1 c2 c3 c4 ⊢
 (refine go ?_)
 (refine WW.ifB rfl (fun hz1 => ?_) (fun hz1 => ?_))
 ·have hi:i < lv.length:=by omega
  (refine go ?_)
  have hcon:=zgc (h:=(h.put h.next (.mem 2 (N.map encP))).set s (gO md S1)) (hl.frame hwu gKB gH) (by omega) lv[i] (hb _ (List.getElem_mem hi))
  refine WL.call rfl gM gSL (hcon) ?_
  (refine go ?_)
  refine ⟨(i+1,N.set (lv.length+i) (gP md S1 (leafK lv[i])),gS md S1 (leafK lv[i])),gSUB,⟨?_,by dsimp only;omega,by simpa using c2,?_,?_⟩,by dsimp only;omega⟩
  ·rw [Nat.zero_add,← znp];exact zq4 (by omega)
  ·have:=gS_le md S1 (leafK lv[i]);dsimp only;omega
  ·rw [← c4,List.drop_eq_getElem_cons hi,lfF];rfl
 ·have hi:i=lv.length:=by omega
  subst hi
  simp only [List.drop_length,lfF] at c4
  (refine go ?_)
  refine WW.loopE (fun (q:Nat×List Pr×List Bs)=>[(0,some (.ptr l 0 0)),(7,some (.ref h.next 0 (2*lv.length))),(10,some (.int .i64 q.1))])
   (fun q h'=>h'=(h.put h.next (.mem 2 (q.2.1.map encP))).set s (gO md q.2.2)∧q.1 < lv.length∧q.2.1.length=2*lv.length∧q.2.2.length+q.1≤S.length+2*lv.length∧upF md q.1 q.2.1 q.2.2=zr md lv S) (fun q=>q.1) (lv.length - 1,N,S1) gSUB
   ⟨rfl,by dsimp only;omega,c2,by dsimp only;omega,by rw [zr,← c4]⟩ ?_
  clear c1 c2 c3 c4
  rintro ⟨k,N2,S2⟩ h' ⟨rfl,c1,c2,c3,c4⟩
  dsimp only at c1 c2 c3 c4 ⊢
  (refine go ?_)
  (refine WW.ifB rfl (fun hz2 => ?_) (fun hz2 => ?_))
  ·have hk:0 < k:=by omega
   (repeat first | refine WL.go ?_ | refine WW.seq ?_ | refine WW.reg ?_ | refine WL.nil ?_ | refine WW.skip ?_ | refine WW.block ?_ | refine WW.exit ?_ | refine WW.condT rfl ?_ | refine WW.condF rfl ?_ | refine WL.gox ?_ | refine thenN ?_ | refine blkN ?_)
   refine WW.dregX [14,16] [] [s,h.next] gN (by decide +kernel) ?_
   (refine go ?_)
   have hkid:kidK N2 k=nodeK (N2[0+2*k]'(by omega)) (N2[0+(2*k+1)]'(by omega)):=by
    simp only [kidK,Nat.zero_add,List.getD_eq_getElem?_getD]
    rw [List.getElem?_eq_getElem (by omega),List.getElem?_eq_getElem (by omega)]
    rfl
   have hcon:=zgd (h:=(h.put h.next (.mem 2 (N2.map encP))).set s (gO md S2)) (hl.frame hwu gKB gH) (by omega) (N2[0+2*k]'(by omega)) (N2[0+(2*k+1)]'(by omega))
   rw [← hkid] at hcon
   refine DW.callSW rfl gM gSL rfl rfl (fun hp=>by repeat first | exact hp | refine PhiW.put (by omega) ?_ | refine PhiW.setN (by omega) ?_ | refine PhiW.setW (by simp;done) ?_) (hcon) ?_
   (refine go ?_)
   have hk1:k=(k - 1)+1:=by omega
   refine ⟨(k - 1,N2.set k (gP md S2 (kidK N2 k)),gS md S2 (kidK N2 k)),gSUB,⟨?_,by dsimp only;omega,by simpa using c2,?_,?_⟩,by dsimp only;omega⟩
   ·rw [Nat.zero_add,← znp];exact zq4 (by omega)
   ·have:=gS_le md S2 (kidK N2 k);dsimp only;omega
   ·rw [← c4]
    conv=>rhs;rw [hk1]
    rw [upF,← hk1]
  ·have hk:k=0:=by omega
   subst hk
   simp only [upF] at c4
   (refine go ?_)
   rw [← c4]
   refine WW.ret (EffQ.finD ?_ ?_)
   ·refine ⟨gLE,fun id hu => ?_⟩;have hlt:id < AHeap.next h:=hu.1;simp only [zn,zc];(repeat' split) <;> first | rfl | omega | (simp [putM];done)
   ·exact Fz.tup2 (zb5 gH (Nat.le_refl _) (by simp [c2]) rfl (z2m zc6)) (fz_b rfl)
end Go.Proofs.YthblcmnhiccnhaaGreat


namespace Go.Proofs.YthblcmnhiccnhaaGreat
open Go Go.Abs

def lfAt (n a i:Int):Int:=n*32+a*(n*64)+i*32
def ndAt (n a i:Int):Int:=n*32+a*(n*64)+n*32+i*16
theorem z6v (n a i:Int)(hn:isG n=true)(ha:0≤a∧a < 2)(hi:0≤i∧i < n)(h:AHeap):AE Tryz.prog 186 [.agg [.int .i64 n],.int .i64 a,.int .i64 i] h (.int .i64 (lfAt n a i)) h:=by
 have hg:=z8 hn
 have ha':a=0∨a=1:=by omega
 have ha2:0≤a*(n*64)∧a*(n*64)≤1024:=by rcases ha' with rfl | rfl <;> omega
 refine AE.pureW zd5 (by simp) ?_
 unfold z6m;dsimp only [qQ,qR,qM,qG]
 (refine go ?_)
 refine WL.call rfl gM gSL (z1n n a 2 _) ?_
 rw [show (isG n&&decide (0≤a)&&decide (a < 2))=true by simp [hn,ha.1,ha.2]]
 (refine go ?_)
 refine WL.call rfl gM gSL (z1n n i n _) ?_
 rw [show (isG n&&decide (0≤i)&&decide (i < n))=true by simp [hn,hi.1,hi.2]]
 (repeat first | refine WL.go ?_ | refine WW.seq ?_ | refine WW.reg ?_ | refine WL.nil ?_ | refine WW.skip ?_ | refine WW.block ?_ | refine WW.exit ?_ | refine WW.condT rfl ?_ | refine WW.condF rfl ?_ | refine WL.gox ?_ | refine thenN ?_ | refine blkN ?_)
 refine WW.dregX [] [] [] gN (by decide +kernel) ?_
 (refine go ?_)
 refine DW.callS rfl gM gSL rfl (zc7 n hn _) ?_
 (refine go ?_)
 refine WW.ret (PureQ.finD ?_)
 exact clo_i rfl
theorem zhs (n a:Int)(hn:isG n=true)(ha:0≤a∧a < 2)(h:AHeap):AE Tryz.prog 297 [.agg [.int .i64 n],.func (.func 186) [] [],.int .i64 a] h (.int .i64 (ndAt n a 0)) h:=by
 have hg:=z8 hn
 have ha':a=0∨a=1:=by omega
 have ha2:0≤a*(n*64)∧a*(n*64)≤1024:=by rcases ha' with rfl | rfl <;> omega
 refine AE.pureW zav (by simp) ?_
 unfold z54;dsimp only [qQ,qR,qM,qG]
 (refine go ?_)
 refine WL.fx1 (FX.callv rfl rfl gM (by kernel_rfl) (z6v n a (n - 1) hn ha (by omega) _)) ?_
 have:lfAt n a (n - 1)+32=ndAt n a 0:=by unfold lfAt ndAt;omega
 have hr:0≤lfAt n a (n - 1)∧lfAt n a (n - 1)≤10000:=by unfold lfAt;omega
 generalize lfAt n a (n - 1)=X at *
 (refine go ?_)
 refine WW.ret (PureQ.finD ?_)
 exact clo_i (by omega)
theorem zlr (n a i:Int)(hn:isG n=true)(ha:0≤a∧a < 2)(hi:0≤i∧i < 2*n)(h:AHeap):AE Tryz.prog 284 [.agg [.int .i64 n],.int .i64 a,.int .i64 i] h (.int .i64 (ndAt n a i)) h:=by
 have hg:=z8 hn
 have ha':a=0∨a=1:=by omega
 have ha2:0≤a*(n*64)∧a*(n*64)≤1024:=by rcases ha' with rfl | rfl <;> omega
 refine AE.pureW zd6 (by simp) ?_
 unfold z6n;dsimp only [qQ,qR,qM,qG]
 (refine go ?_)
 refine WL.call rfl gM gSL (z1n n a 2 _) ?_
 rw [show (isG n&&decide (0≤a)&&decide (a < 2))=true by simp [hn,ha.1,ha.2]]
 (refine go ?_)
 refine WL.call rfl gM gSL (z1n n i (2*n) _) ?_
 rw [show (isG n&&decide (0≤i)&&decide (i < 2*n))=true by simp [hn,hi.1,hi.2]]
 (refine go ?_)
 refine WL.call rfl gM gSL (zhs n a hn ha _) ?_
 have hx:ndAt n a 0+i*16=ndAt n a i:=by unfold ndAt;omega
 have hr:0≤ndAt n a 0∧ndAt n a 0≤10000:=by unfold ndAt;omega
 generalize ndAt n a 0=X at *
 (refine go ?_)
 refine WW.ret (PureQ.finD ?_)
 exact clo_i hx
theorem zge (p:Nat)(a:Int)(h:AHeap):AE Tryz.prog 185 [.ptr p 0 0,.int .i64 a] h (.bool (decide (0≤a)&&decide (a < 2))) h:=by
 refine AE.pureW zol (by simp) ?_
 unfold zim;dsimp only [qQ,qR,qM,qG]
 (refine go ?_)
 (apply WL.andB;exact rfl;exact rfl;exact rfl;exact BP.of;intro hz1)
 ·(repeat first | (apply GW.goS;exact Stp.auto) | apply GW.nil | exact rfl)
 (refine go ?_)
 refine WW.ret (PureQ.finD ?_)
 exact fz_b (by simp)

def WN.nm (md:Bool)(n:WN)(id:Nat):Prop:=n.all md id∨id=n.q
structure WG (md:Bool)(h:AHeap)(n:WN)(s:WS):Prop where
 w:WAt md h n s
 us:∀ id,n.nm md id→h.used id
 qn:md=false→h.get n.q=none
theorem WAt.same {md:Bool}{h h':AHeap}{n:WN}{s:WS}(hw:WAt md h n s)(g:∀ id,n.all md id→h'.get id=h.get id)(hx:h.next≤h'.next):WAt md h' n s:=by
 have ga:∀ i,0 < i∧i < 11∧i≠8→h'.get (n.a+i)=h.get (n.a+i):=fun i hi=>g _ (.inr (.inr (.inl (by omega))))
 have gB:h'.get n.B=h.get n.B:=g _ (.inr (.inr (.inl (by omega))))
 have gE:h'.get n.E=h.get n.E:=g _ (.inr (.inr (.inl (by omega))))
 have g0:=g n.p (.inl rfl)
 exact ⟨hw.sd.same g0 (ga 1 (by omega)) gB (ga 2 (by omega)) (ga 3 (by omega)),hw.dk.same g0 (ga 4 (by omega)) (ga 5 (by omega)) (ga 6 (by omega)),(ga 7 (by omega)).trans hw.ct,hw.ks.same (ga 9 (by omega)) gE,(ga 10 (by omega)).trans hw.w,hw.lk.same (g _ (.inr (.inl rfl))) fun e=>⟨g _ (.inr (.inr (.inr ⟨e,.inl rfl⟩))),g _ (.inr (.inr (.inr ⟨e,.inr (.inl rfl)⟩))),g _ (.inr (.inr (.inr ⟨e,.inr (.inr rfl)⟩)))⟩,hw.op,hw.ol,hw.oo,Nat.le_trans hw.nx hx,hw.oB,⟨Nat.lt_of_lt_of_le hw.nB.1 hx,Nat.lt_of_lt_of_le hw.nB.2 hx⟩⟩
theorem WAt.lt {md:Bool}{h:AHeap}{n:WN}{s:WS}(hw:WAt md h n s){id:Nat}(hi:n.all md id):id < h.next:=by
 have h1:=hw.op
 have h2:=hw.ol
 have h3:=hw.nx
 have h4:=hw.nB
 rcases hi with rfl | rfl | hi | ⟨e,hi⟩
 ·omega
 ·omega
 ·omega
 ·have:=hw.oo e
  rcases hi with rfl | rfl | rfl <;> omega
theorem WAt.live {md:Bool}{h:AHeap}{n:WN}{s:WS}(hw:WAt md h n s){id:Nat}(hi:n.all md id):∃ x,h.get id=some x:=by
 have hs:=hw.sd
 have hd:=hw.dk
 have hk:=hw.ks
 rcases hi with rfl | rfl | hi | ⟨hm,rfl | rfl | rfl⟩
 ·exact ⟨_,hs.pw⟩
 ·cases md with
  | true => exact ⟨_, (hw.lk.id rfl).cells⟩
  | false => exact ⟨_, hw.lk.re rfl⟩
 ·have:id=n.B∨id=n.a+1∨id=n.a+2∨id=n.a+3∨id=n.a+4∨id=n.a+5∨id=n.a+6∨id=n.a+7∨id=n.E∨id=n.a+9∨id=n.a+10:=by omega
  rcases this with rfl | rfl | rfl | rfl | rfl | rfl | rfl | rfl | rfl | rfl | rfl
  ·exact ⟨_,hs.bl⟩
  ·exact ⟨_,hs.ob⟩
  ·exact ⟨_,hs.wt⟩
  ·exact ⟨_,hs.tr⟩
  ·exact ⟨_,hd.ob⟩
  ·exact ⟨_,hd.wt⟩
  ·exact ⟨_,hd.tr⟩
  ·exact ⟨_,hw.ct⟩
  ·exact ⟨_,hk.tl⟩
  ·exact ⟨_,hk.ob⟩
  ·exact ⟨_,hw.w⟩
 all_goals
  obtain ⟨q0,q1,q2,q3⟩:=hw.lk.id hm
  first | exact ⟨_,q1⟩ | exact ⟨_,q2⟩ | exact ⟨_,q3⟩
theorem WG.step {md:Bool}{h h':AHeap}{n:WN}{s s':WS}(hg:WG md h n s)(hw:WAt md h' n s')(hk:Kp (n.own md) h h'):WG md h' n s' :=
 ⟨hw,fun id hi=>hk.us id (hg.us id hi),fun e=>by
  rw [hk.get _ (hg.us _ (.inr rfl)) fun ho => ?_]
  ·exact hg.qn e
  ·obtain ⟨x,hx⟩:=hg.w.live (WN.own_all ho)
   rw [hg.qn e] at hx;cases hx⟩
theorem WG.kp {W:Nat→Prop}{md:Bool}{h h':AHeap}{n:WN}{s:WS}(hg:WG md h n s)(hk:Kp W h h')(hd:∀ id,n.nm md id→¬ W id):WG md h' n s :=
 ⟨hg.w.same (fun id hi=>hk.get id (hg.us id (.inl hi)) (hd id (.inl hi))) hk.next,fun id hi=>hk.us id (hg.us id hi),fun e=>(hk.get _ (hg.us _ (.inr rfl)) (hd _ (.inr rfl))).trans (hg.qn e)⟩
theorem WG.new {md:Bool}{h h':AHeap}{n:WN}{s:WS}(hg:WG md h n s)(hk:Kp (fun _=>False) h h'):WG md h' n s:=hg.kp hk fun _ _ h=>h
theorem WG.g {md:Bool}{h:AHeap}{n:WN}{s:WS}(hg:WG md h n s):GAt md h n.l n.q s.S:=by
 refine ⟨fun e=>⟨n.o,n.t,0,s.L,hg.w.lk.id e⟩,fun e=>hg.w.lk.re e,?_,(hg.us _ (.inr rfl)).1,(hg.us _ (.inl (.inr (.inl rfl)))).1⟩
 cases md with
 | true => obtain ⟨q0, q1, q2, q3⟩ := hg.w.lk.id rfl; exact q3
 | false => exact hg.qn rfl
theorem kp_s {md:Bool}{h:AHeap}{n:WN}{s:WS}(hg:WG md h n s)(S':List Bs):Kp (n.own md) h (h.set n.q (gO md S')):=by
 cases md with
 | true => exact Kp.setW Kp.refl (.inr (.inr ⟨rfl, .inr (.inr rfl)⟩)) _
 | false =>
  show Kp _ h (h.set n.q none)
  rw [z9v (hg.qn rfl)]
  exact Kp.refl
theorem WG.putS {md:Bool}{h:AHeap}{n:WN}{s:WS}(hg:WG md h n s)(S':List Bs):WG md (h.set n.q (gO md S')) n { s with S:=S' }:=by
 refine hg.step ?_ (kp_s hg S')
 cases md with
 | false =>
  show WAt false (h.set n.q none) n _
  rw [z9v (hg.qn rfl)]
  have hw:=hg.w
  exact ⟨hw.sd,hw.dk,hw.ct,hw.ks,hw.w,⟨nofun,hw.lk.re⟩,hw.op,hw.ol,hw.oo,hw.nx,hw.oB,hw.nB⟩
 | true =>
  have hw:=hg.w
  obtain ⟨q0,q1,q2,q3⟩:=hw.lk.id rfl
  have hne:∀ {id:Nat} {x:AObj},h.get id=some x→(∀ es,x≠.map es)→(h.set n.q (gO true S')).get id=some x:=fun {id x} hx hm=>by
   rw [zc,if_neg (fun e => ?_)]
   ·exact hx
   ·subst e;rw [q3] at hx;exact hm _ (Option.some.inj hx).symm
  have hs:=hw.sd
  have hd:=hw.dk
  have hk:=hw.ks
  refine ⟨⟨hne hs.pw (by simp),hne hs.ob (by simp [SdS.obj]),hne hs.bl (by simp),hne hs.wt (by simp),hne hs.tr (by simp),hs.ne⟩,⟨hne hd.pw (by simp),hne hd.ob (by simp),hne hd.wt (by simp),hne hd.tr (by simp),hd.ne,hd.ll⟩,hne hw.ct (by simp [CtS.obj]),⟨hne hk.ob (by simp [KsS.obj]),hne hk.tl (by simp),hk.ne,hk.sm⟩,hne hw.w (by simp),⟨fun _=>⟨hne q0 (by simp),⟨hne q1 (by simp),hne q2 (by simp),za⟩⟩,nofun⟩,hw.op,hw.ol,hw.oo,hw.nx,hw.oB,hw.nB⟩
theorem zai (md:Bool)(k:Nat)(hk:isG k=true)(seed:Int)(h:AHeap):AC Tryz.prog 22 [.int .i64 k,.int .u64 seed,.bool md] h
  (fun r h'=>∃ n:WN,r = .tup [.ptr (n.a+10) 0 0,.int .i64 0]∧WG md h' n (ws0 k seed)∧(∀ id,n.nm md id→h.next≤id)∧Kp (fun id=>h.next≤id) h h'):=by
 refine AC.mono (AC.used (AC.spareC (zlp md k hk seed h))) ?_
 rintro r h' ⟨⟨h1,⟨n,rfl,hw,np,nl,no,nn,kk⟩,rfl⟩,hus,hlv⟩
 replace kk:=kk h (Keeps.refl _)
 have g:∀ id,id < h1.next→((h1.put h1.next (.tail 0 0)).set h1.next none).get id=h1.get id:=fun id hi=>z1 (by omega) (z3 (by omega) rfl)
 have hx:h1.next≤((h1.put h1.next (.tail 0 0)).set h1.next none).next:=z33 (z32 (x := .tail 0 0) (Nat.le_refl _))
 have hw2:WAt md ((h1.put h1.next (.tail 0 0)).set h1.next none) n (ws0 k seed):=hw.same (fun id hi=>g id (hw.lt hi)) hx
 have hall:∀ id,n.all md id→h.next≤id:=fun id hi=>by
  have h1:=hw.op
  have hoB:=hw.oB
  rcases hi with rfl | rfl | hi | ⟨e,rfl | rfl | rfl⟩
  ·exact np
  ·exact nl
  ·omega
  ·exact (no e).1
  ·exact (no e).2.1
  ·exact (no e).2.2
 have kp:Kp (fun id=>h.next≤id) h ((h1.put h1.next (.tail 0 0)).set h1.next none):=⟨Nat.le_trans nn hx,hus,fun id hu _=>(g id (Nat.lt_of_lt_of_le hu.1 nn)).trans (kk.2 id hu)⟩
 cases md with
 | true =>
  have hqa:n.all true n.q := .inr (.inr (.inr ⟨rfl,.inr (.inr rfl)⟩))
  refine ⟨n,rfl,⟨hw2,fun id hi => ?_,nofun⟩,fun id hi => ?_,kp⟩
  ·have:n.all true id:=hi.elim (fun h=>h) fun e=>e ▸ hqa
   obtain ⟨x,hx⟩:=hw2.live this
   exact hlv _ _ hx
  ·exact hall id (hi.elim (fun h=>h) fun e=>e ▸ hqa)
 | false =>
  have hal:∀ id,({ n with q:=h1.next }:WN).all false id→n.all false id:=fun id hi=>by
   rcases hi with rfl | rfl | hi | ⟨e,_⟩
   ·exact .inl rfl
   ·exact .inr (.inl rfl)
   ·exact .inr (.inr (.inl hi))
   ·cases e
  refine ⟨{ n with q:=h1.next },rfl,⟨⟨hw2.sd,hw2.dk,hw2.ct,hw2.ks,hw2.w,⟨nofun,hw2.lk.re⟩,hw2.op,hw2.ol,nofun,hw2.nx,hw2.oB,hw2.nB⟩,fun id hi => ?_,fun _=>za⟩,fun id hi => ?_,kp⟩
  ·rcases hi with hi | rfl
   ·obtain ⟨x,hx⟩:=hw2.live (hal id hi)
    exact hlv _ _ hx
   ·exact z2 (x := .tail 0 0)
  ·rcases hi with hi | rfl
   ·exact hall id (hal id hi)
   ·exact nn
end Go.Proofs.YthblcmnhiccnhaaGreat


namespace Go.Proofs.YthblcmnhiccnhaaGreat
open Go Go.Abs

def WN.devs (n:WN):List Nat:=[n.p,n.B,n.a+1,n.a+2,n.a+3,n.a+4,n.a+5,n.a+6,n.a+7,n.E,n.a+9]
section
variable {nx:Nat}{h0 h:AHeap}
theorem zgf (n:WN)(w:PwS)(x:SdS)(hp:PhiW nx n.devs h0 h):PhiW nx n.devs h0 (sdPut n.sdN w x h):=by
 unfold sdPut
 refine PhiW.setW ?_ (PhiW.setW ?_ (PhiW.setW ?_ (PhiW.setW ?_ (PhiW.setW ?_ hp)))) <;> simp [WN.devs]
end
theorem DW.named {P:Program}{N:Nat}{Φ:AHeap→Prop}{ws fs:List Nat}{K:Env→AHeap→Prop}{j:Nat}{l:List CI}{e:Env}{h:AHeap}(p:AHeap→Prop)(hp:p h)(k:∀ h5,p h5→DW P N Φ ws fs K j l e h5):DW P N Φ ws fs K j l e h:=k h hp
end Go.Proofs.YthblcmnhiccnhaaGreat


namespace Go.Proofs.YthblcmnhiccnhaaGreat
open Go Go.Abs

def lvOk:List Lf→Nat→Bool
 | [], _ => true
 | x :: r, i => zq x i && lvOk r (i + 1)
theorem znq:∀ (lv:List Lf) (j i:Nat) (hi:i < lv.length),lvOk lv j=true→zq lv[i] ((j+i:Nat):Int)=true
 | x :: r, j, 0, _, h => by simp only [lvOk, Bool.and_eq_true] at h; exact h.1
 | x :: r, j, i + 1, hi, h => by
  simp only [lvOk,Bool.and_eq_true] at h
  have:=znq r (j+1) i (by simpa using hi) h.2
  rw [show j+1+i=j+(i+1) by omega] at this
  exact this
def lvB (lv:List Lf):Bs:=(lv.map leafB).flatten
theorem zct:∀ lv:List Lf,(lvB lv).length=32*lv.length
 | [] => rfl
 | x :: r => by
  have:=zct r
  simp only [lvB,List.map_cons,List.flatten_cons,List.length_append,z7h,List.length_cons] at this ⊢
  omega
def z23 (N:List Pr):Bs:=(N.map pairB).flatten
theorem z9w:∀ N:List Pr,(z23 N).length=16*N.length
 | [] => rfl
 | x :: r => by
  have:=z9w r
  simp only [z23,List.map_cons,List.flatten_cons,List.length_append,zc8,List.length_cons] at this ⊢
  omega
def WS.nodes (md:Bool)(s:WS)(lv:List Lf):List Pr:=(zr md (lv.map leafB) s.S).1
def WS.areaW1 (md:Bool)(s:WS)(a:Int)(lv:List Lf):WS:={ s with S:=(zr md (lv.map leafB) s.S).2,pw:=s.pw.spend,sd:=s.sd.write (lfAt s.n a 0,lvB lv) s.pw.can }
def WS.areaW (md:Bool)(s:WS)(a:Int)(lv:List Lf):WS :=
 if s.pw.can then { s.areaW1 md a lv with pw:=s.pw.spend.spend,sd:=(s.areaW1 md a lv).sd.write (ndAt s.n a 0,z23 (s.nodes md lv)) s.pw.spend.can } else s.areaW1 md a lv
structure BoxAt (h:AHeap)(id:Nat)(x:AObj):Prop where
 u:h.used id
 g:h.get id=some x
theorem BoxAt.kp {W:Nat→Prop}{h h':AHeap}{id:Nat}{x:AObj}(hb:BoxAt h id x)(hk:Kp W h h')(hw:¬ W id):BoxAt h' id x:=⟨hk.us id hb.u,(hk.get id hb.u hw).trans hb.g⟩
def RowV (h:AHeap)(v:AV)(lv:List Lf)(E:Nat):Prop:=v = .imm 8 (lv.map encL)∨(v = .ref E 0 lv.length∧BoxAt h E (.mem 8 (lv.map encL)))
theorem RowV.kp {W:Nat→Prop}{h h':AHeap}{v:AV}{lv:List Lf}{E:Nat}(hs:RowV h v lv E)(hk:Kp W h h')(hw:¬ W E):RowV h' v lv E:=hs.imp id fun q=>⟨q.1,q.2.kp hk hw⟩
structure WS.Fit (s:WS)(k:Nat):Prop where
 g:isG s.n=true
 pw:s.pw.Ok k
 sd:s.sd.Ok (sizeG s.n).toNat k
 ss:s.S.length≤k
 ll:s.L.length≤k
theorem SdS.Ok.write {x:SdS}{n k:Nat}(h:x.Ok n k){o:Wr}(ho:0≤o.1∧o.1+o.2.length≤n)(ok:Bool):(x.write o ok).Ok n (k+1):=by
 obtain ⟨h1,h2,h3,h4⟩:=h
 cases ok with
 | false => exact ⟨h1, h2, Nat.le_succ_of_le h3, Nat.le_succ_of_le h4⟩
 | true =>
  refine ⟨h1,fun y hy => ?_,by simp [SdS.write];omega,by simp [SdS.write];omega⟩
  simp only [SdS.write,if_true,List.mem_append,List.mem_singleton] at hy
  rcases hy with hy | rfl
  ·exact h2 y hy
  ·exact ho
theorem zj {n:Int}(h:isG n=true):sizeG n=n*160+120:=by rw [sizeG,if_pos h]
set_option maxHeartbeats 1000000 in
theorem zk1 {md:Bool}{h:AHeap}{n:WN}{s:WS}{k:Nat}(hg:WG md h n s)(hs:s.Fit k)(hk:k≤90000)(a:Int)(ha:0≤a∧a < 2)(lv:List Lf){v:AV}{E:Nat}(hv:RowV h v lv E)(hl:(lv.length:Int)=s.n)(hw:∀ x∈lv,x.Wf)(hok:lvOk lv 0=true) :
  AC Tryz.prog 253 [.ptr (n.a+10) 0 0,.int .i64 a,v] h
   (fun r h'=>r = .tup [.agg (encP (if s.pw.can&&s.pw.spend.can then (s.nodes md lv).getD 1 (0,0) else (0,0))),.int .i64 (if s.pw.can&&s.pw.spend.can then 0 else 7)]∧WG md h' n (s.areaW md a lv)∧Kp (n.own md) h h'):=by
 refine AC.wfU fun hwu => ?_
 refine AC.introW zjm (by simp) ?_
 unfold zbt;dsimp only [qQ,qR,qM,qG]
 have hob:=hg.w.w
 simp only [wRow] at hob
 have hlt:∀ id,n.nm md id→id < h.next:=fun id hi=>(hg.us id hi).1
 have hq:n.q < h.next:=hlt _ (.inr rfl)
 have hgg:=z8 hs.g
 have hna:n.a+11≤h.next:=hg.w.nx
 have hnB:n.B < h.next∧n.E < h.next:=hg.w.nB
 have hoB:=hg.w.oB
 have hop:=hg.w.op
 obtain ⟨VV,hVV⟩:∃ VV,VV=v:=⟨v,rfl⟩
 rcases hv with rfl | ⟨rfl,hE⟩
 all_goals
  try have hEg:=hE.g
  try have hEl:=hE.u.1
  (refine go ?_)
  refine WL.call rfl gM gSL (zge _ a _) ?_
  rw [show (decide (0≤a)&&decide (a < 2))=true by simp [ha.1,ha.2]]
  (refine go ?_)
  rw [show ((lv.length:Int)!=s.n)=false by simp [hl]]
  (refine go ?_)
  refine WW.cvt (Cvt.adopt 1 (s:=8) rfl gN) ?_
  refine WW.cvt (Cvt.adopt 1 (s:=9) rfl gN) ?_
  refine WW.cvt (Cvt.adopt 1 (s:=10) rfl gN) ?_
  refine WW.loopE (fun (i:Nat)=>[(0,some (.ptr (n.a+10) 0 0)),(1,some (.int .i64 a)),(6,some (.ptr h.next 0 0)),(8,some (.app (h.next+1) 0 1 (((lv.take i).map leafB).map encR))),(9,some (.app (h.next+1+1) 0 1 ((lvB (lv.take i)).map encB))),(10,some (.app (h.next+1+1+1) 0 1 [])),(34,some VV),(35,some (.int .i64 lv.length)),(36,some (.int .i64 i))])
   (fun i h'=>h'.get h.next=some (.mem 2 [[.int .u64 0,.int .u64 0]])∧h'.get (h.next+1)=some (.tail 0 i)∧h'.get (h.next+1+1)=some (.tail 0 (32*i))∧h'.get (h.next+1+1+1)=some (.tail 0 0)∧Kp (fun _=>False) h h'∧h.next+4≤h'.next∧i≤lv.length) (fun i=>lv.length - i) 0 (by rw [hVV];exact gSUB) ⟨gH,gH,gH,gH,(by repeat first | exact Kp.refl | assumption | with_reducible refine Kp.put ?_ (by omega) _ | with_reducible refine Kp.setN ?_ (by omega) _ | with_reducible refine Kp.keep ?_ _ | with_reducible refine Kp.setW ?_ (by rfl) _),(leN gN (by omega)),Nat.zero_le _⟩ ?_
  rintro i h' ⟨g1,g2,g3,g3',g4,g5,g6⟩
  rw [hVV]
  try have hEg':=(hE.kp g4 (fun h=>h)).g
  obtain ⟨nx,hnx⟩:∃ nx,h'.next=nx:=⟨_,rfl⟩
  have hln:=zct (lv.take i)
  rw [List.length_take,Nat.min_eq_left g6] at hln
  (refine go ?_)
  (refine WW.ifB rfl (fun hz1 => ?_) (fun hz1 => ?_))
  ·have hi:i < lv.length:=by omega
   have hIs:=znq lv 0 i hi hok
   rw [Nat.zero_add] at hIs
   (refine go ?_)
   refine WL.call rfl gM gSL (zdw lv[i] (hw _ (List.getElem_mem hi)) (i:Int) _) ?_
   rw [hIs]
   simp only [if_true]
   have hbl:=z7h lv[i]
   (refine go ?_)
   have e8:(((lv.take (i+1)).map leafB).map encR)=(((lv.take i).map leafB).map encR)++[[.imm 1 ((leafB lv[i]).map encB)]]:=by
    rw [List.take_succ_eq_append_getElem hi,List.map_append,List.map_append];rfl
   have e9:(lvB (lv.take (i+1))).map encB=(lvB (lv.take i)).map encB++(leafB lv[i]).map encB:=by
    rw [List.take_succ_eq_append_getElem hi,lvB,List.map_append,List.flatten_append,List.map_append];simp [lvB]
   refine ⟨i+1,?_,⟨(by repeat first | exact zi (by first | rfl | exact List.length_map _ | (simp;done) | (simp;omega)) | exact get_set_tl (by first | rfl | exact List.length_map _ | (simp;done) | (simp;omega)) | assumption | with_reducible apply z3 (by omega) | with_reducible apply z1 (by omega)),(by repeat first | exact zi (by first | rfl | exact List.length_map _ | (simp;done) | (simp;omega)) | exact get_set_tl (by first | rfl | exact List.length_map _ | (simp;done) | (simp;omega)) | assumption | with_reducible apply z3 (by omega) | with_reducible apply z1 (by omega)),(by repeat first | exact zi (by first | rfl | exact List.length_map _ | (simp;done) | (simp;omega)) | exact get_set_tl (by first | rfl | exact List.length_map _ | (simp;done) | (simp;omega)) | assumption | with_reducible apply z3 (by omega) | with_reducible apply z1 (by omega)),(by repeat first | exact zi (by first | rfl | exact List.length_map _ | (simp;done) | (simp;omega)) | exact get_set_tl (by first | rfl | exact List.length_map _ | (simp;done) | (simp;omega)) | assumption | with_reducible apply z3 (by omega) | with_reducible apply z1 (by omega)),(by repeat first | exact Kp.refl | assumption | with_reducible refine Kp.put ?_ (by omega) _ | with_reducible refine Kp.setN ?_ (by omega) _ | with_reducible refine Kp.keep ?_ _ | with_reducible refine Kp.setW ?_ (by rfl) _),(leN gN (by omega)),by omega⟩,by omega⟩
   rw [e8,e9]
   exact gSUB
  ·have hi:i=lv.length:=by omega
   subst hi
   rw [List.take_length] at *
   have w2:=hg.new g4
   have hGl:isG ((lv.map leafB).length:Nat)=true:=by rw [List.length_map,hl];exact hs.g
   (refine go ?_)
   have hob2:=w2.w.w
   simp only [wRow] at hob2
   (refine go ?_)
   refine WL.call rfl gM gSL (zah w2.g (Nat.le_trans hs.ss (by omega)) (lv.map leafB) hGl (fun b hb=>by obtain ⟨x,_,rfl⟩:=List.mem_map.1 hb;rw [z7h];omega)) ?_
   have hNl:(zr md (lv.map leafB) s.S).1.length=2*lv.length:=by
    have:=z8x md ((lv.map leafB).length - 1) (lfF md (lv.map leafB) (lv.map leafB).length (List.replicate (2*(lv.map leafB).length) (0,0)) s.S).1 (lfF md (lv.map leafB) (lv.map leafB).length (List.replicate (2*(lv.map leafB).length) (0,0)) s.S).2
    have h2:=z8w md (lv.map leafB) (lv.map leafB).length (List.replicate (2*(lv.map leafB).length) (0,0)) s.S
    rw [zr,this.1,h2.1,List.length_replicate,List.length_map]
   have hne:∀ id,h.next≤id→id≠n.q:=fun id hi=>by omega
   refine WL.named (fun h3=>WG md h3 n { s with S:=(zr md (lv.map leafB) s.S).2 }∧Kp (n.own md) h h3∧h3.get h.next=some (.mem 2 [[.int .u64 0,.int .u64 0]])∧h3.get (h.next+1+1)=some (.tail 0 (32*lv.length))∧h3.get (h.next+1+1+1)=some (.tail 0 0)∧h.next+4≤h3.next)
    ⟨w2.putS _,(g4.mono fun _ _ h=>h.elim).trans (kp_s w2 _),z1 (hne _ (by omega)) g1,z1 (hne _ (by omega)) g3,z1 (hne _ (by omega)) g3',z33 g5⟩ ?_
   clear w2 g1 g2 g3 g3' g4 g5 g6 hob2
   rintro h3 ⟨w3,k3,g1,g3,g4,g5⟩
   generalize hN:(zr md (lv.map leafB) s.S).1=N at *
   (refine go ?_)
   refine WW.loopE (fun (i:Nat)=>[(0,some (.ptr (n.a+10) 0 0)),(1,some (.int .i64 a)),(6,some (.ptr h.next 0 0)),(9,some (.app (h.next+1+1) 0 1 ((lvB lv).map encB))),(10,some (.app (h.next+1+1+1) 0 1 ((z23 (N.take i)).map encB))),(15,some (.imm 2 (N.map encP))),(67,some (.imm 2 (N.map encP))),(68,some (.int .i64 N.length)),(69,some (.int .i64 i))])
    (fun i h'=>h'.get h.next=some (.mem 2 [[.int .u64 0,.int .u64 0]])∧h'.get (h.next+1+1)=some (.tail 0 (32*lv.length))∧h'.get (h.next+1+1+1)=some (.tail 0 (16*i))∧Kp (fun id=>id=h.next+1+1+1) h3 h'∧h.next+4≤h'.next∧i≤N.length) (fun i=>N.length - i) 0 gSUB ⟨gH,gH,gH,(by repeat first | exact Kp.refl | assumption | with_reducible refine Kp.put ?_ (by omega) _ | with_reducible refine Kp.setN ?_ (by omega) _ | with_reducible refine Kp.keep ?_ _ | with_reducible refine Kp.setW ?_ (by rfl) _),(leN gN (by omega)),Nat.zero_le _⟩ ?_
   clear g1 g3 g4 g5
   rintro i h' ⟨g1,g3,g4,g5,g6,g7⟩
   obtain ⟨nx,hnx⟩:∃ nx,h'.next=nx:=⟨_,rfl⟩
   have hln2:=z9w (N.take i)
   rw [List.length_take,Nat.min_eq_left g7] at hln2
   have g6':=g5.next
   (refine go ?_)
   (refine WW.ifB rfl (fun hz2 => ?_) (fun hz2 => ?_))
   ·have hi:i < N.length:=by omega
    (refine go ?_)
    refine WL.call rfl gM gSL (z1e N[i] _) ?_
    have hpl:=zc8 N[i]
    (refine go ?_)
    have e9:(z23 (N.take (i+1))).map encB=(z23 (N.take i)).map encB++(pairB N[i]).map encB:=by
     rw [List.take_succ_eq_append_getElem hi,z23,List.map_append,List.flatten_append,List.map_append];simp [z23]
    refine ⟨i+1,?_,⟨(by repeat first | exact zi (by first | rfl | exact List.length_map _ | (simp;done) | (simp;omega)) | exact get_set_tl (by first | rfl | exact List.length_map _ | (simp;done) | (simp;omega)) | assumption | with_reducible apply z3 (by omega) | with_reducible apply z1 (by omega)),(by repeat first | exact zi (by first | rfl | exact List.length_map _ | (simp;done) | (simp;omega)) | exact get_set_tl (by first | rfl | exact List.length_map _ | (simp;done) | (simp;omega)) | assumption | with_reducible apply z3 (by omega) | with_reducible apply z1 (by omega)),(by repeat first | exact zi (by first | rfl | exact List.length_map _ | (simp;done) | (simp;omega)) | exact get_set_tl (by first | rfl | exact List.length_map _ | (simp;done) | (simp;omega)) | assumption | with_reducible apply z3 (by omega) | with_reducible apply z1 (by omega)),(by repeat first | exact Kp.refl | assumption | with_reducible refine Kp.put ?_ (by omega) _ | with_reducible refine Kp.setN ?_ (by omega) _ | with_reducible refine Kp.keep ?_ _ | with_reducible refine Kp.setW ?_ (by rfl) _),(leN gN (by omega)),by omega⟩,by omega⟩
    rw [e9]
    exact gSUB
   ·have hi:i=N.length:=by omega
    subst hi
    rw [List.take_length] at *
    have w4:=w3.kp g5 fun id hi e=>by have:=hlt id hi;omega
    have k4:=k3.trans2 g5 fun id e => .inr (by omega)
    have hob2:=w4.w.w
    simp only [wRow] at hob2
    have hnx4:n.a+11≤nx:=by rw [← hnx];exact w4.w.nx
    have hbl:=zct lv
    (repeat first | refine WL.go ?_ | refine WW.seq ?_ | refine WW.reg ?_ | refine WL.nil ?_ | refine WW.skip ?_ | refine WW.block ?_ | refine WW.exit ?_ | refine WW.condT rfl ?_ | refine WW.condF rfl ?_ | refine WL.gox ?_ | refine thenN ?_ | refine blkN ?_)
    refine WW.dregX [11,25] [] n.devs gN (by decide +kernel) ?_
    (refine go ?_)
    refine DW.callS rfl gM gSL rfl (z6v s.n a 0 hs.g ha (by omega) _) ?_
    (refine go ?_)
    have hll:s.sd.lasts.length=(s.n*160+120).toNat:=by rw [hs.sd.len,zj hs.g]
    have ha':a=0∨a=1:=by omega
    have hin1:inB s.sd.lasts.length (lfAt s.n a 0) (lvB lv).length=true:=by
     have hp:0≤lfAt s.n a 0∧lfAt s.n a 0+32*s.n≤s.n*160+120:=by
      unfold lfAt;rcases ha' with rfl | rfl <;> omega
     rw [hll,hbl];simp [inB];omega
    have hin2:inB s.sd.lasts.length (ndAt s.n a 0) (z23 N).length=true:=by
     have hp:0≤ndAt s.n a 0∧ndAt s.n a 0+32*s.n≤s.n*160+120:=by
      unfold ndAt;rcases ha' with rfl | rfl <;> omega
     rw [hll,hln2,hNl];simp [inB];omega
    refine DW.callSW rfl gM gSL rfl rfl (fun hp=>zgf n _ _ hp) (z43 w4.w.sd hs.pw (by omega) (by show s.sd.lasts.length≤_;omega) (Nat.le_trans hs.sd.kw (by omega)) (Nat.le_trans hs.sd.kt (by omega)) (lfAt s.n a 0) (lvB lv) (by omega)) ?_
    rw [hin1]
    simp only [Bool.true_and,if_true]
    have hod:∀ id,n.nm md id→id≠h.next∧id≠h.next+1+1∧id≠h.next+1+1+1:=fun id hi=>by have:=hlt id hi;omega
    have hnsd:∀ (w':PwS) (x':SdS) (hh:AHeap) (id:Nat),h.next≤id→(sdPut n.sdN w' x' hh).get id=hh.get id:=fun w' x' hh id hi=>zix (by dsimp only;omega) (by dsimp only;omega) (by dsimp only;omega) (by dsimp only;omega) (by dsimp only;omega)
    refine DW.named (fun h5=>WG md h5 n (s.areaW1 md a lv)∧Kp (n.own md) h h5∧PhiW nx n.devs h' h5∧h5.get h.next=some (.mem 2 [[.int .u64 0,.int .u64 0]])∧h5.get (h.next+1+1+1)=some (.tail 0 (16*N.length))∧h5.next=nx) ⟨w4.step (w4.w.putSd _ _) (kp_sd n _ _),k4.trans (kp_sd n _ _),zgf n _ _ PhiW.refl,(hnsd _ _ _ _ (by omega)).trans g1,(hnsd _ _ _ _ (by omega)).trans g4,hnx⟩ ?_
    clear w4 k4 g1 g3 g4 hob2 g5 w3 k3
    rintro h5 ⟨w4,k4,hph,g1,g4,hnx5⟩
    have hob2:=w4.w.w
    simp only [wRow] at hob2
    cases hc1:s.pw.can with
    | false =>
     (refine go ?_)
     refine WW.ret ⟨.inl rfl,_,gRES,rfl,?_,k4.setN (Nat.le_refl _) _⟩
     rw [WS.areaW,hc1,if_neg (by simp)]
     exact w4.kp (W:=fun id=>id=h.next) (by repeat first | exact Kp.refl | assumption | with_reducible refine Kp.put ?_ (by omega) _ | with_reducible refine Kp.setN ?_ (by omega) _ | with_reducible refine Kp.keep ?_ _ | with_reducible refine Kp.setW ?_ (by rfl) _) fun id hi e=>(hod id hi).1 e
    | true =>
     (refine go ?_)
     refine DW.callS rfl gM gSL rfl (zlr s.n a 0 hs.g ha (by omega) _) ?_
     (refine go ?_)
     have hll2:(s.areaW1 md a lv).sd.lasts.length=s.sd.lasts.length:=by simp [WS.areaW1,SdS.write,hc1]
     refine DW.callSW rfl gM gSL rfl rfl (fun hp=>zgf n _ _ hp) (z43 (w:=s.pw.spend) w4.w.sd hs.pw.spend (by omega) (by rw [hll2];omega) (by simp [WS.areaW1,SdS.write,hc1];have:=hs.sd.kw;omega) (by simp [WS.areaW1,SdS.write,hc1];have:=hs.sd.kt;omega) (ndAt s.n a 0) (z23 N) (by omega)) ?_
     rw [hll2,hin2]
     simp only [Bool.true_and,if_true]
     refine DW.named (fun h6=>WG md h6 n (s.areaW md a lv)∧Kp (n.own md) h h6∧h6.get h.next=some (.mem 2 [[.int .u64 0,.int .u64 0]])∧h6.next=nx) ⟨?_,k4.trans (kp_sd n _ _),(hnsd _ _ _ _ (by omega)).trans g1,hnx5⟩ ?_
     ·rw [WS.areaW,hc1,if_pos rfl]
      have:=w4.step (w4.w.putSd s.pw.spend.spend ((s.areaW1 md a lv).sd.write (ndAt s.n a 0,z23 N) s.pw.spend.can)) (kp_sd n _ _)
      rw [← hN] at this ⊢
      exact this
     clear w4 k4 g1 g4 hob2 hph
     rintro h6 ⟨w4,k4,g1,hnx6⟩
     have hN1:(s.nodes md lv).getD 1 (0,0)=N[1]'(by omega):=by
      rw [WS.nodes,hN,List.getD_eq_getElem?_getD,List.getElem?_eq_getElem (by omega)];rfl
     cases hc2:s.pw.spend.can with
     | false =>
      (refine go ?_)
      refine WW.ret ⟨.inl rfl,_,gRES,rfl,?_,k4.setN (Nat.le_refl _) _⟩
      exact w4.kp (W:=fun id=>id=h.next) (by repeat first | exact Kp.refl | assumption | with_reducible refine Kp.put ?_ (by omega) _ | with_reducible refine Kp.setN ?_ (by omega) _ | with_reducible refine Kp.keep ?_ _ | with_reducible refine Kp.setW ?_ (by rfl) _) fun id hi e=>(hod id hi).1 e
     | true =>
      rw [hN1]
      (refine go ?_)
      refine WL.go (hs:=Stp.loadi rfl (z30 (List.getElem?_eq_getElem (show 1 < N.length by omega))) (by first | exact ze rfl rfl | exact zy rfl | exact z4 (Nat.le_of_ble_eq_true rfl) (by first | (simp only [putC,AV.cs,encP,encN,encI,encS,encA,List.take_succ_cons,List.take_zero,List.take_nil,List.drop_succ_cons,List.drop_zero,List.drop_nil,List.cons_append,List.nil_append,List.append_nil,List.length_cons,List.length_nil,Nat.zero_add,Nat.add_zero,Nat.reduceAdd];exact rfl) | exact rfl) | exact z4 (by simp) (by first | (simp only [putC,AV.cs,encP,encN,encI,encS,encA,List.take_succ_cons,List.take_zero,List.take_nil,List.drop_succ_cons,List.drop_zero,List.drop_nil,List.cons_append,List.nil_append,List.append_nil,List.length_cons,List.length_nil,Nat.zero_add,Nat.add_zero,Nat.reduceAdd];exact rfl) | exact rfl)) gM) ?_
      (refine go ?_)
      refine WW.ret ⟨.inl rfl,_,gRES,rfl,?_,k4.setN (Nat.le_refl _) _⟩
      exact w4.kp (W:=fun id=>id=h.next) (by repeat first | exact Kp.refl | assumption | with_reducible refine Kp.put ?_ (by omega) _ | with_reducible refine Kp.setN ?_ (by omega) _ | with_reducible refine Kp.keep ?_ _ | with_reducible refine Kp.setW ?_ (by rfl) _) fun id hi e=>(hod id hi).1 e
end Go.Proofs.YthblcmnhiccnhaaGreat


namespace Go.Proofs.YthblcmnhiccnhaaGreat
open Go Go.Abs

def WS.row (s:WS)(a:Int)(i:Nat):Bs:=(s.sd.snap.drop (lfAt s.n a i).toNat).take 32
def WS.rows (s:WS)(a:Int)(m:Nat):List Bs:=(List.range m).map (s.row a)
def WS.leaf (s:WS)(a:Int)(i:Nat):Lf:=leafD (s.row a i) i
def WS.leaves (s:WS)(a:Int)(m:Nat):List Lf:=(List.range m).map (s.leaf a)
def WS.allG (s:WS)(a:Int)(m:Nat):Bool:=(List.range m).all fun i=>leafG (s.row a i) i
def WS.readS (md:Bool)(s:WS)(a:Int):WS:=if s.pw.gone then s else { s with S:=(zr md (s.rows a s.n.toNat) s.S).2 }
def WS.readT (md:Bool)(s:WS)(a:Int):Pr:=(zr md (s.rows a s.n.toNat) s.S).1.getD 1 (0,0)
def WS.readE (md:Bool)(s:WS)(a:Int)(top:Pr):Int:=if s.pw.gone then 7 else if s.readT md a=top∧s.allG a s.n.toNat=true then 0 else 3
def WS.readL (md:Bool)(s:WS)(a:Int)(top:Pr):List Lf:=if s.readE md a top=0 then s.leaves a s.n.toNat else []
theorem zq5 (s:WS)(a:Int)(i:Nat):s.rows a (i+1)=s.rows a i++[s.row a i]:=by
 rw [WS.rows,List.range_succ,List.map_append];rfl
theorem zls (s:WS)(a:Int)(m:Nat):(s.rows a m).length=m:=by simp [WS.rows]
theorem zn1 (s:WS)(a:Int)(i:Nat):s.leaves a (i+1)=s.leaves a i++[s.leaf a i]:=by
 rw [WS.leaves,List.range_succ,List.map_append];rfl
theorem zca {s:WS}{k:Nat}(hs:s.Fit k):s.sd.snap.length=(s.n*160+120).toNat:=by
 have:=hs.sd.len
 rw [zj hs.g] at this
 rw [← this]
 exact zlm (fun o ho=>by have:=hs.sd.w o ho;rw [zj hs.g] at this;omega)
theorem znr {s:WS}{k:Nat}(hs:s.Fit k)(a:Int)(ha:0≤a∧a < 2)(i:Nat)(hi:(i:Int) < s.n):(s.row a i).length=32:=by
 have hg:=z8 hs.g
 have ha':a=0∨a=1:=by omega
 have hp:0≤lfAt s.n a i∧lfAt s.n a i+32≤s.n*160+120:=by
  unfold lfAt;rcases ha' with rfl | rfl <;> omega
 rw [WS.row,List.length_take,List.length_drop,zca hs];omega
def LdV (h:AHeap)(v:AV)(e:Int)(lv:List Lf)(lo:Nat):Prop:=(e=0∧∃ E,v = .ref E 0 lv.length∧BoxAt h E (.mem 8 (lv.map encL))∧lo≤E)∨(e≠0∧v = .nils)
theorem LdV.no {h:AHeap}{e:Int}{lv:List Lf}{lo:Nat}(he:e≠0):LdV h .nils e lv lo := .inr ⟨he,rfl⟩
set_option maxHeartbeats 1000000 in
theorem zlt {md:Bool}{h:AHeap}{n:WN}{s:WS}{k:Nat}(hg:WG md h n s)(hs:s.Fit k)(hk:k≤90000)(a:Int)(ha:0≤a∧a < 2)(top:Pr) :
  AC Tryz.prog 124 [.ptr (n.a+10) 0 0,.int .i64 a,.agg (encP top)] h
   (fun r h'=>∃ v,r = .tup [v,.int .i64 (s.readE md a top)]∧LdV h' v (s.readE md a top) (s.readL md a top) h.next∧WG md h' n (s.readS md a)∧Kp (n.own md) h h'):=by
 refine AC.introW zl5 (by simp) ?_
 unfold zdq;dsimp only [qQ,qR,qM,qG]
 have hob:=hg.w.w
 simp only [wRow] at hob
 have hlt:∀ id,n.nm md id→id < h.next:=fun id hi=>(hg.us id hi).1
 have hq:n.q < h.next:=hlt _ (.inr rfl)
 have hgg:=z8 hs.g
 have hna:n.a+11≤h.next:=hg.w.nx
 have hnB:n.B < h.next∧n.E < h.next:=hg.w.nB
 have hoB:=hg.w.oB
 have hop:=hg.w.op
 obtain ⟨m,hm⟩:∃ m:Nat,s.n=m:=⟨s.n.toNat,by omega⟩
 (refine go ?_)
 refine WL.call rfl gM gSL (zge _ a _) ?_
 rw [show (decide (0≤a)&&decide (a < 2))=true by simp [ha.1,ha.2]]
 (refine go ?_)
 refine WW.cvt (Cvt.adopt 1 (s:=8) rfl gN) ?_
 rw [hm]
 refine WW.loopE (fun (i:Nat)=>[(0,some (.ptr (n.a+10) 0 0)),(1,some (.int .i64 a)),(5,some (.ptr h.next 0 0)),(8,some (.app (h.next+1) 0 1 ((s.rows a i).map encR))),(27,some (.int .i64 m)),(28,some (.int .i64 i))])
  (fun i h'=>h'.get h.next=some (.mem 2 [encP top])∧h'.get (h.next+1)=some (.tail 0 i)∧Kp (fun _=>False) h h'∧h.next+2≤h'.next∧i≤m∧(0 < i→s.pw.gone=false)) (fun i=>m - i) 0 gSUB ⟨gH,gH,(by repeat first | exact Kp.refl | assumption | with_reducible refine Kp.put ?_ (by omega) _ | with_reducible refine Kp.setN ?_ (by omega) _ | with_reducible refine Kp.keep ?_ _ | with_reducible refine Kp.setW ?_ (by rfl) _),(leN gN (by omega)),Nat.zero_le _,by omega⟩ ?_
 rintro i h' ⟨g1,g2,g3,g4,g5,g6⟩
 obtain ⟨nx,hnx⟩:∃ nx,h'.next=nx:=⟨_,rfl⟩
 have w2:=hg.new g3
 have hrl:=zls s a i
 have hob2:=w2.w.w
 simp only [wRow] at hob2
 (refine go ?_)
 (refine WW.ifB rfl (fun hz1 => ?_) (fun hz1 => ?_))
 ·have hi:i < m:=by omega
  have hll:s.sd.lasts.length=(s.n*160+120).toNat:=by rw [hs.sd.len,zj hs.g]
  (refine go ?_)
  refine DW.callS rfl gM gSL rfl (z6v s.n a i hs.g ha (by omega) _) ?_
  (refine go ?_)
  refine DW.callS rfl gM gSL rfl (z7z w2.w.sd (by omega) (fun e=>by rw [e] at hll;simp at hll;omega) (Nat.le_trans hs.sd.kw (by omega)) (fun o ho=>by have:=hs.sd.w o ho;rw [zj hs.g] at this;omega) (lfAt s.n a i) 32 (by omega)) ?_
  rw [show inB s.sd.lasts.length (lfAt s.n a i) 32=true by
   have ha':a=0∨a=1:=by omega
   have hp:0≤lfAt s.n a i∧lfAt s.n a i+32≤s.n*160+120:=by
    unfold lfAt;rcases ha' with rfl | rfl <;> omega
   rw [hll];simp [inB];omega]
  rw [Bool.true_and]
  cases hgo:s.pw.gone with
  | true =>
   have hrl0:s.readL md a top=[]:=by rw [WS.readL,WS.readE,hgo,if_pos rfl,if_neg (by decide)]
   have hre0:s.readE md a top=7:=by rw [WS.readE,hgo,if_pos rfl]
   have hrs0:s.readS md a=s:=by rw [WS.readS,hgo,if_pos rfl]
   rw [hrl0,hre0,hrs0]
   (refine go ?_)
   exact WW.ret ⟨.inl rfl,_,gRES,_,rfl,.no (by decide),w2,g3.mono fun _ _ h=>h.elim⟩
  | false =>
   simp only [Bool.not_false,if_true]
   (refine go ?_)
   have e8:((s.rows a (i+1)).map encR)=((s.rows a i).map encR)++[[.imm 1 ((s.row a i).map encB)]]:=by
    rw [zq5,List.map_append];rfl
   refine ⟨i+1,?_,⟨(by repeat first | exact zi (by first | rfl | exact List.length_map _ | (simp;done) | (simp;omega)) | exact get_set_tl (by first | rfl | exact List.length_map _ | (simp;done) | (simp;omega)) | assumption | with_reducible apply z3 (by omega) | with_reducible apply z1 (by omega)),(by repeat first | exact zi (by first | rfl | exact List.length_map _ | (simp;done) | (simp;omega)) | exact get_set_tl (by first | rfl | exact List.length_map _ | (simp;done) | (simp;omega)) | assumption | with_reducible apply z3 (by omega) | with_reducible apply z1 (by omega)),(by repeat first | exact Kp.refl | assumption | with_reducible refine Kp.put ?_ (by omega) _ | with_reducible refine Kp.setN ?_ (by omega) _ | with_reducible refine Kp.keep ?_ _ | with_reducible refine Kp.setW ?_ (by rfl) _),(leN gN (by omega)),by omega,fun _=>True.intro⟩,by omega⟩
   rw [e8]
   exact gSUB
 ·have hi:i=m:=by omega
  subst hi
  have hgo:s.pw.gone=false:=g6 (by omega)
  have hmi:s.n.toNat=i:=by omega
  have hGl:isG ((s.rows a i).length:Nat)=true:=by rw [hrl,← hm];exact hs.g
  have hrw:∀ b∈s.rows a i,b.length≤100000:=fun b hb=>by
   obtain ⟨j,hj,rfl⟩:=List.mem_map.1 hb
   rw [znr hs a ha j (by have:=List.mem_range.1 hj;omega)];omega
  have hrs0:s.readS md a={ s with S:=(zr md (s.rows a i) s.S).2 }:=by rw [WS.readS,hgo,hmi];rfl
  have hre0:s.readE md a top=if s.readT md a=top∧s.allG a i=true then 0 else 3:=by rw [WS.readE,hgo,hmi];rfl
  have hNl:(zr md (s.rows a i) s.S).1.length=2*i:=by
   have:=z8x md ((s.rows a i).length - 1) (lfF md (s.rows a i) (s.rows a i).length (List.replicate (2*(s.rows a i).length) (0,0)) s.S).1 (lfF md (s.rows a i) (s.rows a i).length (List.replicate (2*(s.rows a i).length) (0,0)) s.S).2
   have h2:=z8w md (s.rows a i) (s.rows a i).length (List.replicate (2*(s.rows a i).length) (0,0)) s.S
   rw [zr,this.1,h2.1,List.length_replicate,hrl]
  have hT:s.readT md a=(zr md (s.rows a i) s.S).1.getD 1 (0,0):=by rw [WS.readT,hmi]
  rw [hrs0]
  (refine go ?_)
  refine WL.call rfl gM gSL (zah w2.g (Nat.le_trans hs.ss (by omega)) (s.rows a i) hGl hrw) ?_
  refine WL.named (fun h3=>WG md h3 n { s with S:=(zr md (s.rows a i) s.S).2 }∧Kp (n.own md) h h3∧h3.get h.next=some (.mem 2 [encP top])∧h3.get (h.next+1)=some (.tail 0 i)∧h.next+2≤h3.next)
   ⟨w2.putS _,(g3.mono fun _ _ h=>h.elim).trans (kp_s w2 _),z1 (by omega) g1,z1 (by omega) g2,z33 g4⟩ ?_
  clear w2 g1 g2 g3 g4 hob2
  rintro h3 ⟨w3,k3,g1,g2,g4⟩
  generalize hN:(zr md (s.rows a i) s.S).1=N at hNl hT ⊢
  have hT1:s.readT md a=N[1]'(by omega):=by
   rw [hT,List.getD_eq_getElem?_getD,List.getElem?_eq_getElem (by omega)];rfl
  (repeat first | refine WL.go ?_ | refine WW.seq ?_ | refine WW.reg ?_ | refine WL.nil ?_ | refine WW.skip ?_ | refine WW.block ?_ | refine WW.exit ?_ | refine WW.condT rfl ?_ | refine WW.condF rfl ?_ | refine WL.gox ?_ | refine thenN ?_ | refine blkN ?_)
  refine WW.dregX [] [] [] gN (by decide +kernel) ?_
  (refine go ?_)
  refine DW.go (hs:=Stp.loadi rfl (z30 (List.getElem?_eq_getElem (show 1 < N.length by omega))) (by first | exact ze rfl rfl | exact zy rfl | exact z4 (Nat.le_of_ble_eq_true rfl) (by first | (simp only [putC,AV.cs,encP,encN,encI,encS,encA,List.take_succ_cons,List.take_zero,List.take_nil,List.drop_succ_cons,List.drop_zero,List.drop_nil,List.cons_append,List.nil_append,List.append_nil,List.length_cons,List.length_nil,Nat.zero_add,Nat.add_zero,Nat.reduceAdd];exact rfl) | exact rfl) | exact z4 (by simp) (by first | (simp only [putC,AV.cs,encP,encN,encI,encS,encA,List.take_succ_cons,List.take_zero,List.take_nil,List.drop_succ_cons,List.drop_zero,List.drop_nil,List.cons_append,List.nil_append,List.append_nil,List.length_cons,List.length_nil,Nat.zero_add,Nat.add_zero,Nat.reduceAdd];exact rfl) | exact rfl)) gM) ?_
  (refine go ?_)
  have hbe:(!(fun r=>N[1].fst==top.fst&&r) ((fun r=>N[1].snd==top.snd&&r) true)) = !(N[1]==top):=by rw [← z6i]
  rw [hbe]
  (refine WW.ifB rfl (fun hz7 => ?_) (fun hz7 => ?_))
  ·have hne:¬ s.readT md a=top:=fun e=>by rw [hT1] at e;simp [e] at hz7
   have hE:s.readE md a top=3:=by rw [hre0,if_neg (fun h=>hne h.1)]
   have hL:s.readL md a top=[]:=by rw [WS.readL,hE,if_neg (by decide)]
   rw [hE,hL]
   (refine go ?_)
   exact WW.ret ⟨.inl rfl,_,gRES,_,rfl,.no (by decide),w3,k3⟩
  ·have heq:s.readT md a=top:=by rw [hT1];simpa using hz7
   (refine go ?_)
   refine WW.cvt (Cvt.sub1 (s:=71) rfl SubV.app) ?_
   have hrowj:∀ j (hj:j < (s.rows a i).length),(s.rows a i)[j]=s.row a j:=fun j hj=>by simp [WS.rows]
   have hx3:=k3.next
   refine WW.loopE (fun (x:Nat×AV×Nat)=>[(14,some x.2.1),(71,some (.imm 1 ((s.rows a i).map encR))),(72,some (.int .i64 (s.rows a i).length)),(73,some (.int .i64 x.1))])
    (fun x h'=>((x.2.1 = .nils∧x.1=0)∨(x.2.1 = .ref x.2.2 0 x.1∧BoxAt h' x.2.2 (.mem 8 ((s.leaves a x.1).map encL))∧h3.next≤x.2.2))∧Kp (fun id=>h3.next≤id) h3 h'∧x.1≤i∧s.allG a x.1=true) (fun x=>i - x.1) (0,.nils,0) gSUB ⟨.inl ⟨rfl,rfl⟩,Kp.refl,Nat.zero_le _,rfl⟩ ?_
   rintro ⟨j,v,E⟩ h' ⟨f1,f2,f4,f5⟩
   dsimp only at f1 f4 f5 ⊢
   have w4:=w3.kp f2 fun id hi e=>by have:=hlt id hi;omega
   have k4:Kp (n.own md) h h':=k3.trans2 f2 fun id e => .inr (by omega)
   have hxx:=f2.next
   have hlj:(s.leaves a j).length=j:=by simp [WS.leaves]
   (refine go ?_)
   (refine WW.ifB rfl (fun hz8 => ?_) (fun hz8 => ?_))
   ·have hj:j < i:=by omega
    have hj2:j < (s.rows a i).length:=by omega
    have hrj:=hrowj j hj2
    have hL:=zmx (s.row a j) (by rw [znr hs a ha j (by omega)];omega) (j:Int) (by omega)
    rw [← hrj] at hL
    (refine go ?_)
    refine WL.call rfl gM gSL (hL _) ?_
    rw [hrj]
    cases hG:leafG (s.row a j) j with
    | false =>
     have hA:s.allG a i=false:=by
      rw [Bool.eq_false_iff];intro h
      rw [WS.allG,List.all_eq_true] at h
      have:=h j (List.mem_range.2 hj)
      rw [hG] at this;cases this
     have hE:s.readE md a top=3:=by rw [hre0,if_neg (fun h=>by rw [hA] at h;simp at h)]
     rw [hE]
     (refine go ?_)
     refine WW.ret ⟨.inl rfl,_,gRES,_,rfl,.no (by decide),w4.kp (W:=fun _=>False) (by repeat first | exact Kp.refl | assumption | with_reducible refine Kp.put ?_ (by omega) _ | with_reducible refine Kp.setN ?_ (by omega) _ | with_reducible refine Kp.keep ?_ _ | with_reducible refine Kp.setW ?_ (by rfl) _) (fun _ _ h=>h),?_⟩
     exact k4.trans (((by repeat first | exact Kp.refl | assumption | with_reducible refine Kp.put ?_ (by omega) _ | with_reducible refine Kp.setN ?_ (by omega) _ | with_reducible refine Kp.keep ?_ _ | with_reducible refine Kp.setW ?_ (by rfl) _):Kp (fun _=>False) h' _).mono fun _ _ h=>h.elim)
    | true =>
     simp only [if_true]
     have e8:((s.leaves a (j+1)).map encL)=((s.leaves a j).map encL)++[encL (leafD (s.row a j) j)]:=by
      rw [zn1,List.map_append];rfl
     have hA:s.allG a (j+1)=true:=by
      rw [WS.allG,List.range_succ,List.all_append,Bool.and_eq_true]
      exact ⟨f5,by simpa using hG⟩
     (repeat first | refine WW.seq ?_ | refine WW.reg ?_ | refine WL.nil ?_ | refine WW.skip ?_ | refine WW.block ?_ | refine thenN ?_ | refine blkN ?_);iterate 6 (refine WL.go ?_)
     (repeat first | refine WW.seq ?_ | refine WW.reg ?_ | refine WL.nil ?_ | refine WW.skip ?_ | refine WW.block ?_ | refine thenN ?_ | refine blkN ?_);iterate 2 (refine WL.go ?_)
     (repeat first | refine WW.seq ?_ | refine WW.reg ?_ | refine WL.nil ?_ | refine WW.skip ?_ | refine WW.block ?_ | refine thenN ?_ | refine blkN ?_)
     refine WW.condF rfl ?_
     (repeat first | refine WW.seq ?_ | refine WW.reg ?_ | refine WL.nil ?_ | refine WW.skip ?_ | refine WW.block ?_ | refine thenN ?_ | refine blkN ?_);iterate 3 (refine WL.go ?_)
     refine WL.named (fun h6=>Kp (fun _=>False) h' h6) (by repeat first | exact Kp.refl | assumption | with_reducible refine Kp.put ?_ (by omega) _ | with_reducible refine Kp.setN ?_ (by omega) _ | with_reducible refine Kp.keep ?_ _ | with_reducible refine Kp.setW ?_ (by rfl) _) ?_
     intro h6 k6
     have hx6:=k6.next
     rcases f1 with ⟨rfl,rfl⟩ | ⟨rfl,f1,f1l⟩
     ·refine WL.fx1 (FX.appM (nm:=h6.next) (c:=[encL (leafD (s.row a 0) 0)]) (fun hu=>Nat.lt_irrefl _ hu.1) rfl rfl rfl (by simp) (by simp) gM) ?_
      (refine go ?_)
      refine ⟨(1,.ref h6.next 0 1,h6.next),gSUB,⟨.inr ⟨rfl,?_,by dsimp only;omega⟩,?_,by dsimp only;omega,hA⟩,by dsimp only;omega⟩
      ·dsimp only
       rw [e8]
       exact ⟨z2,gH⟩
      ·exact Kp.put (f2.trans (k6.mono fun _ _ h=>h.elim)) (by omega) _
     ·have f6:=f1.kp k6 (fun h=>h)
      have f6g:=f6.g
      refine WL.fx1 (FX.appR (nm:=h6.next) (c2:=[encL (leafD (s.row a j) j)]) (fun hu=>Nat.lt_irrefl _ hu.1) rfl f6g (by rw [List.length_map];exact hlj) rfl rfl (by simp) (by simp;omega) gM) ?_
      (refine go ?_)
      refine ⟨(j+1,.ref h6.next 0 (j+1),h6.next),gSUB,⟨.inr ⟨rfl,?_,by dsimp only;omega⟩,?_,by dsimp only;omega,hA⟩,by dsimp only;omega⟩
      ·dsimp only
       rw [e8]
       exact ⟨z2 (x := .tail 0 0),gH⟩
      ·exact Kp.put (Kp.setW (f2.trans (k6.mono fun _ _ h=>h.elim)) f1l _) (by omega) _
   ·have hj:j=i:=by omega
    subst hj
    rcases f1 with ⟨rfl,rfl⟩ | ⟨rfl,f1,f1l⟩
    ·omega
    have hE:s.readE md a top=0:=by rw [hre0,if_pos ⟨heq,f5⟩]
    have hLL:s.readL md a top=s.leaves a j:=by rw [WS.readL,if_pos hE,hmi]
    rw [hE,hLL]
    (refine go ?_)
    exact WW.ret ⟨.inl rfl,_,gRES,_,rfl,.inl ⟨rfl,E,by rw [hlj],f1,by omega⟩,w4,k4⟩
end Go.Proofs.YthblcmnhiccnhaaGreat


namespace Go.Proofs.YthblcmnhiccnhaaGreat
open Go Go.Abs

def Pre (S0 S:List Bs):Prop:=∃ R,S=S0++R
theorem Pre.refl (S:List Bs):Pre S S:=⟨[],by simp⟩
theorem Pre.trans {A B C:List Bs}(h1:Pre A B)(h2:Pre B C):Pre A C:=by
 obtain ⟨R,rfl⟩:=h1;obtain ⟨R',rfl⟩:=h2;exact ⟨R++R',by simp⟩
theorem zrj (S:List Bs)(k:Bs):Pre S (sumS S k):=by
 unfold sumS;split
 ·exact Pre.refl _
 ·exact ⟨_,rfl⟩
theorem zlu (k:Bs):∀ (S R:List Bs) (m:Nat),idxS k S=some m→idxS k (S++R)=some m
 | [], _, _, h => by simp [idxS] at h
 | s :: S, R, m, h => by
  simp only [idxS,List.cons_append] at h ⊢
  split
  ·rename_i e;rw [if_pos e] at h;exact h
  ·rename_i e
   rw [if_neg e] at h
   cases hi:idxS k S with
   | none => rw [hi] at h; simp at h
   | some j => rw [hi] at h; rw [zlu k S R j hi]; exact h
theorem zj0 (k:Bs):∀ (S:List Bs),idxS k S=none→idxS k (S++[k])=some S.length
 | [], _ => by simp [idxS]
 | s :: S, h => by
  simp only [idxS,List.cons_append] at h ⊢
  split
  ·rename_i e;rw [if_pos e] at h;cases h
  ·rename_i e
   rw [if_neg e] at h
   cases hi:idxS k S with
   | none => rw [zj0 k S hi]; simp
   | some j => rw [hi] at h; simp at h
theorem zq6 (S:List Bs)(k:Bs):∃ m,idxS k (sumS S k)=some m∧sumN S k=m+1:=by
 unfold sumS sumN
 cases hi:idxS k S with
 | some m => exact ⟨m, by simp [hi], by simp⟩
 | none => exact ⟨S.length, by simp [zj0 k S hi], by simp⟩
def IsSum (S:List Bs)(k:Bs)(p:Pr):Prop:=∃ m,idxS k S=some m∧p=(eees,((m+1:Nat):Int))
theorem IsSum.pre {S S':List Bs}{k:Bs}{p:Pr}(h:IsSum S k p)(hp:Pre S S'):IsSum S' k p:=by
 obtain ⟨m,h1,h2⟩:=h;obtain ⟨R,rfl⟩:=hp
 exact ⟨m,zlu k S R m h1,h2⟩
theorem zq7 (S:List Bs)(k:Bs):IsSum (sumS S k) k (sumP S k):=by
 obtain ⟨m,h1,h2⟩:=zq6 S k
 exact ⟨m,h1,by rw [sumP,h2]⟩
theorem IsSum.fn {S:List Bs}{a:Bs}{p q:Pr}(h1:IsSum S a p)(h2:IsSum S a q):p=q:=by
 obtain ⟨m,h1,rfl⟩:=h1
 obtain ⟨m',h2,rfl⟩:=h2
 rw [h1] at h2;cases h2;rfl
theorem IsSum.rng {S:List Bs}{a:Bs}{p:Pr}(h:IsSum S a p):p.1=eees∧0≤p.2∧p.2≤S.length:=by
 obtain ⟨m,h1,rfl⟩:=h
 have:∀ (S:List Bs) (m:Nat),idxS a S=some m→m < S.length:=by
  intro S
  induction S with
  | nil => intro m h; simp [idxS] at h
  | cons s S ih =>
   intro m h
   simp only [idxS] at h
   split at h
   ·cases h;simp
   ·cases hi:idxS a S with
    | none => rw [hi] at h; simp at h
    | some j => rw [hi] at h; have := ih j hi; simp at h; simp; omega
 have:=this S m h1
 exact ⟨rfl,by simp;omega,by simp;omega⟩
def Wfp (p:Pr):Prop:=(0≤p.1∧p.1 < 18446744073709551616)∧(0≤p.2∧p.2 < 18446744073709551616)
theorem IsSum.wf {S:List Bs}{a:Bs}{p:Pr}(h:IsSum S a p)(hS:S.length≤1000000):Wfp p:=by
 obtain ⟨h1,h2,h3⟩:=h.rng
 exact ⟨by rw [h1];decide,by omega,by omega⟩

def IsG (md:Bool)(S:List Bs)(k:Bs)(p:Pr):Prop:=match md with | true=>IsSum S k p | false=>p=z2s k
theorem zq8 (md:Bool)(S:List Bs)(k:Bs):Pre S (gS md S k):=by
 cases md
 ·exact Pre.refl _
 ·exact zrj S k
theorem IsG.pre {md:Bool}{S S':List Bs}{k:Bs}{p:Pr}(h:IsG md S k p)(hp:Pre S S'):IsG md S' k p:=by
 cases md
 ·exact h
 ·exact IsSum.pre h hp
theorem zns (md:Bool)(S:List Bs)(k:Bs):IsG md (gS md S k) k (gP md S k):=by
 cases md
 ·exact rfl
 ·exact zq7 S k
abbrev nd (N:List Pr)(i:Nat):Pr:=N.getD i (0,0)
theorem z8y {N:List Pr}{i j:Nat}{p:Pr}:nd (N.set i p) j=if i=j∧j < N.length then p else nd N j:=by
 simp only [nd,List.getD_eq_getElem?_getD,List.getElem?_set]
 by_cases h:i=j
 ·subst h
  by_cases h2:i < N.length
  ·simp [h2]
  ·simp [h2]
 ·simp [h]
structure Tree (md:Bool)(S:List Bs)(lv:List Bs)(N:List Pr):Prop where
 len:N.length=2*lv.length
 leaf:∀ i (hi:i < lv.length),IsG md S (leafK lv[i]) (nd N (lv.length+i))
 node:∀ j,1≤j→j < lv.length→IsG md S (nodeK (nd N (2*j)) (nd N (2*j+1))) (nd N j)
theorem zlv (md:Bool):∀ (r:List Bs) (k:Nat) (N:List Pr) (S:List Bs),k+r.length≤N.length→Pre S (lfF md r k N S).2∧(∀ j,j < k→nd (lfF md r k N S).1 j=nd N j)∧∀ i (hi:i < r.length),IsG md (lfF md r k N S).2 (leafK r[i]) (nd (lfF md r k N S).1 (k+i))
 | [], _, _, S, _ => ⟨Pre.refl _, fun _ _ => rfl, fun i hi => absurd hi (by simp)⟩
 | b :: r, k, N, S, hk => by
  simp only [List.length_cons] at hk
  obtain ⟨h1,h2,h3⟩:=zlv md r (k+1) (N.set k (gP md S (leafK b))) (gS md S (leafK b)) (by simp;omega)
  simp only [lfF]
  refine ⟨(zq8 md _ _).trans h1,fun j hj => ?_,fun i hi => ?_⟩
  ·rw [h2 j (by omega),z8y,if_neg (by omega)]
  ·cases i with
   | zero =>
    rw [show k+0=k from rfl,h2 k (by omega),z8y,if_pos ⟨rfl,by omega⟩]
    exact (zns md S (leafK b)).pre h1
   | succ i =>
    have:=h3 i (by simpa using hi)
    rw [show k+1+i=k+(i+1) by omega] at this
    exact this
theorem zlw (md:Bool):∀ (i:Nat) (N:List Pr) (S:List Bs),i < N.length→Pre S (upF md i N S).2∧(∀ j,i < j→nd (upF md i N S).1 j=nd N j)∧∀ j,1≤j→j≤i→IsG md (upF md i N S).2 (nodeK (nd (upF md i N S).1 (2*j)) (nd (upF md i N S).1 (2*j+1))) (nd (upF md i N S).1 j)
 | 0, _, S, _ => ⟨Pre.refl _, fun _ _ => rfl, fun j h1 h2 => absurd h1 (by omega)⟩
 | i + 1, N, S, hi => by
  obtain ⟨h1,h2,h3⟩:=zlw md i (N.set (i+1) (gP md S (kidK N (i+1)))) (gS md S (kidK N (i+1))) (by simp;omega)
  simp only [upF]
  refine ⟨(zq8 md _ _).trans h1,fun j hj => ?_,fun j j1 j2 => ?_⟩
  ·rw [h2 j (by omega),z8y,if_neg (by omega)]
  ·by_cases e:j=i+1
   ·subst e
    rw [h2 (i+1) (by omega),h2 (2*(i+1)) (by omega),h2 (2*(i+1)+1) (by omega),z8y (j:=2*(i+1)),if_neg (by omega),z8y (j:=2*(i+1)+1),if_neg (by omega),z8y (j:=i+1),if_pos ⟨rfl,hi⟩]
    exact (zns md S (kidK N (i+1))).pre h1
   ·exact h3 j j1 (by omega)
theorem zn2 (md:Bool)(lv:List Bs)(S:List Bs)(hl:1≤lv.length):Pre S (zr md lv S).2∧Tree md (zr md lv S).2 lv (zr md lv S).1:=by
 have l1:=z8w md lv lv.length (List.replicate (2*lv.length) (0,0)) S
 obtain ⟨a1,a2,a3⟩:=zlv md lv lv.length (List.replicate (2*lv.length) (0,0)) S (by simp;omega)
 unfold zr
 generalize lfF md lv lv.length (List.replicate (2*lv.length) (0,0)) S=q at *
 simp only [List.length_replicate] at l1
 have l2:=z8x md (lv.length - 1) q.1 q.2
 obtain ⟨b1,b2,b3⟩:=zlw md (lv.length - 1) q.1 q.2 (by omega)
 refine ⟨a1.trans b1,⟨by omega,fun i hi => ?_,fun j h1 h2=>b3 j h1 (by omega)⟩⟩
 rw [b2 _ (by omega)]
 exact (a3 i hi).pre b1
theorem z5z (md:Bool)(lv:List Bs)(S:List Bs):(zr md lv S).1.length=2*lv.length∧(zr md lv S).2.length≤S.length+2*lv.length:=by
 have l1:=z8w md lv lv.length (List.replicate (2*lv.length) (0,0)) S
 unfold zr
 generalize lfF md lv lv.length (List.replicate (2*lv.length) (0,0)) S=q at *
 simp only [List.length_replicate] at l1
 have l2:=z8x md (lv.length - 1) q.1 q.2
 omega
end Go.Proofs.YthblcmnhiccnhaaGreat


namespace Go.Proofs.YthblcmnhiccnhaaGreat
open Go Go.Abs

theorem zcu (a b:Int):0≤x64 a b∧x64 a b < 18446744073709551616:=by
 have h1:x64 a b=(((BitVec.ofInt 64 a ^^^ BitVec.ofInt 64 b).toNat:Nat):Int):=by
  show IntKind.u64.wrap (((BitVec.ofInt 64 a ^^^ BitVec.ofInt 64 b).toNat:Nat):Int)=_
  have:=(BitVec.ofInt 64 a ^^^ BitVec.ofInt 64 b).isLt
  exact IntWalk.u64_in _ (by omega)
 have:=(BitVec.ofInt 64 a ^^^ BitVec.ofInt 64 b).isLt
 omega
theorem zrk (s m:Pr):Wfp (stepF s m):=⟨zcu _ _,zcu _ _⟩
theorem zlx:∀ (l:List Bs) (s:Pr),Wfp s→Wfp (l.foldl sumS6 s)
 | [], _, h => h
 | r :: l, s, _ => zlx l _ (zrk s (pairF r))
theorem zow (p:Bs):Wfp (z2s p):=by
 rw [zis]
 exact zlx _ _ ⟨⟨by decide,by decide⟩,⟨by decide,by decide⟩⟩
theorem IsG.wf {md:Bool}{S:List Bs}{a:Bs}{p:Pr}(h:IsG md S a p)(hS:S.length≤1000000):Wfp p:=by
 cases md with
 | true => exact IsSum.wf h hS
 | false => rw [show p = z2s a from h]; exact zow a
theorem Tree.wfG {md:Bool}{S:List Bs}{lv:List Bs}{N:List Pr}(hT:Tree md S lv N)(hS:S.length≤1000000){j:Nat}(h1:1≤j)(h2:j < 2*lv.length):Wfp (nd N j):=by
 by_cases h:j < lv.length
 ·exact (hT.node j h1 h).wf hS
 ·have:=hT.leaf (j - lv.length) (by omega)
  rw [show lv.length+(j - lv.length)=j by omega] at this
  exact this.wf hS
def sub (b:Bs)(o k:Nat):Bs:=(b.drop o).take k
theorem zq9 (md:Bool)(s:WS)(lv:List Lf):(s.nodes md lv).length=2*lv.length:=by
 have:=(z5z md (lv.map leafB) s.S).1
 rwa [List.length_map] at this
section
variable {md:Bool}{s:WS}{k:Nat}{a:Int}{lv:List Lf}
end

end Go.Proofs.YthblcmnhiccnhaaGreat


namespace Go.Proofs.YthblcmnhiccnhaaGreat
open Go Go.Abs

def pick (K:List Int)(i:Nat):Int:=K.getD (i % K.length) 0
end Go.Proofs.YthblcmnhiccnhaaGreat


namespace Go.Proofs.YthblcmnhiccnhaaGreat
open Go Go.Abs

structure PwS.Free (w:PwS):Prop where
 g:w.gone=false
 f:w.fuse=false
theorem PwS.Ok.mono {w:PwS}{k k':Nat}(h:w.Ok k)(hk:k≤k'):w.Ok k':=⟨h.l0,h.l1,h.s0,by have:=h.s1;omega⟩
theorem SdS.Ok.mono {x:SdS}{n k k':Nat}(h:x.Ok n k)(hk:k≤k'):x.Ok n k':=⟨h.len,h.w,Nat.le_trans h.kw hk,Nat.le_trans h.kt hk⟩
theorem WS.Fit.mono {s:WS}{k k':Nat}(h:s.Fit k)(hk:k≤k'):s.Fit k':=⟨h.g,h.pw.mono hk,h.sd.mono hk,Nat.le_trans h.ss hk,Nat.le_trans h.ll hk⟩
theorem zte {n:Nat}(hg:isG n=true)(seed:Int):(ws0 n seed).Fit 0:=by
 refine ⟨hg,⟨fun h=>by simp [ws0] at h,by simp [ws0],by simp [ws0],by simp [ws0]⟩,⟨?_,by simp [ws0,sd0],by simp [ws0,sd0],by simp [ws0,sd0]⟩,by simp [ws0],by simp [ws0]⟩
 rw [show (ws0 n seed).n=n from rfl,zj hg]
 simp only [ws0,sd0,List.length_replicate];omega
theorem zrl (n:Nat)(seed:Int):(ws0 n seed).pw.Free:=⟨rfl,rfl⟩
theorem zqa {md:Bool}{s:WS}{k:Nat}(hs:s.Fit k)(a:Int):(s.readS md a).Fit (k+40):=by
 have hg:=z8 hs.g
 have hbl:=(z5z md (s.rows a s.n.toNat) s.S).2
 rw [zls] at hbl
 have hss:=hs.ss
 rw [WS.readS]
 split
 ·exact hs.mono (by omega)
 ·exact ⟨hs.g,hs.pw.mono (by omega),hs.sd.mono (by omega),by show (zr md (s.rows a s.n.toNat) s.S).2.length≤_;omega,Nat.le_trans hs.ll (by omega)⟩
def WS.smash (s:WS)(o:Wr):WS:={ s with sd:=s.sd.smash o }
end Go.Proofs.YthblcmnhiccnhaaGreat


namespace Go.Proofs.YthblcmnhiccnhaaGreat
open Go Go.Abs

def openP (md:Bool)(L:List Iss)(k:Pr)(n:Nn)(head b:Bs)(tg:Pr):Option Bs:=match md with
 | true => openO L k n head b tg
 | false => gcmO k n head b tg
theorem zaj {md:Bool}{h:AHeap}{l o t q:Nat}{L:List Iss}{S:List Bs}(hl:LkAt md h l o t q L S)(hL:L.length≤1000000)(hd:∀ x∈L,x.data.length≤1000000)(k:Pr)(n:Nn)(head b:Bs)(tg:Pr)(h1:head.length≤4000)(h2:b.length≤4000) :
  AE Tryz.prog 197 [.ptr l 0 0,.agg (encP k),.agg (encN n),.imm 1 (head.map encB),.agg (encS b tg)] h (.tup [.imm 1 (((openP md L k n head b tg).getD []).map encB),.bool (openP md L k n head b tg).isSome]) h:=by
 cases md with
 | true => exact zk0 (hl.id rfl) hL hd k n head b tg
 | false => exact zjz (hl.re rfl) k n head b tg h1 h2
theorem zqb {md:Bool}{L:List Iss}{k:Pr}{n:Nn}{head b:Bs}{tg:Pr}{d:Bs}(hd:∀ x∈L,x.data.length≤4000)(h:openP md L k n head b tg=some d):d.length≤4000:=by
 cases md with
 | true =>
  simp only [openP,openO,Option.map_eq_some_iff] at h
  obtain ⟨x,hx,rfl⟩:=h
  exact hd x (List.mem_of_find?_eq_some hx)
 | false =>
  simp only [openP,gcmO] at h
  split at h
  ·rename_i hh
   obtain rfl:=Option.some.inj h
   rw [zej];exact hh.2.1
  ·cases h
def recAt (n c:Int):Int:=n*160+(c % 2)*60
theorem zcb {md:Bool}{h:AHeap}{n:WN}{s:WS}(hw:WAt md h n s)(hn:isG s.n=true)(c:Int)(hc:0≤c∧c < 18446744073709551616):AE Tryz.prog 183 [.ptr (n.a+10) 0 0,.int .u64 c] h (.int .i64 (recAt s.n c)) h:=by
 refine AE.wf fun hwf => ?_
 have hob:=hw.w
 have h0:=hwf _ _ hob
 simp only [wRow] at hob
 refine AE.pureW zl6 (by simp) ?_
 unfold zdr;dsimp only [qQ,qR,qM,qG]
 (refine go ?_)
 have hm:c.tmod 2=c % 2:=Int.tmod_eq_emod_of_nonneg hc.1
 rw [hm,z1z (k := .i64) (n:=c % 2) (by constructor <;> omega)]
 refine WL.call rfl gM gSL (zdx s.n (c % 2) _) ?_
 have hr:recG s.n (c % 2)=recAt s.n c:=by
  rw [recG,hn,recAt]
  simp
  omega
 rw [hr]
 (refine go ?_)
 refine WW.ret (PureQ.finD ?_)
 exact fz_i rfl
def WS.recOf (s:WS)(c:Int):Bs:=sub s.sd.snap (recAt s.n c).toNat 60
def z24 (md:Bool)(s:WS)(r:Rec):Option Bs :=
 if r.e∈s.ks.epochs∧r.v / 4294967296=s.ct.at' then openP md s.L (ofK s.ks.seed r.e) (r.e,65535,r.v) [] r.b r.tg else none
def rootO (b:Bs):Option Rt:=if rootG b then some (rootD b) else none
set_option maxHeartbeats 1000000 in
theorem zk2 {md:Bool}{h:AHeap}{n:WN}{s:WS}(hw:WAt md h n s)(hL:s.L.length≤1000000)(hd:∀ x∈s.L,x.data.length≤4000)(hat:0≤s.ct.at')(r:Bs)(hr:r.length=60) :
  AE Tryz.prog 184 [.ptr (n.a+10) 0 0,.imm 1 (r.map encB)] h (.tup [.agg (encRt (((z24 md s (recD r)).bind rootO).getD rt0)),.bool ((z24 md s (recD r)).bind rootO).isSome]) h:=by
 refine AE.wfU fun hwu => ?_
 have hob:=hw.w
 have h0:=(hwu _ _ hob).1
 have hnB:=hw.nB
 have hq:∀ id,n.all md id→id < h.next:=fun id hi=>hw.lt hi
 simp only [wRow] at hob
 have he:0≤(recD r).e∧(recD r).e < 4294967296:=z1i _ 4 (by simp;omega) (by decide)
 have hv:0≤(recD r).v∧(recD r).v < 18446744073709551616:=z1i _ 8 (by simp;omega) (by decide)
 have hbl:(recD r).b.length=32:=by simp [recD];omega
 refine AE.pureW zjo (by simp) ?_
 unfold zbw;dsimp only [qQ,qR,qM,qG]
 (refine go ?_)
 refine WL.call rfl gM gSL (zho r hr _) ?_
 generalize recD r=x at *
 (repeat first | refine WL.go ?_ | refine WW.seq ?_ | refine WW.reg ?_ | refine WL.nil ?_ | refine WW.skip ?_ | refine WW.block ?_ | refine WW.exit ?_ | refine WW.condT rfl ?_ | refine WW.condF rfl ?_ | refine WL.gox ?_ | refine thenN ?_ | refine blkN ?_)
 refine WW.dregA [10] [6,11] [6] [3,5] [] gN (by decide +kernel) ?_
 (repeat first | refine DA.go ?_ | refine DA.goF ?_ | refine DA.new ?_ | refine DA.set ?_ | refine DA.endL ?_ | refine thenN ?_ | refine blkN ?_)
 refine DA.callP rfl gM gSL rfl rfl rfl (fun h5 hs=>z7y (hw.ks.same ((hs.2 _ (by omega)).trans gE) ((hs.2 _ (by omega)).trans gE)) x.e he) ?_
 (repeat first | refine DA.go ?_ | refine DA.goF ?_ | refine DA.new ?_ | refine DA.set ?_ | refine DA.endL ?_ | refine thenN ?_ | refine blkN ?_)
 generalize hkk:(if x.e∈s.ks.epochs then ofK s.ks.seed x.e else (0,0))=kk at *
 refine WW.named (fun h5=>h5.get h.next=some (.mem 5 [encRt rt0])∧h5.get (h.next+1)=some (.mem 3 [encN (x.e,65535,x.v)])∧h5.get (h.next+1+1)=some (.mem 3 [encS x.b x.tg])∧h5.get (h.next+1+1+1)=some (.mem 2 [encP kk])∧h.next+4≤h5.next∧Keeps h h5) ⟨gH,gH,gH,gH,leN (show _=h.next+1+1+1+1 from z2l (zbm (by omega) (z9o (n:=h.next+1+1+1) gN))) (by omega),gK⟩ ?_
 rintro h5 ⟨r1,r2,r3,r4,r5,r6⟩
 have w5:WAt md h5 n s:=hw.same (fun id hi=>by obtain ⟨y,hy⟩:=hw.live hi;exact r6.2 id (hwu _ _ hy)) (by omega)
 have hob5:=w5.w
 simp only [wRow] at hob5
 by_cases hm:x.e∈s.ks.epochs
 rotate_left
 ·have hO:z24 md s x=none:=by rw [z24,if_neg (fun h=>hm h.1)]
  rw [hO,decide_eq_false hm]
  (refine go ?_)
  refine WW.ret (PureQ.finD ?_)
  exact Fz.tup2 (zd rfl (by simp [AV.flat,encRt])) (fz_b rfl)
 rw [decide_eq_true hm]
 rw [if_pos hm] at hkk
 (refine go ?_)
 refine DW.callS rfl gM gSL rfl (zjx x.e 65535 x.v hv _) ?_
 (refine go ?_)
 refine DW.callS rfl gM gSL rfl (zmv w5.ct) ?_
 (refine go ?_)
 (refine WW.ifB rfl (fun hz2 => ?_) (fun hz2 => ?_))
 ·have hO:z24 md s x=none:=by rw [z24,if_neg (fun h=>hz2 h.2)]
  rw [hO]
  (refine go ?_)
  refine WW.ret (PureQ.finD ?_)
  exact Fz.tup2 (zd rfl (by simp [AV.flat,encRt])) (fz_b rfl)
 have hO:z24 md s x=openP md s.L kk (x.e,65535,x.v) [] x.b x.tg:=by rw [z24,if_pos ⟨hm,hz2⟩,hkk]
 rw [hO]
 (refine go ?_)
 refine DW.callS rfl gM gSL rfl (zaj w5.lk hL (fun x hx=>Nat.le_trans (hd x hx) (by omega)) kk (x.e,65535,x.v) [] x.b x.tg (by simp) (by omega)) ?_
 cases hop:openP md s.L kk (x.e,65535,x.v) [] x.b x.tg with
 | none =>
  (refine go ?_)
  refine WW.ret (PureQ.finD ?_)
  exact Fz.tup2 (zd rfl (by simp [AV.flat,encRt])) (fz_b rfl)
 | some d =>
  have hdl:=zqb hd hop
  (refine go ?_)
  refine WL.call rfl gM gSL (zmz d (by omega) _) ?_
  (refine go ?_)
  refine WW.ret (PureQ.finD ?_)
  cases hg:rootG d with
  | false =>
   exact Fz.tup2 (zd (by simp [rootO,hg]) (by simp [AV.flat,encRt])) (fz_b (by simp [rootO,hg]))
  | true =>
   exact Fz.tup2 (zd (by simp [rootO,hg];exact Nat.le_refl _) (by simp [AV.flat,encRt])) (fz_b (by simp [rootO,hg]))
def WS.getR (md:Bool)(s:WS)(c:Int):Option Rt :=
 ((z24 md s (recD (s.recOf c))).bind rootO).bind fun r=>if r.c=c∧r.n=s.n then some r else none
def WS.getE (md:Bool)(s:WS)(c:Int):Int:=if s.pw.gone then 7 else if (s.getR md c).isSome then 0 else 3
def WS.getT (md:Bool)(s:WS)(c:Int):Rt:=if s.pw.gone then rt0 else (s.getR md c).getD rt0
set_option maxHeartbeats 1000000 in
theorem zox {md:Bool}{h:AHeap}{n:WN}{s:WS}{k:Nat}(hw:WAt md h n s)(hs:s.Fit k)(hk:k≤90000)(hd:∀ x∈s.L,x.data.length≤4000)(hat:0≤s.ct.at')(c:Int)(hc:0≤c∧c < 18446744073709551616) :
  AE Tryz.prog 123 [.ptr (n.a+10) 0 0,.int .u64 c] h (.tup [.agg (encRt (s.getT md c)),.int .i64 (s.getE md c)]) h:=by
 refine AE.wfU fun hwu => ?_
 have hob:=hw.w
 have h0:=(hwu _ _ hob).1
 simp only [wRow] at hob
 have hg:=z8 hs.g
 have hll:s.sd.lasts.length=(s.n*160+120).toNat:=by rw [hs.sd.len,zj hs.g]
 have hfit:∀ o∈s.sd.waits,0≤o.1∧o.1+o.2.length≤s.sd.lasts.length:=fun o ho=>by have:=hs.sd.w o ho;rw [zj hs.g] at this;omega
 have hsl:=zca hs
 refine AE.pureW zon (by simp) ?_
 unfold zio;dsimp only [qQ,qR,qM,qG]
 have hb:WAt md (h.put h.next (.mem 5 [encRt rt0])) n s:=hw.same (fun id hi=>z3 (by have:=hw.lt hi;omega) rfl) gLE
 (refine go ?_)
 refine DW.named (fun h1=>WAt md h1 n s∧h1.get h.next=some (.mem 5 [encRt rt0])∧Keeps h h1∧h1.next=h.next+1) ⟨hb,gH,gK,gN⟩ ?_
 rintro h1 ⟨w1,q1,k1,n1⟩
 have hob1:=w1.w
 simp only [wRow] at hob1
 (refine go ?_)
 refine DW.callS rfl gM gSL rfl (zcb w1 hs.g c hc) ?_
 (refine go ?_)
 refine DW.callS rfl gM gSL rfl (z7z w1.sd (by omega) (fun e=>by rw [e] at hll;simp at hll;omega) (Nat.le_trans hs.sd.kw (by omega)) hfit (recAt s.n c) 60 (by omega)) ?_
 have hin:inB s.sd.lasts.length (recAt s.n c) 60=true:=by
  have hp:0≤recAt s.n c∧recAt s.n c+60≤s.n*160+120:=by unfold recAt;omega
  rw [hll];generalize recAt s.n c=X at *;simp [inB];omega
 rw [hin,Bool.true_and]
 cases hgo:s.pw.gone with
 | true =>
  have hE:s.getE md c=7:=by rw [WS.getE,hgo,if_pos rfl]
  have hT:s.getT md c=rt0:=by rw [WS.getT,hgo,if_pos rfl]
  rw [hE,hT]
  (refine go ?_)
  refine WW.ret (PureQ.finD ?_)
  exact Fz.tup2 (zd rfl (by simp [AV.flat,encRt])) (fz_i rfl)
 | false =>
  have hE:s.getE md c=if (s.getR md c).isSome then 0 else 3:=by rw [WS.getE,hgo];rfl
  have hT:s.getT md c=(s.getR md c).getD rt0:=by rw [WS.getT,hgo];rfl
  rw [hE,hT]
  simp only [Bool.not_false,if_true]
  rw [show (s.sd.snap.drop (recAt s.n c).toNat).take (Int.toNat 60)=s.recOf c from rfl]
  have hrl:(s.recOf c).length=60:=by simp only [WS.recOf,sub,List.length_take,List.length_drop,hsl,recAt];omega
  (refine go ?_)
  refine WL.call rfl gM gSL (zk2 w1 (Nat.le_trans hs.ll (by omega)) hd hat (s.recOf c) hrl) ?_
  have hR:s.getR md c=((z24 md s (recD (s.recOf c))).bind rootO).bind fun r=>if r.c=c∧r.n=s.n then some r else none:=rfl
  rw [hR]
  generalize (z24 md s (recD (s.recOf c))).bind rootO=O at *
  cases O with
  | none =>
   (refine go ?_)
   refine WW.ret (PureQ.finD ?_)
   exact Fz.tup2 (zd rfl (by simp [AV.flat,encRt])) (fz_i rfl)
  | some r =>
   (refine go ?_)
   (refine DW.spB rfl (fun hz3 => ?_) (fun hz3 => ?_))
   ·have hne:(if r.c=c∧r.n=s.n then some r else none)=none:=if_neg (fun h=>by simp [h.1] at hz3)
    rw [Option.bind_some,hne]
    (refine go ?_)
    refine WW.ret (PureQ.finD ?_)
    exact Fz.tup2 (zd rfl (by simp [AV.flat,encRt])) (fz_i rfl)
   (refine go ?_)
   (refine WW.ifB rfl (fun hz4 => ?_) (fun hz4 => ?_))
   ·have hne:(if r.c=c∧r.n=s.n then some r else none)=none:=if_neg (fun h=>by simp [h.2] at hz4)
    rw [Option.bind_some,hne]
    (refine go ?_)
    refine WW.ret (PureQ.finD ?_)
    exact Fz.tup2 (zd rfl (by simp [AV.flat,encRt])) (fz_i rfl)
   ·have hye:(if r.c=c∧r.n=s.n then some r else none)=some r:=if_pos ⟨by simpa using hz3,by simpa using hz4⟩
    rw [Option.bind_some,hye]
    (refine go ?_)
    refine WW.ret (PureQ.finD ?_)
    exact Fz.tup2 (zd rfl (by simp [AV.flat,encRt])) (fz_i rfl)
end Go.Proofs.YthblcmnhiccnhaaGreat


namespace Go.Proofs.YthblcmnhiccnhaaGreat
open Go Go.Abs

theorem WG.reL {md:Bool}{h h':AHeap}{n:WN}{s:WS}(hg:WG md h n s)(L':List Iss)(hk:Kp (fun id=>md=true∧(id=n.o∨id=n.t)) h h')(h1:md=true→h'.get n.o=some (.mem 2 [[.app n.t 0 10 (L'.map encI),.map n.q]])∧h'.get n.t=some (.tail 0 L'.length))(h2:md=false→L'=s.L):WG md h' n { s with L:=L' }:=by
 have hw:=hg.w
 have g:∀ id,n.nm md id→(md=true→id≠n.o∧id≠n.t)→h'.get id=h.get id:=fun id hi hne=>hk.get id (hg.us id hi) fun ⟨e,h⟩=>h.elim (hne e).1 (hne e).2
 have hoB:=hw.oB
 have ga:∀ i,0 < i∧i < 11∧i≠8→h'.get (n.a+i)=h.get (n.a+i):=fun i hi=>g _ (.inl (.inr (.inr (.inl (by omega))))) fun e=>by have:=hw.oo e;omega
 have gB:h'.get n.B=h.get n.B:=g _ (.inl (.inr (.inr (.inl (by omega))))) fun e=>by have:=hw.oo e;omega
 have gE:h'.get n.E=h.get n.E:=g _ (.inl (.inr (.inr (.inl (by omega))))) fun e=>by have:=hw.oo e;omega
 have gp:h'.get n.p=h.get n.p:=g _ (.inl (.inl rfl)) fun e=>by obtain ⟨a,b,_⟩:=hw.nep.2 e;exact ⟨Ne.symm a,Ne.symm b⟩
 have key:∀ {i j:Nat} {y z:AObj},h.get i=some y→h.get j=some z→y≠z→i≠j:=fun hi hj hne e=>by
  subst e;rw [hi] at hj;exact hne (Option.some.inj hj)
 have gl:h'.get n.l=h.get n.l:=g _ (.inl (.inr (.inl rfl))) fun e=>by
  obtain ⟨q0,q1,q2,q3⟩:=hw.lk.id e
  exact ⟨key q0 q1 (by simp [idC]),key q0 q2 (by simp)⟩
 have gq:md=true→h'.get n.q=h.get n.q:=fun e=>g _ (.inr rfl) fun _=>by
  obtain ⟨q0,q1,q2,q3⟩:=hw.lk.id e
  exact ⟨key q3 q1 (by simp),key q3 q2 (by simp)⟩
 have gqf:md=false→h'.get n.q=none:=fun e=>(g _ (.inr rfl) fun e'=>by rw [e] at e';cases e').trans (hg.qn e)
 refine ⟨⟨hw.sd.same gp (ga 1 (by omega)) gB (ga 2 (by omega)) (ga 3 (by omega)),hw.dk.same gp (ga 4 (by omega)) (ga 5 (by omega)) (ga 6 (by omega)),(ga 7 (by omega)).trans hw.ct,hw.ks.same (ga 9 (by omega)) gE,(ga 10 (by omega)).trans hw.w,⟨fun e => ?_,fun e=>gl.trans (hw.lk.re e)⟩,hw.op,hw.ol,hw.oo,Nat.le_trans hw.nx hk.next,hw.oB,⟨Nat.lt_of_lt_of_le hw.nB.1 hk.next,Nat.lt_of_lt_of_le hw.nB.2 hk.next⟩⟩,fun id hi=>hk.us id (hg.us id hi),gqf⟩
 obtain ⟨q0,q1,q2,q3⟩:=hw.lk.id e
 obtain ⟨e1,e2⟩:=h1 e
 exact ⟨gl.trans q0,⟨e1,e2,(gq e).trans q3⟩⟩
def WS.logN (s:WS)(boot:Int)(j:Nat):Nn:=(s.ks.cur,65535,boot*4294967296+((j+1:Nat):Int))
def WS.logP (md:Bool)(s:WS)(boot:Int)(j:Nat)(r:Rt):Bs×Pr:=sealP md s.L s.key (s.logN boot j) [] (rootB r)
def WS.logR (md:Bool)(s:WS)(boot:Int)(j:Nat)(r:Rt):Wr:=(recAt s.n r.c,recB s.ks.cur (boot*4294967296+((j+1:Nat):Int)) (s.logP md boot j r).1 (s.logP md boot j r).2)
def WS.logW (md:Bool)(s:WS)(boot:Int)(j:Nat)(r:Rt):WS:={ s with L:=sealL md s.L s.key (s.logN boot j) [] (rootB r),pw:=s.pw.spend,sd:=s.sd.write (s.logR md boot j r) s.pw.can }
theorem z7k (md:Bool)(L:List Iss)(k:Pr)(n:Nn)(head data:Bs):(sealP md L k n head data).1.length=data.length:=by
 cases md with
 | true => simp only [sealP, newI, sealB, zhd]
 | false => simp only [sealP, zej]
set_option maxHeartbeats 1000000 in
theorem zoy {md:Bool}{h:AHeap}{n:WN}{s:WS}{k:Nat}(hg:WG md h n s)(hs:s.Fit k)(hk:k≤90000)(hcur:0≤s.ks.cur∧s.ks.cur < 4294967296){mk:Nat}{boot:Int}{j:Nat}(hm:BoxAt h mk (mkO boot j))(hb:0≤boot∧boot < 4294967296)(hj:j < 100)(hne:¬ n.nm md mk)(r:Rt)(hr:r.Wf)(hrg:isG r.n=true)(hrn:r.n=s.n) :
  AC Tryz.prog 255 [.ptr (n.a+10) 0 0,.ptr mk 0 0,.agg (encRt r)] h
   (fun v h'=>v = .int .i64 (if s.pw.can then 0 else 7)∧WG md h' n (s.logW md boot j r)∧BoxAt h' mk (mkO boot (j+1))∧Kp (fun id=>n.own md id∨id=mk) h h'):=by
 refine AC.introW zfu (by simp) ?_
 unfold zbv;dsimp only [qQ,qR,qM,qG]
 have hob:=hg.w.w
 simp only [wRow] at hob
 have hlt:∀ id,n.nm md id→id < h.next:=fun id hi=>(hg.us id hi).1
 have hmk:mk < h.next:=hm.u.1
 have hgg:=z8 hs.g
 have hna:n.a+11≤h.next:=hg.w.nx
 have hnB:n.B < h.next∧n.E < h.next:=hg.w.nB
 have hoB:=hg.w.oB
 have hop:=hg.w.op
 (refine go ?_)
 refine WL.call rfl gM gSL (zdy r hr _) ?_
 rw [hrg]
 simp only [if_true]
 (refine go ?_)
 (refine WW.ifB rfl (fun hz1 => ?_) (fun hz1 => ?_))
 ·exfalso;simp at hz1;exact hz1 hrn
 have hcur':=hcur
 (refine go ?_)
 refine WL.call rfl gM gSL (z6u (hg.new (by repeat first | exact Kp.refl | assumption | with_reducible refine Kp.put ?_ (by omega) _ | with_reducible refine Kp.setN ?_ (by omega) _ | with_reducible refine Kp.keep ?_ _ | with_reducible refine Kp.setW ?_ (by rfl) _)).w hcur) ?_
 (refine go ?_)
 refine WL.call rfl gM gSL (zad ((gE:_=h.get mk).trans hm.g) hb hj s.ks.cur 65535 (by decide)) ?_
 refine WL.named (fun h3=>WG md h3 n s∧BoxAt h3 mk (mkO boot (j+1))∧Kp (fun id=>id=mk) h h3∧h3.get h.next=some (.mem 5 [encRt r])∧h3.get (h.next+1)=some (.mem 2 [encP s.key])∧h3.next=h.next+2) ⟨hg.kp (W:=fun id=>id=mk) (by repeat first | exact Kp.refl | assumption | with_reducible refine Kp.put ?_ (by omega) _ | with_reducible refine Kp.setN ?_ (by omega) _ | with_reducible refine Kp.keep ?_ _ | with_reducible refine Kp.setW ?_ (by simp;done) _) (fun id hi e=>hne (e ▸ hi)),⟨?_,gH⟩,(by repeat first | exact Kp.refl | assumption | with_reducible refine Kp.put ?_ (by omega) _ | with_reducible refine Kp.setN ?_ (by omega) _ | with_reducible refine Kp.keep ?_ _ | with_reducible refine Kp.setW ?_ (by simp;done) _),gH,gH,(gN:_=h.next+1+1)⟩ ?_
 ·exact (((by repeat first | exact Kp.refl | assumption | with_reducible refine Kp.put ?_ (by omega) _ | with_reducible refine Kp.setN ?_ (by omega) _ | with_reducible refine Kp.keep ?_ _ | with_reducible refine Kp.setW ?_ (by simp;done) _):Kp (fun id=>id=mk) h _)).us mk hm.u
 clear hob
 rintro h3 ⟨g3,b3,k3,r1,r2,hn3⟩
 (refine go ?_)
 have hx3:=k3.next
 have hrb:=z7i r
 have hll:=hs.ll
 have hLk:n.l < h.next:=hlt _ (.inl (.inr (.inl rfl)))
 refine WW.thenI (fun e' F'=>subE [(0,some (.ptr (n.a+10) 0 0)),(5,some (.ptr h.next 0 0)),(11,some (.ptr (h.next+2) 0 0)),(13,some (.ptr (h.next+3) 0 0))] e'∧WG md F' n { s with L:=sealL md s.L s.key (s.logN boot j) [] (rootB r) }∧BoxAt F' mk (mkO boot (j+1))∧Kp (fun id=>n.own md id∨id=mk) h F'∧F'.get h.next=some (.mem 5 [encRt r])∧F'.get (h.next+2)=some (.mem 3 [encN (s.logN boot j)])∧F'.get (h.next+3)=some (.mem 3 [encS (s.logP md boot j r).1 (s.logP md boot j r).2])∧F'.next=h.next+4) ?_ ?_
 ·cases md with
  | true =>
   have hoL:n.o < h.next:=hlt _ (.inl (.inr (.inr (.inr ⟨rfl,.inl rfl⟩))))
   have htL:n.t < h.next:=hlt _ (.inl (.inr (.inr (.inr ⟨rfl,.inr (.inl rfl)⟩))))
   have hqL:n.q < h.next:=hlt _ (.inr rfl)
   have hoo:=g3.w.oo rfl
   have hob3:=g3.w.w
   simp only [wRow] at hob3
   refine WW.dregA [11] [7,12] [7] [3,4,5] [n.t,n.o] gN (by decide +kernel) ?_
   iterate 3 (refine DA.go ?_)
   refine DA.goF (hs:=fun h2 hp2=>by apply Stp.load1;exact rfl;exact (hp2 _ (by omega) (by simp;omega)).trans gH;exact (by first | exact ze rfl rfl | exact zy rfl | exact z4 (Nat.le_of_ble_eq_true rfl) (by first | (simp only [putC,AV.cs,encP,encN,encI,encS,encA,List.take_succ_cons,List.take_zero,List.take_nil,List.drop_succ_cons,List.drop_zero,List.drop_nil,List.cons_append,List.nil_append,List.append_nil,List.length_cons,List.length_nil,Nat.zero_add,Nat.add_zero,Nat.reduceAdd];exact rfl) | exact rfl) | exact z4 (by simp) (by first | (simp only [putC,AV.cs,encP,encN,encI,encS,encA,List.take_succ_cons,List.take_zero,List.take_nil,List.drop_succ_cons,List.drop_zero,List.drop_nil,List.cons_append,List.nil_append,List.append_nil,List.length_cons,List.length_nil,Nat.zero_add,Nat.add_zero,Nat.reduceAdd];exact rfl) | exact rfl));exact gM) ?_
   refine DA.goF (hs:=fun h2 hp2=>by apply Stp.load1;exact rfl;exact (hp2 _ (by omega) (by simp;omega)).trans gH;exact (by first | exact ze rfl rfl | exact zy rfl | exact z4 (Nat.le_of_ble_eq_true rfl) (by first | (simp only [putC,AV.cs,encP,encN,encI,encS,encA,List.take_succ_cons,List.take_zero,List.take_nil,List.drop_succ_cons,List.drop_zero,List.drop_nil,List.cons_append,List.nil_append,List.append_nil,List.length_cons,List.length_nil,Nat.zero_add,Nat.add_zero,Nat.reduceAdd];exact rfl) | exact rfl) | exact z4 (by simp) (by first | (simp only [putC,AV.cs,encP,encN,encI,encS,encA,List.take_succ_cons,List.take_zero,List.take_nil,List.drop_succ_cons,List.drop_zero,List.drop_nil,List.cons_append,List.nil_append,List.append_nil,List.length_cons,List.length_nil,Nat.zero_add,Nat.add_zero,Nat.reduceAdd];exact rfl) | exact rfl));exact gM) ?_
   refine DA.goF (hs:=fun h2 hp2=>by apply Stp.load1;exact rfl;exact (hp2 _ (by omega) (by simp;omega)).trans gH;exact (by first | exact ze rfl rfl | exact zy rfl | exact z4 (Nat.le_of_ble_eq_true rfl) (by first | (simp only [putC,AV.cs,encP,encN,encI,encS,encA,List.take_succ_cons,List.take_zero,List.take_nil,List.drop_succ_cons,List.drop_zero,List.drop_nil,List.cons_append,List.nil_append,List.append_nil,List.length_cons,List.length_nil,Nat.zero_add,Nat.add_zero,Nat.reduceAdd];exact rfl) | exact rfl) | exact z4 (by simp) (by first | (simp only [putC,AV.cs,encP,encN,encI,encS,encA,List.take_succ_cons,List.take_zero,List.take_nil,List.drop_succ_cons,List.drop_zero,List.drop_nil,List.cons_append,List.nil_append,List.append_nil,List.length_cons,List.length_nil,Nat.zero_add,Nat.add_zero,Nat.reduceAdd];exact rfl) | exact rfl));exact gM) ?_
   (repeat first | refine DA.go ?_ | refine DA.goF ?_ | refine DA.new ?_ | refine DA.set ?_ | refine DA.endL ?_ | refine thenN ?_ | refine blkN ?_)
   refine DA.callSS (i1:=n.t) (i2:=n.o) (vs:=[.ptr n.l 0 0,.agg (encP s.key),.agg (encN (s.logN boot j)),.imm 1 (([]:Bs).map encB),.imm 1 ((rootB r).map encB)]) rfl gM gSL rfl rfl rfl (fun _ hp=>PhiW.setW (by simp) (PhiW.setW (by simp) hp)) ⟨by omega,by omega⟩
    (fun h5 hs=>zag ((g3.w.lk.same ((hs.2 _ (by omega)).trans gE) (fun _=>⟨(hs.2 _ (by omega)).trans gE,(hs.2 _ (by omega)).trans gE,(hs.2 _ (by omega)).trans gE⟩)).id rfl) (by omega) s.key (s.logN boot j) [] (rootB r) (by simp) (by omega)) ?_
   (repeat first | refine DA.go ?_ | refine DA.goF ?_ | refine DA.new ?_ | refine DA.set ?_ | refine DA.endL ?_ | refine thenN ?_ | refine blkN ?_)
   have hSL:sealL true s.L s.key (s.logN boot j) [] (rootB r)=s.L++[newI (s.L.length+1) s.key (s.logN boot j) [] (rootB r)]:=rfl
   have hto:n.t≠n.o:=fun e=>by
    obtain ⟨q0,q1,q2,q3⟩:=g3.w.lk.id rfl
    rw [e,q1] at q2;cases q2
   have hom:n.nm true n.o := .inl (.inr (.inr (.inr ⟨rfl,.inl rfl⟩)))
   have htm:n.nm true n.t := .inl (.inr (.inr (.inr ⟨rfl,.inr (.inl rfl)⟩)))
   refine ⟨rfl,gSUB,g3.reL _ (by repeat first | exact Kp.refl | assumption | with_reducible refine Kp.put ?_ (by omega) _ | with_reducible refine Kp.setN ?_ (by omega) _ | with_reducible refine Kp.keep ?_ _ | with_reducible refine Kp.setW ?_ (by simp;done) _) (fun _=>⟨by rw [hSL];exact gH,by rw [hSL,List.length_append];exact gH⟩) nofun,b3.kp (W:=fun id=>id=n.o∨id=n.t) (by repeat first | exact Kp.refl | assumption | with_reducible refine Kp.put ?_ (by omega) _ | with_reducible refine Kp.setN ?_ (by omega) _ | with_reducible refine Kp.keep ?_ _ | with_reducible refine Kp.setW ?_ (by simp;done) _) (fun hh=>hne (hh.elim (fun e=>e ▸ hom) fun e=>e ▸ htm)),?_,gH,gH,gH,?_⟩
   ·exact (k3.mono fun _ _ e => .inr e).trans (((by repeat first | exact Kp.refl | assumption | with_reducible refine Kp.put ?_ (by omega) _ | with_reducible refine Kp.setN ?_ (by omega) _ | with_reducible refine Kp.keep ?_ _ | with_reducible refine Kp.setW ?_ (by simp;done) _):Kp (fun id=>id=n.o∨id=n.t) h3 _).mono fun id _ e => .inl (.inr (.inr ⟨rfl,e.elim .inl fun e => .inr (.inl e)⟩)))
   ·exact (show _=h.next+2+1+1 from z2l (zbm (by omega) (z2l (z2l (z9o (n:=h.next+2+1) gN)))))
  | false =>
   have hob3:=g3.w.w
   simp only [wRow] at hob3
   refine WW.dregA [11] [7,12] [7] [3,4,5] [] gN (by decide +kernel) ?_
   (repeat first | refine DA.go ?_ | refine DA.goF ?_ | refine DA.new ?_ | refine DA.set ?_ | refine DA.endL ?_ | refine thenN ?_ | refine blkN ?_)
   refine DA.callP rfl gM (vs:=[.ptr n.l 0 0,.agg (encP s.key),.agg (encN (s.logN boot j)),.imm 1 (([]:Bs).map encB),.imm 1 ((rootB r).map encB)]) gSL rfl rfl rfl (fun h5 hs=>zaf (((hs.2 _ (by omega)).trans gE).trans (g3.w.lk.re rfl)) s.key (s.logN boot j) [] (rootB r) (by simp) (by omega)) ?_
   (repeat first | refine DA.go ?_ | refine DA.goF ?_ | refine DA.new ?_ | refine DA.set ?_ | refine DA.endL ?_ | refine thenN ?_ | refine blkN ?_)
   refine ⟨rfl,gSUB,g3.reL _ (by repeat first | exact Kp.refl | assumption | with_reducible refine Kp.put ?_ (by omega) _ | with_reducible refine Kp.setN ?_ (by omega) _ | with_reducible refine Kp.keep ?_ _ | with_reducible refine Kp.setW ?_ (by simp;done) _) nofun (fun _=>rfl),b3.kp (W:=fun _=>False) (by repeat first | exact Kp.refl | assumption | with_reducible refine Kp.put ?_ (by omega) _ | with_reducible refine Kp.setN ?_ (by omega) _ | with_reducible refine Kp.keep ?_ _ | with_reducible refine Kp.setW ?_ (by simp;done) _) (fun h=>h),?_,gH,gH,gH,?_⟩
   ·exact (k3.mono fun _ _ e => .inr e).trans (((by repeat first | exact Kp.refl | assumption | with_reducible refine Kp.put ?_ (by omega) _ | with_reducible refine Kp.setN ?_ (by omega) _ | with_reducible refine Kp.keep ?_ _ | with_reducible refine Kp.setW ?_ (by simp;done) _):Kp (fun _=>False) h3 _).mono fun id _ e=>e.elim)
   ·exact (show _=h.next+2+1+1 from z2l (zbm (by omega) (z9o (n:=h.next+2+1) gN)))
 clear g3 b3 k3 r1 r2 hn3
 rintro e7 h5 ⟨hs7,g5,b5,k5,r1,r2,r3,hn5⟩
 refine WW.cvt (Cvt.sub hs7) ?_
 have hob5:=g5.w.w
 simp only [wRow] at hob5
 (refine go ?_)
 have hpl:(s.logP md boot j r).1.length=32:=(z7k _ _ _ _ _ _).trans hrb
 have hv:0≤boot*4294967296+((j+1:Nat):Int)∧boot*4294967296+((j+1:Nat):Int) < 18446744073709551616:=by omega
 refine WL.call rfl gM gSL (zhn s.ks.cur (boot*4294967296+((j+1:Nat):Int)) hcur hv (s.logP md boot j r).1 hpl (s.logP md boot j r).2 _) ?_
 have hxl:=zeq s.ks.cur (boot*4294967296+((j+1:Nat):Int)) (s.logP md boot j r).1 (s.logP md boot j r).2 hpl
 (repeat first | refine WL.go ?_ | refine WW.seq ?_ | refine WW.reg ?_ | refine WL.nil ?_ | refine WW.skip ?_ | refine WW.block ?_ | refine WW.exit ?_ | refine WW.condT rfl ?_ | refine WW.condF rfl ?_ | refine WL.gox ?_ | refine thenN ?_ | refine blkN ?_)
 refine WW.dregX [9] [] n.devs gN (by decide +kernel) ?_
 (refine go ?_)
 refine DW.callS rfl gM gSL rfl (zcb g5.w hs.g r.c hr.c) ?_
 (refine go ?_)
 have hlt5:∀ id,n.nm md id→id < h.next:=hlt
 have hlls:s.sd.lasts.length=(s.n*160+120).toNat:=by rw [hs.sd.len,zj hs.g]
 have hin:inB s.sd.lasts.length (recAt s.n r.c) 60=true:=by
  have hp:0≤recAt s.n r.c∧recAt s.n r.c+60≤s.n*160+120:=by unfold recAt;omega
  rw [hlls];generalize recAt s.n r.c=X at *;simp [inB];omega
 refine DW.callSW rfl gM gSL rfl rfl (fun hp=>zgf n _ _ hp) (z43 g5.w.sd hs.pw (by omega) (by show s.sd.lasts.length≤_;omega) (Nat.le_trans hs.sd.kw (by omega)) (Nat.le_trans hs.sd.kt (by omega)) (recAt s.n r.c) (recB s.ks.cur (boot*4294967296+((j+1:Nat):Int)) (s.logP md boot j r).1 (s.logP md boot j r).2) (by omega)) ?_
 rw [hxl,show ((60:Nat):Int)=60 from rfl,hin]
 simp only [Bool.true_and,if_true]
 refine DW.named (fun h6=>WG md h6 n (s.logW md boot j r)∧BoxAt h6 mk (mkO boot (j+1))∧Kp (fun id=>n.own md id∨id=mk) h h6) ⟨g5.step (g5.w.putSd _ _) (kp_sd n _ _),b5.kp (kp_sd n _ _) (fun hi=>hne (.inl (WN.own_all hi))),k5.trans ((kp_sd n _ _).mono fun id _ hi => .inl hi)⟩ ?_
 clear g5 b5 k5 hob5
 rintro h6 ⟨g6,b6,k6⟩
 cases hc:s.pw.can with
 | false =>
  (refine go ?_)
  exact WW.ret ⟨.inl rfl,_,gRES,rfl,g6,b6,k6⟩
 | true =>
  (refine go ?_)
  exact WW.ret ⟨.inl rfl,_,gRES,rfl,g6,b6,k6⟩
end Go.Proofs.YthblcmnhiccnhaaGreat


namespace Go.Proofs.YthblcmnhiccnhaaGreat
open Go Go.Abs

theorem ztf (key:Pr)(n:Nn)(head b:Bs):Wfp (gcmT key n head b):=⟨zcu _ _,zcu _ _⟩
def Seq (L:List Iss):Prop:=∀ i (hi:i < L.length),L[i].tag=(ones,((i+1:Nat):Int))
theorem Seq.nil:Seq []:=fun i hi=>by simp at hi
theorem Seq.put {L:List Iss}(h:Seq L)(k:Pr)(n:Nn)(hd d:Bs):Seq (L++[newI (L.length+1) k n hd d]):=fun i hi=>by
 rw [List.getElem_append]
 split
 ·exact h i _
 ·have:i=L.length:=by simp at hi;omega
  subst this
  simp [newI]
theorem Seq.sealL {md:Bool}{L:List Iss}(h:Seq L)(k:Pr)(n:Nn)(hd d:Bs):Seq (sealL md L k n hd d):=by
 cases md with
 | true => exact h.put k n hd d
 | false => exact h
theorem zrm {md:Bool}{L:List Iss}(hL:L.length≤1000000)(k:Pr)(n:Nn)(hd d:Bs):Wfp (sealP md L k n hd d).2:=by
 cases md with
 | true => simp only [sealP, newI, Wfp, ones]; omega
 | false => exact ztf _ _ _ _
theorem zj1 (md:Bool)(L:List Iss)(k:Pr)(n:Nn)(hd d:Bs):(sealL md L k n hd d).length≤L.length+1:=by
 cases md with
 | true => simp [sealL]
 | false => simp [sealL]
theorem zj2 {md:Bool}{L:List Iss}{k:Pr}{n:Nn}{hd d:Bs}{P:Iss→Prop}(h:∀ x∈L,P x)(h1:P (newI (L.length+1) k n hd d)):∀ x∈sealL md L k n hd d,P x:=by
 cases md with
 | true =>
  intro x hx
  rcases List.mem_append.1 hx with hx | hx
  ·exact h x hx
  ·obtain rfl:=List.mem_singleton.1 hx;exact h1
 | false => exact h
section
variable {md:Bool}{s:WS}{k:Nat}{boot:Int}{j:Nat}{r:Rt}
theorem zrn:(s.logR md boot j r).2.length=60:=zeq _ _ _ _ ((z7k _ _ _ _ _ _).trans (z7i r))
theorem zqc (hs:s.Fit k)(c:Int):0≤recAt s.n c∧recAt s.n c+60≤s.n*160+120:=by
 have hg:=z8 hs.g
 unfold recAt;omega
theorem zro (hs:s.Fit k):(s.logW md boot j r).Fit (k+1):=by
 have hp:=zqc hs r.c
 have hl:=zrn (md:=md) (s:=s) (boot:=boot) (j:=j) (r:=r)
 have hll:=hs.ll
 have h2:=zj1 md s.L s.key (s.logN boot j) [] (rootB r)
 refine ⟨hs.g,hs.pw.spend,hs.sd.write (o:=s.logR md boot j r) ⟨hp.1,?_⟩ s.pw.can,Nat.le_succ_of_le hs.ss,by show (sealL md s.L s.key (s.logN boot j) [] (rootB r)).length≤_;omega⟩
 rw [hl,zj hs.g]
 have hg:=z8 hs.g
 show recAt s.n r.c+_≤_
 omega
end
end Go.Proofs.YthblcmnhiccnhaaGreat


namespace Go.Proofs.YthblcmnhiccnhaaGreat
open Go Go.Abs

theorem ztg (n:Nat)(seed:Int):(ws0 n seed).ks.cur=1:=by simp [ws0,KsS.cur]
structure LSt (md:Bool)(s:WS)(k:Nat):Prop where
 fit:s.Fit k
 free:s.pw.Free
 cur:s.ks.cur∈s.ks.epochs∧0≤s.ks.cur∧s.ks.cur < 4294967296
 seq:md=true→Seq s.L
 dat:∀ x∈s.L,x.data.length≤4000
 at':0≤s.ct.at'
theorem lst0 (md:Bool){m:Nat}(hG:isG m=true)(seed:Int):LSt md (ws0 m seed) 0 :=
 ⟨zte hG seed,zrl m seed,by rw [ztg];simp [ws0],fun _=>Seq.nil,by simp [ws0],by simp [ws0]⟩
end Go.Proofs.YthblcmnhiccnhaaGreat


namespace Go.Proofs.YthblcmnhiccnhaaGreat
open Go Go.Abs

theorem zoz {md:Bool}{h:AHeap}{n:WN}{s:WS}(hg:WG md h n s)(hcur:0≤s.ks.cur∧s.ks.cur < 4294967296){mk:Nat}{boot:Int}(hm:BoxAt h mk (mkO boot 100))(r:Rt)(hr:r.Wf)(hrg:isG r.n=true)(hrn:r.n=s.n) :
  AE Tryz.prog 255 [.ptr (n.a+10) 0 0,.ptr mk 0 0,.agg (encRt r)] h (.int .i64 6) h:=by
 have hob:=hg.w.w
 simp only [wRow] at hob
 have hmk:mk < h.next:=hm.u.1
 have hna:n.a+11≤h.next:=hg.w.nx
 have hnB:n.B < h.next∧n.E < h.next:=hg.w.nB
 have hoB:=hg.w.oB
 refine AE.pureW zfu (by simp) ?_
 unfold zbv;dsimp only [qQ,qR,qM,qG]
 (refine go ?_)
 refine WL.call rfl gM gSL (zdy r hr _) ?_
 rw [hrg]
 simp only [if_true]
 (refine go ?_)
 (refine WW.ifB rfl (fun hz1 => ?_) (fun hz1 => ?_))
 ·exfalso;simp at hz1;exact hz1 hrn
 (refine go ?_)
 refine WL.call rfl gM gSL (z6u (hg.new (by repeat first | exact Kp.refl | assumption | with_reducible refine Kp.put ?_ (by omega) _ | with_reducible refine Kp.setN ?_ (by omega) _ | with_reducible refine Kp.keep ?_ _ | with_reducible refine Kp.setW ?_ (by rfl) _)).w hcur) ?_
 (refine go ?_)
 refine WL.call rfl gM gSL (zae ((gE:_=h.get mk).trans hm.g) s.ks.cur 65535 (by decide)) ?_
 (refine go ?_)
 refine WW.ret (PureQ.finD ?_)
 exact fz_i rfl
def WS.barS (s:WS):WS:={ s with pw:=s.pw.spend,sd:=s.sd.barrier s.pw.can }
def WS.bmpS (s:WS):WS:={ s with pw:=s.pw.spend,ct:=s.ct.bump s.pw.can }
def WS.doA (s:WS):Int:=(s.ct.value+1) % 2
def WS.doR (md:Bool)(s:WS)(lv:List Lf):Rt:=⟨s.ct.value+1,s.ks.cur,s.n,(s.nodes md lv).getD 1 (0,0)⟩
def WS.doC (md:Bool)(s:WS)(boot:Int)(j:Nat)(lv:List Lf):Int×WS×Nat :=
 let s1:=s.areaW md s.doA lv
 if (s.pw.can&&s.pw.spend.can)=false then (7,s1,j)
 else if s1.pw.can=false then (7,s1.barS,j)
 else if j=100 then (6,s1.barS,j)
 else
  let s3:=s1.barS.logW md boot j (s.doR md lv)
  if s1.barS.pw.can=false then (7,s3,j+1)
  else if s3.pw.can=false then (7,s3.barS,j+1)
  else if s3.barS.pw.can=false then (7,s3.barS.bmpS,j+1)
  else (0,s3.barS.bmpS,j+1)
theorem SdS.Ok.barrier {x:SdS}{n k:Nat}(h:x.Ok n k)(ok:Bool):(x.barrier ok).Ok n (k+1):=by
 obtain ⟨h1,h2,h3,h4⟩:=h
 cases ok with
 | false => exact ⟨h1, h2, Nat.le_succ_of_le h3, Nat.le_succ_of_le h4⟩
 | true =>
  refine ⟨?_,fun y hy=>by simp [SdS.barrier,SdS.settle] at hy,Nat.zero_le _,by simp [SdS.barrier,SdS.settle];omega⟩
  exact z5y _ n x.waits 0 x.lasts (fun y hy=>h2 y hy) h1
theorem zrp {s:WS}{k:Nat}(hs:s.Fit k):s.barS.Fit (k+1):=⟨hs.g,hs.pw.spend,hs.sd.barrier _,Nat.le_succ_of_le hs.ss,Nat.le_succ_of_le hs.ll⟩
theorem zrq {s:WS}{k:Nat}(hs:s.Fit k):s.bmpS.Fit (k+1):=⟨hs.g,hs.pw.spend,hs.sd.mono (by omega),Nat.le_succ_of_le hs.ss,Nat.le_succ_of_le hs.ll⟩
theorem zp0 {md:Bool}{s:WS}{k:Nat}(hs:s.Fit k)(a:Int)(ha:0≤a∧a < 2)(lv:List Lf)(hl:(lv.length:Int)=s.n):(s.areaW md a lv).Fit (k+40):=by
 have hg:=z8 hs.g
 have ha':a=0∨a=1:=by omega
 have hbl:=(z5z md (lv.map leafB) s.S).2
 rw [List.length_map] at hbl
 have hss:=hs.ss
 have hll:=hs.ll
 have hlb:=zct lv
 have hnb:=z9w (s.nodes md lv)
 rw [zq9] at hnb
 have o1:0≤lfAt s.n a 0∧lfAt s.n a 0+((lvB lv).length:Nat)≤(((sizeG s.n).toNat:Nat):Int):=by
  rw [zj hs.g];unfold lfAt;rcases ha' with rfl | rfl <;> omega
 have o2:0≤ndAt s.n a 0∧ndAt s.n a 0+((z23 (s.nodes md lv)).length:Nat)≤(((sizeG s.n).toNat:Nat):Int):=by
  rw [zj hs.g];unfold ndAt;rcases ha' with rfl | rfl <;> omega
 have hsd:=hs.sd.write (o:=(lfAt s.n a 0,lvB lv)) o1 s.pw.can
 have hS:(zr md (lv.map leafB) s.S).2.length≤k+40:=by omega
 rw [WS.areaW]
 split
 ·exact ⟨hs.g,hs.pw.spend.spend.mono (by omega),(hsd.write (o:=(ndAt s.n a 0,z23 (s.nodes md lv))) o2 s.pw.spend.can).mono (by omega),hS,by show s.L.length≤_;omega⟩
 ·exact ⟨hs.g,hs.pw.spend.mono (by omega),hsd.mono (by omega),hS,by show s.L.length≤_;omega⟩
end Go.Proofs.YthblcmnhiccnhaaGreat


namespace Go.Proofs.YthblcmnhiccnhaaGreat
open Go Go.Abs

structure WSt (md:Bool)(s:WS)(k:Nat):Prop where
 fit:s.Fit k
 cur:s.ks.cur∈s.ks.epochs∧0≤s.ks.cur∧s.ks.cur < 4294967296
 seq:md=true→Seq s.L
 dat:∀ x∈s.L,x.data.length≤4000
 ct:s.ct.Ok k
theorem CtS.Ok.mono {c:CtS}{k k':Nat}(h:c.Ok k)(hk:k≤k'):c.Ok k':=⟨⟨h.v.1,by have:=h.v.2;omega⟩,⟨h.b.1,by have:=h.b.2;omega⟩,⟨h.a.1,by have:=h.a.2;omega⟩⟩
section
variable {md:Bool}{s:WS}{k:Nat}{boot:Int}{j:Nat}{lv:List Lf}{r:Rt}
theorem WSt.mono {k':Nat}(h:WSt md s k)(hk:k≤k'):WSt md s k':=⟨h.fit.mono hk,h.cur,h.seq,h.dat,h.ct.mono hk⟩
theorem WSt.area (h:WSt md s k)(a:Int)(ha:0≤a∧a < 2)(hl:(lv.length:Int)=s.n):WSt md (s.areaW md a lv) (k+40):=by
 have hf:=zp0 (md:=md) h.fit a ha lv hl
 have e:(s.areaW md a lv).ks=s.ks∧(s.areaW md a lv).L=s.L∧(s.areaW md a lv).ct=s.ct:=by rw [WS.areaW];split <;> exact ⟨rfl,rfl,rfl⟩
 exact ⟨hf,by rw [e.1];exact h.cur,by rw [e.2.1];exact h.seq,by rw [e.2.1];exact h.dat,by rw [e.2.2];exact h.ct.mono (by omega)⟩
theorem WSt.bar (h:WSt md s k):WSt md s.barS (k+1):=⟨zrp h.fit,h.cur,h.seq,h.dat,h.ct.mono (by omega)⟩
theorem WSt.bmp (h:WSt md s k):WSt md s.bmpS (k+1):=⟨zrq h.fit,h.cur,h.seq,h.dat,h.ct.bump _⟩
theorem WSt.log (h:WSt md s k)(boot:Int)(j:Nat)(r:Rt):WSt md (s.logW md boot j r) (k+1) :=
 ⟨zro h.fit,h.cur,fun e=>(h.seq e).sealL _ _ _ _,zj2 h.dat (by simp only [newI,z7i];omega),h.ct.mono (by omega)⟩
theorem znt (s:WS):0≤s.doA∧s.doA < 2:=by unfold WS.doA;omega
theorem zcv {P:Int×WS×Nat→Prop}
  (h1:(s.pw.can&&s.pw.spend.can)=false→P (7,s.areaW md s.doA lv,j))
  (h2:(s.pw.can&&s.pw.spend.can)=true→(s.areaW md s.doA lv).pw.can=false→P (7,(s.areaW md s.doA lv).barS,j))
  (h3:(s.pw.can&&s.pw.spend.can)=true→(s.areaW md s.doA lv).pw.can=true→j=100→P (6,(s.areaW md s.doA lv).barS,j))
  (h4:(s.pw.can&&s.pw.spend.can)=true→(s.areaW md s.doA lv).pw.can=true→j≠100→(s.areaW md s.doA lv).barS.pw.can=false→P (7,(s.areaW md s.doA lv).barS.logW md boot j (s.doR md lv),j+1))
  (h5:(s.pw.can&&s.pw.spend.can)=true→(s.areaW md s.doA lv).pw.can=true→j≠100→(s.areaW md s.doA lv).barS.pw.can=true→((s.areaW md s.doA lv).barS.logW md boot j (s.doR md lv)).pw.can=false→P (7,((s.areaW md s.doA lv).barS.logW md boot j (s.doR md lv)).barS,j+1))
  (h6:(s.pw.can&&s.pw.spend.can)=true→(s.areaW md s.doA lv).pw.can=true→j≠100→(s.areaW md s.doA lv).barS.pw.can=true→((s.areaW md s.doA lv).barS.logW md boot j (s.doR md lv)).pw.can=true→((s.areaW md s.doA lv).barS.logW md boot j (s.doR md lv)).barS.pw.can=false→P (7,((s.areaW md s.doA lv).barS.logW md boot j (s.doR md lv)).barS.bmpS,j+1))
  (h7:(s.pw.can&&s.pw.spend.can)=true→(s.areaW md s.doA lv).pw.can=true→j≠100→(s.areaW md s.doA lv).barS.pw.can=true→((s.areaW md s.doA lv).barS.logW md boot j (s.doR md lv)).pw.can=true→((s.areaW md s.doA lv).barS.logW md boot j (s.doR md lv)).barS.pw.can=true→P (0,((s.areaW md s.doA lv).barS.logW md boot j (s.doR md lv)).barS.bmpS,j+1)) :
  P (s.doC md boot j lv):=by
 have t:∀ {b:Bool},¬ b=false→b=true:=fun h=>by simpa using h
 rw [WS.doC]
 dsimp only
 split
 ·rename_i a1;exact h1 a1
 ·rename_i a1
  split
  ·rename_i a2;exact h2 (t a1) a2
  ·rename_i a2
   split
   ·rename_i a3;exact h3 (t a1) (t a2) a3
   ·rename_i a3
    split
    ·rename_i a4;exact h4 (t a1) (t a2) a3 a4
    ·rename_i a4
     split
     ·rename_i a5;exact h5 (t a1) (t a2) a3 (t a4) a5
     ·rename_i a5
      split
      ·rename_i a6;exact h6 (t a1) (t a2) a3 (t a4) (t a5) a6
      ·rename_i a6;exact h7 (t a1) (t a2) a3 (t a4) (t a5) (t a6)
theorem zth (h:WSt md s k)(hl:(lv.length:Int)=s.n):WSt md (s.doC md boot j lv).2.1 (k+50):=by
 have a1:=h.area s.doA (znt s) hl
 have a2:=a1.bar
 have a3:=a2.log boot j (s.doR md lv)
 have a4:=a3.bar
 have a5:=a4.bmp
 refine zcv (P:=fun d=>WSt md d.2.1 (k+50)) (fun _=>a1.mono (by omega)) (fun _ _=>a2.mono (by omega)) (fun _ _ _=>a2.mono (by omega)) (fun _ _ _ _=>a3.mono (by omega)) (fun _ _ _ _ _=>a4.mono (by omega)) (fun _ _ _ _ _ _=>a5.mono (by omega)) (fun _ _ _ _ _ _=>a5.mono (by omega))
theorem zly (md:Bool)(s:WS)(a:Int)(lv:List Lf):(s.areaW md a lv).ks=s.ks∧(s.areaW md a lv).L=s.L∧(s.areaW md a lv).ct=s.ct∧(s.areaW md a lv).n=s.n:=by rw [WS.areaW];split <;> exact ⟨rfl,rfl,rfl,rfl⟩
theorem doC_n:(s.doC md boot j lv).2.1.n=s.n∧(s.doC md boot j lv).2.1.ks=s.ks:=by
 obtain ⟨e1,_,_,e4⟩:=zly md s s.doA lv
 exact zcv (P:=fun d=>d.2.1.n=s.n∧d.2.1.ks=s.ks) (fun _=>⟨e4,e1⟩) (fun _ _=>⟨e4,e1⟩) (fun _ _ _=>⟨e4,e1⟩) (fun _ _ _ _=>⟨e4,e1⟩) (fun _ _ _ _ _=>⟨e4,e1⟩) (fun _ _ _ _ _ _=>⟨e4,e1⟩) (fun _ _ _ _ _ _=>⟨e4,e1⟩)
theorem doC_j (hj:j≤100):(s.doC md boot j lv).2.2≤100∧j≤(s.doC md boot j lv).2.2:=by
 exact zcv (P:=fun d=>d.2.2≤100∧j≤d.2.2) (fun _=>⟨hj,Nat.le_refl _⟩) (fun _ _=>⟨hj,Nat.le_refl _⟩) (fun _ _ _=>⟨hj,Nat.le_refl _⟩) (fun _ _ _ _=>by dsimp only;omega) (fun _ _ _ _ _=>by dsimp only;omega) (fun _ _ _ _ _ _=>by dsimp only;omega) (fun _ _ _ _ _ _=>by dsimp only;omega)
end
section
variable {md:Bool}{s s':WS}{k:Nat}{boot:Int}{j:Nat}{lv lw:List Lf}{c:Int}{top:Pr}{e v:Int}{b:Bs}{tg:Pr}{r:Rt}
end
end Go.Proofs.YthblcmnhiccnhaaGreat


namespace Go.Proofs.YthblcmnhiccnhaaGreat
open Go Go.Abs

section
variable {md:Bool}{s:WS}{k:Nat}{boot:Int}{j:Nat}{lv:List Lf}{r:Rt}
end
def WS.loadE (md:Bool)(s:WS):Int:=if s.pw.gone then 7 else if s.ct.value=0 then 0 else if s.getE md s.ct.value≠0 then s.getE md s.ct.value else s.readE md (s.ct.value % 2) (s.getT md s.ct.value).g
def WS.loadL (md:Bool)(s:WS):List Lf:=if s.pw.gone then [] else if s.ct.value=0 then List.replicate s.n.toNat lf0 else if s.getE md s.ct.value≠0 then [] else s.readL md (s.ct.value % 2) (s.getT md s.ct.value).g
def WS.loadS (md:Bool)(s:WS):WS:=if s.pw.gone then s else if s.ct.value=0 then s else if s.getE md s.ct.value≠0 then s else s.readS md (s.ct.value % 2)
section
variable {md:Bool}{s:WS}{k:Nat}{lv:List Lf}{top:Pr}{e v:Int}{b:Bs}{tg:Pr}
theorem zcc (hgo:s.pw.gone=false)(hv:s.ct.value=0):s.loadE md=0∧s.loadL md=List.replicate s.n.toNat lf0∧s.loadS md=s :=
 ⟨by rw [WS.loadE,hgo,hv];simp,by rw [WS.loadL,hgo,hv];simp,by rw [WS.loadS,hgo,hv];simp⟩
theorem z9x (md:Bool)(s:WS):(s.loadS md).sd=s.sd∧(s.loadS md).n=s.n∧(s.loadS md).pw=s.pw∧(s.loadS md).ct=s.ct∧(s.loadS md).ks=s.ks∧(s.loadS md).L=s.L:=by
 have hr:∀ a,(s.readS md a).sd=s.sd∧(s.readS md a).n=s.n∧(s.readS md a).pw=s.pw∧(s.readS md a).ct=s.ct∧(s.readS md a).ks=s.ks∧(s.readS md a).L=s.L:=fun a=>by
  rw [WS.readS];split <;> exact ⟨rfl,rfl,rfl,rfl,rfl,rfl⟩
 rw [WS.loadS]
 repeat' split
 ·exact ⟨rfl,rfl,rfl,rfl,rfl,rfl⟩
 ·exact ⟨rfl,rfl,rfl,rfl,rfl,rfl⟩
 ·exact ⟨rfl,rfl,rfl,rfl,rfl,rfl⟩
 ·exact hr _
theorem WSt.load (h:WSt md s k):WSt md (s.loadS md) (k+40):=by
 obtain ⟨e1,e2,e3,e4,e5,e6⟩:=z9x md s
 refine ⟨?_,by rw [e5];exact h.cur,by rw [e6];exact h.seq,by rw [e6];exact h.dat,by rw [e4];exact h.ct.mono (by omega)⟩
 rw [WS.loadS]
 repeat' split
 ·exact h.fit.mono (by omega)
 ·exact h.fit.mono (by omega)
 ·exact h.fit.mono (by omega)
 ·exact zqa h.fit _
end
end Go.Proofs.YthblcmnhiccnhaaGreat


namespace Go.Abs
open Go
section
variable {P:Program}{N:Nat}{e:Env}{h:AHeap}{m:Inj}{w:World}{nm:Nat}
theorem zup {o:Oper}{sz:Nat}{zs:List AV}{x:Opd}(hc:z7 P N o=some (.clr sz zs x)):∃ c xo t el i z,o.op = .call c∧c.callee = .builtin .clear∧c.args.toList=[xo]∧c.argTypes[0]? = some t∧P.underlying t=some (.slice el)∧ofOpd N xo=some x∧P.info? el=some i∧i.zero=some z∧ofL ofV z.cells.toList=some zs∧sz=i.size:=by
  obtain ⟨c,hop⟩:=z8h hc trivial
  simp only [z7,hop] at hc
  split at hc
  case h_4 hcal =>
    repeat' split at hc
    all_goals first
      | (cases hc; exact ⟨_, _, _, _, _, _, hop, hcal, ‹_›, ‹_›, ‹_›, ‹_›, ‹_›, ‹_›, ‹_›, rfl⟩)
      | (cases hc; done)
  all_goals
    (repeat' split at hc
     all_goals (cases hc;done))
theorem XOK.clr {sz:Nat}{zs:List AV}{x:Opd}{id off n:Nat}{c:List (List AV)}(hx:ev e x=some (.ref id off n))(hg:h.get id=some (.mem sz c))(hz:zs.length=sz)(h0:0 < sz):XOK P N (.clr sz zs x) e h (some (.tup [])) (.set id (.mem sz (c.take off++List.replicate n zs++c.drop (off+n)))):=by
 intro o hc e2 hs m w act hr he
 obtain ⟨cl,xo,t,el,i,z,hop,hcal,ha,hat,hu,h1,hinf,hzz,hzs,rfl⟩:=zup hc
 have hx2:ev e2 x=some (.ref id off n):=(z5 fun s h=>hs s (by simp [z10,h])).trans hx
 have ha':cl.args=#[xo]:=by rw [← Array.toArray_toList (xs:=cl.args),ha]
 have e1:=he.eval h1 hx2
 generalize hcx:act.eval xo=cx at e1
 obtain ⟨q1,q2,q3⟩:=z4k (m:=m) (h:=h) (w:=w) hzs
 have hsz:z.cells.size=i.size:=by rw [← hz];simpa using q1.symm
 cases e1 with
 | ref _ _ _ cap a hu' hcp hra =>
  obtain ⟨b,hmb,hle,had,cc,T,hcc,hsz2⟩:=hra _ _ hg
  obtain ⟨b',cc',T',p1,p2,p3,p4⟩:=hr.obj _ _ hg
  rw [hmb] at p1;cases p1
  rw [p2] at hcc;cases hcc
  have hcl:(c.take off++List.replicate n zs++c.drop (off+n)).length=c.length:=by simp;omega
  rcases Nat.eq_zero_or_pos n with hn0 | hn0
  ·subst hn0
   have hcc2:c.take off++List.replicate 0 zs++c.drop (off+0)=c:=by simp
   rw [hcc2]
   refine ⟨m,w,by show HR m (h.set id _) w;rw [z96 hg];exact hr,by show Step m h w m (h.set id _) w;rw [z96 hg];exact Step.refl _ _ _,.tuple #[],?_,.tup _ _ rfl (by simp)⟩
   simp [execOp,hop,resolve,hcal,ha',invoke,builtin,Builtin.clear_,hat,hcx,run_underlying hu]
  ·rcases had with h00 | rfl
   ·omega
   ·have hmul:(off+n)*i.size≤c.length*i.size:=Nat.mul_le_mul_right _ hle
    rw [Nat.add_mul] at hmul
    have hzl:(Builtin.zeroCells z.cells n).toList.length=n*i.size:=by rw [Array.length_toList,size_zeroCells,hsz]
    have hone:∀ u∈(Builtin.zeroCells z.cells n).toList,u.oneCell'=true:=by
     intro u hu2
     obtain ⟨k,hk,rfl⟩:=List.mem_iff_getElem.1 hu2
     rw [hzl] at hk
     have hg2:=z5f (z:=z.cells) (n:=n) (k:=k) (by rw [hsz];exact hk)
     have hg3:(Builtin.zeroCells z.cells n)[k]? = some (Builtin.zeroCells z.cells n).toList[k]:=by rw [← Array.getElem?_toList,List.getElem?_eq_getElem]
     rw [hg3] at hg2
     have hm2:k % z.cells.size < z.cells.size:=Nat.mod_lt _ (by omega)
     have hlt:k % z.cells.size < zs.length:=by omega
     have:=q3 (k % z.cells.size) _ (List.getElem?_eq_getElem hlt)
     have hv2:z.cells.toList.getD (k % z.cells.size) undef=z.cells.getD (k % z.cells.size) undef:=by simp [Array.getD_eq_getD_getElem?,List.getD_eq_getElem?_getD]
     rw [Option.some.inj hg2,← hv2]
     exact this.scalar_one (q2 _ (List.getElem_mem hlt))
    have hst:=run_storeCells_at P b (off*i.size) T (Builtin.zeroCells z.cells n).toList 0 cc w p2 (by rw [hzl];omega) hone
    simp only [Nat.add_zero] at hst
    generalize hnew:(cc.toList.take (off*i.size)++(Builtin.zeroCells z.cells n).toList++cc.toList.drop (off*i.size+(Builtin.zeroCells z.cells n).toList.length)).toArray=c2 at hst
    have hsz':c2.size=cc.size:=by rw [← hnew];simp only [List.size_toArray,List.length_append,List.length_take,List.length_drop,hzl,Array.length_toList];omega
    have hget:∀ k,c2.getD k undef=if off*i.size≤k∧k < off*i.size+n*i.size then (Builtin.zeroCells z.cells n).toList.getD (k - off*i.size) undef else cc.getD k undef:=by
     intro k
     rw [← hnew,z2z cc _ _ (by rw [hzl];omega),hzl]
    have hrow:RowF m h w i.size (c.take off++List.replicate n zs++c.drop (off+n)) (fun k=>c2.getD k undef):=by
     have r1:=p4.take off
     have r2:RowF m h w i.size (List.replicate n zs) (fun k=>c2.getD (off*i.size+k) undef):=zif hzs hsz h0 fun k hk=>by
      rw [hget,if_pos ⟨by omega,by omega⟩,Nat.add_sub_cancel_left]
      have hg2:=z5f (z:=z.cells) (n:=n) (k:=k) (by rw [hsz];exact hk)
      rw [List.getD_eq_getElem?_getD,Array.getElem?_toList,hg2,hsz];rfl
     have r3:=p4.drop (off+n)
     have r12:=RowF.append r1 r2
     have hl1:(c.take off).length=off:=by simp;omega
     have hl12:(c.take off++List.replicate n zs).length=off+n:=by simp;omega
     refine (RowF.append r12 r3).congr fun k hk => ?_
     rw [hl12,hl1,Nat.add_mul]
     rw [hcl] at hk
     by_cases k1:k < off*i.size+n*i.size
     ·rw [if_pos k1]
      by_cases k2:k < off*i.size
      ·rw [if_pos k2,hget,if_neg (by omega)]
      ·rw [if_neg k2,show off*i.size+(k - off*i.size)=k by omega]
     ·rw [if_neg k1,hget,if_neg (by omega)]
      congr 1;omega
    obtain ⟨r1,r2⟩:=zb1 hr hg hmb p2 hsz' hcl p3 hrow
    refine ⟨_,_,r1,r2,.tuple #[],?_,.tup _ _ rfl (by simp)⟩
    obtain ⟨n',rfl⟩:∃ n',n=n'+1:=⟨n - 1,by omega⟩
    simp [execOp,hop,resolve,hcal,ha',invoke,builtin,Builtin.clear_,hat,hcx,run_underlying hu,zeroValue,z18 hinf,hzz,hst]
theorem zrr (hr:HR m h w)(hf:¬ h.used nm){id sz n:Nat}{c:List (List AV)}(hg:h.get id=some (.mem sz c))(hn:n≤c.length){v:Value}(hv:VR m h w (.ref id 0 n) v) :
  ∃ m',HR m' ((h.set id none).put nm (.mem sz (c.take n))) w∧Step m h w m' ((h.set id none).put nm (.mem sz (c.take n))) w∧VR m' ((h.set id none).put nm (.mem sz (c.take n))) w (.ref nm 0 n) v:=by
 cases hv with
 | ref _ _ _ cap a hu hc ha =>
  obtain ⟨b,hb,hle,had,cc,T,hcc,hsz⟩:=ha _ _ hg
  obtain ⟨b',cc',T',q1,q2,q3,q4⟩:=hr.obj _ _ hg
  rw [hb] at q1;cases q1
  rw [q2] at hcc;cases hcc
  obtain ⟨r1,r2⟩:=zg8 (nm:=nm) hr hf hg hb
  have hsame:((h.set id none).put nm (.mem sz (c.take n))).get nm=some (.mem sz (c.take n)):=by simp [AHeap.put]
  -- the same heap but for the row's length
  have st:Step m h w (upd m nm (some (b,0))) ((h.set id none).put nm (.mem sz (c.take n))) w:={
   os:=r2.os,tape:=r2.tape,output:=r2.output,size:=r2.size
   kind:=fun k cc T fz hk hfr=>⟨cc,hk,rfl⟩
   free:=fun k hk hfr=>⟨rfl,fun j s y hgj hmj=>by
    by_cases e:j=nm
    ·subst e;exact (r2.free k hk hfr).2 j s (.mem sz c) (by simp [AHeap.put]) hmj
    ·exact (r2.free k hk hfr).2 j s y (by simpa [AHeap.put,e] using hgj) hmj⟩
   cell:=fun k o v hcell hn2=>⟨hcell,fun ⟨j,s,⟨y,hgj⟩,hmj,hle2⟩=>(r2.cell k o v hcell hn2).2 (by
    by_cases e:j=nm
    ·subst e;exact ⟨j,s,⟨.mem sz c,by simp [AHeap.put]⟩,hmj,hle2⟩
    ·exact ⟨j,s,⟨y,by simpa [AHeap.put,e] using hgj⟩,hmj,hle2⟩)⟩
   used:=fun id hu=>zw (h:=h.set _ none) hu
   live:=fun j x' huj hgj=>by
    have e:j≠nm:=z3e hf huj
    exact r2.live j x' huj (by simpa [AHeap.put,e] using hgj) }
  refine ⟨upd m nm (some (b,0)),⟨(hr.del id).put_gapl,(hr.del id).put_live,fun i j y z b2 s r hi hj hmi hmj => ?_,fun j y hgj => ?_⟩,st,.ref nm 0 n cap a z2 hc fun sz' c' hg' => ?_⟩
  ·have lv:∀ k u,((h.set id none).put nm (.mem sz (c.take n))).get k=some u→∃ u',((h.set id none).put nm (.mem sz c)).get k=some u':=fun k u hk=>by
    by_cases e:k=nm
    ·subst e;exact ⟨_,by simp [AHeap.put];rfl⟩
    ·exact ⟨u,by simpa [AHeap.put,e] using hk⟩
   obtain ⟨y',hy'⟩:=lv i y hi
   obtain ⟨z',hz'⟩:=lv j z hj
   exact r1.inj i j y' z' b2 s r hy' hz' hmi hmj
  ·by_cases e:j=nm
   ·subst e
    simp only [AHeap.put,if_true] at hgj
    cases hgj
    refine ⟨b,cc,T,by simp [upd],q2,?_,(q4.take n).step st⟩
    have:(c.take n).length*sz≤c.length*sz:=Nat.mul_le_mul_right _ (by simp;omega)
    omega
   ·have hgj':(h.set id none).get j=some y:=by simpa [AHeap.put,e] using hgj
    have hne:j≠id:=fun e2=>by subst e2;simp [AHeap.set] at hgj'
    have hgj2:h.get j=some y:=by simpa [AHeap.set,hne] using hgj'
    exact (hr.obj j y hgj2).step st (by simp [upd,e]) fun _ _ _=>rfl
  ·rw [hsame] at hg'
   cases hg'
   exact ⟨b,by simp [upd],by simp;omega,had,cc,T,q2,hsz⟩
theorem Cvt.trim {s id n sz nx:Nat}{c c':List (List AV)}(hs:lk s e=some (.ref id 0 n))(hg:h.get id=some (.mem sz c))(hn:n≤c.length)(hc:c.take n=c')(hx:h.next=nx):Cvt e h ((s,some (.ref nx 0 n))::e) ((h.set id none).put nx (.mem sz c')):=fun N m w a hr he=>by
 subst hx hc
 obtain ⟨m',k1,k2,k3⟩:=zrr hr (z11 hr) hg hn (he.val s _ hs)
 refine ⟨m',k1,?_,k2⟩
 have he':=he.step k2
 refine ⟨he'.size,he'.defers,fun i v hi => ?_⟩
 simp only [z6,z1o] at hi
 split at hi
 ·rename_i e1;subst e1;cases hi;exact k3
 ·exact he'.val i v hi
end
end Go.Abs


namespace Go.Abs
open Go
section
variable {P:Program}{N:Nat}{e:Env}{h:AHeap}{m:Inj}{w:World}{nm:Nat}
theorem zti {o:Oper}{t:Nat}{x:Opd}(hc:z7 P N o=some (.mkif t x)):∃ xo u,o.op = .makeInterface t xo∧P.underlying t=some u∧(∀ ms,u≠.interface ms)∧ofOpd N xo=some x:=by
  cases hop:o.op <;> simp only [z7,hop] at hc <;> try (cases hc;done)
  case makeInterface t2 xo =>
    split at hc
    · cases hc
    · rename_i u hn hu hx
      cases hc
      exact ⟨_,_,rfl,‹_›,fun ms e=>by subst e;exact hn _ rfl,‹_›⟩
    · cases hc
  all_goals
    (repeat' split at hc
     all_goals first
       | (cases hc; done)
       | (rw [Option.map_eq_some_iff] at hc; obtain ⟨_, _, h⟩ := hc; cases h; done)
       | contradiction)
theorem XOK.mkif {t:Nat}{x:Opd}{v:AV}(hx:ev e x=some v):XOK P N (.mkif t x) e h (some (.iface t v)) .none:=by
 intro o hc e2 hs m w a hr he
 obtain ⟨xo,u,hop,hu,hn,h1⟩:=zti hc
 have hx2:ev e2 x=some v:=(z5 fun s h=>hs s (by simp [z10,h])).trans hx
 have e1:=he.eval h1 hx2
 refine OpOK.pure hr (cv := .iface t (a.eval xo)) ?_ (.iface _ _ _ e1)
 simp only [execOp,hop,Instr.makeInterface,Sem.run_bind,run_underlying hu,Result.andThen_ok]
 cases u <;> first | rfl | exact absurd rfl (hn _)
theorem ztj {o:Oper}{t:Nat}{ok:Bool}{z:AV}{x:Opd}(hc:z7 P N o=some (.asrt t ok z x)):∃ xo xt k,o.op = .typeAssert xo xt t ok∧P.underlying t=some (.int k)∧ofOpd N xo=some x:=by
  cases hop:o.op <;> simp only [z7,hop] at hc <;> try (cases hc;done)
  case typeAssert xo xt t2 ok2 =>
    repeat' split at hc
    all_goals first
      | (cases hc; exact ⟨_, _, _, rfl, ‹_›, ‹_›⟩)
      | (cases hc; done)
  all_goals
    (repeat' split at hc
     all_goals first
       | (cases hc; done)
       | (rw [Option.map_eq_some_iff] at hc; obtain ⟨_, _, h⟩ := hc; cases h; done)
       | contradiction)
theorem XOK.asrt {t:Nat}{z:AV}{x:Opd}{v:AV}(hx:ev e x=some (.iface t v)):XOK P N (.asrt t true z x) e h (some (.tup [v,.bool true])) .none:=by
 intro o hc e2 hs m w a hr he
 obtain ⟨xo,xt,k,hop,hu,h1⟩:=ztj hc
 have hx2:ev e2 x=some (.iface t v):=(z5 fun s h=>hs s (by simp [z10,h])).trans hx
 have e1:=he.eval h1 hx2
 generalize hcx:a.eval xo=cx at e1
 cases e1 with
 | iface _ _ c q =>
  refine OpOK.pure hr (cv := .tuple #[c,.bool true]) ?_ (.tup _ _ rfl fun i v hi => ?_)
  ·simp [execOp,hop,Instr.typeAssert,Sem.run_bind,run_underlying hu,hcx]
  ·rcases i with _ | _ | i
   ·cases hi;exact q
   ·cases hi;exact .bool _
   ·simp at hi
def methF (P:Program)(t:Nat)(nm:String):Option Nat :=
 match P.info? t,P.underlying t with
 | some i, some (.pointer _) => match i.methods.find? (·.name == nm) with
  | some m => if m.path.toList.isEmpty then match m.func with
   | some (f, true) => some f
   | _ => none
   else none
  | none => none
 | _, _ => none
theorem zgg {t f:Nat}{s:String}(hm:methF P t s=some f)(fuel:Nat)(v:Value)(w:World):(method (fuel+1) t v s).run P w = .ok (f,v) w:=by
 unfold methF at hm
 split at hm
 ·rename_i i q hi hu
  split at hm
  ·rename_i mt hmt
   split at hm
   ·rename_i hp
    split at hm
    ·rename_i g hg
     cases hm
     have hp2:mt.path.toList=[]:=by simpa using hp
     simp [method,z18 hi,hmt,hp2,follow,hg,receiverAt,run_underlying hu,Place.get]
    ·cases hm
   ·cases hm
  ·cases hm
 ·cases hm
theorem zqd {o:Oper}{s:String}{x:Opd}{xs:List Opd}(hc:z7 P N o=some (.inv s x xs)):∃ c xo,o.op = .call c∧c.callee = .invoke xo s∧ofOpd N xo=some x∧ofL (ofOpd N) c.args.toList=some xs:=by
 obtain ⟨c,hop⟩:=z8h hc trivial
 simp only [z7,hop] at hc
 repeat' split at hc
 all_goals first
  | (cases hc; exact ⟨_, _, hop, ‹_›, ‹_›, ‹_›⟩)
  | (cases hc; done)
theorem FX.inv {h':AHeap}{d:Option Nat}{f t:Nat}{s:String}{x:Opd}{xs:List Opd}{g:Option (Nat×Bool)}{v:AV}{vs:List AV}{r:AV}(hx:ev e x=some (.iface t v))(hv:evL e xs=some vs)(hg:met e g)(hm:methF P t s=some f)(hb:z2j P f=true)(hac:AE P f (v::vs) h r h'):FX P N ⟨d,.raw (.inv s x xs),g⟩ e h (some r) h':=by
  intro ops i o ho hc e2 hs m w a K Q hr he hk
  have hraw:=z71 hc rfl
  rcases zx hc with ⟨hb1,hb2⟩ | ⟨hd,hdst,_,hgd⟩
  · cases hb1
  · obtain ⟨w1,w2⟩:=zl he hgd
    have hi:∀ s2∈z10 (.inv s x xs),lk s2 e2=lk s2 e:=fun s2 h=>hs s2 (by unfold zk;split <;> simp [z16,h])
    have hw:Region.wanted o (yielded ops a.tmps)=true:=by
      cases g with
      | none => exact w1 rfl
      | some sb =>
        obtain ⟨s2,b⟩:=sb
        have hl:lk s2 e2=some (.bool b):=(hs s2 (by simp [zk])).trans hg
        rw [w2 s2 b b rfl hl];simp
    simp only [wpOp,ho]
    rw [if_pos hw]
    left
    obtain ⟨c,y,hop,hcal,hy,hxs⟩:=zqd hraw
    have hi1:∀ s2∈z1p xs,lk s2 e2=lk s2 e:=fun s2 h=>hi s2 (by unfold z10;simp [h])
    have hi2:∀ s2∈zh x,lk s2 e2=lk s2 e:=fun s2 h=>hi s2 (by unfold z10;simp [h])
    obtain ⟨hl1,hl2⟩:=he.evalL hxs ((z25 hi1).trans hv)
    have hfv:=he.eval hy ((z5 hi2).trans hx)
    generalize hcx:a.eval y=cx at hfv
    cases hfv with
    | iface _ _ cv q =>
      have hx1:∀ (u:Value) (X:Array Value),(#[u]++X)[0]? = some u:=fun u X=>by rw [Array.getElem?_append_left (by simp)];rfl
      have hx2:∀ (u:Value) (X:Array Value),(#[u]++X).extract 1 (#[u]++X).size=X:=fun u X=>by
        apply Array.ext'
        simp
      have hx3:P.types.size+Made.depth=(P.types.size+99)+1:=rfl
      have hrun:(execOp a.eval o).run P w = .ok (.enter f (#[cv]++c.args.map a.eval)) w:=by
        simp only [execOp,hop,resolve,hcal,hcx,Sem.run_bind,Sem.run_pure,Result.andThen_ok,invoke,hx1,hx2,callMethod,run_program,hx3,zgg hm,z1b hb]
      refine z3g hrun hr (by have:vs.length=c.args.size:=by simpa using hl1
                             simp;omega) (fun j v2 hj => ?_) hac fun v2 w' m' r1 h1 g1 g2 g3 ⟨g4,g5⟩ => ?_
      · simp only [Array.getD_eq_getD_getElem?]
        rcases j with _ | j
        · cases hj
          rw [hx1]
          exact q
        · have:=hl2 j v2 (by simpa using hj)
          rw [Array.getElem?_append_right (by simp)]
          simpa [List.getD_eq_getElem?_getD] using this
      · subst g4;subst g5
        refine hk m' w' _ g1 ?_ g3
        have hd':d=o.dst:=hd
        show ER N m' h1 w' (putR d (some r1) e2) _
        rw [hd']
        exact (he.step g3).putR hdst g2
theorem WW.live {c:CC}{Q:Exit→Env→AHeap→Prop}(k:(∀ id x,h.get id=some x→h.used id)→WW P N c Q e h):WW P N c Q e h:=⟨fun code hc m w a hr he=>(k hr.live).out code hc m w a hr he⟩
theorem WL.live {l:List CI}{Q:Exit→Env→AHeap→Prop}(k:(∀ id x,h.get id=some x→h.used id)→WL P N l Q e h):WL P N l Q e h:=⟨fun ops idx h1 h2 m w a hr he=>(k hr.live).out ops idx h1 h2 m w a hr he⟩
end
end Go.Abs


set_option maxRecDepth 100000
namespace Go.Proofs.YthblcmnhiccnhaaGreat
open Go Go.Abs

def zdz:CC := .seq (.reg [qM 6 (.c (.int .i64 0))]) (.seq (.seq (.reg [qM 12 (.t 0),qQ 13 (.eqv .p false (.t 12) (.c .nilp))]) (.cond (.t 13) (.seq (.reg [qM 6 (.c (.int .i64 1))]) .ret) .skip)) (.seq (.reg [qM 14 (.t 0),qQ 15 (.nilck (.t 14)),qQ 16 (.faddr 4 (.t 15)),qQ 17 (.load 1 false (.t 16)),qQ 18 (.call 48 [.t 17]),qQ 19 (.bin .add (.t 18) (.c (.int .u64 1))),qM 7 (.t 19)]) (.seq (.reg [qM 21 (.t 0),qM 22 (.t 7),qQ 23 (.bin .rem (.t 22) (.c (.int .u64 2))),qQ 24 (.conv .i64 (.t 23)),qM 25 (.t 2),qQ 26 (.call 253 [.t 21,.t 24,.t 25]),qM 20 (.t 26),qQ 27 (.ext 0 (.t 20)),qQ 28 (.ext 1 (.t 20)),qQ 8 (.alloc [.int .u64 0,.int .u64 0]),qR (.store 2 (.t 8) (.t 27)),qM 9 (.t 28)]) (.seq (.seq (.reg [qM 29 (.t 9),qQ 30 (.bin .neq (.t 29) (.c (.int .i64 0)))]) (.cond (.t 30) (.seq (.reg [qM 31 (.t 9),qM 6 (.t 31)]) .ret) .skip)) (.seq (.seq (.reg [qM 32 (.t 0),qQ 33 (.nilck (.t 32)),qQ 34 (.faddr 2 (.t 33)),qQ 35 (.load 1 false (.t 34)),qQ 36 (.call 254 [.t 35]),qQ 37 (.not (.t 36))]) (.cond (.t 37) (.seq (.reg [qM 6 (.c (.int .i64 7))]) .ret) .skip)) (.seq (.dreg [qM 38 (.t 7),qM 39 (.t 0),qQ 40 (.nilck (.t 39)),qQ 41 (.faddr 5 (.t 40)),qQ 42 (.load 1 false (.t 41)),qQ 43 (.call 30 [.t 42]),qM 44 (.t 0),qQ 45 (.nilck (.t 44)),qQ 46 (.faddr 0 (.t 45)),qQ 47 (.faddr 0 (.t 46)),qQ 48 (.load 1 false (.t 47)),qQ 49 (.load 2 true (.t 8)),qQ 50 (.build [.int .u64 0,.int .u32 0,.int .i64 0,.int .u64 0,.int .u64 0] [(0,1,.t 38),(1,1,.t 43),(2,1,.t 48),(3,2,.t 49)]),qQ 10 (.alloc [.int .u64 0,.int .u32 0,.int .i64 0,.int .u64 0,.int .u64 0]),qR (.store 5 (.t 10) (.t 50))] [[],[],[1],[2],[3],[4],[],[6],[7],[8],[9],[],[0,5,10,11],[],[13,12,5,0,1,2,3,4,5,6,7,8,9,10,11,12,13]]) (.seq (.seq (.reg [qM 51 (.t 0),qM 52 (.t 1),qQ 53 (.load 5 true (.t 10)),qQ 54 (.call 255 [.t 51,.t 52,.t 53]),qM 11 (.t 54)]) (.seq (.reg [qM 55 (.t 11),qQ 56 (.bin .neq (.t 55) (.c (.int .i64 0)))]) (.cond (.t 56) (.seq (.reg [qM 57 (.t 11),qM 6 (.t 57)]) .ret) .skip))) (.seq (.seq (.reg [qM 58 (.t 0),qQ 59 (.nilck (.t 58)),qQ 60 (.faddr 2 (.t 59)),qQ 61 (.load 1 false (.t 60)),qQ 62 (.call 254 [.t 61]),qQ 63 (.not (.t 62)),qM 64 (.t 63),qG 65 (.mov (.t 0)) 64 false,qG 66 (.nilck (.t 65)) 64 false,qG 67 (.faddr 4 (.t 66)) 64 false,qG 68 (.load 1 false (.t 67)) 64 false,qG 69 (.call 256 [.t 68]) 64 false,qG 70 (.not (.t 69)) 64 false,qQ 71 (.pick (.t 64) (.c (.bool true)) (.t 70))]) (.cond (.t 71) (.seq (.reg [qM 6 (.c (.int .i64 7))]) .ret) .skip)) (.seq (.reg [qM 6 (.c (.int .i64 0))]) .ret)))))))))
theorem zlz:FnIs Tryz.prog 205 72 zdz [.t 6]:=⟨Tryz.f205,_,Tryz.func205,rfl,rfl,by kernel_rfl,by kernel_rfl⟩

def zak:CC := .seq (.reg [qM 2 (.c .nils),qM 3 (.c (.int .i64 0))]) (.seq (.block 0 (.seq (.reg [qM 8 (.t 0),qQ 9 (.eqv .p false (.t 8) (.c .nilp)),qM 7 (.t 9)]) (.cond (.t 7) (.seq (.reg [qM 2 (.c .nils),qM 3 (.c (.int .i64 1))]) .ret) (.seq (.reg [qM 11 (.t 0),qQ 12 (.nilck (.t 11)),qQ 13 (.faddr 1 (.t 12)),qQ 14 (.load 1 false (.t 13)),qQ 15 (.call 71 [.t 14]),qQ 16 (.not (.t 15)),qM 10 (.t 16)]) (.cond (.t 10) (.seq (.reg [qM 2 (.c .nils),qM 3 (.c (.int .i64 7))]) .ret) .skip))))) (.seq (.reg [qM 17 (.t 0),qQ 18 (.nilck (.t 17)),qQ 19 (.faddr 4 (.t 18)),qQ 20 (.load 1 false (.t 19)),qQ 21 (.call 48 [.t 20]),qM 4 (.t 21)]) (.seq (.seq (.reg [qM 22 (.t 4),qQ 23 (.bin .eql (.t 22) (.c (.int .u64 0)))]) (.cond (.t 23) (.seq (.reg [qM 24 (.t 0),qQ 25 (.nilck (.t 24)),qQ 26 (.faddr 0 (.t 25)),qQ 27 (.faddr 0 (.t 26)),qQ 28 (.load 1 false (.t 27)),qQ 29 (.mksl 8 [.int .i64 0,.bool false,.int .i64 0,.int .u32 0,.int .u32 0,.int .u64 0,.int .u64 0,.int .u64 0] 56 (.t 28) (.t 28)),qM 2 (.t 29),qM 3 (.c (.int .i64 0))]) .ret) .skip)) (.seq (.reg [qM 31 (.t 0),qM 32 (.t 4),qQ 33 (.call 123 [.t 31,.t 32]),qM 30 (.t 33),qQ 34 (.ext 0 (.t 30)),qQ 35 (.ext 1 (.t 30)),qQ 5 (.alloc [.int .u64 0,.int .u32 0,.int .i64 0,.int .u64 0,.int .u64 0]),qR (.store 5 (.t 5) (.t 34)),qM 6 (.t 35)]) (.seq (.seq (.reg [qM 36 (.t 6),qQ 37 (.bin .neq (.t 36) (.c (.int .i64 0)))]) (.cond (.t 37) (.seq (.reg [qM 38 (.t 6),qM 2 (.c .nils),qM 3 (.t 38)]) .ret) .skip)) (.seq (.reg [qM 39 (.t 0),qM 40 (.t 4),qQ 41 (.bin .rem (.t 40) (.c (.int .u64 2))),qQ 42 (.conv .i64 (.t 41)),qQ 43 (.faddr 3 (.t 5)),qQ 44 (.load 2 true (.t 43)),qQ 45 (.call 124 [.t 39,.t 42,.t 44]),qQ 46 (.ext 0 (.t 45)),qQ 47 (.ext 1 (.t 45)),qM 2 (.t 46),qM 3 (.t 47)]) .ret))))))
theorem zht:FnIs Tryz.prog 73 48 zak [.t 2,.t 3]:=⟨Tryz.f73,_,Tryz.func73,rfl,rfl,by kernel_rfl,by kernel_rfl⟩

end Go.Proofs.YthblcmnhiccnhaaGreat


namespace Go.Proofs.YthblcmnhiccnhaaGreat
open Go Go.Abs

section
variable {md:Bool}{s:WS}{boot:Int}{j:Nat}{lv:List Lf}
theorem doC_1 (a1:(s.pw.can&&s.pw.spend.can)=false):s.doC md boot j lv=(7,s.areaW md s.doA lv,j):=by
 rw [WS.doC];dsimp only;rw [if_pos a1]
theorem doC_2 (a1:(s.pw.can&&s.pw.spend.can)=true)(a2:(s.areaW md s.doA lv).pw.can=false):s.doC md boot j lv=(7,(s.areaW md s.doA lv).barS,j):=by
 rw [WS.doC];dsimp only;rw [if_neg (by rw [a1];simp),if_pos a2]
theorem doC_3 (a1:(s.pw.can&&s.pw.spend.can)=true)(a2:(s.areaW md s.doA lv).pw.can=true)(a3:j=100):s.doC md boot j lv=(6,(s.areaW md s.doA lv).barS,j):=by
 rw [WS.doC];dsimp only;rw [if_neg (by rw [a1];simp),if_neg (by rw [a2];simp),if_pos a3]
theorem doC_4 (a1:(s.pw.can&&s.pw.spend.can)=true)(a2:(s.areaW md s.doA lv).pw.can=true)(a3:j≠100):s.doC md boot j lv =
    (let s3:=(s.areaW md s.doA lv).barS.logW md boot j (s.doR md lv)
     if (s.areaW md s.doA lv).barS.pw.can=false then (7,s3,j+1)
     else if s3.pw.can=false then (7,s3.barS,j+1)
     else if s3.barS.pw.can=false then (7,s3.barS.bmpS,j+1)
     else (0,s3.barS.bmpS,j+1)):=by
  rw [WS.doC];dsimp only;rw [if_neg (by rw [a1];simp),if_neg (by rw [a2];simp),if_neg a3]
end
theorem zqe {md:Bool}{h:AHeap}{n:WN}{s:WS}{k:Nat}(hg:WG md h n s)(hs:s.Fit k)(hk:k≤90000):AE Tryz.prog 254 [.ptr (n.a+1) 0 0] h (.bool s.pw.can) (sdPut n.sdN s.pw.spend (s.sd.barrier s.pw.can) h):=by
 have hgg:=z8 hs.g
 have hll:s.sd.lasts.length=(s.n*160+120).toNat:=by rw [hs.sd.len,zj hs.g]
 have hfit:∀ o∈s.sd.waits,0≤o.1∧o.1+o.2.length≤s.sd.lasts.length:=fun o ho=>by have:=hs.sd.w o ho;rw [zj hs.g] at this;omega
 exact zhr hg.w.sd hs.pw (by omega) (by omega) (Nat.le_trans hs.sd.kw (by omega)) (Nat.le_trans hs.sd.kt (by omega)) hfit
set_option maxHeartbeats 4000000 in
theorem zm0 {md:Bool}{h:AHeap}{n:WN}{s:WS}{k:Nat}(hg:WG md h n s)(hs:WSt md s k)(hk:k≤80000){mk:Nat}{boot:Int}{j:Nat}(hm:BoxAt h mk (mkO boot j))(hb:0≤boot∧boot < 4294967296)(hj:j≤100)(hne:¬ n.nm md mk)(lv:List Lf){v:AV}{E:Nat}(hv:RowV h v lv E)(hl:(lv.length:Int)=s.n)(hw:∀ x∈lv,x.Wf)(hok:lvOk lv 0=true) :
  AC Tryz.prog 205 [.ptr (n.a+10) 0 0,.ptr mk 0 0,v] h
   (fun r h'=>r = .int .i64 (s.doC md boot j lv).1∧WG md h' n (s.doC md boot j lv).2.1∧BoxAt h' mk (mkO boot (s.doC md boot j lv).2.2)∧Kp (fun id=>n.own md id∨id=mk) h h'):=by
 refine AC.introW zlz (by simp) ?_
 unfold zdz;dsimp only [qQ,qR,qM,qG]
 have hob:=hg.w.w
 simp only [wRow] at hob
 have hlt:∀ id,n.nm md id→id < h.next:=fun id hi=>(hg.us id hi).1
 have hmk:mk < h.next:=hm.u.1
 have hna:n.a+11≤h.next:=hg.w.nx
 have hnB:n.B < h.next∧n.E < h.next:=hg.w.nB
 have hoB:=hg.w.oB
 have hop:=hg.w.op
 have hgg:=z8 hs.fit.g
 obtain ⟨⟨cv1,cv2⟩,⟨cb1,cb2⟩,⟨ca1,ca2⟩⟩:=hs.ct
 have hown:∀ id,n.own md id→¬ id=mk:=fun id hi e=>hne (e ▸ .inl (WN.own_all hi))
 (refine go ?_)
 refine WL.call rfl gM gSL (z4s (p:=n.p) hg.w.ct) ?_
 (refine go ?_)
 have hmod:(s.ct.value+1).tmod 2=s.doA:=Int.tmod_eq_emod_of_nonneg (by omega)
 have ha:=znt s
 rw [hmod,z1z (k := .i64) (n:=s.doA) (by constructor <;> omega)]
 have f1:=hs.area (md:=md) (lv:=lv) s.doA ha hl
 refine WL.callA rfl gM gSL (zk1 hg hs.fit (by omega) s.doA ha lv hv hl hw hok) ?_
 rintro _ h2 ⟨rfl,g2,k2⟩
 have b2:=hm.kp k2 (fun hi=>hown _ hi rfl)
 have k2':Kp (fun id=>n.own md id∨id=mk) h h2:=k2.mono fun _ _ hi => .inl hi
 have hx2:=k2.next
 clear k2 hob
 cases a1:(s.pw.can&&s.pw.spend.can) with
 | false =>
  rw [doC_1 a1]
  (refine go ?_)
  refine WW.ret ⟨.inl rfl,_,gRES,rfl,g2.new (by repeat first | exact Kp.refl | assumption | with_reducible refine Kp.put ?_ (by omega) _ | with_reducible refine Kp.setN ?_ (by omega) _ | with_reducible refine Kp.keep ?_ _ | with_reducible refine Kp.setW ?_ (by rfl) _),b2.kp (W:=fun _=>False) (by repeat first | exact Kp.refl | assumption | with_reducible refine Kp.put ?_ (by omega) _ | with_reducible refine Kp.setN ?_ (by omega) _ | with_reducible refine Kp.keep ?_ _ | with_reducible refine Kp.setW ?_ (by rfl) _) (fun h=>h),?_⟩
  exact k2'.trans (((by repeat first | exact Kp.refl | assumption | with_reducible refine Kp.put ?_ (by omega) _ | with_reducible refine Kp.setN ?_ (by omega) _ | with_reducible refine Kp.keep ?_ _ | with_reducible refine Kp.setW ?_ (by rfl) _):Kp (fun _=>False) h2 _).mono fun _ _ h=>h.elim)
 | true =>
  simp only [if_true]
  rw [show (s.nodes md lv).getD 1 (0,0)=(s.doR md lv).g from rfl]
  generalize htop:(s.doR md lv).g=top
  have hob:=g2.w.w
  simp only [wRow] at hob
  (refine go ?_)
  refine WL.named (fun h3=>WG md h3 n (s.areaW md s.doA lv)∧BoxAt h3 mk (mkO boot j)∧Kp (fun id=>n.own md id∨id=mk) h h3∧BoxAt h3 h2.next (.mem 2 [encP top])∧h2.next < h3.next) ⟨g2.new (by repeat first | exact Kp.refl | assumption | with_reducible refine Kp.put ?_ (by omega) _ | with_reducible refine Kp.setN ?_ (by omega) _ | with_reducible refine Kp.keep ?_ _ | with_reducible refine Kp.setW ?_ (by rfl) _),b2.kp (W:=fun _=>False) (by repeat first | exact Kp.refl | assumption | with_reducible refine Kp.put ?_ (by omega) _ | with_reducible refine Kp.setN ?_ (by omega) _ | with_reducible refine Kp.keep ?_ _ | with_reducible refine Kp.setW ?_ (by rfl) _) (fun h=>h),k2'.trans (((by repeat first | exact Kp.refl | assumption | with_reducible refine Kp.put ?_ (by omega) _ | with_reducible refine Kp.setN ?_ (by omega) _ | with_reducible refine Kp.keep ?_ _ | with_reducible refine Kp.setW ?_ (by rfl) _):Kp (fun _=>False) h2 _).mono fun _ _ h=>h.elim),⟨z2 (x := .tail 0 0),gH⟩,(z2 (x := .tail 0 0)).1⟩ ?_
  generalize h2.next=tp at *
  clear g2 b2 k2' hob
  rintro h3 ⟨g3,b3,k3,t3,hx3⟩
  have hob:=g3.w.w
  simp only [wRow] at hob
  refine WL.call rfl gM gSL (zqe g3 f1.fit (by omega)) ?_
  have htp:∀ id,n.own md id→¬ id=tp:=fun id hi e=>by have:=hlt id (.inl (WN.own_all hi));omega
  refine WL.named (fun h4=>WG md h4 n (s.areaW md s.doA lv).barS∧BoxAt h4 mk (mkO boot j)∧Kp (fun id=>n.own md id∨id=mk) h h4∧BoxAt h4 tp (.mem 2 [encP top])∧tp < h4.next) ⟨g3.step (g3.w.putSd _ _) (kp_sd n _ _),b3.kp (kp_sd n _ _) (fun hi=>hown _ hi rfl),k3.trans ((kp_sd n _ _).mono fun _ _ hi => .inl hi),t3.kp (kp_sd n _ _) (fun hi=>htp _ hi rfl),hx3⟩ ?_
  clear g3 b3 k3 t3 hx3 hob
  rintro h4 ⟨g4,b4,k4,t4,hx4⟩
  have hob:=g4.w.w
  simp only [wRow] at hob
  cases a2:(s.areaW md s.doA lv).pw.can with
  | false =>
   rw [doC_2 a1 a2]
   (refine go ?_)
   exact WW.ret ⟨.inl rfl,_,gRES,rfl,g4,b4,k4⟩
  | true =>
   have q4:=t4.g
   obtain ⟨nx,hnx⟩:∃ nx,h4.next=nx:=⟨_,rfl⟩
   obtain ⟨e1,e2,e3,e4⟩:=zly md s s.doA lv
   have eks:(s.areaW md s.doA lv).barS.ks=s.ks:=e1
   have en:(s.areaW md s.doA lv).barS.n=s.n:=e4
   have hna4:n.a+11≤h4.next:=g4.w.nx
   rw [en] at hob
   have hcr:∀ h5:AHeap,h5.get (n.a+9)=h4.get (n.a+9)→h5.get n.E=h4.get n.E→AE Tryz.prog 30 [.ptr (n.a+9) 0 0] h5 (.int .u32 s.ks.cur) h5:=fun h5 x1 x2=>by
    have:=z1r (g4.w.ks.same x1 x2)
    rw [eks] at this
    exact this
   have hR:encRt (s.doR md lv)=[.int .u64 (s.ct.value+1),.int .u32 s.ks.cur,.int .i64 s.n,.int .u64 top.1,.int .u64 top.2]:=by rw [← htop];rfl
   have hss:=hs.fit.ss
   have wr:(s.doR md lv).Wf:=by
    have ht:=(zn2 md (lv.map leafB) s.S (by rw [List.length_map];omega)).2
    have hbl:=(z5z md (lv.map leafB) s.S).2
    rw [List.length_map] at hbl
    have hwt:=ht.wfG (j:=1) (by omega) (by omega) (by rw [List.length_map];omega)
    exact ⟨by show 0≤s.ct.value+1∧s.ct.value+1 < _;omega,hs.cur.2,hwt.1,hwt.2⟩
   (repeat first | refine WL.go ?_ | refine WW.seq ?_ | refine WW.reg ?_ | refine WL.nil ?_ | refine WW.skip ?_ | refine WW.block ?_ | refine WW.exit ?_ | refine WW.condT rfl ?_ | refine WW.condF rfl ?_ | refine WL.gox ?_ | refine thenN ?_ | refine blkN ?_)
   refine WW.dregA [13] [5,14] [5] [4,10,11] [] gN (by decide +kernel) ?_
   (repeat first | refine DA.go ?_ | refine DA.goF ?_ | refine DA.new ?_ | refine DA.set ?_ | refine DA.endL ?_ | refine thenN ?_ | refine blkN ?_)
   refine DA.callP rfl gM gSL rfl rfl rfl (fun h5 hs=>hcr h5 (hs.2 _ (by omega)) (hs.2 _ (by omega))) ?_
   (repeat first | refine DA.go ?_ | refine DA.goF ?_ | refine DA.new ?_ | refine DA.set ?_ | refine DA.endL ?_ | refine thenN ?_ | refine blkN ?_)
   refine WW.named (fun h5=>WG md h5 n (s.areaW md s.doA lv).barS∧BoxAt h5 mk (mkO boot j)∧Kp (fun id=>n.own md id∨id=mk) h h5∧h5.get nx=some (.mem 5 [encRt (s.doR md lv)])) ⟨g4.new (by repeat first | exact Kp.refl | assumption | with_reducible refine Kp.put ?_ (by omega) _ | with_reducible refine Kp.setN ?_ (by omega) _ | with_reducible refine Kp.keep ?_ _ | with_reducible refine Kp.setW ?_ (by rfl) _),b4.kp (W:=fun _=>False) (by repeat first | exact Kp.refl | assumption | with_reducible refine Kp.put ?_ (by omega) _ | with_reducible refine Kp.setN ?_ (by omega) _ | with_reducible refine Kp.keep ?_ _ | with_reducible refine Kp.setW ?_ (by rfl) _) (fun h=>h),k4.trans (((by repeat first | exact Kp.refl | assumption | with_reducible refine Kp.put ?_ (by omega) _ | with_reducible refine Kp.setN ?_ (by omega) _ | with_reducible refine Kp.keep ?_ _ | with_reducible refine Kp.setW ?_ (by rfl) _):Kp (fun _=>False) h4 _).mono fun _ _ h=>h.elim),by rw [hR];exact gH⟩ ?_
   clear g4 b4 k4 t4 q4 hob hcr
   rintro h5 ⟨g5,b5,k5,q5⟩
   (refine go ?_)
   have f2:=f1.bar
   by_cases a3:j=100
   ·rw [doC_3 a1 a2 a3]
    subst a3
    refine WL.call rfl gM gSL (zoz g5 f2.cur.2 b5 (s.doR md lv) wr hs.fit.g en.symm) ?_
    (refine go ?_)
    exact WW.ret ⟨.inl rfl,_,gRES,rfl,g5,b5,k5⟩
   rw [doC_4 a1 a2 a3]
   dsimp only
   refine WL.callA rfl gM gSL (zoy g5 f2.fit (by omega) f2.cur.2 b5 hb (by omega) hne (s.doR md lv) wr hs.fit.g en.symm) ?_
   rintro _ h6 ⟨rfl,g6,b6,k6⟩
   have f3:=f2.log boot j (s.doR md lv)
   have k7:=k5.trans k6
   clear g5 b5 k5 k6 q5
   cases a4:(s.areaW md s.doA lv).barS.pw.can with
   | false =>
    simp only [if_true]
    (refine go ?_)
    exact WW.ret ⟨.inl rfl,_,gRES,rfl,g6,b6,k7⟩
   | true =>
    simp only [if_true,Bool.true_eq_false,if_false]
    have f4:=f3.bar
    generalize (s.areaW md s.doA lv).barS.logW md boot j (s.doR md lv)=s3 at *
    have hob:=g6.w.w
    simp only [wRow] at hob
    (refine go ?_)
    refine WL.call rfl gM gSL (zqe g6 f3.fit (by omega)) ?_
    refine WL.named (fun h7=>WG md h7 n s3.barS∧BoxAt h7 mk (mkO boot (j+1))∧Kp (fun id=>n.own md id∨id=mk) h h7) ⟨g6.step (g6.w.putSd _ _) (kp_sd n _ _),b6.kp (kp_sd n _ _) (fun hi=>hown _ hi rfl),k7.trans ((kp_sd n _ _).mono fun _ _ hi => .inl hi)⟩ ?_
    clear g6 b6 k7 hob
    rintro h7 ⟨g7,b7,k7⟩
    have hob:=g7.w.w
    simp only [wRow] at hob
    cases a5:s3.pw.can with
    | false =>
     simp only [if_true]
     (refine go ?_)
     exact WW.ret ⟨.inl rfl,_,gRES,rfl,g7,b7,k7⟩
    | true =>
     simp only [Bool.true_eq_false,if_false]
     (refine go ?_)
     refine WL.call rfl gM gSL (zjw (p:=n.p) g7.w.sd.pw g7.w.ct f4.fit.pw f4.ct (by omega)) ?_
     refine WL.named (fun h8=>WG md h8 n s3.barS.bmpS∧BoxAt h8 mk (mkO boot (j+1))∧Kp (fun id=>n.own md id∨id=mk) h h8) ⟨g7.step (g7.w.putCt _ _) (kp_ct n _ _),b7.kp (kp_ct n _ _) (fun hi=>hown _ hi rfl),k7.trans ((kp_ct n _ _).mono fun _ _ hi => .inl hi)⟩ ?_
     clear g7 b7 k7 hob
     rintro h8 ⟨g8,b8,k8⟩
     cases a6:s3.barS.pw.can with
     | false =>
      simp only [if_true]
      (refine go ?_)
      exact WW.ret ⟨.inl rfl,_,gRES,rfl,g8,b8,k8⟩
     | true =>
      simp only [Bool.true_eq_false,if_false]
      (refine go ?_)
      exact WW.ret ⟨.inl rfl,_,gRES,rfl,g8,b8,k8⟩
set_option maxHeartbeats 1000000 in
theorem zhu {md:Bool}{h:AHeap}{n:WN}{s:WS}{k:Nat}(hg:WG md h n s)(hs:WSt md s k)(hk:k≤80000) :
  AC Tryz.prog 73 [.ptr (n.a+10) 0 0] h
   (fun r h'=>∃ v,r = .tup [v,.int .i64 (s.loadE md)]∧LdV h' v (s.loadE md) (s.loadL md) h.next∧WG md h' n (s.loadS md)∧Kp (n.own md) h h'):=by
 refine AC.introW zht (by simp) ?_
 unfold zak;dsimp only [qQ,qR,qM,qG]
 have hob:=hg.w.w
 simp only [wRow] at hob
 have hna:n.a+11≤h.next:=hg.w.nx
 have hnB:n.B < h.next∧n.E < h.next:=hg.w.nB
 have hoB:=hg.w.oB
 have hgg:=z8 hs.fit.g
 have hlt:∀ id,n.nm md id→id < h.next:=fun id hi=>(hg.us id hi).1
 obtain ⟨⟨cv1,cv2⟩,⟨cb1,cb2⟩,⟨ca1,ca2⟩⟩:=hs.ct
 (refine go ?_)
 refine WL.call rfl gM gSL (z1x hg.w.sd.pw) ?_
 cases hgo:s.pw.gone with
 | true =>
  have h1:s.loadE md=7:=by rw [WS.loadE,hgo,if_pos rfl]
  have h2:s.loadL md=[]:=by rw [WS.loadL,hgo,if_pos rfl]
  have h3:s.loadS md=s:=by rw [WS.loadS,hgo,if_pos rfl]
  rw [h1,h2,h3]
  (refine go ?_)
  exact WW.ret ⟨.inl rfl,_,gRES,_,rfl,.no (by decide),hg,Kp.refl⟩
 | false =>
  (refine go ?_)
  refine WL.call rfl gM gSL (z4s (p:=n.p) hg.w.ct) ?_
  (refine go ?_)
  (refine WW.ifB rfl (fun hz1 => ?_) (fun hz1 => ?_))
  ·obtain ⟨h1,h2,h3⟩:=zcc (md:=md) hgo hz1
   rw [h1,h2,h3]
   obtain ⟨m,hm⟩:∃ m:Nat,s.n=m:=⟨s.n.toNat,by omega⟩
   have hmn:s.n.toNat=m:=by omega
   rw [hm] at hob
   (refine go ?_)
   refine WW.live fun hl => ?_
   refine WW.ret ⟨.inl rfl,_,gRES,_,rfl,.inl ⟨rfl,h.next,by rw [List.length_replicate,hmn],?_,Nat.le_refl _⟩,hg.new (by repeat first | exact Kp.refl | assumption | with_reducible refine Kp.put ?_ (by omega) _ | with_reducible refine Kp.setN ?_ (by omega) _ | with_reducible refine Kp.keep ?_ _ | with_reducible refine Kp.setW ?_ (by rfl) _),?_⟩
   ·rw [List.map_replicate,hmn]
    exact ⟨hl _ _ gH,gH⟩
   exact ((by repeat first | exact Kp.refl | assumption | with_reducible refine Kp.put ?_ (by omega) _ | with_reducible refine Kp.setN ?_ (by omega) _ | with_reducible refine Kp.keep ?_ _ | with_reducible refine Kp.setW ?_ (by rfl) _):Kp (fun _=>False) h _).mono fun _ _ h=>h.elim
  ·have hvz:¬ s.ct.value=0:=hz1
   (refine go ?_)
   refine WL.call rfl gM gSL (zox hg.w hs.fit (by omega) hs.dat ca1 s.ct.value (by omega)) ?_
   have h1:s.loadE md=if s.getE md s.ct.value≠0 then s.getE md s.ct.value else s.readE md (s.ct.value % 2) (s.getT md s.ct.value).g:=by rw [WS.loadE,hgo];simp [hvz]
   have h2:s.loadL md=if s.getE md s.ct.value≠0 then [] else s.readL md (s.ct.value % 2) (s.getT md s.ct.value).g:=by rw [WS.loadL,hgo];simp [hvz]
   have h3:s.loadS md=if s.getE md s.ct.value≠0 then s else s.readS md (s.ct.value % 2):=by rw [WS.loadS,hgo];simp [hvz]
   rw [h1,h2,h3]
   generalize s.getT md s.ct.value=R at *
   generalize s.getE md s.ct.value=G at *
   clear h1 h2 h3
   (refine go ?_)
   (refine WW.ifB rfl (fun hz2 => ?_) (fun hz2 => ?_))
   ·rw [if_pos hz2,if_pos hz2,if_pos hz2]
    (refine go ?_)
    refine WW.ret ⟨.inl rfl,_,gRES,_,rfl,.no hz2,hg.new (by repeat first | exact Kp.refl | assumption | with_reducible refine Kp.put ?_ (by omega) _ | with_reducible refine Kp.setN ?_ (by omega) _ | with_reducible refine Kp.keep ?_ _ | with_reducible refine Kp.setW ?_ (by rfl) _),?_⟩
    exact ((by repeat first | exact Kp.refl | assumption | with_reducible refine Kp.put ?_ (by omega) _ | with_reducible refine Kp.setN ?_ (by omega) _ | with_reducible refine Kp.keep ?_ _ | with_reducible refine Kp.setW ?_ (by rfl) _):Kp (fun _=>False) h _).mono fun _ _ h=>h.elim
   ·have hG0:¬ G≠0:=by simpa using hz2
    rw [if_neg hG0,if_neg hG0,if_neg hG0]
    refine WW.named (fun h3=>WG md h3 n s∧Kp (fun _=>False) h h3∧h3.get h.next=some (.mem 5 [encRt R])) ⟨hg.new (by repeat first | exact Kp.refl | assumption | with_reducible refine Kp.put ?_ (by omega) _ | with_reducible refine Kp.setN ?_ (by omega) _ | with_reducible refine Kp.keep ?_ _ | with_reducible refine Kp.setW ?_ (by rfl) _),(by repeat first | exact Kp.refl | assumption | with_reducible refine Kp.put ?_ (by omega) _ | with_reducible refine Kp.setN ?_ (by omega) _ | with_reducible refine Kp.keep ?_ _ | with_reducible refine Kp.setW ?_ (by rfl) _),gH⟩ ?_
    rintro h3 ⟨g3,k3,q3⟩
    (refine go ?_)
    have hmod:s.ct.value.tmod 2=s.ct.value % 2:=Int.tmod_eq_emod_of_nonneg (by omega)
    rw [hmod,z1z (k := .i64) (n:=s.ct.value % 2) (by constructor <;> omega)]
    refine WL.callA rfl gM gSL (zlt g3 hs.fit (by omega) (s.ct.value % 2) (by omega) R.g) ?_
    rintro _ h4 ⟨v4,rfl,ld4,g4,k4⟩
    have hx3:=k3.next
    rcases ld4 with ⟨e4,E4,rfl,b4,l4⟩ | ⟨e4,rfl⟩
    ·(refine go ?_)
     exact WW.ret ⟨.inl rfl,_,gRES,_,rfl,.inl ⟨e4,E4,rfl,b4,by omega⟩,g4,(k3.mono fun _ _ h=>h.elim).trans k4⟩
    ·(refine go ?_)
     exact WW.ret ⟨.inl rfl,_,gRES,_,rfl,.no e4,g4,(k3.mono fun _ _ h=>h.elim).trans k4⟩
end Go.Proofs.YthblcmnhiccnhaaGreat


namespace Go.Proofs.YthblcmnhiccnhaaGreat
open Go Go.Abs

theorem wst0 (md:Bool){m:Nat}(hG:isG m=true)(seed:Int):WSt md (ws0 m seed) 0:=by
 have h:=lst0 md hG seed
 exact ⟨h.fit,h.cur,h.seq,h.dat,⟨by simp [ws0],by simp [ws0],by simp [ws0]⟩⟩
theorem wf0:∀ x∈List.replicate 4 lf0,x.Wf:=by intro x hx;obtain ⟨_,rfl⟩:=List.mem_replicate.1 hx;constructor <;> decide
end Go.Proofs.YthblcmnhiccnhaaGreat


namespace Go.Proofs.YthblcmnhiccnhaaGreat
open Go Go.Abs

theorem WSt.crash {md:Bool}{s:WS}{k:Nat}(h:WSt md s k)(K:Nat→Bool):WSt md (s.crash K) k:=by
 have hl:=z5y K s.sd.lasts.length s.sd.waits 0 s.sd.lasts (fun y hy=>by have:=h.fit.sd.w y hy;rw [h.fit.sd.len];exact this) rfl
 obtain ⟨p1,p2,p3,p4⟩:=h.fit.pw
 refine ⟨⟨h.fit.g,⟨fun hh=>by simp [WS.crash] at hh,p2,p3,p4⟩,⟨?_,fun y hy=>by simp [WS.crash,SdS.settle] at hy,Nat.zero_le _,h.fit.sd.kt⟩,h.fit.ss,h.fit.ll⟩,h.cur,h.seq,h.dat,h.ct⟩
 show (z22 K 0 s.sd.waits s.sd.lasts).length=_
 rw [hl,h.fit.sd.len];rfl
theorem zuq {md:Bool}{s:WS}{boot:Int}{j:Nat}{lv:List Lf}:(s.doC md boot j lv).2.1.dk=s.dk:=by
 have e:(s.areaW md s.doA lv).dk=s.dk:=by rw [WS.areaW];split <;> rfl
 exact zcv (P:=fun d=>d.2.1.dk=s.dk) (fun _=>e) (fun _ _=>e) (fun _ _ _=>e) (fun _ _ _ _=>e) (fun _ _ _ _ _=>e) (fun _ _ _ _ _ _=>e) (fun _ _ _ _ _ _=>e)
def WS.fused (s:WS)(m:Int):WS:={ s with pw:={ s.pw with fuse:=decide (0≤m),left:=m } }
end Go.Proofs.YthblcmnhiccnhaaGreat


namespace Go.Proofs.YthblcmnhiccnhaaGreat
open Go Go.Abs

def WS.back (s:WS)(b:Bs):WS:={ s with sd:={ s.sd with lasts:=b,waits:=[],gen:=s.sd.gen+1 } }
end Go.Proofs.YthblcmnhiccnhaaGreat


namespace Go.Proofs.YthblcmnhiccnhaaGreat
open Go Go.Abs

def WS.bootS (s:WS):WS:={ s with pw:=s.pw.spend,ct:=s.ct.boot s.pw.can }
theorem WSt.boot {md:Bool}{s:WS}{k:Nat}(h:WSt md s k):WSt md s.bootS (k+1) :=
 ⟨⟨h.fit.g,h.fit.pw.spend,h.fit.sd.mono (by omega),Nat.le_succ_of_le h.fit.ss,Nat.le_succ_of_le h.fit.ll⟩,h.cur,h.seq,h.dat,h.ct.boot _⟩
end Go.Proofs.YthblcmnhiccnhaaGreat


namespace Go.Proofs.YthblcmnhiccnhaaGreat
open Go Go.Abs

theorem ztk {md:Bool}{h:AHeap}{n:WN}{s:WS}{k:Nat}(hg:WG md h n s)(hs:WSt md s k)(hk:k≤90000):AE Tryz.prog 72 [.ptr (n.a+7) 0 0] h (.bool s.pw.can) ((h.set n.p (some (.mem 4 [s.pw.spend.row]))).set (n.a+7) (some ((s.ct.boot s.pw.can).obj n.p))) :=
 zjv (p:=n.p) hg.w.sd.pw hg.w.ct hs.fit.pw hs.ct (by omega)
theorem WG.boot {md:Bool}{h:AHeap}{n:WN}{s:WS}(hg:WG md h n s):WG md ((h.set n.p (some (.mem 4 [s.pw.spend.row]))).set (n.a+7) (some ((s.ct.boot s.pw.can).obj n.p))) n s.bootS:=hg.step (hg.w.putCt _ _) (kp_ct n _ _)
theorem zrs (md:Bool)(s:WS):(s.loadS md).dk=s.dk:=by
 have hr:∀ a,(s.readS md a).dk=s.dk:=fun a=>by rw [WS.readS];split <;> rfl
 rw [WS.loadS]
 repeat' split
 ·rfl
 ·rfl
 ·rfl
 ·exact hr _
end Go.Proofs.YthblcmnhiccnhaaGreat


namespace Go.Proofs.YthblcmnhiccnhaaGreat
open Go Go.Abs

def encSl (n:Nat):List AV:=[.int .i64 n]
structure AgS where
 last:List Int
 ticks:Int
 arr:List Nat
def ag0:AgS:=⟨List.replicate 16 0,0,[]⟩
def AgS.row (s:AgS)(q:Nat):List AV:=s.last.map (.int .i64 ·)++[.int .i64 s.ticks,.ptr q 0 0]
def SlV (h:AHeap)(v:AV)(arr:List Nat)(E:Nat):Prop:=(v = .nils∧arr=[])∨(v = .ref E 0 arr.length∧BoxAt h E (.mem 1 (arr.map encSl)))
def agF (a:Nat):AV := .func (.func 125) [.ptr a 0 0] []
structure AgAt (h:AHeap)(a q E:Nat)(s:AgS):Prop where
 ob:BoxAt h a (.mem 18 [s.row q])
 qo:∃ v,SlV h v s.arr E∧BoxAt h q (.mem 2 [[v,agF a]])
structure CaN where
 w:WN
 c:Nat
 k:Nat
 a:Nat
 q:Nat
 nE:Nat
 sE:Nat
structure CaS where
 s:WS
 boot:Int
 j:Nat
 now:List Lf
 was:List Lf
 ag:AgS
 bad:Bool
def CaN.own (n:CaN)(id:Nat):Prop:=id=n.c∨id=n.k∨id=n.a∨id=n.q∨id=n.nE∨id=n.sE
structure CaG (md:Bool)(h:AHeap)(n:CaN)(x:CaS):Prop where
 w:WG md h n.w x.s
 mr:BoxAt h n.k (mkO x.boot x.j)
 c:∃ v,RowV h v x.now n.nE∧BoxAt h n.c (.mem 6 [[.ptr (n.w.a+10) 0 0,.ptr n.k 0 0,v,.imm 8 (x.was.map encL),.ptr n.a 0 0,.bool x.bad]])
 ag:AgAt h n.a n.q n.sE x.ag
 nm:∀ id,n.own id→¬ n.w.nm md id
 lt:∀ id,n.own id→id < h.next
 dj:n.c≠n.k∧n.c≠n.a∧n.c≠n.q∧n.k≠n.a∧n.k≠n.q∧n.a≠n.q∧(n.nE=n.c∨(n.nE≠n.k∧n.nE≠n.a∧n.nE≠n.q))∧(n.sE=n.q∨(n.sE≠n.k∧n.sE≠n.a∧n.sE≠n.c))∧n.nE≠n.sE
section
variable {W:Nat→Prop}{md:Bool}{h h':AHeap}{n:CaN}{x:CaS}
theorem SlV.kp {v:AV}{arr:List Nat}{E:Nat}(hs:SlV h v arr E)(hk:Kp W h h')(hw:¬ W E):SlV h' v arr E:=hs.imp id fun q=>⟨q.1,q.2.kp hk hw⟩
theorem AgAt.kp {a q E:Nat}{s:AgS}(hs:AgAt h a q E s)(hk:Kp W h h')(h1:¬ W a)(h2:¬ W q)(h3:¬ W E):AgAt h' a q E s:=by
 obtain ⟨h4,v,h5,h6⟩:=hs
 exact ⟨h4.kp hk h1,v,h5.kp hk h3,h6.kp hk h2⟩
theorem CaG.kp (hg:CaG md h n x)(hk:Kp W h h')(h1:∀ id,n.w.nm md id→¬ W id)(h2:∀ id,n.own id→¬ W id):CaG md h' n x:=by
 obtain ⟨g1,g2,⟨v,g3,g4⟩,g5,g6,g8,g7⟩:=hg
 exact ⟨g1.kp hk h1,g2.kp hk (h2 _ (.inr (.inl rfl))),⟨v,g3.kp hk (h2 _ (.inr (.inr (.inr (.inr (.inl rfl)))))),g4.kp hk (h2 _ (.inl rfl))⟩,g5.kp hk (h2 _ (.inr (.inr (.inl rfl)))) (h2 _ (.inr (.inr (.inr (.inl rfl))))) (h2 _ (.inr (.inr (.inr (.inr (.inr rfl)))))),g6,fun id hi=>Nat.lt_of_lt_of_le (g8 id hi) hk.next,g7⟩
theorem CaG.new (hg:CaG md h n x)(hk:Kp (fun _=>False) h h'):CaG md h' n x:=hg.kp hk (fun _ _ h=>h) fun _ _ h=>h
end
structure CaW (h:AHeap)(n:CaN)(x:CaS):Prop where
 g:h.get n.c=some (.mem 6 [[.ptr (n.w.a+10) 0 0,.ptr n.k 0 0,.ref n.nE 0 x.now.length,.imm 8 (x.was.map encL),.ptr n.a 0 0,.bool x.bad]])
 ne:n.nE≠n.c
theorem CaW.row {md:Bool}{h:AHeap}{n:CaN}{x:CaS}(hw:CaW h n x)(hg:CaG md h n x):BoxAt h n.nE (.mem 8 (x.now.map encL)):=by
 obtain ⟨v,q1,q2⟩:=hg.c
 have:=hw.g.symm.trans q2.g
 simp only [Option.some.injEq,AObj.mem.injEq,List.cons.injEq,true_and,and_true] at this
 rcases q1 with rfl | ⟨rfl,hb⟩
 ·simp at this
 ·exact hb
theorem CaW.kp {W:Nat→Prop}{md:Bool}{h h':AHeap}{n:CaN}{x:CaS}(hw:CaW h n x)(hg:CaG md h n x)(hk:Kp W h h')(h1:¬ W n.c):CaW h' n x:=by
 obtain ⟨v,q1,q2⟩:=hg.c
 exact ⟨(hk.get _ q2.u h1).trans hw.g,hw.ne⟩
theorem zrt {u:Nat→Prop}(x:Lf):∀ v∈encL x,Clo u v:=by
 intro v hv
 simp only [encL,List.mem_cons,List.not_mem_nil,or_false] at hv
 rcases hv with rfl | rfl | rfl | rfl | rfl | rfl | rfl | rfl <;> first | exact .int _ _ | exact .bool _
theorem z5u {h:AHeap}{E:Nat}{l:List Lf}(hE:h.get E=some (.mem 8 (l.map encL)))(hl:l.length≤1000000):AE Tryz.prog 76 [.ref E 0 l.length] h (.imm 8 (l.map encL)) h:=by
 refine AE.wf fun hwf => ?_
 have h0:=hwf _ _ hE
 refine AE.pureW z38 (by simp) ?_
 unfold z1l;dsimp only [qQ,qR,qM,qG]
 (repeat first | refine WW.seq ?_ | refine WW.reg ?_ | refine WL.nil ?_ | refine WW.skip ?_ | refine WW.block ?_ | refine thenN ?_ | refine blkN ?_);iterate 1 (refine WL.go ?_)
 (repeat first | refine WW.seq ?_ | refine WW.reg ?_ | refine WL.nil ?_ | refine WW.skip ?_ | refine WW.block ?_ | refine thenN ?_ | refine blkN ?_);iterate 1 (refine WL.go ?_)
 refine WL.go (hs:=Stp.isnil (t:=false) rfl rfl gM) ?_
 (repeat first | refine WW.seq ?_ | refine WW.reg ?_ | refine WL.nil ?_ | refine WW.skip ?_ | refine WW.block ?_ | refine thenN ?_ | refine blkN ?_)
 refine WW.condF rfl ?_
 (refine go ?_)
 refine WW.ret (PureQ.finD ?_)
 rw [List.drop_zero,List.take_of_length_le (by simp)]
 exact .app _ _ _ _ fun y hy v hv=>by
  obtain ⟨z,_,rfl⟩:=List.mem_map.1 hy
  exact zrt z v hv
theorem zgh (h:AHeap):AC Tryz.prog 77 [] h (fun r h'=>∃ a q,r = .ptr a 0 0∧AgAt h' a q q ag0∧a≠q∧h.next≤a∧h.next≤q∧Kp (fun _=>False) h h'):=by
 refine AC.introW zoc (by simp) ?_
 unfold zic;dsimp only [qQ,qR,qM,qG]
 (refine go ?_)
 refine WW.live fun hl => ?_
 have g1:(((h.put h.next (.mem 18 [List.replicate 17 (AV.int .i64 0)++[.nilp]])).put (h.next+1) (.mem 2 [[.nils,agF h.next]])).set h.next (some (.mem 18 [ag0.row (h.next+1)]))).get h.next=some (.mem 18 [ag0.row (h.next+1)]):=gH
 have g2:(((h.put h.next (.mem 18 [List.replicate 17 (AV.int .i64 0)++[.nilp]])).put (h.next+1) (.mem 2 [[.nils,agF h.next]])).set h.next (some (.mem 18 [ag0.row (h.next+1)]))).get (h.next+1)=some (.mem 2 [[.nils,agF h.next]]):=gH
 exact WW.ret ⟨.inl rfl,_,gRES,h.next,h.next+1,rfl,⟨⟨hl _ _ g1,g1⟩,_,.inl ⟨rfl,rfl⟩,⟨hl _ _ g2,g2⟩⟩,by omega,Nat.le_refl _,by omega,(by repeat first | exact Kp.refl | assumption | with_reducible refine Kp.put ?_ (by omega) _ | with_reducible refine Kp.setN ?_ (by omega) _ | with_reducible refine Kp.keep ?_ _ | with_reducible refine Kp.setW ?_ (by rfl) _)⟩
end Go.Proofs.YthblcmnhiccnhaaGreat


namespace Go.Proofs.YthblcmnhiccnhaaGreat
open Go Go.Abs

theorem ztl {h h1:AHeap}(e:Int):Fz h h1 (.agg [.int .i64 e,.nils]) (.agg [.int .i64 e,.nils]) := .clo _ (.agg _ fun v hv=>by
 simp only [List.mem_cons,List.not_mem_nil,or_false] at hv
 rcases hv with rfl | rfl
 ·exact .int _ _
 ·exact .nils)
structure Ac where
 k:Int
 ck:Int
 lba:Int
 cd:Bs
 n:Int
 off:Int
 d:Bs
 kp:List Bool
end Go.Proofs.YthblcmnhiccnhaaGreat


namespace Go.Proofs.YthblcmnhiccnhaaGreat
open Go Go.Abs

theorem zur {row:List CS}{cells:List AV}(h:TypL (.sl [.i .u8]::row) cells):∃ (l:Bs) (vs:List AV),cells = .imm 1 (l.map encB)::vs∧TypL row vs∧l.length≤maxLen:=by
 obtain ⟨v,vs,rfl,h1,h2⟩:=h.cons_inv
 obtain ⟨c,rfl,hl,hc⟩:=h1.sl_inv
 obtain ⟨l,rfl⟩:=zpg (f:=encB) (fun _=>zt1) hc
 exact ⟨l,vs,rfl,h2,by simpa using hl⟩
theorem znu {k:IntKind}{row:List CS}{cells:List AV}(h:TypL (.i k::row) cells):∃ (n:Int) (vs:List AV),cells = .int k n::vs∧TypL row vs∧(Lit.int k n).wf=true:=by
 obtain ⟨v,vs,rfl,h1,h2⟩:=h.cons_inv
 obtain ⟨x,rfl,hw⟩:=h1.int_inv
 exact ⟨x,vs,rfl,h2,hw⟩
end Go.Proofs.YthblcmnhiccnhaaGreat


namespace Go.Proofs.YthblcmnhiccnhaaGreat
open Go Go.Abs

theorem z6w (h:AHeap):AE Tryz.prog 31 [.nilp] h (.imm 8 []) h:=by
 refine AE.pureW z84 (by simp) ?_
 unfold z3q;dsimp only [qQ,qR,qM,qG]
 (refine go ?_)
 refine WW.ret (PureQ.finD ?_)
 exact .nil _
end Go.Proofs.YthblcmnhiccnhaaGreat


namespace Go.Abs
open Go
section
variable {P:Program}{N:Nat}{e e':Env}{h h':AHeap}{l:List CI}{es:List (List Nat)}{Q:Exit→Env→AHeap→Prop}
def RunL (P:Program)(N:Nat)(Q:Exit→Env→AHeap→Prop):List CI→Env→AHeap→Prop
 | [], e, h => Q .normal e h
 | c :: l, e, h => FXR P N c e h (fun r h2 => RunL P N Q l (putR c.d r e) h2)
theorem RunL.call {d:Option Nat}{f:Nat}{xs:List Opd}{g:Option (Nat×Bool)}{us vs:List AV}{R:AV→AHeap→Prop}(hv:evL e xs=some us)(hg:met e g)(hs:SubL us vs)(hac:AC P f vs h R)(k:∀ r h',R r h'→RunL P N Q l (putR d (some r) e) h'):RunL P N Q (⟨d,.call f xs,g⟩::l) e h :=
 FXR.call hv hg hs hac k
theorem RunL.go {c:CI}(k:RunL P N Q l e' h')(hs:Stp c e h e' h':=by exact Stp.auto):RunL P N Q (c::l) e h :=
 FXR.stp hs fun r he=>by subst he;exact k
theorem RunL.endL (hq:Q .normal e h):RunL P N Q [] e h:=hq
inductive PW (P:Program) (N:Nat) (K:Env→AHeap→Prop):List CI→Env→AHeap→Prop
 | nil {e : Env} {h : AHeap} (hk : K e h) : PW P N K [] e h
 | fx {c : CI} {l : List CI} {e : Env} {h : AHeap} {r : Option AV} (hx : FX P N c e h r h) (k : PW P N K l (putR c.d r e) h) : PW P N K (c :: l) e h
theorem PW.go {K:Env→AHeap→Prop}{c:CI}(k:PW P N K l e' h)(hs:Stp c e h e' h:=by exact Stp.auto):PW P N K (c::l) e h:=by
 obtain ⟨r,he,hx,_⟩:=FX.of_stp (P:=P) (N:=N) hs
 subst he
 exact .fx hx k
theorem PW.call {K:Env→AHeap→Prop}{d:Option Nat}{f:Nat}{xs:List Opd}{g:Option (Nat×Bool)}{us vs:List AV}{r:AV}(hv:evL e xs=some us)(hg:met e g)(hs:SubL us vs)(hac:AE P f vs h r h)(k:PW P N K l (putR d (some r) e) h):PW P N K (⟨d,.call f xs,g⟩::l) e h :=
 .fx (FX.call hg hv (hac.sub hs)) k
theorem PW.trace {K:Env→AHeap→Prop}:∀ {l:List CI} {e:Env} {h:AHeap},PW P N K l e h→∃ (ee:Nat→Env) (rr:Nat→Option AV),ee 0=e∧K (ee l.length) h∧∀ i,i < l.length→FX P N (l.getD i default) (ee i) h (rr i) h∧ee (i+1)=putR (l.getD i default).d (rr i) (ee i):=by
 intro l e h hd
 induction hd with
 | @nil e h hk => exact ⟨fun _ => e, fun _ => none, rfl, hk, fun i hi => by simp at hi⟩
 | @fx c l e h r hx k ih =>
  obtain ⟨ee,rr,q1,q2,q3⟩:=ih
  refine ⟨fun i=>match i with | 0=>e | i+1=>ee i,fun i=>match i with | 0=>r | i+1=>rr i,rfl,q2,fun i hi => ?_⟩
  cases i with
  | zero => exact ⟨hx, q1⟩
  | succ i => exact q3 i (by simpa using hi)
def chkC (l:List CI)(es:List (List Nat))(c:Nat):Bool :=
 es.length==l.length&&decide (c < l.length)&&((List.range l.length).all fun j=>(es.getD j []).all (fun k=>decide (k < j))) &&
 ((List.range c).all fun i=>((ancs es []).getD c 0).testBit i)&&((List.range l.length).all fun j => !decide (c < j) || ((ancs es []).getD j 0).testBit (j - 1)) &&
 ((List.range c).all fun j=>(List.range j).all fun i => !touch l [] [] i j || ((ancs es []).getD j 0).testBit i)
theorem zm1 {c:Nat→CI}{rr:Nat→Option AV}{D D':Nat→Bool}{s:Nat}:∀ n,(∀ k,k < n→(c k).d=some s→D' k=D k)→lk s (eD c rr e D' n)=lk s (eD c rr e D n)
 | 0, _ => rfl
 | n + 1, hk => by
  have ih:=zm1 (rr:=rr) n fun k h1=>hk k (by omega)
  simp only [eD]
  by_cases hd:(c n).d=some s
  ·rw [hk n (by omega) hd]
   split
   ·rw [hd,zf,zf]
   ·exact ih
  ·have e1:∀ (b:Bool) (x:Env),lk s (if b=true then putR (c n).d (rr n) x else x)=lk s x:=fun b x=>by cases b <;> simp [zz hd]
   rw [e1,e1];exact ih
theorem ER.lkE {m:Inj}{w:World}{a:Act}{e1 e2:Env}(he:ER N m h w e1 a)(hs:∀ s,lk s e2=lk s e1):ER N m h w e2 a:=⟨he.size,he.defers,fun i v hv=>he.val i v ((hs i).symm.trans hv)⟩
theorem FXR.lkE {c:CI}{e1 e2:Env}{R:Option AV→AHeap→Prop}(hx:FXR P N c e1 h R)(hs:∀ s,lk s e2=lk s e1):FXR P N c e2 h R:=fun ops i o ho hc m w a K QQ hr he hk =>
 hx ops i o ho hc m w a K QQ hr (he.lkE fun s=>(hs s).symm) fun m' w' a' r h' h1 h2 h3 h4=>hk m' w' a' r h' h1 h2 (h3.lkE (z36 hs)) h4
theorem WW.sub {c:CC}{Q':Exit→Env→AHeap→Prop}(hw:WW P N c Q' e h)(hq:∀ ex e h,Q' ex e h→∃ e3,(∀ s,lk s e3=lk s e)∧Q ex e3 h):WW P N c Q e h :=
 ⟨fun code hc m w a hr he=>wp_mono (hw.out code hc m w a hr he) fun ex a' w' ⟨m',e',h',g1,g2,g3,g4⟩=>by
  obtain ⟨e3,h1,h2⟩:=hq _ _ _ g4
  exact ⟨m',e3,h',g1,g2.lkE h1,g3,h2⟩⟩
theorem ztm {i j s:Nat}(h1:(l.getD i default).d=some s)(h2:(l.getD j default).d=some s):touch l [] [] i j=true:=by simp only [touch,h1,h2];simp
theorem ztn {i j s:Nat}(h1:(l.getD i default).d=some s)(h2:s∈zk (l.getD j default)):touch l [] [] i j=true:=by
 simp only [touch,Bool.or_eq_true,List.any_eq_true]
 exact .inl (.inl (.inl ⟨s,h2,by rw [dslot,h1];simp⟩))
theorem zto {i j s:Nat}(h1:(l.getD j default).d=some s)(h2:s∈zk (l.getD i default)):touch l [] [] i j=true:=by
 simp only [touch,Bool.or_eq_true,List.any_eq_true]
 exact .inl (.inl (.inr ⟨s,h2,by rw [dslot,h1];simp⟩))
theorem WW.dregC [MO P](c:Nat)(hc:chkC l es c=true)(hwk:PW P N (fun e1 h1=>RunL P N Q (l.drop c) e1 h1) (l.take c) e h):WW P N (.dreg l es) Q e h:=by
 simp only [chkC,Bool.and_eq_true,beq_iff_eq,List.all_eq_true,List.mem_range,decide_eq_true_eq,Bool.or_eq_true,Bool.not_eq_true',decide_eq_false_iff_not] at hc
 obtain ⟨⟨⟨⟨⟨c1,c2⟩,c3⟩,c4⟩,c5⟩,c6⟩:=hc
 have anc:∀ j i,((ancs es []).getD j 0).testBit i=true→Reach es i j:=zcn es es [] rfl (fun j i hb=>by simp at hb)
 obtain ⟨ee,rr,t1,t2,t3⟩:=hwk.trace
 have hlen:(l.take c).length=c:=by simp;omega
 rw [hlen] at t2 t3
 have hget:∀ i,i < c→(l.take c).getD i default=l.getD i default:=fun i hi=>by
  simp [List.getD_eq_getElem?_getD,List.getElem?_take,hi]
 have t4:∀ i,i < c→FX P N (l.getD i default) (ee i) h (rr i) h∧ee (i+1)=putR (l.getD i default).d (rr i) (ee i):=fun i hi=>by
  have:=t3 i hi
  rw [hget i hi] at this
  exact this
 refine WW.sub (Q':=fun ex e h=>∃ e3,(∀ s,lk s e3=lk s e)∧Q ex e3 h) ?_ fun ex e h hh=>hh
 refine WW.dregI (fun D e1 h1=>(D c=false∧(∀ j,D j=true→j < c)∧h1=h∧∀ s,lk s e1=lk s (eD (fun j=>l.getD j default) rr e D c)) ∨
  ∃ k e3,c < k∧k≤l.length∧(∀ j,D j=decide (j < k))∧(∀ s,lk s e3=lk s e1)∧RunL P N Q (l.drop k) e3 h1) (by
   simp only [Bool.and_eq_true,beq_iff_eq,List.all_eq_true,List.mem_range,decide_eq_true_eq]
   exact ⟨c1,c3⟩) (.inl ⟨rfl,(fun j hj=>by cases hj),rfl,fun s => ?_⟩) ?_ ?_
 ·have:=z2f (c:=fun j=>l.getD j default) (rr:=rr) (e:=e) (D:=fun _=>false) (s:=s) (i:=0) c (Nat.zero_le _) (fun _ _ _ _=>rfl)
  rw [this];rfl
 ·intro D e1 h1 i hi hDi hpre hcl hlive hI
  have hdone:∀ {a b:Nat},Reach es a b→(∀ k∈es.getD b [],D k=true)→D a=true:=fun hr hp=>Reach.done hcl hr hp
  have hcl2:∀ {a b:Nat},Reach es a b→D b=true→D a=true:=fun hr hb=>Reach.done hcl hr (hcl _ hb)
  rcases hI with ⟨i1,i2,i3,i4⟩ | ⟨k,e3,k1,k2,k3,k4,k5⟩
  ·rcases Nat.lt_trichotomy i c with hlt | rfl | hgt
   ·subst i3
    obtain ⟨f1,f2⟩:=t4 i hlt
    have hag:∀ s∈zk (l.getD i default),lk s e1=lk s (ee i):=fun s hs=>by
     rw [i4 s,z2f (i:=i) c (by omega) (fun k h2 h3 hd => ?_),z4o t1 (fun j hj=>(t4 j (by omega)).2) i (Nat.le_refl _) (fun k hk hd => ?_)]
     ·have:=c6 i hlt k hk
      rw [ztn hd hs] at this
      exact hdone (anc i k (by simpa using this)) hpre
     ·rcases Nat.eq_or_lt_of_le h2 with rfl | h2
      ·exact hDi
      ·cases hDk:D k with
       | false => rfl
       | true =>
        have:=c6 k h3 i h2
        rw [zto hd hs] at this
        have:=hcl2 (anc k i (by simpa using this)) hDk
        rw [hDi] at this;cases this
    have hx:FXR P N (l.getD i default) e1 h1 (fun r h2=>r=rr i∧h2=h1):=fun ops i' o ho hcc m w a K QQ hr he hk =>
     f1 ops i' o ho hcc e1 hag m w a K QQ hr he fun m' w' a' g1 g2 g3=>hk m' w' a' _ _ ⟨rfl,rfl⟩ g1 g2 g3
    refine fun ops i' o ho hcc m w a K QQ hr he hk=>hx ops i' o ho hcc m w a K QQ hr he fun m' w' a' r h2 hR g1 g2 g3=>hk m' w' a' r h2 (fun _ => ?_) g1 g2 g3
    obtain ⟨rfl,rfl⟩:=hR
    refine .inl ⟨by show (if c=i then true else D c)=false;rw [if_neg (by omega)];exact i1,fun j hj => ?_,rfl,fun s => ?_⟩
    ·by_cases hji:j=i
     ·omega
     ·exact i2 j (by simpa [hji] using hj)
    ·by_cases hd:(l.getD i default).d=some s
     ·have hlat:∀ k,i+1≤k→k < c→(l.getD k default).d=some s→(if k=i then true else D k)=false:=fun k h2 h3 hdk=>by
       rw [if_neg (by omega)]
       cases hDk:D k with
       | false => rfl
       | true =>
        have:=c6 k h3 i (by omega)
        rw [ztm hd hdk] at this
        have:=hcl2 (anc k i (by simpa using this)) hDk
        rw [hDi] at this;cases this
      rw [z2f (c:=fun j=>l.getD j default) (i:=i+1) c (by omega) hlat]
      simp only [eD,if_true]
      rw [hd,zf,zf]
     ·rw [zz hd,i4 s]
      refine (zm1 c fun k hk hdk => ?_).symm
      have:k≠i:=fun e=>by subst e;exact hd hdk
      simp [this]
   ·subst i3
    have hall:∀ j,j < i→D j=true:=fun j hj=>hdone (anc i j (c4 j hj)) hpre
    have hee:∀ s,lk s e1=lk s (ee i):=fun s=>by
     rw [i4 s]
     exact z4o t1 (fun j hj=>(t4 j hj).2) i (Nat.le_refl _) fun k hk _=>hall k hk
    rw [List.drop_eq_getElem_cons c2] at t2
    have hci:l[i]=l.getD i default:=by simp [List.getD_eq_getElem?_getD,hi]
    rw [hci] at t2
    have hx:FXR P N (l.getD i default) (ee i) h1 (fun r h2=>RunL P N Q (l.drop (i+1)) (putR (l.getD i default).d r (ee i)) h2):=t2
    refine fun ops i' o ho hcc m w a K QQ hr he hk=>(hx.lkE hee) ops i' o ho hcc m w a K QQ hr he fun m' w' a' r h2 hR g1 g2 g3=>hk m' w' a' r h2 (fun _ => ?_) g1 g2 g3
    refine .inr ⟨i+1,_,by omega,by omega,fun j => ?_,z36 fun s=>(hee s).symm,hR⟩
    show (if j=i then true else D j)=_
    by_cases hj:j=i
    ·simp [hj]
    ·rw [if_neg hj]
     by_cases hj2:j < i
     ·rw [hall j hj2];simp;omega
     ·cases hDj:D j with
      | true => have := i2 j hDj; omega
      | false => simp; omega
   ·have hr:Reach es (i - 1) i:=anc i (i - 1) ((c5 i hi).resolve_left (fun hh=>hh hgt))
    have:=hdone hr hpre
    have:=i2 _ this
    omega
  ·have hik:i=k:=by
    rcases Nat.lt_trichotomy i k with hlt | rfl | hgt
    ·rw [k3 i] at hDi;simp [hlt] at hDi
    ·rfl
    ·have hr:Reach es (i - 1) i:=anc i (i - 1) ((c5 i hi).resolve_left (fun hh=>hh (by omega)))
     have:=hdone hr hpre
     rw [k3] at this
     simp at this;omega
   subst hik
   rw [List.drop_eq_getElem_cons hi] at k5
   have hci:l[i]=l.getD i default:=by simp [List.getD_eq_getElem?_getD,hi]
   rw [hci] at k5
   have hx:FXR P N (l.getD i default) e3 h1 (fun r h2=>RunL P N Q (l.drop (i+1)) (putR (l.getD i default).d r e3) h2):=k5
   refine fun ops i' o ho hcc m w a K QQ hr he hk=>(hx.lkE fun s=>(k4 s).symm) ops i' o ho hcc m w a K QQ hr he fun m' w' a' r h2 hR g1 g2 g3=>hk m' w' a' r h2 (fun _ => ?_) g1 g2 g3
   refine .inr ⟨i+1,_,by omega,by omega,fun j => ?_,z36 k4,hR⟩
   show (if j=i then true else D j)=_
   by_cases hj:j=i
   ·simp [hj]
   ·rw [if_neg hj,k3 j]
    simp only [decide_eq_decide]
    omega
 ·intro D e1 h1 hall hI
  rcases hI with ⟨i1,_⟩ | ⟨k,e3,k1,k2,k3,k4,k5⟩
  ·rw [hall c c2] at i1;cases i1
  ·have hk:k=l.length:=by
    by_cases hkl:k < l.length
    ·have:=hall k hkl
     rw [k3 k] at this
     simp at this
    ·omega
   subst hk
   rw [List.drop_length] at k5
   exact ⟨e3,k4,k5⟩
theorem WL.fxr {c:CI}{R:Option AV→AHeap→Prop}(hx:FXR P N c e h R)(k:∀ r h',R r h'→WL P N l Q (putR c.d r e) h'):WL P N (c::l) Q e h:=⟨by
 intro ops idx hlt hl m w a hr he
 cases idx with
 | nil => simp at hl
 | cons i idx =>
  simp only [List.map_cons,List.cons.injEq] at hl
  obtain ⟨hc,hl⟩:=hl
  have hilt:=hlt i (by simp)
  have ho:ops[i]? = some ops[i]:=Array.getElem?_eq_getElem hilt
  have hget:ops.getD i default=ops[i]:=by simp [hilt]
  rw [hget] at hc
  rw [wpOps_cons]
  refine hx ops i _ ho hc m w a _ _ hr he fun m' w' a' r h' hR h1 h2 h3 => ?_
  exact z15 (fun _ _ _ hp=>PA.from h3 hp) idx _ _ ((k r h' hR).out ops idx (fun j hj=>hlt j (by simp [hj])) hl m' w' a' h1 h2)⟩
theorem FXR.callv {d:Option Nat}{f:Nat}{x:Opd}{xs:List Opd}{g:Option (Nat×Bool)}{us vs ts:List AV}{R:AV→AHeap→Prop}(hx:ev e x=some (.func (.func f) us ts))(hv:evL e xs=some vs)(hg:met e g)(hb:z2j P f=true)(hac:AC P f (us++vs++ts) h R):FXR P N ⟨d,.callv x xs,g⟩ e h (fun r h'=>∃ r1,r=some r1∧R r1 h'):=by
 intro ops i o ho hc m w a K QQ hr he hk
 rcases zx hc with ⟨hb1,hb2⟩ | ⟨hd,hdst,hcomp,hgd⟩
 ·simp at hb1
 ·obtain ⟨w1,w2⟩:=zl he hgd
  have hw:Region.wanted o (yielded ops a.tmps)=true:=by
   cases g with
   | none => exact w1 rfl
   | some sb =>
    obtain ⟨s,b⟩:=sb
    rw [w2 s b b rfl hg];simp
  simp only [wpOp,ho]
  rw [if_pos hw]
  left
  have hco:=hcomp rfl
  obtain ⟨c,y,hop,hcal,hy,hxs⟩:=z5c hco
  obtain ⟨hl1,hl2⟩:=he.evalL hxs hv
  have hfv:=he.eval hy hx
  generalize hcx:a.eval (.tmp y)=cx at hfv
  cases hfv with
  | func _ _ _ cs ds q1 q2 q3 q4 =>
   have hrun:(execOp a.eval o).run P w = .ok (.enter f (cs++c.args.map a.eval++ds)) w:=by
    simp [execOp,hop,resolve,hcal,hcx,Deferred.ofValue,invoke,z1b hb]
   refine z3g hrun hr (by simp [q1,q2,hl1]) (fun j v hj => ?_) hac fun v w' m' r1 h1 g1 g2 g3 g4 => ?_
   ·rw [List.append_assoc] at hj
    simp only [Array.getD_eq_getD_getElem?]
    by_cases j1:j < us.length
    ·rw [List.getElem?_append_left j1] at hj
     have:=q3 j v hj
     rw [Array.append_assoc,Array.getElem?_append_left (by omega)]
     simpa [Array.getD_eq_getD_getElem?] using this
    ·rw [List.getElem?_append_right (by omega)] at hj
     rw [Array.append_assoc,Array.getElem?_append_right (by omega),← q1]
     by_cases j2:j - us.length < vs.length
     ·rw [List.getElem?_append_left j2] at hj
      have:=hl2 _ v hj
      rw [Array.getElem?_append_left (by simp at hl1 ⊢;omega)]
      simpa [List.getD_eq_getElem?_getD] using this
     ·rw [List.getElem?_append_right (by omega)] at hj
      have:=q4 _ v hj
      have hl1':vs.length=c.args.size:=by simpa using hl1
      rw [Array.getElem?_append_right (by simp;omega)]
      simpa [Array.getD_eq_getD_getElem?,hl1'] using this
   ·refine hk m' w' _ (some r1) h1 ⟨r1,rfl,g4⟩ g1 ?_ g3
    have hd':d=o.dst:=hd
    show ER N m' h1 w' (putR d (some r1) e) _
    rw [hd']
    exact (he.step g3).putR hdst g2
theorem FXR.inv {d:Option Nat}{f t:Nat}{s:String}{x:Opd}{xs:List Opd}{g:Option (Nat×Bool)}{v:AV}{vs:List AV}{R:AV→AHeap→Prop}(hx:ev e x=some (.iface t v))(hv:evL e xs=some vs)(hg:met e g)(hm:methF P t s=some f)(hb:z2j P f=true)(hac:AC P f (v::vs) h R):FXR P N ⟨d,.raw (.inv s x xs),g⟩ e h (fun r h'=>∃ r1,r=some r1∧R r1 h'):=by
  intro ops i o ho hc m w a K QQ hr he hk
  have hraw:=z71 hc rfl
  rcases zx hc with ⟨hb1,hb2⟩ | ⟨hd,hdst,_,hgd⟩
  · cases hb1
  · obtain ⟨w1,w2⟩:=zl he hgd
    have hw:Region.wanted o (yielded ops a.tmps)=true:=by
      cases g with
      | none => exact w1 rfl
      | some sb =>
        obtain ⟨s2,b⟩:=sb
        rw [w2 s2 b b rfl hg];simp
    simp only [wpOp,ho]
    rw [if_pos hw]
    left
    obtain ⟨c,y,hop,hcal,hy,hxs⟩:=zqd hraw
    obtain ⟨hl1,hl2⟩:=he.evalL hxs hv
    have hfv:=he.eval hy hx
    generalize hcx:a.eval y=cx at hfv
    cases hfv with
    | iface _ _ cv q =>
      have hx1:∀ (u:Value) (X:Array Value),(#[u]++X)[0]? = some u:=fun u X=>by rw [Array.getElem?_append_left (by simp)];rfl
      have hx2:∀ (u:Value) (X:Array Value),(#[u]++X).extract 1 (#[u]++X).size=X:=fun u X=>by
        apply Array.ext'
        simp
      have hx3:P.types.size+Made.depth=(P.types.size+99)+1:=rfl
      have hrun:(execOp a.eval o).run P w = .ok (.enter f (#[cv]++c.args.map a.eval)) w:=by
        simp only [execOp,hop,resolve,hcal,hcx,Sem.run_bind,Sem.run_pure,Result.andThen_ok,invoke,hx1,hx2,callMethod,run_program,hx3,zgg hm,z1b hb]
      refine z3g hrun hr (by have:vs.length=c.args.size:=by simpa using hl1
                             simp;omega) (fun j v2 hj => ?_) hac fun v2 w' m' r1 h1 g1 g2 g3 g4 => ?_
      · simp only [Array.getD_eq_getD_getElem?]
        rcases j with _ | j
        · cases hj
          rw [hx1]
          exact q
        · have:=hl2 j v2 (by simpa using hj)
          rw [Array.getElem?_append_right (by simp)]
          simpa [List.getD_eq_getElem?_getD] using this
      · refine hk m' w' _ (some r1) h1 ⟨r1,rfl,g4⟩ g1 ?_ g3
        have hd':d=o.dst:=hd
        show ER N m' h1 w' (putR d (some r1) e) _
        rw [hd']
        exact (he.step g3).putR hdst g2
end
end Go.Abs


namespace Go.Proofs.YthblcmnhiccnhaaGreat
open Go Go.Abs

theorem Kp.cvt {W:Nat→Prop}{h h':AHeap}(h1:h'.next=h.next)(h2:h'.gap=h.gap)(h3:∀ id,¬ W id→h'.get id=h.get id):Kp W h h' :=
 ⟨by omega,fun id hu=>by unfold AHeap.used at hu ⊢;rw [h1,h2];exact hu,fun id _ hw=>h3 id hw⟩
def CaS.comE (md:Bool)(x:CaS):Int:=(x.s.doC md x.boot x.j x.now).1
def CaS.com (md:Bool)(x:CaS):CaS:={ x with s:=(x.s.doC md x.boot x.j x.now).2.1,j:=(x.s.doC md x.boot x.j x.now).2.2,was:=if x.comE md=0 then x.now else x.was }
structure CaOk (md:Bool)(x:CaS)(k:Nat):Prop where
 st:WSt md x.s k
 b:0≤x.boot∧x.boot < 4294967296
 j:x.j≤100
 l:(x.now.length:Int)=x.s.n
 w:∀ y∈x.now,y.Wf
 ok:lvOk x.now 0=true
end Go.Proofs.YthblcmnhiccnhaaGreat


namespace Go.Proofs.YthblcmnhiccnhaaGreat
open Go Go.Abs

theorem z8z (n:Int)(h:AHeap):AE Tryz.prog 130 [.int .i64 n] h (.bool (decide (0≤n)&&decide (n < 32))) h:=by
 refine AE.pureW zh4 (by simp) ?_
 unfold za2;dsimp only [qQ,qR,qM,qG]
 (refine go ?_)
 (apply WL.andB;exact rfl;exact rfl;exact rfl;exact BP.of;intro hz1)
 ·(repeat first | (apply GW.goS;exact Stp.auto) | apply GW.nil | exact rfl)
 (refine go ?_)
 refine WW.ret (PureQ.finD ?_)
 exact fz_b (by simp)
theorem zcd (k:Int)(hk:k=3∨k=5)(lba:Int)(u:AV)(hu:u = .nils∨∃ c,u = .imm 1 c)(h:AHeap):AE Tryz.prog 80 [.agg [.int .i64 k,.int .i64 lba,u]] h (.bool true) h:=by
 rcases hk with rfl | rfl <;> rcases hu with rfl | ⟨c,rfl⟩
 all_goals
  refine AE.pureW z4v (by simp) ?_
  unfold z3t;dsimp only [qQ,qR,qM,qG]
  (refine go ?_)
  refine WW.ret (PureQ.finD ?_)
  exact fz_b rfl
theorem zce (k:Int)(hk:k=1∨k=4)(lba:Int)(u:AV)(hu:u = .nils∨∃ c,u = .imm 1 c)(h:AHeap):AE Tryz.prog 80 [.agg [.int .i64 k,.int .i64 lba,u]] h (.bool (decide (0≤lba)&&decide (lba < 32))) h:=by
 rcases hk with rfl | rfl <;> rcases hu with rfl | ⟨c,rfl⟩
 all_goals
  refine AE.pureW z4v (by simp) ?_
  unfold z3t;dsimp only [qQ,qR,qM,qG]
  (refine go ?_)
  refine WL.call rfl gM gSL (z8z _ _) ?_
  (refine go ?_)
  refine WW.ret (PureQ.finD ?_)
  exact fz_b rfl
structure CaMv (md:Bool)(h:AHeap)(n n':CaN):Prop where
 o:∀ id,n'.own id→n.own id∨h.next≤id
 w:∀ id,n'.w.nm md id→n.w.nm md id∨h.next≤id
 c:n'.c=n.c
 a:n'.w.a=n.w.a
theorem CaMv.refl {md:Bool}{h:AHeap}{n:CaN}:CaMv md h n n:=⟨fun _ => .inl,fun _ => .inl,rfl,rfl⟩
theorem CaMv.le {md:Bool}{h h2:AHeap}{n n':CaN}(hm:CaMv md h2 n n')(hx:h.next≤h2.next):CaMv md h n n':=⟨fun id hi=>(hm.o id hi).imp (fun q=>q) (Nat.le_trans hx),fun id hi=>(hm.w id hi).imp (fun q=>q) (Nat.le_trans hx),hm.c,hm.a⟩
def methC (k:Int):Nat:=if k=1 then 81 else if k=2 then 82 else if k=3 then 83 else if k=4 then 84 else 85
def tabC:List (AV×AV):=[(.int .i64 1,.func (.func 81) [] []),(.int .i64 2,.func (.func 82) [] []),(.int .i64 3,.func (.func 83) [] []),(.int .i64 4,.func (.func 84) [] []),(.int .i64 5,.func (.func 85) [] [])]
theorem zqf {k:Int}(hk:k=1∨k=2∨k=3∨k=4∨k=5):∃ ti,findA (.int .i64 k) tabC 0=some (some (ti,.func (.func (methC k)) [] [])):=by
 rcases hk with rfl | rfl | rfl | rfl | rfl <;> exact ⟨_,rfl⟩
theorem zp1 {k:Int}(hk:k=1∨k=2∨k=3∨k=4∨k=5):z2j Tryz.prog (methC k)=true:=by
 rcases hk with rfl | rfl | rfl | rfl | rfl <;> kernel_rfl
end Go.Proofs.YthblcmnhiccnhaaGreat


