/- What the statement's proof needs, part 7. -/
import Derived.Test.YthblcmnhiccnhaaGreatQCacheArgs6
set_option linter.all false
namespace Go.Proofs.YthblcmnhiccnhaaGreat
open Go Go.Abs

def blk (b:UInt8):Bs:=List.replicate 32 b
theorem z95 (b:UInt8)(h:AHeap):AE Tryz.prog 29 [.int .u8 b.toNat] h (.imm 1 ((blk b).map encB)) h:=by
 refine AE.pureW zi2 (by simp) ?_
 unfold zap;dsimp only [qQ,qR,qM,qG]
 (refine go ?_)
 refine WW.loopE (fun (i:Nat)=>[(0,some (.int .u8 b.toNat)),(3,some (.ref h.next 0 32)),(4,some (.int .i64 i))])
  (fun i h'=>h'.get h.next=some (.mem 1 ((List.replicate i b++List.replicate (32 - i) 0).map encB))∧Kp (fun _=>False) h h'∧h.next < h'.next∧i≤32) (fun i=>32 - i) 0 gSUB ⟨gH,(by repeat first | exact Kp.refl | assumption | with_reducible refine Kp.put ?_ (by omega) _ | with_reducible refine Kp.setN ?_ (by omega) _ | with_reducible refine Kp.keep ?_ _ | with_reducible refine Kp.setW ?_ (by rfl) _),(ltN gN (by omega)),Nat.zero_le _⟩ ?_
 rintro i h' ⟨g1,k1,hx,hi⟩
 have hlen:(List.replicate i b++List.replicate (32 - i) (0:UInt8)).length=32:=by simp;omega
 (refine go ?_)
 (refine WW.ifB rfl (fun hz1 => ?_) (fun hz1 => ?_))
 ·have hi2:i < 32:=by omega
  have hat:((List.replicate i b++List.replicate (32 - i) (0:UInt8)).map encB)[0+i]? = some (encB 0):=by
   rw [Nat.zero_add,List.getElem?_map,List.getElem?_append_right (by simp),List.length_replicate,Nat.sub_self,List.getElem?_replicate,if_pos (by omega)];rfl
  have hst:((List.replicate i b++List.replicate (32 - i) (0:UInt8)).map encB).set (0+i) (encB b)=(List.replicate (i+1) b++List.replicate (32 - (i+1)) 0).map encB:=by
   rw [Nat.zero_add,← List.map_set,List.set_append_right _ _ (by simp),List.length_replicate,Nat.sub_self]
   obtain ⟨m,hm⟩:∃ m,32 - i=m+1:=⟨31 - i,by omega⟩
   rw [hm,show 32 - (i+1)=m by omega,List.replicate_succ,List.set_cons_zero,List.replicate_succ']
   simp
  (repeat first | refine WW.seq ?_ | refine WW.reg ?_ | refine WL.nil ?_ | refine WW.skip ?_ | refine WW.block ?_ | refine thenN ?_ | refine blkN ?_);iterate 4 (refine WL.go ?_)
  refine WL.go (hs:=by
   apply Stp.storeN
   exact rfl
   exact rfl
   exact g1
   exact hat
   exact rfl
   exact Nat.le_of_ble_eq_true rfl
   exact rfl
   exact (show putC (encB 0) 0 [.int .u8 b.toNat]=encB b from rfl)
   exact gM) ?_
  rw [hst]
  (refine go ?_)
  exact ⟨i+1,gSUB,⟨gH,(by repeat first | exact Kp.refl | assumption | with_reducible refine Kp.put ?_ (by omega) _ | with_reducible refine Kp.setN ?_ (by omega) _ | with_reducible refine Kp.keep ?_ _ | with_reducible refine Kp.setW ?_ (by rfl) _),(ltN gN (by omega)),by omega⟩,by omega⟩
 ·have hi2:i=32:=by omega
  subst hi2
  have hb:(List.replicate 32 b++List.replicate (32 - 32) (0:UInt8))=blk b:=by simp [blk]
  rw [hb] at g1
  refine WW.exit ?_
  (repeat first | refine thenN ?_ | refine blkN ?_)
  refine WW.cvt (Cvt.frz (s:=3) rfl g1) ?_
  rw [List.drop_zero,List.take_of_length_le (by simp [blk])]
  (refine go ?_)
  have k2:Keeps h h':=k1.keeps (fun _ h=>h.elim)
  refine WW.ret (PureQ.finD ?_)
  exact zkm rfl (flatB _)
structure LwC (md:Bool)(h0 h:AHeap)(N:CaN)(x:CaS)(k:Nat):Prop where
 g:CaG md h N x
 w:CaW h N x
 i:CaI md x k
 nw:∀ id,N.w.nm md id∨N.own id→h0.next≤id
 kp:Kp (fun id=>h0.next≤id) h0 h
section
variable {md:Bool}{h0 h h':AHeap}{N N':CaN}{x x':CaS}{k k':Nat}
theorem LwC.new (l:LwC md h0 h N x k)(hk:Kp (fun _=>False) h h'):LwC md h0 h' N x k:=⟨l.g.new hk,l.w.kp l.g hk (fun h=>h),l.i,l.nw,l.kp.trans (hk.mono fun _ _ h=>h.elim)⟩
theorem LwC.step (l:LwC md h0 h N x k)(t:CaT md h N h' N' x')(hi:CaI md x' k'):LwC md h0 h' N' x' k':=by
 have hx:=l.kp.next
 refine ⟨t.g,t.w,hi,fun id hi => ?_,l.kp.trans (t.kp.mono fun id _ q=>l.nw id (q.imp (fun q => .inl (WN.own_all q)) fun q=>q))⟩
 rcases hi with hi | hi
 ·exact (t.mv.w id hi).elim (fun q=>l.nw id (.inl q)) fun q=>by omega
 ·exact (t.mv.o id hi).elim (fun q=>l.nw id (.inr q)) fun q=>by omega
theorem LwC.mono (l:LwC md h0 h N x k)(hk:k≤k'):LwC md h0 h N x k':={ l with i:=l.i.mono hk }
def LwR (md:Bool)(h0:AHeap)(N:CaN)(R:Int×Option Bs×CaS)(k:Nat)(r:AV)(h':AHeap):Prop:=r = .agg [.int .i64 R.1,optV R.2.1]∧∃ N',LwC md h0 h' N' R.2.2 k∧N'.c=N.c∧N'.w.a=N.w.a
theorem LwC.do_ac (l:LwC md h0 h N x k)(hk:k≤50000)(c lba:Int)(d:Bs):AC Tryz.prog 25 [.ptr N.c 0 0,.agg [.int .i64 c,.int .i64 lba,.imm 1 (d.map encB)]] h (LwR md h0 N (x.doO md c lba d) (k+119)) :=
 (zma l.g l.w l.i hk c lba d).mono fun r h' ⟨h1,N',t⟩=>⟨h1,N',l.step t (l.i.doO (by omega)),t.mv.c,t.mv.a⟩
theorem zqo {N:CaN}{c lba:Int}:SubL [.ptr N.c 0 0,.agg [.int .i64 c,.int .i64 lba,.nils]] [.ptr N.c 0 0,.agg [.int .i64 c,.int .i64 lba,.imm 1 (([]:Bs).map encB)]] :=
 SubL.cons (SubV.refl _) (SubL.cons (SubV.agg (.cons (.refl _) (.cons (.refl _) (.cons .nil .nil))) (by simp [AV.scalar])) SubL.nil)
theorem LwC.doN_ac (l:LwC md h0 h N x k)(hk:k≤50000)(c lba:Int):AC Tryz.prog 25 [.ptr N.c 0 0,.agg [.int .i64 c,.int .i64 lba,.nils]] h (LwR md h0 N (x.doO md c lba []) (k+119)):=AC.sub zqo (l.do_ac hk c lba [])
end
theorem zmc {md:Bool}{h0 h:AHeap}{n:WN}{m:Nat}{seed:Int}(hG:isG m=true)(g:WG md h n (ws0 m seed))(hn:∀ id,n.nm md id→h0.next≤id)(k0:Kp (fun id=>h0.next≤id) h0 h) :
  AC Tryz.prog 23 [.ptr (n.a+10) 0 0] h (fun r h'=>∃ N,r = .tup [.ptr N.c 0 0,.int .i64 0]∧LwC md h0 h' N ((ws0 m seed).openC md) 109∧N.w.a=n.a):=by
 have hO:=zi0 g (wsi0 md hG seed) (by omega)
 have hI:=zuv md hG seed
 rw [open0] at hO
 refine hO.mono fun r h' ⟨N,hr,gw,ha,hnm,how,k2,hon⟩ => ?_
 obtain ⟨gc,wc,hown⟩:=hon rfl
 rw [if_pos rfl] at hr
 have hx:=k0.next
 refine ⟨N,hr,⟨gc,wc,hI.ci rfl,fun id hi => ?_,k0.trans (k2.mono fun id _ q=>hn id (.inl (WN.own_all q)))⟩,ha⟩
 rcases hi with hi | hi
 ·exact (hnm id hi).elim (hn id) fun q=>by omega
 ·have:=hown id hi;omega
theorem zci {md:Bool}{h:AHeap}{N:CaN}{x:CaS}(g:CaG md h N x):AE Tryz.prog 40 [.ptr N.c 0 0] h (.bool x.bad) h:=by
 obtain ⟨v,_,hc⟩:=g.c
 have hcg:=hc.g
 refine AE.pureW z2x (by simp) ?_
 unfold z1y;dsimp only [qQ,qR,qM,qG]
 (refine go ?_)
 refine WW.ret (PureQ.finD ?_)
 exact fz_b rfl
theorem zcj (h:AHeap):AE Tryz.prog 40 [.nilp] h (.bool false) h:=by
 refine AE.pureW z2x (by simp) ?_
 unfold z1y;dsimp only [qQ,qR,qM,qG]
 (refine go ?_)
 refine WW.ret (PureQ.finD ?_)
 exact fz_b rfl
def kx (md:Bool):Nat→CaS
 | 0 => (ws0 4 1).openC md
 | i + 1 => ((kx md i).doO md 2 i (blk 7)).2.2
theorem kx_ok (i:Nat)(hi:i < 5):((kx true i).doO true 2 i (blk 7)).1=0:=by
 have:i=0∨i=1∨i=2∨i=3∨i=4:=by omega
 rcases this with rfl | rfl | rfl | rfl | rfl <;> decide +kernel
theorem zuw:((kx true 5).doO true 1 4 []).1=0∧((kx true 5).doO true 1 4 []).2.1=some (blk 7)∧((kx true 5).doO true 1 4 []).2.2.s.ct.value=2∧((kx true 5).doO true 1 4 []).2.2.bad=false:=by decide +kernel
set_option maxHeartbeats 4000000 in
theorem zi3 (h:AHeap):AE Tryz.prog 26 [] h (.bool true) h:=by
 refine AE.pureW zi1 (by simp) ?_
 unfold zao;dsimp only [qQ,qR,qM,qG]
 (refine go ?_)
 refine WL.callA rfl gM gSL (zai true 4 rfl 1 h) ?_
 rintro _ h1 ⟨n,rfl,g1,hn,k1⟩
 (refine go ?_)
 refine WL.callA rfl gM gSL (zmc (h0:=h) rfl g1 hn k1) ?_
 rintro _ h2 ⟨N,rfl,l2,ha⟩
 (refine go ?_)
 rw [← ha]
 have hx0:(ws0 4 1).openC true=kx true 0:=rfl
 rw [hx0] at l2
 refine WW.loopE (fun (s:Nat×CaN)=>[(1,some (.ptr (N.w.a+10) 0 0)),(3,some (.ptr N.c 0 0)),(5,some (.int .i64 s.1))])
  (fun s h'=>LwC true h h' s.2 (kx true s.1) (109+119*s.1)∧s.2.c=N.c∧s.2.w.a=N.w.a∧s.1≤5) (fun s=>5 - s.1) (0,N) gSUB ⟨l2,rfl,rfl,Nat.zero_le _⟩ ?_
 clear l2 g1 k1
 rintro ⟨i,M⟩ h3 ⟨l3,hc,hw,hi⟩
 dsimp only at l3 hc hw hi ⊢
 rw [← hc,← hw]
 (refine go ?_)
 (refine WW.ifB rfl (fun hz1 => ?_) (fun hz1 => ?_))
 ·have hi2:i < 5:=by omega
  (refine go ?_)
  refine WL.call rfl gM gSL (z95 7 _) ?_
  (refine go ?_)
  refine WL.callA rfl gM gSL (l3.do_ac (by omega) 2 i (blk 7)) ?_
  rintro _ h4 ⟨rfl,M4,l4,hc4,hw4⟩
  rw [kx_ok i hi2]
  have e:((kx true i).doO true 2 i (blk 7)).2.2=kx true (i+1):=rfl
  rw [e] at l4
  rcases ((kx true i).doO true 2 i (blk 7)).2.1 with _ | o
  all_goals
   (refine go ?_)
   exact ⟨(i+1,M4),gSUB,⟨l4.mono (by dsimp only;omega),hc4,hw4,by dsimp only;omega⟩,by dsimp only;omega⟩
 ·have hi2:i=5:=by omega
  subst hi2
  obtain ⟨e1,e2,e3,e4⟩:=zuw
  (refine go ?_)
  refine WL.callA rfl gM gSL (l3.doN_ac (by omega) 1 4) ?_
  rintro _ h4 ⟨rfl,M4,l4,hc4,hw4⟩
  rw [e1,e2]
  clear e1 e2
  generalize ((kx true 5).doO true 1 4 []).2.2=y at *
  rw [← hc4,← hw4]
  have hblk:=z95 7
  rw [show optV (some (blk 7)) = .imm 1 ((blk 7).map encB) from rfl]
  generalize blk 7=B at *
  (repeat first | refine WL.go ?_ | refine WW.seq ?_ | refine WW.reg ?_ | refine WL.nil ?_ | refine WW.skip ?_ | refine WW.block ?_ | refine WW.exit ?_ | refine WW.condT rfl ?_ | refine WW.condF rfl ?_ | refine WL.gox ?_ | refine thenN ?_ | refine blkN ?_)
  refine WW.named (fun h5=>LwC true h h5 M4 y (109+119*5+119)∧∃ T,h5.get T=some (.mem 2 [[.int .i64 0,.imm 1 (B.map encB)]])∧T=h4.next) ⟨l4.new (by repeat first | exact Kp.refl | assumption | with_reducible refine Kp.put ?_ (by omega) _ | with_reducible refine Kp.setN ?_ (by omega) _ | with_reducible refine Kp.keep ?_ _ | with_reducible refine Kp.setW ?_ (by rfl) _),_,gH,rfl⟩ ?_
  rintro h5 ⟨l5,T,hT,hTe⟩
  rw [← hTe]
  have hct:=l5.g.w.w.ct
  have hob:=l5.g.w.w.w
  simp only [wRow] at hob
  refine WW.dregX [] [] [] gN (by decide +kernel) ?_
  (refine go ?_)
  refine DW.callS rfl gM gSL rfl (z4s (p:=M4.w.p) hct) ?_
  rw [e3]
  (refine go ?_)
  refine DW.callS rfl gM gSL rfl (hblk _) ?_
  (refine go ?_)
  rw [show (B==B)=true from beq_self_eq_true B]
  (refine go ?_)
  refine DW.callS rfl gM gSL rfl (zci l5.g) ?_
  rw [e4]
  (refine go ?_)
  have k10:=l5.kp.keeps (fun _ h=>h)
  refine WW.ret (PureQ.finD ?_)
  exact fz_b rfl
end Go.Proofs.YthblcmnhiccnhaaGreat


namespace Go.Proofs.YthblcmnhiccnhaaGreat
open Go Go.Abs

theorem zn5 (k lba:Int)(d:Bs)(h:AHeap):AE Tryz.prog 42 [.agg [.int .i64 k,.int .i64 lba,.imm 1 (d.map encB)]] h (.bool (clOk k lba d)) h:=by
 by_cases h1:k=1∨k=4
 ·have e:clOk k lba d=lbaIn lba:=by rw [clOk,if_pos h1]
  rw [e]
  rcases h1 with rfl | rfl
  all_goals
   refine AE.pureW z80 (by simp) ?_
   unfold z60;dsimp only [qQ,qR,qM,qG]
   (refine go ?_)
   (apply WL.andB;exact rfl;exact rfl;exact rfl;exact BP.of;intro hz1)
   ·(repeat first | (apply GW.goS;exact Stp.auto) | apply GW.nil | exact rfl)
   (refine go ?_)
   refine WW.ret (PureQ.finD ?_)
   exact fz_b (by simp [lbaIn])
 by_cases h2:k=2
 ·have e:clOk k lba d=(lbaIn lba&&decide (d.length=32)):=by rw [clOk,if_neg h1,if_pos h2]
  rw [e]
  subst h2
  refine AE.pureW z80 (by simp) ?_
  unfold z60;dsimp only [qQ,qR,qM,qG]
  (refine go ?_)
  (apply WL.andB;exact rfl;exact rfl;exact rfl;exact BP.of;intro hz1)
  ·(repeat first | (apply GW.goS;exact Stp.auto) | apply GW.nil | exact rfl)
  (refine go ?_)
  (apply WL.andB;exact rfl;exact rfl;exact rfl;exact BP.of;intro hz2)
  ·(repeat first | (apply GW.goS;exact Stp.auto) | apply GW.nil | exact rfl)
  (refine go ?_)
  refine WW.ret (PureQ.finD ?_)
  exact fz_b (by rw [Bool.eq_iff_iff];simp [lbaIn];omega)
 have e:clOk k lba d=decide (k=3∨k=5):=by rw [clOk,if_neg h1,if_neg h2]
 rw [e]
 refine AE.pureW z80 (by simp) ?_
 unfold z60;dsimp only [qQ,qR,qM,qG]
 (refine go ?_)
 (apply WL.andB;exact rfl;exact rfl;exact rfl;exact BP.of;intro hz1)
 ·(repeat first | (apply GW.goS;exact Stp.auto) | apply GW.nil | exact rfl)
 (refine go ?_)
 (refine WW.ifB rfl (fun hz2 => ?_) (fun hz2 => ?_))
 ·exact absurd (.inl hz2) h1
 (refine go ?_)
 (refine WW.ifB rfl (fun hz3 => ?_) (fun hz3 => ?_))
 ·exact absurd (.inr hz3) h1
 (refine go ?_)
 (refine WW.ifB rfl (fun hz4 => ?_) (fun hz4 => ?_))
 ·exact absurd hz4 h2
 (refine go ?_)
 (apply WL.orB;exact rfl;exact rfl;exact rfl;exact BP.of;intro hz5)
 ·(repeat first | (apply GW.goS;exact Stp.auto) | apply GW.nil | exact rfl)
 (refine go ?_)
 refine WW.ret (PureQ.finD ?_)
 exact fz_b (by rw [Bool.eq_iff_iff];simp)
theorem zi4 (h:AHeap):AE Tryz.prog 23 [.nilp] h (.tup [.nilp,.int .i64 1]) h:=by
 refine AE.pureW za1 (by simp) ?_
 unfold z6a;dsimp only [qQ,qR,qM,qG]
 (refine go ?_)
 refine WW.ret (PureQ.finD ?_)
 exact .clo _ (.tup _ fun v hv=>by
  simp only [List.mem_cons,List.not_mem_nil,or_false] at hv
  rcases hv with rfl | rfl
  ·exact .nilp
  ·exact .int _ _)
theorem zmd (h:AHeap)(k lba:Int)(d:Bs):AE Tryz.prog 25 [.nilp,.agg [.int .i64 k,.int .i64 lba,.imm 1 (d.map encB)]] h (.agg [.int .i64 1,.nils]) h:=by
 refine AE.pureW z5j (by simp) ?_
 unfold z39;dsimp only [qQ,qR,qM,qG]
 (refine go ?_)
 refine WW.ret (PureQ.finD ?_)
 exact ztl _
theorem zi5 (h:AHeap):AE Tryz.prog 33 [.nilp] h (.int .i64 0) h:=by
 refine AE.pureW zaz (by simp) ?_
 unfold z5a;dsimp only [qQ,qR,qM,qG]
 (refine go ?_)
 refine WL.call rfl gM gSL (z6w _) ?_
 (refine go ?_)
 refine WW.loopE (fun (i:Nat)=>[(3,some (.int .i64 0)),(7,some (.int .i64 0)),(8,some (.int .i64 0))]) (fun i h'=>h'=h) (fun i=>0) 0 gSUB rfl ?_
 rintro i h' rfl
 (refine go ?_)
 refine WW.ret (PureQ.finD ?_)
 exact fz_i rfl
set_option maxHeartbeats 4000000 in
theorem zck (k lba:Int)(d:Bs)(h:AHeap):AE Tryz.prog 11 [.agg [.int .i64 k,.int .i64 lba,.imm 1 (d.map encB)]] h (.bool true) h:=by
 refine AE.pureW zch (by simp) ?_
 unfold z5v;dsimp only [qQ,qR,qM,qG]
 (refine go ?_)
 refine WL.call rfl gM gSL (zn5 k lba d _) ?_
 (refine go ?_)
 (apply WL.orB;exact rfl;exact rfl;exact rfl;exact BP.of;intro hz1)
 ·(repeat first | (apply GW.goS;exact Stp.auto) | apply GW.nil | exact rfl)
 (refine go ?_)
 (refine WW.ifB rfl (fun hz2 => ?_) (fun hz2 => ?_))
 ·(refine go ?_)
  refine WW.ret (PureQ.finD ?_)
  exact fz_b rfl
 have hok:clOk k lba d=false:=by simp at hz2;exact hz2.1
 (refine go ?_)
 refine WL.named (fun h0=>Kp (fun _=>False) h h0∧BoxAt h0 h.next (.mem 3 [[.int .i64 k,.int .i64 lba,.imm 1 (d.map encB)]])) ⟨(by repeat first | exact Kp.refl | assumption | with_reducible refine Kp.put ?_ (by omega) _ | with_reducible refine Kp.setN ?_ (by omega) _ | with_reducible refine Kp.keep ?_ _ | with_reducible refine Kp.setW ?_ (by rfl) _),z2,gH⟩ ?_
 rintro h0 ⟨k0,b0⟩
 refine WL.callA rfl gM gSL (zai true 4 rfl 3 h0) ?_
 rintro _ h1 ⟨n,rfl,g1,hn,k1⟩
 have b1:=b0.kp k1 (fun q=>by have:=b0.u.1;omega)
 (refine go ?_)
 refine WL.callA rfl gM gSL (zmc (h0:=h0) rfl g1 hn k1) ?_
 rintro _ h2 ⟨N,rfl,l2,ha⟩
 have hbl:=b0.u.1
 have b2:=b0.kp l2.kp (by omega)
 have r2:=b2.g
 have hob:=l2.g.w.w.w
 simp only [wRow] at hob
 rw [ha] at hob
 (refine go ?_)
 refine WL.call rfl gM gSL (z8t l2.g.w.w.sd.pw) ?_
 (refine go ?_)
 refine WL.callA rfl gM gSL (l2.do_ac (by omega) k lba d) ?_
 rintro _ h3 ⟨rfl,N3,l3,hc3,hw3⟩
 have hR:((ws0 4 3).openC true).doO true k lba d=(1,none,(ws0 4 3).openC true):=by
  rw [CaS.doO,if_neg (by decide +kernel),if_neg (by decide +kernel),if_pos hok]
 rw [hR] at l3 ⊢
 dsimp only at l3 ⊢
 have b3:=b0.kp l3.kp (by omega)
 have hst:((ws0 4 3).openC true).s.pw.steps=((ws0 4 3).openC true).s.pw.steps:=rfl
 generalize (ws0 4 3).openC true=x at *
 have hpw:=l3.g.w.w.sd.pw
 have hob3:=l3.g.w.w.w
 simp only [wRow] at hob3
 rw [hw3,ha] at hob3
 have r3:=b3.g
 clear hob r2
 (refine go ?_)
 refine WL.named (fun h4=>LwC true h0 h4 N3 x (109+119)∧BoxAt h4 h.next (.mem 3 [[.int .i64 k,.int .i64 lba,.imm 1 (d.map encB)]])∧h4.get h3.next=some (.mem 2 [[.int .i64 1,.nils]])) ⟨l3.new (by repeat first | exact Kp.refl | assumption | with_reducible refine Kp.put ?_ (by omega) _ | with_reducible refine Kp.setN ?_ (by omega) _ | with_reducible refine Kp.keep ?_ _ | with_reducible refine Kp.setW ?_ (by rfl) _),b3.kp (W:=fun _=>False) (by repeat first | exact Kp.refl | assumption | with_reducible refine Kp.put ?_ (by omega) _ | with_reducible refine Kp.setN ?_ (by omega) _ | with_reducible refine Kp.keep ?_ _ | with_reducible refine Kp.setW ?_ (by rfl) _) (fun h=>h),gH⟩ ?_
 clear hob3 r3 hpw
 rintro h4 ⟨l4,b4,r4⟩
 have hpw:=l4.g.w.w.sd.pw
 have hob3:=l4.g.w.w.w
 simp only [wRow] at hob3
 rw [hw3,ha] at hob3
 have r3:=b4.g
 refine WL.call rfl gM gSL (zi4 _) ?_
 (refine go ?_)
 refine WL.call rfl gM gSL (z8t hpw) ?_
 (refine go ?_)
 rw [show (x.s.pw.steps==x.s.pw.steps)=true from beq_self_eq_true _]
 (refine go ?_)
 refine WL.call rfl gM gSL (zmd _ k lba d) ?_
 (refine go ?_)
 refine WL.call rfl gM gSL (zcj _) ?_
 (refine go ?_)
 refine WL.call rfl gM gSL (z6w _) ?_
 (refine go ?_)
 refine WL.call rfl gM gSL (zi5 _) ?_
 (refine go ?_)
 refine WL.call rfl gM gSL (zi3 _) ?_
 (refine go ?_)
 have k10:Keeps h h4:=⟨Nat.le_trans k0.next l4.kp.next,fun id hu=>(l4.kp.get id (k0.us id hu) (fun q=>by have:=(k0.us id hu).1;omega)).trans (k0.get id hu (fun h=>h))⟩
 refine WW.ret (PureQ.finD ?_)
 exact fz_b rfl
theorem zk9 (c0:List AV)(t0:TypL [.i .i64,.i .i64,.sl [.i .u8]] c0):AE Tryz.prog 11 [.agg c0] z20 (.bool true) z20:=by
 obtain ⟨x0,_,rfl,t0,_⟩:=znu t0
 obtain ⟨x1,_,rfl,t1,_⟩:=znu t0
 obtain ⟨x2,_,rfl,t2,_⟩:=zur t1
 obtain rfl:=t2.nil_inv
 exact zck x0 x1 x2 z20
end Go.Proofs.YthblcmnhiccnhaaGreat


