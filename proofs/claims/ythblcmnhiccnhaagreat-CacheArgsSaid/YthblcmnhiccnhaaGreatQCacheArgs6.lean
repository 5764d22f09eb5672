/- What the statement's proof needs, part 6. -/
import Derived.Test.YthblcmnhiccnhaaGreatQCacheArgs5
set_option linter.all false
namespace Go.Proofs.YthblcmnhiccnhaaGreat
open Go Go.Abs

def freeP (x:CaS)(i:Nat):Bool:=((x.now.getD i lf0).k==0)&&((x.was.getD i lf0).k==0)
section
variable {md:Bool}{h:AHeap}{n:CaN}{x:CaS}
theorem zgi (hg:CaG md h n x)(i:Nat)(hi:i < x.now.length)(hi2:i < x.was.length):AE Tryz.prog 88 [.ptr n.c 0 0,.int .i64 i] h (.bool (freeP x i)) h:=by
 obtain ⟨g1,g2,⟨v,g3,g4⟩,g5,g6,g8,g7⟩:=hg
 have hc:=g4.g
 have e1:x.now.getD i lf0=x.now[i]:=by simp [List.getD_eq_getElem?_getD,hi]
 have e2:x.was.getD i lf0=x.was[i]:=by simp [List.getD_eq_getElem?_getD,hi2]
 refine AE.pureW z8b (by simp) ?_
 unfold z3x;dsimp only [qQ,qR,qM,qG]
 rcases g3 with rfl | ⟨rfl,hE⟩
 ·(refine go ?_)
  (apply WL.andB;exact rfl;exact rfl;exact rfl;exact BP.of;intro hz1)
  ·(repeat first | (apply GW.goS;exact Stp.auto) | apply GW.nil | exact rfl)
  (refine go ?_)
  refine WW.ret (PureQ.finD ?_)
  exact fz_b (by rw [freeP,e1,e2])
 ·have hEg:=hE.g
  (refine go ?_)
  simp only [Nat.zero_add]
  (apply WL.andB;exact rfl;exact rfl;exact rfl;exact BP.of;intro hz1)
  ·(repeat first | (apply GW.goS;exact Stp.auto) | apply GW.nil | exact rfl)
  (refine go ?_)
  refine WW.ret (PureQ.finD ?_)
  exact fz_b (by rw [freeP,e1,e2])
def freeI (x:CaS):Int:=if (List.range x.now.length).findIdx (freeP x) < x.now.length then ((List.range x.now.length).findIdx (freeP x):Int) else -1
theorem z2e (hg:CaG md h n x)(hl:x.now.length≤16)(hl2:x.was.length=x.now.length):AE Tryz.prog 133 [.ptr n.c 0 0] h (.int .i64 (freeI x)) h:=by
 have hgg:=hg
 obtain ⟨g1,g2,⟨v,g3,g4⟩,g5,g6,g8,g7⟩:=hg
 have hc:=g4.g
 have hlr:(List.range x.now.length).length=x.now.length:=List.length_range
 refine AE.pureW zas (by simp) ?_
 unfold z51;dsimp only [qQ,qR,qM,qG]
 rcases g3 with rfl | ⟨rfl,hE⟩
 all_goals
  (refine go ?_)
  refine WW.loopE (fun (i:Nat)=>[(0,some (.ptr n.c 0 0)),(8,some (.int .i64 x.now.length)),(9,some (.int .i64 i))])
   (fun i h'=>h'=h∧i≤x.now.length∧i≤(List.range x.now.length).findIdx (freeP x)) (fun i=>x.now.length - i) 0 gSUB ⟨rfl,Nat.zero_le _,Nat.zero_le _⟩ ?_
  rintro i h' ⟨rfl,c1,c2⟩
  (refine go ?_)
  (refine WW.ifB rfl (fun hz1 => ?_) (fun hz1 => ?_))
  ·have hi:i < x.now.length:=by omega
   (refine go ?_)
   refine WL.call rfl gM gSL (zgi hgg i hi (by omega)) ?_
   cases hp:freeP x i with
   | true =>
    (refine go ?_)
    refine WW.ret (PureQ.finD ?_)
    have he:(List.range x.now.length).findIdx (freeP x)=i:=by
     rcases Nat.lt_or_ge i ((List.range x.now.length).findIdx (freeP x)) with h1 | h1
     ·have:=List.not_of_lt_findIdx h1
      rw [List.getElem_range,hp] at this;simp at this
     ·omega
    rw [freeI,he,if_pos hi]
    exact fz_i rfl
   | false =>
    (refine go ?_)
    refine ⟨i+1,gSUB,⟨rfl,by omega,?_⟩,by omega⟩
    rcases Nat.lt_or_ge i ((List.range x.now.length).findIdx (freeP x)) with h1 | h1
    ·exact h1
    ·have he:(List.range x.now.length).findIdx (freeP x)=i:=by omega
     have:=List.findIdx_getElem (p:=freeP x) (w:=by rw [he,hlr];exact hi)
     simp only [he,List.getElem_range] at this
     rw [hp] at this;cases this
  ·(refine go ?_)
   refine WW.ret (PureQ.finD ?_)
   rw [freeI,if_neg (by omega)]
   exact fz_i rfl
end
theorem z5h (lba:Int)(hl:0≤lba∧lba < 32)(h:AHeap):AE Tryz.prog 198 [.int .i64 lba] h (.imm 1 ((putB lba 2).map encB)) h:=by
 refine AE.pureW zj7 (by simp) ?_
 unfold zb8;dsimp only [qQ,qR,qM,qG]
 (refine go ?_)
 refine WL.call rfl gM gSL (zu lba 2 _ (by decide)) ?_
 (refine go ?_)
 refine WW.ret (PureQ.finD ?_)
 exact zkm rfl (flatB _)
theorem zcf (n i:Int)(hn:isG n=true)(hi:0≤i∧i < n)(h:AHeap):AE Tryz.prog 196 [.agg [.int .i64 n],.int .i64 i] h (.int .i64 (i*32)) h:=by
 have hg:=z8 hn
 refine AE.pureW zcy (by simp) ?_
 unfold z6c;dsimp only [qQ,qR,qM,qG]
 (refine go ?_)
 refine WL.call rfl gM gSL (z1n n i n _) ?_
 rw [show (isG n&&decide (0≤i)&&decide (i < n))=true by simp [hn];omega]
 (refine go ?_)
 refine WW.ret (PureQ.finD ?_)
 exact fz_i rfl
end Go.Proofs.YthblcmnhiccnhaaGreat


namespace Go.Proofs.YthblcmnhiccnhaaGreat
open Go Go.Abs

def ixF (p:Lf→Bool)(l:List Lf):Int:=if l.findIdx p < l.length then (l.findIdx p:Int) else -1
theorem z9y {h:AHeap}{v:AV}{E:Nat}{l:List Lf}{f:Nat}{us ts:List AV}{p:Lf→Bool}(hv:RowV h v l E)(hl:l.length≤1000000)(hb:zga f)(hK:∀ h2,Keeps h h2→∀ y,AE Tryz.prog f (us++[.agg (encL y)]++ts) h2 (.bool (p y)) h2) :
  AE Tryz.prog 194 [v,.func (.func f) us ts] h (.int .i64 (ixF p l)) h:=by
 refine AE.pureW z2n (by simp) ?_
 unfold z1d;dsimp only [qQ,qR,qM,qG]
 rcases hv with rfl | ⟨rfl,hE⟩
 ·(refine go ?_)
  refine WW.loopE (fun (i:Nat)=>[(0,some (.imm 8 (l.map encL))),(1,some (.func (.func f) us ts)),(7,some (.int .i64 l.length)),(8,some (.int .i64 i))])
   (fun i h'=>h'=h∧i≤l.length∧i≤l.findIdx p) (fun i=>l.length - i) 0 gSUB ⟨rfl,Nat.zero_le _,Nat.zero_le _⟩ ?_
  rintro i h' ⟨rfl,c1,c2⟩
  (refine go ?_)
  (refine WW.ifB rfl (fun hz1 => ?_) (fun hz1 => ?_))
  ·have hi:i < l.length:=by omega
   (repeat first | refine WW.seq ?_ | refine WW.reg ?_ | refine WL.nil ?_ | refine WW.skip ?_ | refine WW.block ?_ | refine thenN ?_ | refine blkN ?_);iterate 2 (refine WL.go ?_)
   (repeat first | refine WW.seq ?_ | refine WW.reg ?_ | refine WL.nil ?_ | refine WW.skip ?_ | refine WW.block ?_ | refine thenN ?_ | refine blkN ?_);iterate 5 (refine WL.go ?_)
   refine WL.fx1 (FX.callv rfl rfl gM hb.ok (hK _ (Keeps.refl _) l[i])) ?_
   cases hp:p l[i] with
   | true =>
    (refine go ?_)
    refine WW.ret (PureQ.finD ?_)
    have he:l.findIdx p=i:=by
     rcases Nat.lt_or_ge i (l.findIdx p) with h1 | h1
     ·have:=List.not_of_lt_findIdx h1;rw [hp] at this;simp at this
     ·omega
    rw [ixF,he,if_pos hi]
    exact fz_i rfl
   | false =>
    (refine go ?_)
    refine ⟨i+1,gSUB,⟨rfl,by omega,?_⟩,by omega⟩
    rcases Nat.lt_or_ge i (l.findIdx p) with h1 | h1
    ·exact h1
    ·have he:l.findIdx p=i:=by omega
     have:=List.findIdx_getElem (p:=p) (w:=by rw [he];exact hi)
     simp only [he] at this
     rw [hp] at this;cases this
  ·(refine go ?_)
   refine WW.ret (PureQ.finD ?_)
   rw [ixF,if_neg (by omega)]
   exact fz_i rfl
 ·have hEg:=hE.g
  (refine go ?_)
  refine WW.loopE (fun (i:Nat)=>[(0,some (.ref E 0 l.length)),(1,some (.func (.func f) us ts)),(7,some (.int .i64 l.length)),(8,some (.int .i64 i))])
   (fun i h'=>h'=h∧i≤l.length∧i≤l.findIdx p) (fun i=>l.length - i) 0 gSUB ⟨rfl,Nat.zero_le _,Nat.zero_le _⟩ ?_
  rintro i h' ⟨rfl,c1,c2⟩
  (refine go ?_)
  (refine WW.ifB rfl (fun hz1 => ?_) (fun hz1 => ?_))
  ·have hi:i < l.length:=by omega
   (repeat first | refine WW.seq ?_ | refine WW.reg ?_ | refine WL.nil ?_ | refine WW.skip ?_ | refine WW.block ?_ | refine thenN ?_ | refine blkN ?_);iterate 2 (refine WL.go ?_)
   (repeat first | refine WW.seq ?_ | refine WW.reg ?_ | refine WL.nil ?_ | refine WW.skip ?_ | refine WW.block ?_ | refine thenN ?_ | refine blkN ?_);iterate 5 (refine WL.go ?_)
   simp only [Nat.zero_add]
   refine WL.fx1 (FX.callv rfl rfl gM hb.ok (hK _ (Keeps.refl _) l[i])) ?_
   cases hp:p l[i] with
   | true =>
    (refine go ?_)
    refine WW.ret (PureQ.finD ?_)
    have he:l.findIdx p=i:=by
     rcases Nat.lt_or_ge i (l.findIdx p) with h1 | h1
     ·have:=List.not_of_lt_findIdx h1;rw [hp] at this;simp at this
     ·omega
    rw [ixF,he,if_pos hi]
    exact fz_i rfl
   | false =>
    (refine go ?_)
    refine ⟨i+1,gSUB,⟨rfl,by omega,?_⟩,by omega⟩
    rcases Nat.lt_or_ge i (l.findIdx p) with h1 | h1
    ·exact h1
    ·have he:l.findIdx p=i:=by omega
     have:=List.findIdx_getElem (p:=p) (w:=by rw [he];exact hi)
     simp only [he] at this
     rw [hp] at this;cases this
  ·(refine go ?_)
   refine WW.ret (PureQ.finD ?_)
   rw [ixF,if_neg (by omega)]
   exact fz_i rfl
def slotP (lba:Int)(y:Lf):Bool:=(y.k !=0)&&(y.lba==lba)
theorem zqg {h:AHeap}{p:Nat}{lba:Int}(hp:h.get p=some (.mem 1 [[.int .i64 lba]]))(y:Lf):AE Tryz.prog 195 [.agg (encL y),.ptr p 0 0] h (.bool (slotP lba y)) h:=by
 refine AE.wf fun hwf => ?_
 have h0:=hwf _ _ hp
 refine AE.pureW z8a (by simp) ?_
 unfold z3w;dsimp only [qQ,qR,qM,qG]
 (refine go ?_)
 (apply WL.andB;exact rfl;exact rfl;exact rfl;exact BP.of;intro hz1)
 ·(repeat first | (apply GW.goS;exact Stp.auto) | apply GW.nil | exact rfl)
 (refine go ?_)
 refine WW.ret (PureQ.finD ?_)
 exact fz_b rfl
theorem zal {md:Bool}{h:AHeap}{n:CaN}{x:CaS}(hg:CaG md h n x)(hl:x.now.length≤1000000)(lba:Int):AE Tryz.prog 131 [.ptr n.c 0 0,.int .i64 lba] h (.int .i64 (ixF (slotP lba) x.now)) h:=by
 obtain ⟨g1,g2,⟨v,g3,g4⟩,g5,g6,g8,g7⟩:=hg
 have hc:=g4.g
 have hcl:=g4.u.1
 refine AE.pureW zar (by simp) ?_
 unfold z50;dsimp only [qQ,qR,qM,qG]
 (refine go ?_)
 have hv:RowV (h.put h.next (.mem 1 [[.int .i64 lba]])) v x.now n.nE:=g3.kp (W:=fun _=>False) (by repeat first | exact Kp.refl | assumption | with_reducible refine Kp.put ?_ (by omega) _ | with_reducible refine Kp.setN ?_ (by omega) _ | with_reducible refine Kp.keep ?_ _ | with_reducible refine Kp.setW ?_ (by rfl) _) (fun h=>h)
 refine WL.call rfl gM gSL (z9y hv hl (f:=195) (us:=[]) (ts:=[.ptr h.next 0 0]) (p:=slotP lba) ⟨by kernel_rfl⟩ (fun h2 hk y=>zqg ((hk.2 _ z2).trans gH) y)) ?_
 (refine go ?_)
 refine WW.ret (PureQ.finD ?_)
 exact fz_i rfl
end Go.Proofs.YthblcmnhiccnhaaGreat


namespace Go.Proofs.YthblcmnhiccnhaaGreat
open Go Go.Abs

def CaS.layN (x:CaS)(f:Nat):Nn:=(x.s.ks.cur,(f:Int),x.boot*4294967296+((x.j+1:Nat):Int))
theorem zgj {h:AHeap}{nm id:Nat}{x:AObj}{y:Option AObj}:nm < ((h.put nm x).set id y).next:=(z2 (h:=h) (x:=x)).1
theorem caG_w {md:Bool}{h h':AHeap}{n:CaN}{x:CaS}{s':WS}(hg:CaG md h n x)(g':WG md h' n.w s')(hk:Kp (n.w.own md) h h'):CaG md h' n { x with s:=s' }:=by
 obtain ⟨g1,g2,⟨v,g3,g4⟩,g5,g6,g8,g7⟩:=hg
 have hno:∀ id,n.own id→¬ n.w.own md id:=fun id hi q=>g6 id hi (.inl (WN.own_all q))
 exact ⟨g',g2.kp hk (hno _ (.inr (.inl rfl))),⟨v,g3.kp hk (hno _ (.inr (.inr (.inr (.inr (.inl rfl)))))),g4.kp hk (hno _ (.inl rfl))⟩,g5.kp hk (hno _ (.inr (.inr (.inl rfl)))) (hno _ (.inr (.inr (.inr (.inl rfl))))) (hno _ (.inr (.inr (.inr (.inr (.inr rfl)))))),g6,fun id hi=>Nat.lt_of_lt_of_le (g8 id hi) hk.next,g7⟩
end Go.Proofs.YthblcmnhiccnhaaGreat


namespace Go.Proofs.YthblcmnhiccnhaaGreat
open Go Go.Abs

def lessA (last:List Int)(arr:List Nat)(i j:Nat):Bool:=decide (last.getD (arr.getD i 0) 0 < last.getD (arr.getD j 0) 0)
def swapA (arr:List Nat)(i j:Nat):List Nat:=(arr.set i (arr.getD j 0)).set j (arr.getD i 0)
theorem zg {arr:List Nat}{i j:Nat}:(swapA arr i j).length=arr.length:=by simp [swapA]
theorem z9z {arr:List Nat}{i:Nat}(h:i < arr.length):arr.getD i 0∈arr:=by
 rw [List.getD_eq_getElem?_getD,List.getElem?_eq_getElem h];exact List.getElem_mem h
theorem z7l {arr:List Nat}{i j:Nat}(hi:i < arr.length)(hj:j < arr.length){x:Nat}(hx:x∈swapA arr i j):x∈arr:=by
 rcases List.mem_or_eq_of_mem_set hx with hx | rfl
 ·rcases List.mem_or_eq_of_mem_set hx with hx | rfl
  ·exact hx
  ·exact z9z hj
 ·exact z9z hi
theorem znv {last:List Int}{rest:List AV}{x:Nat}(hx:x < last.length):(last.map (.int .i64 ·)++rest)[0+x*1]? = some (.int .i64 (last.getD x 0)):=by
 rw [Nat.zero_add,Nat.mul_one,List.getElem?_append_left (by simpa using hx),List.getElem?_map,List.getElem?_eq_getElem hx,List.getD_eq_getElem?_getD,List.getElem?_eq_getElem hx]
 rfl
theorem znw {arr:List Nat}{i:Nat}(hi:i < arr.length):arr.getD i 0=arr[0+i]'(by omega):=by
 simp only [Nat.zero_add]
 rw [List.getD_eq_getElem?_getD,List.getElem?_eq_getElem hi];rfl
theorem zm2 {arr:List Nat}{i:Nat}(hi:i < arr.length):arr.getD i 0=arr[i]'hi:=by
 rw [List.getD_eq_getElem?_getD,List.getElem?_eq_getElem hi];rfl
theorem znx {arr:List Nat}{i x:Nat}{y:Nat}:(arr.map encSl).set i (.int .i64 x::List.drop 1 (encSl y))=(arr.set i x).map encSl:=by
 rw [List.map_set];rfl
theorem zcw {arr:List Nat}{i:Nat}(hi:i < arr.length):(arr.map encSl)[0+i]? = some [.int .i64 (arr.getD i 0:Nat)]:=by
 rw [Nat.zero_add,List.getElem?_map,List.getElem?_eq_getElem hi,List.getD_eq_getElem?_getD,List.getElem?_eq_getElem hi]
 rfl
section
variable {h:AHeap}{a q E:Nat}{last:List Int}{rest:List AV}{arr:List Nat}
theorem zru (ha:h.get a=some (.mem 18 [last.map (.int .i64 ·)++rest]))(hl:last.length=16){x y:Nat}(hx:x < 16)(hy:y < 16):AE Tryz.prog 125 [.ptr a 0 0,.int .i64 x,.int .i64 y] h (.bool (decide (last.getD x 0 < last.getD y 0))) h:=by
 have g1:=znv (last:=last) (rest:=rest) (x:=x) (by omega)
 have g2:=znv (last:=last) (rest:=rest) (x:=y) (by omega)
 refine AE.pureW ze5 (by simp) ?_
 unfold z73;dsimp only [qQ,qR,qM,qG]
 (repeat first | refine WL.go ?_ | refine WW.seq ?_ | refine WW.reg ?_ | refine WL.nil ?_ | refine WW.skip ?_ | refine WW.block ?_ | refine WW.exit ?_ | refine WW.condT rfl ?_ | refine WW.condF rfl ?_ | refine WL.gox ?_ | refine thenN ?_ | refine blkN ?_)
 refine WW.dregX [] [] [] gN (by decide +kernel) ?_
 (refine go ?_)
 refine DW.go ?_ (hs:=Stp.load1 rfl gH (ze g1 rfl) gM)
 (refine go ?_)
 refine DW.go ?_ (hs:=Stp.load1 rfl gH (ze g2 rfl) gM)
 (refine go ?_)
 refine WW.ret (PureQ.finD ?_)
 exact fz_b rfl
theorem zk3 (ha:h.get a=some (.mem 18 [last.map (.int .i64 ·)++rest]))(hl:last.length=16)(hq:h.get q=some (.mem 2 [[.ref E 0 arr.length,agF a]]))(hE:h.get E=some (.mem 1 (arr.map encSl)))(ht:∀ x∈arr,x < 16){i j:Nat}(hi:i < arr.length)(hj:j < arr.length):AE Tryz.prog 329 [.ptr q 0 0,.int .i64 i,.int .i64 j] h (.bool (lessA last arr i j)) h:=by
 have hxi:=ht _ (z9z hi)
 have hxj:=ht _ (z9z hj)
 have g1:=zcw hi
 have g2:=zcw hj
 simp only [agF] at hq
 refine AE.pureW zd0 (by simp) ?_
 unfold z6e;dsimp only [qQ,qR,qM,qG]
 (repeat first | refine WL.go ?_ | refine WW.seq ?_ | refine WW.reg ?_ | refine WL.nil ?_ | refine WW.skip ?_ | refine WW.block ?_ | refine WW.exit ?_ | refine WW.condT rfl ?_ | refine WW.condF rfl ?_ | refine WL.gox ?_ | refine thenN ?_ | refine blkN ?_)
 refine WW.dregX [] [] [] gN (by decide +kernel) ?_
 (refine go ?_)
 rw [← znw hi,← znw hj]
 refine DW.fxR (FX.callv rfl rfl gM (by kernel_rfl) (zru ha hl hxi hxj)) rfl rfl ?_
 (refine go ?_)
 refine WW.ret (PureQ.finD ?_)
 exact fz_b rfl
theorem zk4 (hq:BoxAt h q (.mem 2 [[.ref E 0 arr.length,agF a]]))(hE:BoxAt h E (.mem 1 (arr.map encSl))){i j:Nat}(hi:i < arr.length)(hj:j < arr.length):AC Tryz.prog 332 [.ptr q 0 0,.int .i64 i,.int .i64 j] h (fun r h'=>r = .tup []∧BoxAt h' E (.mem 1 ((swapA arr i j).map encSl))∧Kp (fun id=>id=E) h h'):=by
 have hqg:=hq.g
 have hEg:=hE.g
 simp only [agF] at hqg
 have g1:=zcw hi
 have g2:=zcw hj
 refine AC.introW zd2 (by simp) ?_
 unfold z6g;dsimp only [qQ,qR,qM,qG]
 (repeat first | refine WL.go ?_ | refine WW.seq ?_ | refine WW.reg ?_ | refine WL.nil ?_ | refine WW.skip ?_ | refine WW.block ?_ | refine WW.exit ?_ | refine WW.condT rfl ?_ | refine WW.condF rfl ?_ | refine WL.gox ?_ | refine thenN ?_ | refine blkN ?_)
 refine WW.dregX [25,27] [] [E] gN (by decide +kernel) ?_
 (refine go ?_)
 simp only [Nat.zero_add]
 rw [znx,← zm2 hj,← zm2 hi]
 have hls:(arr.set i (arr.getD j 0)).length=arr.length:=List.length_set
 have hsw:(arr.set i (arr.getD j 0)).set j (arr.getD i 0)=swapA arr i j:=rfl
 generalize arr.set i (arr.getD j 0)=arr1 at *
 (refine go ?_)
 rw [znx,hsw]
 exact ⟨by simp,_,gRES,rfl,⟨by exact (Kp.setW (W:=fun id=>id=E) (Kp.setW (W:=fun id=>id=E) Kp.refl rfl _) rfl _).us _ hE.u,gH⟩,(by repeat first | exact Kp.refl | assumption | with_reducible refine Kp.put ?_ (by omega) _ | with_reducible refine Kp.setN ?_ (by omega) _ | with_reducible refine Kp.keep ?_ _ | with_reducible refine Kp.setW ?_ (by simp;done) _)⟩
end
end Go.Proofs.YthblcmnhiccnhaaGreat


namespace Go.Proofs.YthblcmnhiccnhaaGreat
open Go Go.Abs

def upA (last:List Int):Nat→List Nat→Nat→List Nat
 | 0, arr, _ => arr
 | f + 1, arr, j => if j = 0 then arr else if lessA last arr j ((j - 1) / 2) then upA last f (swapA arr ((j - 1) / 2) j) ((j - 1) / 2) else arr
def downA (last:List Int)(n:Nat):Nat→List Nat→Nat→List Nat×Nat
 | 0, arr, i => (arr, i)
 | f + 1, arr, i =>
  if n≤2*i+1 then (arr,i)
  else
   let j:=if 2*i+2 < n∧lessA last arr (2*i+2) (2*i+1)=true then 2*i+2 else 2*i+1
   if lessA last arr j i then downA last n f (swapA arr i j) j else (arr,i)
structure QuAt (h:AHeap)(a q E:Nat)(last:List Int)(arr:List Nat):Prop where
 ob:∃ t,BoxAt h a (.mem 18 [last.map (.int .i64 ·)++[.int .i64 t,.ptr q 0 0]])
 qo:BoxAt h q (.mem 2 [[.ref E 0 arr.length,agF a]])
 eo:BoxAt h E (.mem 1 (arr.map encSl))
 l:last.length=16
 t:∀ x∈arr,x < 16
 dj:a≠E∧q≠E
section
variable {h:AHeap}{a q E:Nat}{last:List Int}{arr:List Nat}
theorem QuAt.less (hq:QuAt h a q E last arr){i j:Nat}(hi:i < arr.length)(hj:j < arr.length):AE Tryz.prog 329 [.ptr q 0 0,.int .i64 i,.int .i64 j] h (.bool (lessA last arr i j)) h:=by
 obtain ⟨t,ht⟩:=hq.ob
 exact zk3 ht.g hq.l hq.qo.g hq.eo.g hq.t hi hj
theorem QuAt.swap (hq:QuAt h a q E last arr){i j:Nat}(hi:i < arr.length)(hj:j < arr.length):AC Tryz.prog 332 [.ptr q 0 0,.int .i64 i,.int .i64 j] h (fun r h'=>r = .tup []∧QuAt h' a q E last (swapA arr i j)∧Kp (fun id=>id=E) h h'):=by
 refine (zk4 hq.qo hq.eo hi hj).mono ?_
 rintro r h' ⟨rfl,b,k⟩
 obtain ⟨t,ht⟩:=hq.ob
 exact ⟨rfl,⟨⟨t,ht.kp k hq.dj.1⟩,by rw [zg];exact hq.qo.kp k hq.dj.2,b,hq.l,fun x hx=>hq.t x (z7l hi hj hx),hq.dj⟩,k⟩
theorem z5i {v:AV}{n:Nat}(hq:h.get q=some (.mem 2 [[v,agF a]]))(hv:(v = .nils∧n=0)∨v = .ref E 0 n):AE Tryz.prog 296 [.ptr q 0 0] h (.int .i64 n) h:=by
 simp only [agF] at hq
 refine AE.pureW ze6 (by simp) ?_
 unfold z74;dsimp only [qQ,qR,qM,qG]
 rcases hv with ⟨rfl,rfl⟩ | rfl
 all_goals
  (refine go ?_)
  refine WW.ret (PureQ.finD ?_)
  exact fz_i rfl
theorem zrv {j:Nat}(h:0 < j)(hj:j≤1000000):binA .quo .i64 ((j:Int) - 1) 2=some (.int .i64 (((j - 1) / 2:Nat):Int)):=by
 rw [show (j:Int) - 1=((j - 1:Nat):Int) by omega]
 exact div2 (by omega)
theorem zgk (hq:QuAt h a q E last arr){j:Nat}(hj:j < arr.length)(hl:arr.length≤1000000){f:Nat}(hf:j≤f):AC Tryz.prog 191 [.iface 215 (.ptr q 0 0),.int .i64 j] h (fun r h'=>r = .tup []∧QuAt h' a q E last (upA last f arr j)∧Kp (fun id=>id=E) h h'):=by
 refine AC.introW z9d (by simp) ?_
 unfold z48;dsimp only [qQ,qR,qM,qG]
 (refine go ?_)
 refine WW.loopE (fun (s:List Nat×Nat×Nat)=>[(0,some (.iface 215 (.ptr q 0 0))),(1,some (.int .i64 s.2.1))])
  (fun s h'=>QuAt h' a q E last s.1∧Kp (fun id=>id=E) h h'∧s.2.1 < s.1.length∧s.1.length=arr.length∧s.2.1≤s.2.2∧upA last s.2.2 s.1 s.2.1=upA last f arr j) (fun s=>s.2.1) (arr,j,f) gSUB ⟨hq,Kp.refl,hj,rfl,hf,rfl⟩ ?_
 rintro ⟨arr1,j1,f1⟩ h1 ⟨q1,k1,hj1,hl1,hf1,he1⟩
 dsimp only at q1 hj1 hl1 hf1 he1 ⊢
 (repeat first | refine WW.seq ?_ | refine WW.reg ?_ | refine WL.nil ?_ | refine WW.skip ?_ | refine WW.block ?_ | refine thenN ?_ | refine blkN ?_);iterate 2 (refine WL.go ?_)
 rcases Nat.eq_zero_or_pos j1 with rfl | hj0
 ·(refine go ?_)
  have e2:upA last f1 arr1 0=arr1:=by cases f1 <;> rfl
  rw [e2] at he1
  exact ⟨.inr rfl,_,gRES,rfl,he1 ▸ q1,k1⟩
 obtain ⟨f2,rfl⟩:∃ f2,f1=f2+1:=⟨f1 - 1,by omega⟩
 rw [upA,if_neg (by omega)] at he1
 refine WL.go (hs:=Stp.bin rfl rfl (zrv hj0 (by omega)) gM) ?_
 have hp:(j1 - 1) / 2 < j1:=by omega
 generalize (j1 - 1) / 2=p at *
 (refine go ?_)
 (refine WL.spB rfl (fun hz1 => ?_) (fun hz1 => ?_))
 ·omega
 (refine go ?_)
 refine WL.fx1 (FX.inv rfl rfl gM (f:=329) (by kernel_rfl) (by kernel_rfl) (q1.less hj1 (show p < arr1.length by omega))) ?_
 cases hls:lessA last arr1 j1 p with
 | false =>
  (refine go ?_)
  rw [hls,if_neg (by simp)] at he1
  exact ⟨.inr rfl,_,gRES,rfl,he1 ▸ q1,k1⟩
 | true =>
  rw [hls,if_pos rfl] at he1
  (refine go ?_)
  refine WL.fxr (FXR.inv rfl rfl gM (f:=332) (by kernel_rfl) (by kernel_rfl) (q1.swap (show p < arr1.length by omega) hj1)) ?_
  rintro _ h2 ⟨_,rfl,rfl,q2,k2⟩
  (refine go ?_)
  exact ⟨(swapA arr1 p j1,p,f2),gSUB,⟨q2,k1.trans k2,by rw [zg];dsimp only;omega,by rw [zg];exact hl1,by dsimp only;omega,he1⟩,hp⟩
set_option maxHeartbeats 2000000 in
theorem zm3 (hq:QuAt h a q E last arr){i n:Nat}(hi:i < arr.length)(hn:n≤arr.length)(hl:arr.length≤1000000){f:Nat}(hf:n≤i+f):AC Tryz.prog 249 [.iface 215 (.ptr q 0 0),.int .i64 i,.int .i64 n] h (fun r h'=>r = .bool (decide (i < (downA last n f arr i).2))∧QuAt h' a q E last (downA last n f arr i).1∧(downA last n f arr i).1.length=arr.length∧Kp (fun id=>id=E) h h'):=by
 refine AC.introW z7u (by simp) ?_
 unfold z3j;dsimp only [qQ,qR,qM,qG]
 (refine go ?_)
 refine WW.loopE (fun (s:List Nat×Nat×Nat)=>[(0,some (.iface 215 (.ptr q 0 0))),(1,some (.int .i64 i)),(2,some (.int .i64 n)),(7,some (.int .i64 s.2.1))])
  (fun s h'=>QuAt h' a q E last s.1∧Kp (fun id=>id=E) h h'∧s.2.1 < s.1.length∧s.1.length=arr.length∧n≤s.2.1+s.2.2∧downA last n s.2.2 s.1 s.2.1=downA last n f arr i) (fun s=>s.1.length - s.2.1) (arr,i,f) gSUB ⟨hq,Kp.refl,hi,rfl,hf,rfl⟩ ?_
 rintro ⟨arr1,i1,f1⟩ h1 ⟨q1,k1,hi1,hl1,hf1,he1⟩
 dsimp only at q1 hi1 hl1 hf1 he1 ⊢
 have hgt:((i1:Int) > (i:Int))=(i < i1):=by simp
 (refine go ?_)
 (refine WL.spB rfl (fun hz1 => ?_) (fun hz1 => ?_))
 ·have e2:downA last n f1 arr1 i1=(arr1,i1):=by
   cases f1 with
   | zero => rfl
   | succ f2 => rw [downA, if_pos (by omega)]
  rw [e2] at he1
  (refine go ?_)
  rw [← he1]
  exact WW.ret ⟨.inl rfl,_,gRES,by simp [Go.Abs.fin],q1,hl1,k1⟩
 obtain ⟨f2,rfl⟩:∃ f2,f1=f2+1:=⟨f1 - 1,by omega⟩
 rw [downA,if_neg (by omega)] at he1
 dsimp only at he1
 (refine go ?_)
 have a1:∀ (x y:Nat) (u v:Int),u=x→v=y→x < arr1.length→y < arr1.length→AE Tryz.prog 329 [.ptr q 0 0,.int .i64 u,.int .i64 v] h1 (.bool (lessA last arr1 x y)) h1:=fun x y u v hu hv hx hy=>by
  rw [hu,hv];exact q1.less hx hy
 generalize hjj:(if 2*i1+2 < n∧lessA last arr1 (2*i1+2) (2*i1+1)=true then 2*i1+2 else 2*i1+1)=J at he1
 have u1:(2*(i1:Int)+1+1)=((2*i1+2:Nat):Int):=by omega
 have u2:(2*(i1:Int)+1)=((2*i1+1:Nat):Int):=by omega
 (refine WL.spB rfl (fun hz2 => ?_) (fun hz2 => ?_))
 ·(refine go ?_)
  refine WL.fx1 (FX.inv rfl rfl gM (f:=329) (by kernel_rfl) (by kernel_rfl) (a1 (2*i1+2) (2*i1+1) _ _ (by omega) (by omega) (by omega) (by omega))) ?_
  rw [u1,u2]
  cases hls:lessA last arr1 (2*i1+2) (2*i1+1)
  ·rw [if_neg (by rw [hls];simp)] at hjj
   rw [hjj]
   have a2:=a1 J i1 (J:Int) (i1:Int) rfl rfl (by omega) hi1
   (refine go ?_)
   refine WL.fx1 (FX.inv rfl rfl gM (f:=329) (by kernel_rfl) (by kernel_rfl) a2) ?_
   cases hl3:lessA last arr1 J i1 with
   | false =>
    rw [hl3,if_neg (by simp)] at he1
    (refine go ?_)
    rw [← he1]
    exact WW.ret ⟨.inl rfl,_,gRES,by simp [Go.Abs.fin],q1,hl1,k1⟩
   | true =>
    rw [hl3,if_pos rfl] at he1
    (refine go ?_)
    refine WL.fxr (FXR.inv rfl rfl gM (f:=332) (by kernel_rfl) (by kernel_rfl) (q1.swap hi1 (show J < arr1.length by omega))) ?_
    rintro _ h2 ⟨_,rfl,rfl,q2,k2⟩
    (refine go ?_)
    exact ⟨(swapA arr1 i1 J,J,f2),gSUB,⟨q2,k1.trans k2,by rw [zg];dsimp only;omega,by rw [zg];exact hl1,by dsimp only;omega,he1⟩,by rw [zg];dsimp only;omega⟩
  ·rw [if_pos ⟨by omega,hls⟩] at hjj
   rw [hjj]
   have a2:=a1 J i1 (J:Int) (i1:Int) rfl rfl (by omega) hi1
   (refine go ?_)
   refine WL.fx1 (FX.inv rfl rfl gM (f:=329) (by kernel_rfl) (by kernel_rfl) a2) ?_
   cases hl3:lessA last arr1 J i1 with
   | false =>
    rw [hl3,if_neg (by simp)] at he1
    (refine go ?_)
    rw [← he1]
    exact WW.ret ⟨.inl rfl,_,gRES,by simp [Go.Abs.fin],q1,hl1,k1⟩
   | true =>
    rw [hl3,if_pos rfl] at he1
    (refine go ?_)
    refine WL.fxr (FXR.inv rfl rfl gM (f:=332) (by kernel_rfl) (by kernel_rfl) (q1.swap hi1 (show J < arr1.length by omega))) ?_
    rintro _ h2 ⟨_,rfl,rfl,q2,k2⟩
    (refine go ?_)
    exact ⟨(swapA arr1 i1 J,J,f2),gSUB,⟨q2,k1.trans k2,by rw [zg];dsimp only;omega,by rw [zg];exact hl1,by dsimp only;omega,he1⟩,by rw [zg];dsimp only;omega⟩
 ·rw [if_neg (by omega)] at hjj
  rw [u1,u2,hjj]
  have a2:=a1 J i1 (J:Int) (i1:Int) rfl rfl (by omega) hi1
  (refine go ?_)
  refine WL.fx1 (FX.inv rfl rfl gM (f:=329) (by kernel_rfl) (by kernel_rfl) a2) ?_
  cases hl3:lessA last arr1 J i1 with
  | false =>
   rw [hl3,if_neg (by simp)] at he1
   (refine go ?_)
   rw [← he1]
   exact WW.ret ⟨.inl rfl,_,gRES,by simp [Go.Abs.fin],q1,hl1,k1⟩
  | true =>
   rw [hl3,if_pos rfl] at he1
   (refine go ?_)
   refine WL.fxr (FXR.inv rfl rfl gM (f:=332) (by kernel_rfl) (by kernel_rfl) (q1.swap hi1 (show J < arr1.length by omega))) ?_
   rintro _ h2 ⟨_,rfl,rfl,q2,k2⟩
   (refine go ?_)
   exact ⟨(swapA arr1 i1 J,J,f2),gSUB,⟨q2,k1.trans k2,by rw [zg];dsimp only;omega,by rw [zg];exact hl1,by dsimp only;omega,he1⟩,by rw [zg];dsimp only;omega⟩
end
end Go.Proofs.YthblcmnhiccnhaaGreat


namespace Go.Proofs.YthblcmnhiccnhaaGreat
open Go Go.Abs

theorem zj3 {last:List Int}{n:Nat}:∀ (f:Nat) (arr:List Nat) (i:Nat),i < arr.length→n≤arr.length→((downA last n f arr i).1.length=arr.length∧(downA last n f arr i).2 < arr.length∧∀ x∈(downA last n f arr i).1,x∈arr)
 | 0, arr, i, hi, _ => ⟨rfl, hi, fun _ h => h⟩
 | f + 1, arr, i, hi, hn => by
  rw [downA]
  split
  ·exact ⟨rfl,hi,fun _ h=>h⟩
  ·dsimp only
   generalize hj:(if 2*i+2 < n∧lessA last arr (2*i+2) (2*i+1)=true then 2*i+2 else 2*i+1)=j
   have hjn:j < n:=by split at hj <;> omega
   split
   ·obtain ⟨h1,h2,h3⟩:=zj3 f (swapA arr i j) j (by rw [zg];omega) (by rw [zg];exact hn)
    rw [zg] at h1 h2
    exact ⟨h1,h2,fun x hx=>z7l hi (by omega) (h3 x hx)⟩
   ·exact ⟨rfl,hi,fun _ h=>h⟩
theorem z90 {last:List Int}:∀ (f:Nat) (arr:List Nat) (j:Nat),j < arr.length→((upA last f arr j).length=arr.length∧∀ x∈upA last f arr j,x∈arr)
 | 0, arr, j, _ => ⟨rfl, fun _ h => h⟩
 | f + 1, arr, j, hj => by
  rw [upA]
  split
  ·exact ⟨rfl,fun _ h=>h⟩
  ·split
   ·have hp:(j - 1) / 2 < arr.length:=by omega
    obtain ⟨h1,h2⟩:=z90 f (swapA arr ((j - 1) / 2) j) ((j - 1) / 2) (by rw [zg];exact hp)
    rw [zg] at h1
    exact ⟨h1,fun x hx=>z7l hp hj (h2 x hx)⟩
   ·exact ⟨rfl,fun _ h=>h⟩
def pushA (last:List Int)(arr:List Nat)(x:Nat):List Nat:=upA last arr.length (arr++[x]) arr.length
def remA' (last:List Int)(arr:List Nat)(i:Nat):List Nat :=
 if arr.length - 1=i then arr
 else
  let d:=downA last (arr.length - 1) (arr.length - 1) (swapA arr i (arr.length - 1)) i
  if i < d.2 then d.1 else upA last i d.1 i
def remA (last:List Int)(arr:List Nat)(i:Nat):List Nat:=(remA' last arr i).take (arr.length - 1)
theorem z7m {last:List Int}{arr:List Nat}{i:Nat}(hi:i < arr.length):(remA' last arr i).length=arr.length∧∀ x∈remA' last arr i,x∈arr:=by
 rw [remA']
 split
 ·exact ⟨rfl,fun _ h=>h⟩
 ·dsimp only
  obtain ⟨h1,h2,h3⟩:=zj3 (last:=last) (n:=arr.length - 1) (arr.length - 1) (swapA arr i (arr.length - 1)) i (by rw [zg];exact hi) (by rw [zg];omega)
  rw [zg] at h1 h2
  have h4:∀ x∈(downA last (arr.length - 1) (arr.length - 1) (swapA arr i (arr.length - 1)) i).1,x∈arr:=fun x hx=>z7l hi (by omega) (h3 x hx)
  split
  ·exact ⟨h1,h4⟩
  ·obtain ⟨h5,h6⟩:=z90 (last:=last) i (downA last (arr.length - 1) (arr.length - 1) (swapA arr i (arr.length - 1)) i).1 i (by rw [h1];exact hi)
   exact ⟨h5.trans h1,fun x hx=>h4 x (h6 x hx)⟩
section
variable {h:AHeap}{a q E:Nat}{last:List Int}{arr:List Nat}
theorem zk5 {v:AV}(hv:SlV h v arr E)(hqE:q≠E)(hl:arr.length≤1000000)(hq:BoxAt h q (.mem 2 [[v,agF a]]))(x:Nat):AC Tryz.prog 331 [.ptr q 0 0,.iface 3 (.int .i64 x)] h (fun r h'=>r = .tup []∧h.next < h'.next∧BoxAt h' h.next (.mem 1 ((arr++[x]).map encSl))∧BoxAt h' q (.mem 2 [[.ref h.next 0 (arr.length+1),agF a]])∧Kp (fun id=>id=q∨id=E) h h'):=by
 have hqg:=hq.g
 simp only [agF] at hqg
 have hql:=hq.u.1
 refine AC.introW zd1 (by simp) ?_
 unfold z6f;dsimp only [qQ,qR,qM,qG]
 rcases hv with ⟨rfl,rfl⟩ | ⟨rfl,hE⟩
 ·(refine go ?_)
  refine WL.fx1 (FX.rawN (XOK.asrt rfl) gM) ?_
  (repeat first | refine WW.seq ?_ | refine WW.reg ?_ | refine WL.nil ?_ | refine WW.skip ?_ | refine WW.block ?_ | refine thenN ?_ | refine blkN ?_);iterate 5 (refine WL.go ?_)
  (repeat first | refine WW.seq ?_ | refine WW.reg ?_ | refine WL.nil ?_ | refine WW.skip ?_ | refine WW.block ?_ | refine thenN ?_ | refine blkN ?_);iterate 7 (refine WL.go ?_)
  refine WL.fx1 (FX.appM (nm:=h.next) (c:=[[.int .i64 x]]) (fun hu=>Nat.lt_irrefl _ hu.1) rfl rfl rfl (by simp) (by simp) gM) ?_
  refine WL.live fun hl => ?_
  have b1:BoxAt (h.put h.next (.mem 1 [[.int .i64 x]])) h.next (.mem 1 [[.int .i64 x]]):=⟨z2,gH⟩
  (refine go ?_)
  have kp:Kp (fun id=>id=q∨id=E) h ((h.put h.next (.mem 1 [[.int .i64 x]])).set q (some (.mem 2 [[.ref h.next 0 1,agF a]]))):=Kp.setW (W:=fun id=>id=q∨id=E) (Kp.put Kp.refl (Nat.le_refl _) _) (.inl rfl) _
  exact ⟨.inr rfl,_,gRES,rfl,(ltN gN (by omega)),⟨by exact b1.u,gH⟩,⟨kp.us _ hq.u,gH⟩,kp⟩
 ·have hEg:=hE.g
  have hEl:=hE.u.1
  (refine go ?_)
  refine WL.fx1 (FX.rawN (XOK.asrt rfl) gM) ?_
  (repeat first | refine WW.seq ?_ | refine WW.reg ?_ | refine WL.nil ?_ | refine WW.skip ?_ | refine WW.block ?_ | refine thenN ?_ | refine blkN ?_);iterate 5 (refine WL.go ?_)
  (repeat first | refine WW.seq ?_ | refine WW.reg ?_ | refine WL.nil ?_ | refine WW.skip ?_ | refine WW.block ?_ | refine thenN ?_ | refine blkN ?_);iterate 7 (refine WL.go ?_)
  refine WL.fx1 (FX.appR (nm:=h.next) (c2:=[[.int .i64 x]]) (fun hu=>Nat.lt_irrefl _ hu.1) rfl gH (List.length_map _) rfl rfl (by simp) (by simp;omega) gM) ?_
  have hm2:arr.map encSl++[[AV.int .i64 x]]=(arr++[x]).map encSl:=by simp [encSl]
  rw [hm2]
  have b1:BoxAt ((h.set E none).put h.next (.mem 1 ((arr++[x]).map encSl))) h.next (.mem 1 ((arr++[x]).map encSl)):=⟨z2 (x := .tail 0 0),gH⟩
  (refine go ?_)
  have kp:Kp (fun id=>id=q∨id=E) h (((h.set E none).put h.next (.mem 1 ((arr++[x]).map encSl))).set q (some (.mem 2 [[.ref h.next 0 (arr.length+1),agF a]]))):=Kp.setW (W:=fun id=>id=q∨id=E) (Kp.put (Kp.setW (W:=fun id=>id=q∨id=E) Kp.refl (.inr rfl) _) (Nat.le_refl _) _) (.inl rfl) _
  exact ⟨.inr rfl,_,gRES,rfl,(ltN gN (by omega)),⟨by exact b1.u,gH⟩,⟨kp.us _ hq.u,gH⟩,kp⟩
theorem z6x (hq:BoxAt h q (.mem 2 [[.ref E 0 arr.length,agF a]]))(hE:BoxAt h E (.mem 1 (arr.map encSl)))(hqE:q≠E)(hl:0 < arr.length∧arr.length≤1000000):AC Tryz.prog 330 [.ptr q 0 0] h (fun r h'=>∃ x:Nat,r = .iface 3 (.int .i64 x)∧h.next < h'.next∧BoxAt h' h.next (.mem 1 ((arr.take (arr.length - 1)).map encSl))∧BoxAt h' q (.mem 2 [[.ref h.next 0 (arr.length - 1),agF a]])∧Kp (fun id=>id=q∨id=E) h h'):=by
 have hqg:=hq.g
 simp only [agF] at hqg
 have hql:=hq.u.1
 have hEg:=hE.g
 have hEl:=hE.u.1
 refine AC.introW ze7 (by simp) ?_
 unfold z75;dsimp only [qQ,qR,qM,qG]
 (repeat first | refine WW.seq ?_ | refine WW.reg ?_ | refine WL.nil ?_ | refine WW.skip ?_ | refine WW.block ?_ | refine thenN ?_ | refine blkN ?_);iterate 1 (refine WL.go ?_)
 (repeat first | refine WW.seq ?_ | refine WW.reg ?_ | refine WL.nil ?_ | refine WW.skip ?_ | refine WW.block ?_ | refine thenN ?_ | refine blkN ?_);iterate 7 (refine WL.go ?_)
 rw [show ((arr.length:Int) - 1)=((arr.length - 1:Nat):Int) by omega]
 obtain ⟨m,hm⟩:∃ m,arr.length - 1=m:=⟨_,rfl⟩
 rw [hm]
 (repeat first | refine WW.seq ?_ | refine WW.reg ?_ | refine WL.nil ?_ | refine WW.skip ?_ | refine WW.block ?_ | refine thenN ?_ | refine blkN ?_);iterate 8 (refine WL.go ?_)
 (repeat first | refine WW.seq ?_ | refine WW.reg ?_ | refine WL.nil ?_ | refine WW.skip ?_ | refine WW.block ?_ | refine thenN ?_ | refine blkN ?_);iterate 7 (refine WL.go ?_)
 refine WL.cvt (Cvt.trim (s:=24) (id:=E) (n:=m) (c':=(arr.take m).map encSl) rfl gH (by simp;omega) (by rw [List.map_take]) rfl) ?_
 have b1:BoxAt ((h.set E none).put h.next (.mem 1 ((arr.take m).map encSl))) h.next (.mem 1 ((arr.take m).map encSl)):=⟨z2 (x := .tail 0 0),gH⟩
 (refine go ?_)
 refine WL.fx1 (FX.rawN (XOK.mkif rfl) gM) ?_
 (refine go ?_)
 have kp:Kp (fun id=>id=q∨id=E) h (((h.set E none).put h.next (.mem 1 ((arr.take m).map encSl))).set q (some (.mem 2 [[.ref h.next 0 m,agF a]]))):=Kp.setW (W:=fun id=>id=q∨id=E) (Kp.put (Kp.setW (W:=fun id=>id=q∨id=E) Kp.refl (.inr rfl) _) (Nat.le_refl _) _) (.inl rfl) _
 exact WW.ret ⟨.inl rfl,_,gRES,_,rfl,(ltN gN (by omega)),⟨by exact b1.u,gH⟩,⟨kp.us _ hq.u,gH⟩,kp⟩
def ixN (arr:List Nat)(x:Nat):Int:=if arr.findIdx (·==x) < arr.length then (arr.findIdx (·==x):Int) else -1
theorem zer {v:AV}(hv:SlV h v arr E)(hl:arr.length≤1000000)(x:Nat):AE Tryz.prog 189 [v,.int .i64 x] h (.int .i64 (ixN arr x)) h:=by
 rcases hv with ⟨rfl,rfl⟩ | ⟨rfl,hE⟩
 ·refine AE.pureW z31 (by simp) ?_
  unfold z21;dsimp only [qQ,qR,qM,qG]
  (refine go ?_)
  refine WW.loopE (fun (_:Unit)=>[(7,some (.int .i64 0)),(8,some (.int .i64 0))]) (fun _ h'=>h'=h) (fun _=>0) () gSUB rfl ?_
  rintro i h' rfl
  (refine go ?_)
  refine WW.ret (PureQ.finD ?_)
  exact fz_i rfl
 ·have hEg:=hE.g
  refine AE.pureW z31 (by simp) ?_
  unfold z21;dsimp only [qQ,qR,qM,qG]
  (refine go ?_)
  refine WW.loopE (fun (i:Nat)=>[(0,some (.ref E 0 arr.length)),(1,some (.int .i64 x)),(7,some (.int .i64 arr.length)),(8,some (.int .i64 i))]) (fun i h'=>h'=h∧i≤arr.length∧i≤arr.findIdx (·==x)) (fun i=>arr.length - i) 0 gSUB ⟨rfl,Nat.zero_le _,Nat.zero_le _⟩ ?_
  rintro i h' ⟨rfl,c1,c2⟩
  (refine go ?_)
  (refine WW.ifB rfl (fun hz1 => ?_) (fun hz1 => ?_))
  ·have hi:i < arr.length:=by omega
   (refine go ?_)
   simp only [Nat.zero_add]
   (refine WW.ifB rfl (fun hz2 => ?_) (fun hz2 => ?_))
   ·(refine go ?_)
    refine WW.ret (PureQ.finD ?_)
    have hp:(arr[i]==x)=true:=by rw [beq_iff_eq];omega
    have he:arr.findIdx (·==x)=i:=by
     rcases Nat.lt_or_ge i (arr.findIdx (·==x)) with h1 | h1
     ·have:=List.not_of_lt_findIdx h1;rw [hp] at this;simp at this
     ·omega
    rw [ixN,he,if_pos hi]
    exact fz_i rfl
   ·(refine go ?_)
    refine ⟨i+1,gSUB,⟨rfl,by omega,?_⟩,by omega⟩
    rcases Nat.lt_or_ge i (arr.findIdx (·==x)) with h1 | h1
    ·exact h1
    ·have he:arr.findIdx (·==x)=i:=by omega
     have:=List.findIdx_getElem (p:=(·==x)) (w:=by rw [he];exact hi)
     simp only [he] at this
     simp only [beq_iff_eq] at this
     omega
  ·(refine go ?_)
   refine WW.ret (PureQ.finD ?_)
   rw [ixN,if_neg (by omega)]
   exact fz_i rfl
set_option maxHeartbeats 1000000 in
theorem zhv (hq:QuAt h a q E last arr){i:Nat}(hi:i < arr.length)(hl:arr.length≤1000000):AC Tryz.prog 190 [.iface 215 (.ptr q 0 0),.int .i64 i] h (fun r h'=>(∃ x:Nat,r = .iface 3 (.int .i64 x))∧∃ E',h.next≤E'∧E' < h'.next∧BoxAt h' E' (.mem 1 ((remA last arr i).map encSl))∧BoxAt h' q (.mem 2 [[.ref E' 0 (arr.length - 1),agF a]])∧Kp (fun id=>id=q∨id=E) h h'):=by
 have hrl:=(z7m (last:=last) hi).1
 refine AC.introW z6b (by simp) ?_
 unfold z2u;dsimp only [qQ,qR,qM,qG]
 (repeat first | refine WW.seq ?_ | refine WW.reg ?_ | refine WL.nil ?_ | refine WW.skip ?_ | refine WW.block ?_ | refine thenN ?_ | refine blkN ?_);iterate 1 (refine WL.go ?_)
 (repeat first | refine WW.seq ?_ | refine WW.reg ?_ | refine WL.nil ?_ | refine WW.skip ?_ | refine WW.block ?_ | refine thenN ?_ | refine blkN ?_);iterate 1 (refine WL.go ?_)
 refine WL.fx1 (FX.inv rfl rfl gM (f:=296) (by kernel_rfl) (by kernel_rfl) (z5i (E:=E) hq.qo.g (.inr rfl))) ?_
 (repeat first | refine WW.seq ?_ | refine WW.reg ?_ | refine WL.nil ?_ | refine WW.skip ?_ | refine WW.block ?_ | refine thenN ?_ | refine blkN ?_);iterate 2 (refine WL.go ?_)
 rw [show ((arr.length:Int) - 1)=((arr.length - 1:Nat):Int) by omega]
 obtain ⟨m,hm⟩:∃ m,arr.length - 1=m:=⟨_,rfl⟩
 rw [hm]
 (refine go ?_)
 (refine WW.ifB rfl (fun hz1 => ?_) (fun hz1 => ?_))
 ·have hne:¬ m=i:=by first | omega | (simp only [bne_iff_ne,ne_eq] at hz1;omega)
  have er:remA' last arr i=(if i < (downA last m m (swapA arr i m) i).2 then (downA last m m (swapA arr i m) i).1 else upA last i (downA last m m (swapA arr i m) i).1 i):=by
   rw [remA',hm,if_neg hne]
  (refine go ?_)
  refine WL.fxr (FXR.inv rfl rfl gM (f:=332) (by kernel_rfl) (by kernel_rfl) (hq.swap hi (show m < arr.length by omega))) ?_
  rintro _ h2 ⟨_,rfl,rfl,q2,k2⟩
  have hl2:(swapA arr i m).length=arr.length:=zg
  generalize swapA arr i m=arr2 at *
  (refine go ?_)
  refine WL.callA rfl gM gSL (zm3 q2 (i:=i) (n:=m) (by omega) (by omega) (by omega) (f:=m) (by omega)) ?_
  rintro _ h3 ⟨rfl,q3,l3,k3⟩
  generalize downA last m m arr2 i=dd at *
  have k23:=k2.trans k3
  cases hlt:decide (i < dd.2) with
  | true =>
   rw [if_pos (of_decide_eq_true hlt)] at er
   (refine go ?_)
   refine WL.fxr (FXR.inv rfl rfl gM (f:=330) (by kernel_rfl) (by kernel_rfl) (z6x q3.qo q3.eo q3.dj.2 (by omega))) ?_
   rintro _ h4 ⟨_,rfl,x,rfl,hx4,b4,q4,k4⟩
   (refine go ?_)
   refine WW.ret ⟨.inl rfl,_,gRES,⟨x,rfl⟩,h3.next,k23.next,hx4,?_,?_,(k23.mono fun _ _ e => .inr e).trans k4⟩
   ·rw [remA,er,hm];rw [show dd.1.length - 1=m by omega] at b4;exact b4
   ·rw [show dd.1.length - 1=m by omega] at q4;exact q4
  | false =>
   rw [if_neg (of_decide_eq_false hlt)] at er
   (refine go ?_)
   refine WL.callA rfl gM gSL (zgk q3 (j:=i) (by omega) (by omega) (f:=i) (by omega)) ?_
   rintro _ h3' ⟨rfl,q3',k3'⟩
   rw [← er] at q3'
   have k23:=k23.trans k3'
   (refine go ?_)
   refine WL.fxr (FXR.inv rfl rfl gM (f:=330) (by kernel_rfl) (by kernel_rfl) (z6x q3'.qo q3'.eo q3'.dj.2 (by omega))) ?_
   rintro _ h4 ⟨_,rfl,x,rfl,hx4,b4,q4,k4⟩
   (refine go ?_)
   refine WW.ret ⟨.inl rfl,_,gRES,⟨x,rfl⟩,h3'.next,k23.next,hx4,?_,?_,(k23.mono fun _ _ e => .inr e).trans k4⟩
   ·rw [remA,hm];rw [hrl,hm] at b4;exact b4
   ·rw [hrl,hm] at q4;exact q4
 ·have hne:m=i:=by first | omega | (simp only [bne_iff_ne,ne_eq] at hz1;omega)
  have er:remA' last arr i=arr:=by rw [remA',hm,if_pos hne]
  (refine go ?_)
  refine WL.fxr (FXR.inv rfl rfl gM (f:=330) (by kernel_rfl) (by kernel_rfl) (z6x hq.qo hq.eo hq.dj.2 (by omega))) ?_
  rintro _ h4 ⟨_,rfl,x,rfl,hx4,b4,q4,k4⟩
  (refine go ?_)
  refine WW.ret ⟨.inl rfl,_,gRES,⟨x,rfl⟩,h.next,Nat.le_refl _,hx4,?_,?_,k4⟩
  ·rw [remA,er,hm];rw [hm] at b4;exact b4
  ·rw [hm] at q4;exact q4
end
end Go.Proofs.YthblcmnhiccnhaaGreat


namespace Go.Proofs.YthblcmnhiccnhaaGreat
open Go Go.Abs

def AgS.has (s:AgS)(x:Nat):Bool:=decide (s.arr.findIdx (·==x) < s.arr.length)
def AgS.drop (s:AgS)(x:Nat):AgS:=if s.has x then { s with arr:=remA s.last s.arr (s.arr.findIdx (·==x)) } else s
def AgS.touch (s:AgS)(x:Nat):AgS:=let d:=s.drop x;⟨d.last.set x (d.ticks+1),d.ticks+1,pushA (d.last.set x (d.ticks+1)) d.arr x⟩
structure AgOk (s:AgS)(k:Nat):Prop where
 l:s.last.length=16
 t:∀ x∈s.arr,x < 16
 n:s.arr.length≤k
 tk:0≤s.ticks∧s.ticks≤k
section
variable {s:AgS}{k:Nat}
theorem agOk0:AgOk ag0 0:=⟨rfl,by simp [ag0],Nat.le_refl _,by decide,by decide⟩
theorem AgOk.mono (h:AgOk s k){k':Nat}(hk:k≤k'):AgOk s k':=⟨h.l,h.t,Nat.le_trans h.n hk,h.tk.1,by have:=h.tk.2;omega⟩
theorem AgOk.drop (h:AgOk s k)(x:Nat):AgOk (s.drop x) k:=by
 rw [AgS.drop]
 split
 ·rename_i hx
  have hi:s.arr.findIdx (·==x) < s.arr.length:=of_decide_eq_true hx
  obtain ⟨h1,h2⟩:=z7m (last:=s.last) hi
  have h3:=h.n
  exact ⟨h.l,fun y hy=>h.t y (h2 y (List.mem_of_mem_take hy)),by show (remA _ _ _).length≤k;rw [remA,List.length_take];omega,h.tk⟩
 ·exact h
theorem AgOk.touch (h:AgOk s k){x:Nat}(hx:x < 16):AgOk (s.touch x) (k+1):=by
 have hd:=h.drop x
 have h1:=hd.n
 have h2:=hd.tk
 obtain ⟨h3,h4⟩:=z90 (last:=(s.drop x).last.set x ((s.drop x).ticks+1)) (s.drop x).arr.length ((s.drop x).arr++[x]) (s.drop x).arr.length (by simp)
 refine ⟨?_,fun y hy => ?_,?_,?_⟩
 ·show ((s.drop x).last.set x _).length=16
  rw [List.length_set];exact hd.l
 ·rcases List.mem_append.1 (h4 y hy) with hy | hy
  ·exact hd.t y hy
  ·rw [List.mem_singleton.1 hy];exact hx
 ·show (upA _ _ _ _).length≤_
  rw [h3];simp;omega
 ·show 0≤(s.drop x).ticks+1∧(s.drop x).ticks+1≤((k+1:Nat):Int)
  omega
end
section
variable {h:AHeap}{a q E:Nat}{s:AgS}{k:Nat}
theorem AgAt.qu (ha:AgAt h a q E s)(hk:AgOk s k)(hn:s.arr≠[]):QuAt h a q E s.last s.arr:=by
 obtain ⟨h1,v,h2,h3⟩:=ha
 rcases h2 with ⟨rfl,h4⟩ | ⟨rfl,h4⟩
 ·exact absurd h4 hn
 ·refine ⟨⟨s.ticks,h1⟩,h3,h4,hk.l,hk.t,fun e => ?_,fun e => ?_⟩
  ·have q1:=h1.g
   rw [e,h4.g] at q1
   simp at q1
  ·have q1:=h3.g
   rw [e,h4.g] at q1
   simp at q1
theorem zqh {s:AgS}(hl:s.last.length=16):(s.row q)[0+16]? = some (.int .i64 s.ticks):=by
 rw [AgS.row,List.getElem?_append_right (by simp;omega)];simp [hl]
theorem zgl {s:AgS}(hl:s.last.length=16):(s.row q)[0+17]? = some (.ptr q 0 0):=by
 rw [AgS.row,List.getElem?_append_right (by simp;omega)];simp [hl]
set_option maxHeartbeats 1000000 in
theorem ze0 (ha:AgAt h a q E s)(hk:AgOk s k)(hk2:k≤1000000)(haq:a≠q)(x:Nat):AC Tryz.prog 126 [.ptr a 0 0,.int .i64 x] h (fun r h'=>r = .bool (s.has x)∧∃ E',(E'=E∨(h.next≤E'∧E' < h'.next))∧AgAt h' a q E' (s.drop x)∧Kp (fun id=>id=q∨id=E) h h'):=by
 have h17:=zgl (q:=q) hk.l
 have hn:=hk.n
 obtain ⟨h1,v,h2,h3⟩:=id ha
 have hag:=h1.g
 have hal:=h1.u.1
 have hqg:=h3.g
 have hql:=h3.u.1
 simp only [agF] at hqg
 refine AC.introW zfa (by simp) ?_
 unfold z86;dsimp only [qQ,qR,qM,qG]
 (repeat first | refine WW.seq ?_ | refine WW.reg ?_ | refine WL.nil ?_ | refine WW.skip ?_ | refine WW.block ?_ | refine thenN ?_ | refine blkN ?_)
 (repeat first | refine WW.seq ?_ | refine WW.reg ?_ | refine WL.nil ?_ | refine WW.skip ?_ | refine WW.block ?_ | refine thenN ?_ | refine blkN ?_);iterate 1 (refine WL.go ?_)
 (repeat first | refine WW.seq ?_ | refine WW.reg ?_ | refine WL.nil ?_ | refine WW.skip ?_ | refine WW.block ?_ | refine thenN ?_ | refine blkN ?_);iterate 2 (refine WL.go ?_)
 (repeat first | refine WW.seq ?_ | refine WW.reg ?_ | refine WL.nil ?_ | refine WW.skip ?_ | refine WW.block ?_ | refine thenN ?_ | refine blkN ?_)
 refine WW.condF rfl ?_
 (repeat first | refine WW.seq ?_ | refine WW.reg ?_ | refine WL.nil ?_ | refine WW.skip ?_ | refine WW.block ?_ | refine thenN ?_ | refine blkN ?_);iterate 3 (refine WL.go ?_)
 refine WL.go (hs:=Stp.load1 rfl hag (ze h17 rfl) gM) ?_
 (refine go ?_)
 refine WL.call rfl gM gSL (zer h2 (by omega) x) ?_
 (refine go ?_)
 cases hx:s.has x with
 | false =>
  have hd:s.drop x=s:=by rw [AgS.drop,hx,if_neg (by simp)]
  have hix:ixN s.arr x = -1:=by rw [ixN,if_neg (of_decide_eq_false hx)]
  rw [hix,hd]
  (refine go ?_)
  exact WW.ret ⟨.inl rfl,_,gRES,rfl,E,.inl rfl,ha,Kp.refl⟩
 | true =>
  have hlt:=of_decide_eq_true hx
  have hix:ixN s.arr x=(s.arr.findIdx (·==x):Int):=by rw [ixN,if_pos hlt]
  have hd:s.drop x={ s with arr:=remA s.last s.arr (s.arr.findIdx (·==x)) }:=by rw [AgS.drop,hx,if_pos rfl]
  have hrl:=(z7m (last:=s.last) hlt).1
  rw [hix,hd]
  have qu:=ha.qu hk (by intro e;rw [e] at hlt;simp at hlt)
  (refine WW.ifB rfl (fun hz1 => ?_) (fun hz1 => ?_))
  ·omega
  (repeat first | refine WW.seq ?_ | refine WW.reg ?_ | refine WL.nil ?_ | refine WW.skip ?_ | refine WW.block ?_ | refine thenN ?_ | refine blkN ?_);iterate 3 (refine WL.go ?_)
  refine WL.go (hs:=Stp.load1 rfl hag (ze h17 rfl) gM) ?_
  refine WL.fx1 (FX.rawN (XOK.mkif rfl) gM) ?_
  (refine go ?_)
  refine WL.callA rfl gM gSL (zhv qu hlt (by omega)) ?_
  rintro _ h4 ⟨⟨y,rfl⟩,E',hE',hx',b4,q4,k4⟩
  have hlen:(remA s.last s.arr (s.arr.findIdx (·==x))).length=s.arr.length - 1:=by rw [remA,List.length_take];omega
  have a4:=h1.kp k4 (fun e=>e.elim haq qu.dj.1)
  (refine go ?_)
  refine WW.ret ⟨.inl rfl,_,gRES,rfl,E',.inr ⟨hE',hx'⟩,⟨a4,_,.inr ⟨rfl,b4⟩,?_⟩,k4⟩
  rw [hlen];exact q4
end
end Go.Proofs.YthblcmnhiccnhaaGreat


namespace Go.Proofs.YthblcmnhiccnhaaGreat
open Go Go.Abs

section
variable {h:AHeap}{a q E:Nat}{s:AgS}{k:Nat}
set_option maxHeartbeats 1000000 in
theorem zm4 (ha:AgAt h a q E s)(hk:AgOk s k)(hk2:k≤900000)(haq:a≠q){x:Nat}(hx:x < 16):AC Tryz.prog 127 [.iface 215 (.ptr q 0 0),.iface 3 (.int .i64 x)] h (fun r h'=>r = .tup []∧∃ E',h.next≤E'∧E' < h'.next∧AgAt h' a q E' { s with arr:=pushA s.last s.arr x }∧Kp (fun id=>id=q∨id=E) h h'):=by
 obtain ⟨h1,v,h2,h3⟩:=ha
 have hn:=hk.n
 have hlen:=(z90 (last:=s.last) s.arr.length (s.arr++[x]) s.arr.length (by simp)).1
 have hal:=h1.u.1
 -- where there is a row, it is none of the two
 obtain ⟨E0,h2',hEE,haE,hqE⟩:∃ E0,SlV h v s.arr E0∧(∀ h',Kp (fun id=>id=q∨id=E0) h h'→Kp (fun id=>id=q∨id=E) h h')∧a≠E0∧q≠E0:=by
  rcases h2 with ⟨rfl,h4⟩ | ⟨rfl,h4⟩
  ·have hql:=h3.u.1
   refine ⟨h.next,.inl ⟨rfl,h4⟩,fun h' hk=>⟨hk.next,hk.us,fun id hu hw=>hk.get id hu fun e => ?_⟩,by omega,by omega⟩
   rcases e with e | e
   ·exact hw (.inl e)
   ·have:=hu.1;omega
  ·refine ⟨E,.inr ⟨rfl,h4⟩,fun _ h=>h,fun e => ?_,fun e => ?_⟩
   ·have q1:=h1.g
    rw [e,h4.g] at q1
    simp at q1
   ·have q1:=h3.g
    rw [e,h4.g] at q1
    simp at q1
 refine AC.introW z7s (by simp) ?_
 unfold z3h;dsimp only [qQ,qR,qM,qG]
 (repeat first | refine WW.seq ?_ | refine WW.reg ?_ | refine WL.nil ?_ | refine WW.skip ?_ | refine WW.block ?_ | refine thenN ?_ | refine blkN ?_);iterate 1 (refine WL.go ?_)
 (repeat first | refine WW.seq ?_ | refine WW.reg ?_ | refine WL.nil ?_ | refine WW.skip ?_ | refine WW.block ?_ | refine thenN ?_ | refine blkN ?_);iterate 1 (refine WL.go ?_)
 refine WL.fxr (FXR.inv rfl rfl gM (f:=331) (by kernel_rfl) (by kernel_rfl) (zk5 h2' hqE (by omega) h3 x)) ?_
 rintro _ h4 ⟨_,rfl,rfl,hx4,b4,q4,k4⟩
 have a4:=h1.kp k4 (fun e=>e.elim haq haE)
 have hxn:=k4.next
 have hqh:=h3.u.1
 (repeat first | refine WW.seq ?_ | refine WW.reg ?_ | refine WL.nil ?_ | refine WW.skip ?_ | refine WW.block ?_ | refine thenN ?_ | refine blkN ?_)
 (repeat first | refine WW.seq ?_ | refine WW.reg ?_ | refine WL.nil ?_ | refine WW.skip ?_ | refine WW.block ?_ | refine thenN ?_ | refine blkN ?_);iterate 2 (refine WL.go ?_)
 refine WL.fx1 (FX.inv rfl rfl gM (f:=296) (by kernel_rfl) (by kernel_rfl) (z5i (E:=h.next) q4.g (.inr rfl))) ?_
 rw [show ((s.arr.length+1:Nat):Int)=(s.arr.length:Int)+1 by omega]
 (refine go ?_)
 rw [show ((s.arr.length:Int)+1 - 1)=((s.arr.length:Nat):Int) by omega]
 have qu:QuAt h4 a q h.next s.last (s.arr++[x]):=⟨⟨s.ticks,a4⟩,by rw [List.length_append];exact q4,b4,hk.l,fun y hy=>by
  rcases List.mem_append.1 hy with hy | hy
  ·exact hk.t y hy
  ·rw [List.mem_singleton.1 hy];exact hx,by omega,by omega⟩
 refine WL.callA rfl gM gSL (zgk qu (j:=s.arr.length) (by simp) (by simp;omega) (f:=s.arr.length) (Nat.le_refl _)) ?_
 rintro _ h5 ⟨rfl,q5,k5⟩
 have hx5:=k5.next
 obtain ⟨t5,a5⟩:=q5.ob
 have a5':=a4.kp k5 (by omega)
 (refine go ?_)
 refine ⟨.inr rfl,_,gRES,rfl,h.next,Nat.le_refl _,by omega,⟨a5',_,.inr ⟨rfl,q5.eo⟩,q5.qo⟩,hEE _ (k4.trans2 k5 fun id e => .inr (by omega))⟩
theorem zqi {s:AgS}(hl:s.last.length=16){t:Int}:putC (s.row q) (0+16) [.int .i64 t]=({ s with ticks:=t }:AgS).row q:=by
 simp only [putC,AgS.row,Nat.zero_add,List.length_cons,List.length_nil]
 rw [List.take_left' (by simpa using hl),List.drop_append,List.drop_of_length_le (by simp;omega)]
 simp [hl]
theorem zrw {s:AgS}(hl:s.last.length=16){x:Nat}(hx:x < 16){t:Int}:putC (s.row q) (0+x*1) [.int .i64 t]=({ s with last:=s.last.set x t }:AgS).row q:=by
 simp only [putC,AgS.row,Nat.zero_add,Nat.mul_one,List.length_cons,List.length_nil]
 rw [List.take_append_of_le_length (by simp;omega),List.drop_append_of_le_length (by simp;omega),← List.append_assoc,List.map_set]
 congr 1
 rw [List.set_eq_take_append_cons_drop,if_pos (by simp;omega)]
 simp
set_option maxHeartbeats 2000000 in
theorem z6y (ha:AgAt h a q E s)(hk:AgOk s k)(hk2:k≤800000)(haq:a≠q){x:Nat}(hx:x < 16):AC Tryz.prog 78 [.ptr a 0 0,.int .i64 x] h (fun r h'=>r = .bool true∧∃ E',h.next≤E'∧E' < h'.next∧AgAt h' a q E' (s.touch x)∧Kp (fun id=>id=a∨id=q∨id=E) h h'):=by
 have hal:=ha.ob.u.1
 have hdk:=hk.drop x
 refine AC.introW ze4 (by simp) ?_
 unfold z72;dsimp only [qQ,qR,qM,qG]
 (refine go ?_)
 (refine WW.ifB rfl (fun hz3 => ?_) (fun hz3 => ?_))
 ·exfalso;first | omega | (simp at hz3;omega)
 (refine go ?_)
 refine WL.callA rfl gM gSL (ze0 ha hk (by omega) haq x) ?_
 rintro _ h2 ⟨rfl,E2,hE2,a2,k2⟩
 have ht:=hdk.tk
 have ag2:=a2.ob.g
 have hx2:=k2.next
 have h16:=zqh (q:=q) hdk.l
 have h17:=zgl (q:=q) hdk.l
 have hrl:(AgS.row (s.drop x) q).length=18:=by simp [AgS.row,hdk.l]
 (repeat first | refine WW.seq ?_ | refine WW.reg ?_ | refine WL.nil ?_ | refine WW.skip ?_ | refine WW.block ?_ | refine thenN ?_ | refine blkN ?_);iterate 3 (refine WL.go ?_)
 refine WL.go (hs:=Stp.load1 rfl ag2 (ze h16 rfl) gM) ?_
 (repeat first | refine WW.seq ?_ | refine WW.reg ?_ | refine WL.nil ?_ | refine WW.skip ?_ | refine WW.block ?_ | refine thenN ?_ | refine blkN ?_);iterate 3 (refine WL.go ?_)
 refine WL.go (hs:=Stp.store1N rfl rfl ag2 rfl (by rw [hrl];decide) rfl (zqi hdk.l) gM) ?_
 have g3:(h2.set a (some (.mem 18 [({ s.drop x with ticks:=(s.drop x).ticks+1 }:AgS).row q]))).get a=some (.mem 18 [({ s.drop x with ticks:=(s.drop x).ticks+1 }:AgS).row q]):=gH
 have h16':=zqh (q:=q) (s:={ s.drop x with ticks:=(s.drop x).ticks+1 }) hdk.l
 have hrl':(AgS.row { s.drop x with ticks:=(s.drop x).ticks+1 } q).length=18:=by simp [AgS.row,hdk.l]
 (repeat first | refine WL.go ?_ | refine WW.seq ?_ | refine WW.reg ?_ | refine WL.nil ?_ | refine WW.skip ?_ | refine WW.block ?_ | refine WW.exit ?_ | refine WW.condT rfl ?_ | refine WW.condF rfl ?_ | refine WL.gox ?_ | refine thenN ?_ | refine blkN ?_)
 refine WW.dregX [9] [] [a] gN (by decide +kernel) ?_
 (refine go ?_)
 refine DW.go ?_ (hs:=Stp.load1 rfl g3 (ze h16' rfl) gM)
 (refine go ?_)
 refine DW.goWP ?_ (hs:=Stp.store1N rfl rfl g3 rfl (by rw [hrl'];first | omega | (simp;omega)) rfl (zrw (s:={ s.drop x with ticks:=(s.drop x).ticks+1 }) hdk.l hx) gM)
 (repeat first | refine DW.go ?_ | refine DW.goWP ?_ | refine DW.goF ?_ | refine DW.endL ?_ | refine thenN ?_ | refine blkN ?_)
 refine WW.named (fun h4=>h4.get a=some (.mem 18 [(⟨(s.drop x).last.set x ((s.drop x).ticks+1),(s.drop x).ticks+1,(s.drop x).arr⟩:AgS).row q])∧Kp (fun id=>id=a) h2 h4∧h4.next=h2.next) ⟨gH,Kp.setW (W:=fun id=>id=a) (Kp.setW (W:=fun id=>id=a) Kp.refl rfl _) rfl _,rfl⟩ ?_
 rintro h4 ⟨a4,k4,hx4⟩
 have K4:AgOk (⟨(s.drop x).last.set x ((s.drop x).ticks+1),(s.drop x).ticks+1,(s.drop x).arr⟩:AgS) (k+1):=⟨by rw [List.length_set];exact hdk.l,hdk.t,by have:=hdk.n;first | omega | (dsimp only;omega),by first | omega | (dsimp only;omega)⟩
 have A4:AgAt h4 a q E2 ⟨(s.drop x).last.set x ((s.drop x).ticks+1),(s.drop x).ticks+1,(s.drop x).arr⟩:=by
  obtain ⟨b1,v,b2,b3⟩:=a2
  refine ⟨⟨k4.us _ b1.u,a4⟩,v,?_,b3.kp k4 (fun e=>haq e.symm)⟩
  rcases b2 with b2 | ⟨rfl,b2⟩
  ·exact .inl b2
  ·exact .inr ⟨rfl,b2.kp k4 fun e=>by
    have q1:=b1.g
    rw [← e,b2.g] at q1
    simp at q1⟩
 have h17':=zgl (q:=q) (s:=⟨(s.drop x).last.set x ((s.drop x).ticks+1),(s.drop x).ticks+1,(s.drop x).arr⟩) K4.l
 (repeat first | refine WW.seq ?_ | refine WW.reg ?_ | refine WL.nil ?_ | refine WW.skip ?_ | refine WW.block ?_ | refine thenN ?_ | refine blkN ?_);iterate 3 (refine WL.go ?_)
 refine WL.go (hs:=Stp.load1 rfl a4 (ze h17' rfl) gM) ?_
 refine WL.fx1 (FX.rawN (XOK.mkif rfl) gM) ?_
 (repeat first | refine WW.seq ?_ | refine WW.reg ?_ | refine WL.nil ?_ | refine WW.skip ?_ | refine WW.block ?_ | refine thenN ?_ | refine blkN ?_);iterate 1 (refine WL.go ?_)
 refine WL.fx1 (FX.rawN (XOK.mkif rfl) gM) ?_
 refine WL.callA rfl gM gSL (zm4 A4 K4 (by omega) haq hx) ?_
 rintro _ h5 ⟨rfl,E5,hE5,hx5,a5,k5⟩
 (refine go ?_)
 refine WW.ret ⟨.inl rfl,_,gRES,rfl,E5,by omega,hx5,a5,?_⟩
 refine ((k2.mono fun _ _ e => .inr e).trans (k4.mono fun _ _ e => .inl e)).trans2 k5 fun id e => ?_
 rcases e with e | e
 ·exact .inl (.inr (.inl e))
 ·rcases hE2 with hh | hh
  ·exact .inl (.inr (.inr (e.trans hh)))
  ·exact .inr (by rw [e];exact hh.1)
theorem fz_ib {h h1:AHeap}{k:IntKind}{a:Int}{b:Bool}:Fz h h1 (Go.Abs.fin [.int k a,.bool b]) (.tup [.int k a,.bool b]) := .clo _ (.tup _ fun v hv=>by
 simp only [List.mem_cons,List.not_mem_nil,or_false] at hv
 rcases hv with rfl | rfl
 ·exact .int _ _
 ·exact .bool _)
theorem zk6 (ha:AgAt h a q E s)(hk:AgOk s k)(hk2:k≤900000):AE Tryz.prog 252 [.ptr a 0 0] h (.tup [.int .i64 (s.arr.headD 0:Nat),.bool (decide (s.arr≠[]))]) h:=by
 have h17:=zgl (q:=q) hk.l
 obtain ⟨h1,v,h2,h3⟩:=ha
 have hag:=h1.g
 have hqg:=h3.g
 have hn:=hk.n
 have hL:AE Tryz.prog 283 [.ptr a 0 0] h (.int .i64 s.arr.length) h:=by
  refine AE.pureW zh5 (by simp) ?_
  unfold za3;dsimp only [qQ,qR,qM,qG]
  (repeat first | refine WW.seq ?_ | refine WW.reg ?_ | refine WL.nil ?_ | refine WW.skip ?_ | refine WW.block ?_ | refine thenN ?_ | refine blkN ?_);iterate 1 (refine WL.go ?_)
  (repeat first | refine WW.seq ?_ | refine WW.reg ?_ | refine WL.nil ?_ | refine WW.skip ?_ | refine WW.block ?_ | refine thenN ?_ | refine blkN ?_);iterate 2 (refine WL.go ?_)
  (repeat first | refine WW.seq ?_ | refine WW.reg ?_ | refine WL.nil ?_ | refine WW.skip ?_ | refine WW.block ?_ | refine thenN ?_ | refine blkN ?_)
  refine WW.condF rfl ?_
  (repeat first | refine WW.seq ?_ | refine WW.reg ?_ | refine WL.nil ?_ | refine WW.skip ?_ | refine WW.block ?_ | refine thenN ?_ | refine blkN ?_);iterate 3 (refine WL.go ?_)
  refine WL.go (hs:=Stp.load1 rfl hag (ze h17 rfl) gM) ?_
  refine WL.call rfl gM gSL (z5i (E:=E) (n:=s.arr.length) hqg (h2.imp (fun e=>⟨e.1,by rw [e.2];rfl⟩) fun e=>e.1)) ?_
  (refine go ?_)
  refine WW.ret (PureQ.finD ?_)
  exact fz_i rfl
 refine AE.pureW zcz (by simp) ?_
 unfold z6d;dsimp only [qQ,qR,qM,qG]
 (refine go ?_)
 refine WL.call rfl gM gSL (hL) ?_
 cases he:s.arr with
 | nil =>
  (refine go ?_)
  refine WW.ret (PureQ.finD ?_)
  exact fz_ib
 | cons y r =>
  rcases h2 with ⟨rfl,h4⟩ | ⟨rfl,h4⟩
  ·rw [he] at h4;cases h4
  have h4g:=h4.g
  rw [he] at h4g hqg
  simp only [List.map_cons,encSl] at h4g
  (refine go ?_)
  refine WL.go (hs:=Stp.load1 rfl hag (ze h17 rfl) gM) ?_
  (refine go ?_)
  refine WW.ret (PureQ.finD ?_)
  exact fz_ib
end
end Go.Proofs.YthblcmnhiccnhaaGreat


namespace Go.Proofs.YthblcmnhiccnhaaGreat
open Go Go.Abs

def agUp (lv:List Lf):Nat→AgS
 | 0 => ag0
 | i + 1 => if ¬ (lv.getD i lf0).k = 0 then (agUp lv i).touch i else agUp lv i
theorem zcx (lv:List Lf):∀ i,i≤16→AgOk (agUp lv i) i
 | 0, _ => agOk0
 | i + 1, h => by
  rw [agUp]
  split
  ·exact (zcx lv i (by omega)).touch (by omega)
  ·exact (zcx lv i (by omega)).mono (by omega)
theorem CaG.age {md:Bool}{h h':AHeap}{n:CaN}{x:CaS}(hg:CaG md h n x)(hk:Kp (fun id=>id=n.a∨id=n.q∨id=n.sE) h h'){E:Nat}{s:AgS}(ha:AgAt h' n.a n.q E s)(hE:h.next≤E∧E < h'.next):CaG md h' { n with sE:=E } { x with ag:=s }:=by
 obtain ⟨g1,g2,⟨v,g3,g4⟩,g5,g6,g8,g7⟩:=hg
 obtain ⟨d1,d2,d3,d4,d5,d6,d7,d8,d9⟩:=g7
 have hown:∀ id,({ n with sE:=E }:CaN).own id→n.own id∨id=E:=fun id hi=>by
  rcases hi with hi | hi | hi | hi | hi | hi
  ·exact .inl (.inl hi)
  ·exact .inl (.inr (.inl hi))
  ·exact .inl (.inr (.inr (.inl hi)))
  ·exact .inl (.inr (.inr (.inr (.inl hi))))
  ·exact .inl (.inr (.inr (.inr (.inr (.inl hi)))))
  ·exact .inr hi
 have l1:=g8 n.c (.inl rfl)
 have l2:=g8 n.k (.inr (.inl rfl))
 have l3:=g8 n.a (.inr (.inr (.inl rfl)))
 have l4:=g8 n.q (.inr (.inr (.inr (.inl rfl))))
 have l5:=g8 n.nE (.inr (.inr (.inr (.inr (.inl rfl)))))
 have hEa:n.nE≠n.a∧n.nE≠n.q:=by rcases d7 with hh | hh <;> omega
 have hck:n.c≠n.sE∧n.k≠n.sE:=by rcases d8 with hh | hh <;> omega
 have hw:∀ id,n.w.nm md id→¬ (id=n.a∨id=n.q∨id=n.sE):=fun id hi e=>by
  rcases e with rfl | rfl | rfl
  ·exact g6 _ (.inr (.inr (.inl rfl))) hi
  ·exact g6 _ (.inr (.inr (.inr (.inl rfl)))) hi
  ·exact g6 _ (.inr (.inr (.inr (.inr (.inr rfl))))) hi
 refine ⟨g1.kp hk hw,g2.kp hk (by omega),⟨v,g3.kp hk (by omega),g4.kp hk (by omega)⟩,ha,fun id hi hn => ?_,fun id hi => ?_,d1,d2,d3,d4,d5,d6,d7,.inr (by dsimp only;omega),by dsimp only;omega⟩
 ·rcases hown id hi with hi | rfl
  ·exact g6 id hi hn
  ·have:=(g1.us _ hn).1;omega
 ·rcases hown id hi with hi | rfl
  ·exact Nat.lt_of_lt_of_le (g8 id hi) hk.next
  ·exact hE.2
end Go.Proofs.YthblcmnhiccnhaaGreat


namespace Go.Proofs.YthblcmnhiccnhaaGreat
open Go Go.Abs

def CaS.drops (x:CaS)(i:Nat):CaS:={ x with now:=x.now.set i lf0,ag:=x.ag.drop i }
def CaS.putA (x:CaS)(f:Nat)(l:Lf):CaS:={ x with now:=x.now.set f l,ag:=x.ag.touch f }
def CaS.slotD (x:CaS)(lba:Int):Bool:=decide (x.now.findIdx (slotP lba) < x.now.length)
def CaS.puts (x:CaS)(f:Nat)(l:Lf):CaS:=if x.slotD l.lba then (x.putA f l).drops (x.now.findIdx (slotP l.lba)) else x.putA f l
section
variable {md:Bool}{h h':AHeap}{n:CaN}{x:CaS}
theorem zny {lv:List Lf}(hg:CaG md h n x)(hw:CaW h n x)(hk:Kp (fun id=>id=n.nE) h h')(hb:BoxAt h' n.nE (.mem 8 (lv.map encL)))(hl:lv.length=x.now.length):CaG md h' n { x with now:=lv }∧CaW h' n { x with now:=lv }:=by
 have hw':=hw.kp hg hk (fun e=>hw.ne e.symm)
 obtain ⟨g1,g2,⟨v,g3,g4⟩,g5,g6,g8,g7⟩:=hg
 obtain ⟨d1,d2,d3,d4,d5,d6,d7,d8,d9⟩:=g7
 have hne:=hw.ne
 have hu:h'.used n.c:=hk.us _ g4.u
 have hE:n.nE≠n.k∧n.nE≠n.a∧n.nE≠n.q:=d7.resolve_left hne
 refine ⟨⟨g1.kp hk fun id hi e=>g6 n.nE (.inr (.inr (.inr (.inr (.inl rfl))))) (e ▸ hi),g2.kp hk (fun e=>hE.1 e.symm),⟨.ref n.nE 0 lv.length,.inr ⟨rfl,hb⟩,hu,by rw [hl];exact hw'.g⟩,g5.kp hk (fun e=>hE.2.1 e.symm) (fun e=>hE.2.2 e.symm) (fun e=>d9 e.symm),g6,fun id hi=>Nat.lt_of_lt_of_le (g8 id hi) hk.next,⟨d1,d2,d3,d4,d5,d6,d7,d8,d9⟩⟩,⟨by rw [show ({ x with now:=lv }:CaS).now.length=x.now.length from hl];exact hw'.g,hne⟩⟩
theorem CaW.age {E:Nat}{s:AgS}(hw:CaW h n x)(hg:CaG md h n x)(hk:Kp (fun id=>id=n.a∨id=n.q∨id=n.sE) h h'):CaW h' { n with sE:=E } { x with ag:=s }:=by
 have hdj:=hg.dj
 have hcs:n.c≠n.sE:=by rcases hdj.2.2.2.2.2.2.2.1 with hh | hh <;> omega
 have hw':=hw.kp hg hk (fun e=>e.elim hdj.2.1 fun e=>e.elim hdj.2.2.1 hcs)
 exact ⟨hw'.g,hw'.ne⟩
theorem CaG.age' (hg:CaG md h n x)(hk:Kp (fun id=>id=n.q∨id=n.sE) h h'){E:Nat}{s:AgS}(ha:AgAt h' n.a n.q E s)(hE:E=n.sE∨(h.next≤E∧E < h'.next)):CaG md h' { n with sE:=E } { x with ag:=s }:=by
 rcases hE with rfl | hE
 ·obtain ⟨g1,g2,⟨v,g3,g4⟩,g5,g6,g8,g7⟩:=hg
  obtain ⟨d1,d2,d3,d4,d5,d6,d7,d8,d9⟩:=id g7
  have hq:n.c≠n.sE∧n.k≠n.sE:=by rcases d8 with hh | hh <;> omega
  have hEq:n.nE≠n.q:=by rcases d7 with hh | hh <;> omega
  have hw:∀ id,n.w.nm md id→¬ (id=n.q∨id=n.sE):=fun id hi e=>by
   rcases e with rfl | rfl
   ·exact g6 _ (.inr (.inr (.inr (.inl rfl)))) hi
   ·exact g6 _ (.inr (.inr (.inr (.inr (.inr rfl))))) hi
  exact ⟨g1.kp hk hw,g2.kp hk (by omega),⟨v,g3.kp hk (by omega),g4.kp hk (by omega)⟩,ha,g6,fun id hi=>Nat.lt_of_lt_of_le (g8 id hi) hk.next,g7⟩
 ·exact hg.age (hk.mono fun _ _ e => .inr e) ha hE
theorem znz {lv:List Lf}{i:Nat}(hi:i < lv.length):(lv.map encL)[0+i]? = some (encL lv[i]):=by
 rw [Nat.zero_add,List.getElem?_map,List.getElem?_eq_getElem hi];rfl
set_option maxHeartbeats 4000000 in
theorem z91 {k:Nat}(hg:CaG md h n x)(hw:CaW h n x)(hak:AgOk x.ag k)(hk:k≤800000){i:Nat}(hi:i < x.now.length)(hl:x.now.length≤16) :
  AC Tryz.prog 203 [.ptr n.c 0 0,.int .i64 i] h (fun r h'=>r = .tup []∧∃ E,(E=n.sE∨h.next≤E)∧CaG md h' { n with sE:=E } (x.drops i)∧CaW h' { n with sE:=E } (x.drops i)∧Kp n.own h h'):=by
 have hrow:=hw.row hg
 have hrg:=hrow.g
 have hc:=hw.g
 have hcl:=hg.lt n.c (.inl rfl)
 have hEl:=hrow.u.1
 have hce:=hw.ne
 refine AC.introW z9g (by simp) ?_
 unfold z4b;dsimp only [qQ,qR,qM,qG]
 (repeat first | refine WW.seq ?_ | refine WW.reg ?_ | refine WL.nil ?_ | refine WW.skip ?_ | refine WW.block ?_ | refine thenN ?_ | refine blkN ?_);iterate 5 (refine WL.go ?_)
 (repeat first | refine WW.seq ?_ | refine WW.reg ?_ | refine WL.nil ?_ | refine WW.skip ?_ | refine WW.block ?_ | refine thenN ?_ | refine blkN ?_);iterate 2 (refine WL.go ?_)
 refine WL.go (hs:=by
  apply Stp.storeN
  exact rfl
  exact rfl
  exact hrg
  exact znz hi
  exact rfl
  exact Nat.le_of_ble_eq_true rfl
  exact rfl
  exact (show putC (encL x.now[i]) 0 (encL lf0)=encL lf0 from rfl)
  exact gM) ?_
 refine WL.live fun hl9 => ?_
 have he:(x.now.map encL).set (0+i) (encL lf0)=(x.now.set i lf0).map encL:=by rw [Nat.zero_add];exact List.map_set.symm
 refine WL.named (fun h2=>Kp (fun id=>id=n.nE) h h2∧BoxAt h2 n.nE (.mem 8 ((x.now.set i lf0).map encL))) ⟨?_,?_⟩ ?_
 ·exact (by repeat first | exact Kp.refl | assumption | with_reducible refine Kp.put ?_ (by omega) _ | with_reducible refine Kp.setN ?_ (by omega) _ | with_reducible refine Kp.keep ?_ _ | with_reducible refine Kp.setW ?_ (by simp;done) _)
 ·rw [← he]
  exact ⟨hl9 _ _ gH,gH⟩
 clear hl9 hc hrg
 rintro h2 ⟨k2,b2⟩
 obtain ⟨g2,w2⟩:=zny hg hw k2 b2 (List.length_set ..)
 have hc:=w2.g
 have hx2:=k2.next
 (refine go ?_)
 refine WL.callA rfl gM gSL (ze0 g2.ag hak (by omega) hg.dj.2.2.2.2.2.1 i) ?_
 rintro _ h3 ⟨rfl,E,hE,A4,k3⟩
 have g3:=g2.age' k3 A4 hE
 have w3:CaW h3 { n with sE:=E } (x.drops i):=w2.age g2 (k3.mono fun _ _ e => .inr e)
 (refine go ?_)
 refine ⟨.inr rfl,_,gRES,rfl,E,?_,g3,w3,(k2.mono fun id _ e => .inr (.inr (.inr (.inr (.inl e))))).trans (k3.mono fun id _ e=>e.elim (fun e => .inr (.inr (.inr (.inl e)))) (fun e => .inr (.inr (.inr (.inr (.inr e))))))⟩
 rcases hE with hE | hE
 ·exact .inl hE
 ·exact .inr (by omega)
set_option maxHeartbeats 8000000 in
theorem zk7 {k:Nat}(hg:CaG md h n x)(hw:CaW h n x)(hak:AgOk x.ag k)(hk:k≤700000){f:Nat}(hf:f < x.now.length)(hl:x.now.length≤16)(l:Lf) :
  AC Tryz.prog 136 [.ptr n.c 0 0,.int .i64 f,.agg (encL l)] h (fun r h'=>r = .tup []∧∃ E,(E=n.sE∨h.next≤E)∧CaG md h' { n with sE:=E } (x.puts f l)∧CaW h' { n with sE:=E } (x.puts f l)∧Kp n.own h h'):=by
 have hrow:=hw.row hg
 have hrg:=hrow.g
 have hc:=hw.g
 have hcl:=hg.lt n.c (.inl rfl)
 have hEl:=hrow.u.1
 have hce:=hw.ne
 have kO:∀ id,id=n.nE→n.own id:=fun id e => .inr (.inr (.inr (.inr (.inl e))))
 refine AC.introW zat (by simp) ?_
 unfold z52;dsimp only [qQ,qR,qM,qG]
 (refine go ?_)
 refine WL.call rfl gM gSL (zal (hg.new (by repeat first | exact Kp.refl | assumption | with_reducible refine Kp.put ?_ (by omega) _ | with_reducible refine Kp.setN ?_ (by omega) _ | with_reducible refine Kp.keep ?_ _ | with_reducible refine Kp.setW ?_ (by rfl) _)) (by omega) l.lba) ?_
 (repeat first | refine WL.go ?_ | refine WW.seq ?_ | refine WW.reg ?_ | refine WL.nil ?_ | refine WW.skip ?_ | refine WW.block ?_ | refine WW.exit ?_ | refine WW.condT rfl ?_ | refine WW.condF rfl ?_ | refine WL.gox ?_ | refine thenN ?_ | refine blkN ?_)
 refine WW.dregC 7 (by decide +kernel) ?_
 (repeat first | refine PW.go ?_ | refine PW.nil ?_)
 refine RunL.go ?_ (hs:=by
  apply Stp.storeN
  exact rfl
  exact rfl
  exact gH
  exact znz hf
  exact rfl
  exact Nat.le_of_ble_eq_true rfl
  exact rfl
  exact (show putC (encL x.now[f]) 0 (encL l)=encL l from rfl)
  exact gM)
 (repeat first | refine RunL.go ?_ | refine RunL.endL ?_ | refine thenN ?_ | refine blkN ?_)
 refine WW.live fun hl9 => ?_
 have he:(x.now.map encL).set (0+f) (encL l)=(x.now.set f l).map encL:=by rw [Nat.zero_add];exact List.map_set.symm
 refine WW.named (fun h2=>Kp (fun id=>id=n.nE) h h2∧BoxAt h2 n.nE (.mem 8 ((x.now.set f l).map encL))) ⟨?_,?_⟩ ?_
 ·exact (by repeat first | exact Kp.refl | assumption | with_reducible refine Kp.put ?_ (by omega) _ | with_reducible refine Kp.setN ?_ (by omega) _ | with_reducible refine Kp.keep ?_ _ | with_reducible refine Kp.setW ?_ (by simp;done) _)
 ·rw [← he]
  exact ⟨hl9 _ _ gH,gH⟩
 clear hl9 hc hrg
 rintro h2 ⟨k2,b2⟩
 obtain ⟨g2,w2⟩:=zny hg hw k2 b2 (List.length_set ..)
 have hc:=w2.g
 have hx2:=k2.next
 (refine go ?_)
 refine WL.callA rfl gM gSL (z6y g2.ag hak (by omega) hg.dj.2.2.2.2.2.1 (x:=f) (by omega)) ?_
 rintro _ h3 ⟨rfl,E,hE1,hE2,A4,k3⟩
 have g3:=g2.age k3 A4 ⟨hE1,hE2⟩
 have w3:CaW h3 { n with sE:=E } (x.putA f l):=w2.age g2 k3
 have k23:Kp n.own h h3:=(k2.mono fun id _ e=>kO id e).trans (k3.mono fun id _ e=>e.elim (fun e => .inr (.inr (.inl e))) fun e=>e.elim (fun e => .inr (.inr (.inr (.inl e)))) fun e => .inr (.inr (.inr (.inr (.inr e)))))
 have hak3:AgOk (x.putA f l).ag (k+1):=hak.touch (by omega)
 have hl3:(x.putA f l).now.length=x.now.length:=List.length_set ..
 change CaG md h3 { n with sE:=E } (x.putA f l) at g3
 rw [CaS.puts]
 cases hsd:x.slotD l.lba with
 | false =>
  have hix:ixF (slotP l.lba) x.now = -1:=by rw [ixF,if_neg (of_decide_eq_false hsd)]
  rw [hix]
  (refine go ?_)
  exact ⟨.inr rfl,_,gRES,rfl,E,.inr (by omega),g3,w3,k23⟩
 | true =>
  have hlt:=of_decide_eq_true hsd
  have hix:ixF (slotP l.lba) x.now=(x.now.findIdx (slotP l.lba):Int):=by rw [ixF,if_pos hlt]
  rw [hix]
  generalize x.now.findIdx (slotP l.lba)=o at *
  have hc3:=w3.g
  (refine go ?_)
  refine WL.callA rfl gM gSL (z91 g3 w3 hak3 (by omega) (i:=o) (by omega) (by omega)) ?_
  rintro _ h4 ⟨rfl,E4,hE4,g4,w4,k4⟩
  (refine go ?_)
  refine ⟨.inr rfl,_,gRES,rfl,E4,?_,g4,w4,k23.trans2 k4 fun id hi => ?_⟩
  ·rcases hE4 with hE4 | hE4
   ·exact .inr (by rw [hE4];dsimp only;omega)
   ·exact .inr (by have:=k3.next;omega)
  ·rcases hi with hi | hi | hi | hi | hi | hi
   ·exact .inl (.inl hi)
   ·exact .inl (.inr (.inl hi))
   ·exact .inl (.inr (.inr (.inl hi)))
   ·exact .inl (.inr (.inr (.inr (.inl hi))))
   ·exact .inl (.inr (.inr (.inr (.inr (.inl hi)))))
   ·exact .inr (by dsimp only at hi;omega)
end
end Go.Proofs.YthblcmnhiccnhaaGreat


namespace Go.Proofs.YthblcmnhiccnhaaGreat
open Go Go.Abs

def nought:Bs:=List.replicate 32 0
theorem zp2:nought.length=32:=rfl
theorem zp3:List.replicate 32 [AV.int .u8 0]=nought.map encB:=rfl
def CaS.lf (x:CaS)(i:Nat):Lf:=x.now.getD i lf0
def CaS.valO (md:Bool)(x:CaS)(i:Nat):Option Bs :=
 if (x.lf i).e∈x.s.ks.epochs then openP md x.s.L (ofK x.s.ks.seed (x.lf i).e) ((x.lf i).e,(x.lf i).sl,(x.lf i).n) (putB (x.lf i).lba 2) (sub x.s.sd.snap (32*i) 32) (x.lf i).tg else none
def CaS.valE (md:Bool)(x:CaS)(i:Nat):Int:=if (x.lf i).k=2 then 0 else if x.s.pw.gone then 7 else if (x.valO md i).isSome then 0 else 3
def CaS.valB (md:Bool)(x:CaS)(i:Nat):Bs:=if (x.lf i).k=2 then nought else (x.valO md i).getD []
def CaS.valX (md:Bool)(x:CaS)(i:Nat):CaS:=if x.valE md i=3 then { x with bad:=true } else x
def valV (e:Int)(b:Bs):AV:=if e=0 then .imm 1 (b.map encB) else .nils
theorem CaG.poison {md:Bool}{h:AHeap}{n:CaN}{x:CaS}(hg:CaG md h n x){v:AV}(hc:h.get n.c=some (.mem 6 [[.ptr (n.w.a+10) 0 0,.ptr n.k 0 0,v,.imm 8 (x.was.map encL),.ptr n.a 0 0,.bool x.bad]])):CaG md (h.set n.c (some (.mem 6 [[.ptr (n.w.a+10) 0 0,.ptr n.k 0 0,v,.imm 8 (x.was.map encL),.ptr n.a 0 0,.bool true]]))) n { x with bad:=true }∧(CaW h n x→CaW (h.set n.c (some (.mem 6 [[.ptr (n.w.a+10) 0 0,.ptr n.k 0 0,v,.imm 8 (x.was.map encL),.ptr n.a 0 0,.bool true]]))) n { x with bad:=true })∧Kp (fun id=>id=n.c) h (h.set n.c (some (.mem 6 [[.ptr (n.w.a+10) 0 0,.ptr n.k 0 0,v,.imm 8 (x.was.map encL),.ptr n.a 0 0,.bool true]]))):=by
 have kp:Kp (fun id=>id=n.c) h (h.set n.c (some (.mem 6 [[.ptr (n.w.a+10) 0 0,.ptr n.k 0 0,v,.imm 8 (x.was.map encL),.ptr n.a 0 0,.bool true]]))):=Kp.cvt rfl rfl fun id hi=>z1 hi rfl
 refine ⟨?_,fun w => ?_,kp⟩
 rotate_left
 ·have hv:v = .ref n.nE 0 x.now.length:=by
   have:=hc.symm.trans w.g
   simpa using this
  refine ⟨?_,w.ne⟩
  rw [hv];exact za
 obtain ⟨g1,g2,⟨v',g3,g4⟩,g5,g6,g8,g7⟩:=hg
 have hv:v'=v:=by
  have:=g4.g.symm.trans hc
  simpa using this
 subst hv
 obtain ⟨d1,d2,d3,d4,d5,d6,d7,d8,d9⟩:=id g7
 have hcs:n.sE≠n.c:=by rcases d8 with hh | hh <;> omega
 refine ⟨g1.kp kp fun id hi e=>g6 n.c (.inl rfl) (e ▸ hi),g2.kp kp (fun e=>d1 e.symm),⟨v',?_,kp.us _ g4.u,za⟩,g5.kp kp (fun e=>d2 e.symm) (fun e=>d3 e.symm) hcs,g6,fun id hi=>Nat.lt_of_lt_of_le (g8 id hi) kp.next,g7⟩
 rcases g3 with g3 | ⟨rfl,g3⟩
 ·exact .inl g3
 ·refine .inr ⟨rfl,g3.kp kp fun e => ?_⟩
  have q1:=g4.g
  rw [← e,g3.g] at q1
  simp at q1
set_option maxHeartbeats 8000000 in
theorem z7n {md:Bool}{h:AHeap}{n:CaN}{x:CaS}{k:Nat}(hg:CaG md h n x)(hx:WSt md x.s k)(hk:k≤80000)(i:Nat)(hi:i < x.now.length)(hl:(x.now.length:Int)=x.s.n)(he:0≤(x.lf i).e∧(x.lf i).e < 4294967296)(hlba:0≤(x.lf i).lba∧(x.lf i).lba < 32) :
  AC Tryz.prog 132 [.ptr n.c 0 0,.int .i64 i] h (fun r h'=>r = .tup [valV (x.valE md i) (x.valB md i),.int .i64 (x.valE md i)]∧CaG md h' n (x.valX md i)∧(CaW h n x→CaW h' n (x.valX md i))∧Kp (fun id=>id=n.c) h h'):=by
 have hss:=hx.fit.g
 have hgx:=z8 hss
 have hll:x.s.sd.lasts.length=(x.s.n*160+120).toNat:=by rw [hx.fit.sd.len,zj hss]
 have hl1:x.s.sd.lasts.length≤1000000:=by omega
 have hl2:x.s.sd.lasts≠[]:=by intro e;rw [e] at hll;simp at hll;omega
 have hin:(inB x.s.sd.lasts.length ((i:Int)*32) 32 && !x.s.pw.gone) = !x.s.pw.gone:=by
  rw [show inB x.s.sd.lasts.length ((i:Int)*32) 32=true by rw [hll];simp [inB];omega,Bool.true_and]
 have hfit:∀ o∈x.s.sd.waits,0≤o.1∧o.1+o.2.length≤x.s.sd.lasts.length:=fun o ho=>by have:=hx.fit.sd.w o ho;rw [zj hss] at this;omega
 have hkw:x.s.sd.waits.length≤1000000:=Nat.le_trans hx.fit.sd.kw (by omega)
 have hin2:(i:Int) < x.s.n:=by omega
 have hLL:x.s.L.length≤1000000:=by have:=hx.fit.ll;omega
 have hdat:∀ y∈x.s.L,y.data.length≤1000000:=fun y hy=>by have:=hx.dat y hy;omega
 have hslen:=zca hx.fit
 clear hgx
 have hsub:(x.s.sd.snap.drop ((i:Int)*32).toNat).take (32:Int).toNat=sub x.s.sd.snap (32*i) 32:=by
  rw [sub,show ((i:Int)*32).toNat=32*i by omega];rfl
 have hsl:(sub x.s.sd.snap (32*i) 32).length≤4000:=by rw [sub,List.length_take];omega
 have hna:n.w.a+11≤h.next:=hg.w.w.nx
 have hnE:n.w.E < h.next:=hg.w.w.nB.2
 have hgg:=hg
 have hlf:x.now[i]=x.lf i:=by simp [CaS.lf,List.getD_eq_getElem?_getD,hi]
 obtain ⟨l,hll2⟩:∃ l,x.lf i=l:=⟨_,rfl⟩
 obtain ⟨g1,g2,⟨v,g3,g4⟩,g5,g6,g8,g7⟩:=hg
 have hc:=g4.g
 have hcl:=g8 n.c (.inl rfl)
 refine AC.introW z9f (by simp) ?_
 unfold z4a;dsimp only [qQ,qR,qM,qG]
 (repeat first | refine WW.seq ?_ | refine WW.reg ?_ | refine WL.nil ?_ | refine WW.skip ?_ | refine WW.block ?_ | refine thenN ?_ | refine blkN ?_);iterate 2 (refine WL.go ?_)
 refine WL.nil ?_
 refine thenN ?_
 refine WW.seqM (fun e2 h2=>subE [(0,some (.ptr n.c 0 0)),(1,some (.int .i64 i)),(6,some (.ptr h.next 0 0))] e2∧Kp (fun _=>False) h h2∧h2.get h.next=some (.mem 8 [encL l])∧h.next < h2.next) ?_ ?_
 ·rw [hll2] at hlf
  rcases g3 with rfl | ⟨rfl,hE⟩
  ·(refine go ?_)
   rw [hlf]
   exact ⟨rfl,gSUB,(by repeat first | exact Kp.refl | assumption | with_reducible refine Kp.put ?_ (by omega) _ | with_reducible refine Kp.setN ?_ (by omega) _ | with_reducible refine Kp.keep ?_ _ | with_reducible refine Kp.setW ?_ (by rfl) _),gH,(ltN gN (by omega))⟩
  ·have hEg:=hE.g
   (refine go ?_)
   simp only [Nat.zero_add]
   rw [hlf]
   exact ⟨trivial,gSUB,(by repeat first | exact Kp.refl | assumption | with_reducible refine Kp.put ?_ (by omega) _ | with_reducible refine Kp.setN ?_ (by omega) _ | with_reducible refine Kp.keep ?_ _ | with_reducible refine Kp.setW ?_ (by rfl) _),gH,(ltN gN (by omega))⟩
 clear hc g3 g4 g2 g5 g6 g7 g8 hlf
 rintro e2 h2 ⟨hs2,k2,t6,hx2⟩
 refine WW.cvt (Cvt.sub hs2) ?_
 clear hs2
 have gg2:=hgg.new k2
 have hW:∀ {h3},Kp (fun _=>False) h2 h3→CaW h n x→CaW h3 n x:=fun k3 w=>w.kp (W:=fun _=>False) hgg (k2.trans k3) (fun h=>h)
 have hV2:x.valE md i=if l.k=2 then 0 else if x.s.pw.gone then 7 else if (x.valO md i).isSome then 0 else 3:=by rw [CaS.valE,hll2]
 have hB2:x.valB md i=if l.k=2 then nought else (x.valO md i).getD []:=by rw [CaS.valB,hll2]
 have hO2:x.valO md i=if l.e∈x.s.ks.epochs then openP md x.s.L (ofK x.s.ks.seed l.e) (l.e,l.sl,l.n) (putB l.lba 2) (sub x.s.sd.snap (32*i) 32) l.tg else none:=by rw [CaS.valO,hll2]
 rw [hll2] at he hlba
 have gok:∀ {h3},Kp (fun _=>False) h2 h3→x.valE md i≠3→CaG md h3 n (x.valX md i)∧(CaW h n x→CaW h3 n (x.valX md i))∧Kp (fun id=>id=n.c) h h3:=fun k3 hne=>by
  rw [CaS.valX,if_neg hne]
  exact ⟨gg2.new k3,hW k3,(k2.trans k3).mono fun _ _ h=>h.elim⟩
 obtain ⟨w1,w2,⟨v2,w3,w4⟩,w5,w6,w8,w7⟩:=id gg2
 have hc:=w4.g
 have hob:=w1.w.w
 simp only [wRow] at hob
 simp only [encL] at t6
 (refine go ?_)
 (refine WW.ifB rfl (fun hz1 => ?_) (fun hz1 => ?_))
 ·have hk2:l.k=2:=by simpa using hz1
  rw [if_pos hk2] at hV2 hB2
  (repeat first | refine WW.seq ?_ | refine WW.reg ?_ | refine WL.nil ?_ | refine WW.skip ?_ | refine WW.block ?_ | refine thenN ?_ | refine blkN ?_)
  refine WL.fx1 (FX.mkslI (n:=32) rfl rfl rfl rfl (by decide) gM) ?_
  rw [zp3]
  (refine go ?_)
  obtain ⟨q1,q2,q3⟩:=gok (h3:=h2) Kp.refl (by rw [hV2];decide)
  exact WW.ret ⟨.inl rfl,_,gRES,by rw [hV2,hB2];rfl,q1,q2,q3⟩
 have hk2:¬ l.k=2:=by simpa using hz1
 rw [if_neg hk2] at hV2 hB2
 (refine go ?_)
 refine DW.callS rfl gM gSL rfl (zcf x.s.n i hss ⟨by omega,hin2⟩ _) ?_
 (refine go ?_)
 refine DW.callS rfl gM gSL rfl (z7z w1.w.sd hl1 hl2 hkw hfit ((i:Int)*32) 32 (by decide)) ?_
 rw [hin,hsub]
 cases hgo:x.s.pw.gone with
 | true =>
  rw [hgo,if_pos rfl] at hV2
  (refine go ?_)
  obtain ⟨q1,q2,q3⟩:=gok (h3:=h2) Kp.refl (by rw [hV2];decide)
  exact WW.ret ⟨.inl rfl,_,gRES,by rw [hV2];rfl,q1,q2,q3⟩
 | false =>
  rw [hgo,if_neg (by simp)] at hV2
  (refine go ?_)
  have hna2:n.w.a+11≤h2.next:=w1.w.nx
  have hnE2:n.w.E < h2.next:=w1.w.nB.2
  have hcl2:=w8 n.c (.inl rfl)
  have hx3:h.next < h2.next:=hx2
  refine WW.dregX [14,15] [3,6,9,10] [] gN (by decide +kernel) ?_
  (refine go ?_)
  refine DW.callSF (Φ:=PhiW h2.next [] h2) (by repeat first | exact PhiW.refl | refine PhiW.put (by omega) ?_ | refine PhiW.setW (by simp) ?_ | refine PhiW.setN (by omega) ?_) rfl gM gSL (fun h3 hp3=>z7y (w1.w.ks.same (hp3 (n.w.a+9) (by omega) (by simp)) (hp3 n.w.E (by omega) (by simp))) l.e he) ?_
  by_cases hep:l.e∈x.s.ks.epochs
  ·rw [if_pos hep,decide_eq_true hep]
   rw [if_pos hep] at hO2
   (refine go ?_)
   refine DW.callS rfl gM gSL rfl (z5h l.lba hlba _) ?_
   (refine go ?_)
   refine DW.callS rfl gM (vs:=[.ptr n.w.l 0 0,.agg (encP (ofK x.s.ks.seed l.e)),.agg (encN (l.e,l.sl,l.n)),.imm 1 ((putB l.lba 2).map encB),.agg (encS (sub x.s.sd.snap (32*i) 32) l.tg)]) gSL rfl (zaj ((w1.new (by repeat first | exact Kp.refl | assumption | with_reducible refine Kp.put ?_ (by omega) _ | with_reducible refine Kp.setN ?_ (by omega) _ | with_reducible refine Kp.keep ?_ _ | with_reducible refine Kp.setW ?_ (by rfl) _)).w.lk) hLL hdat _ _ _ _ _ (by simp [putB]) hsl) ?_
   rw [← hO2]
   cases hop:x.valO md i with
   | some d =>
    rw [hop] at hV2 hB2
    simp only [Option.getD_some,Option.isSome_some,if_true] at hV2 hB2 ⊢
    (refine go ?_)
    obtain ⟨q1,q2,q3⟩:=gok (h3:=(h2.put h2.next (.mem 2 [[.int .u64 0,.int .u64 0]])).set h2.next (some (.mem 2 [encP (ofK x.s.ks.seed l.e)]))) (by repeat first | exact Kp.refl | assumption | with_reducible refine Kp.put ?_ (by omega) _ | with_reducible refine Kp.setN ?_ (by omega) _ | with_reducible refine Kp.keep ?_ _ | with_reducible refine Kp.setW ?_ (by rfl) _) (by rw [hV2];decide)
    exact WW.ret ⟨.inl rfl,_,gRES,by rw [hV2,hB2];rfl,q1,q2,q3⟩
   | none =>
    rw [hop] at hV2 hB2
    simp only [Option.getD_none,Option.isSome_none,Bool.false_eq_true,if_false] at hV2 hB2 ⊢
    have k3:Kp (fun _=>False) h2 ((h2.put h2.next (.mem 2 [[.int .u64 0,.int .u64 0]])).set h2.next (some (.mem 2 [encP (ofK x.s.ks.seed l.e)]))):=(by repeat first | exact Kp.refl | assumption | with_reducible refine Kp.put ?_ (by omega) _ | with_reducible refine Kp.setN ?_ (by omega) _ | with_reducible refine Kp.keep ?_ _ | with_reducible refine Kp.setW ?_ (by rfl) _)
    obtain ⟨q1,q2,q3⟩:=CaG.poison (h:=(h2.put h2.next (.mem 2 [[.int .u64 0,.int .u64 0]])).set h2.next (some (.mem 2 [encP (ofK x.s.ks.seed l.e)]))) (gg2.new k3) (v:=v2) gH
    (refine go ?_)
    have eX:x.valX md i={ x with bad:=true }:=by rw [CaS.valX,if_pos hV2]
    exact WW.ret ⟨.inl rfl,_,gRES,by rw [hV2];rfl,eX ▸ q1,fun w=>eX ▸ q2 (hW k3 w),((k2.trans k3).mono fun _ _ h=>h.elim).trans q3⟩
  ·rw [if_neg hep,decide_eq_false hep]
   rw [if_neg hep] at hO2
   rw [hO2] at hV2
   simp only [Option.isSome_none,Bool.false_eq_true,if_false] at hV2
   have k3:Kp (fun _=>False) h2 ((h2.put h2.next (.mem 2 [[.int .u64 0,.int .u64 0]])).set h2.next (some (.mem 2 [encP (0,0)]))):=(by repeat first | exact Kp.refl | assumption | with_reducible refine Kp.put ?_ (by omega) _ | with_reducible refine Kp.setN ?_ (by omega) _ | with_reducible refine Kp.keep ?_ _ | with_reducible refine Kp.setW ?_ (by rfl) _)
   obtain ⟨q1,q2,q3⟩:=CaG.poison (h:=(h2.put h2.next (.mem 2 [[.int .u64 0,.int .u64 0]])).set h2.next (some (.mem 2 [encP (0,0)]))) (gg2.new k3) (v:=v2) gH
   (refine go ?_)
   have eX:x.valX md i={ x with bad:=true }:=by rw [CaS.valX,if_pos hV2]
   exact WW.ret ⟨.inl rfl,_,gRES,by rw [hV2];rfl,eX ▸ q1,fun w=>eX ▸ q2 (hW k3 w),((k2.trans k3).mono fun _ _ h=>h.elim).trans q3⟩
end Go.Proofs.YthblcmnhiccnhaaGreat


namespace Go.Proofs.YthblcmnhiccnhaaGreat
open Go Go.Abs

def allT:Nat→Bool:=fun _=>true
def DkS.barrier (x:DkS)(ok:Bool):DkS:=if ok then { x with lasts:=z1s allT 0 x.waits x.lasts,waits:=[],trace:=x.trace++[(-1,[])],gen:=x.gen+1 } else x
set_option maxHeartbeats 2000000 in
theorem zgm {h:AHeap}{n:DkN}{w:PwS}{x:DkS}{k:Nat}(hd:DkAt h n w x)(hwk:w.Ok k)(hk:k≤1000000000)(h1:x.waits.length≤1000000)(h2:x.trace.length≤1000000)(hw:∀ o∈x.waits,0≤o.1∧o.1 < 32) :
  AE Tryz.prog 36 [.ptr n.d 0 0] h (.bool w.can) (dkPut n w.spend (x.barrier w.can) h):=by
 refine AE.wfU fun hwu => ?_
 have hns:=hd.nes fun id y hy=>(hwu id y hy).1
 obtain ⟨a1,a2,a4,a5,b1,b3,b4,b6,b7,bx⟩:=id hns
 have hd':=hd
 obtain ⟨q1,q2,q4,q5,q6,q7⟩:=hd
 have hm:(x.lasts.map encBl).length=32:=by simpa using q7
 obtain ⟨r33,r34,r35⟩:=z64 hm (.ptr n.p 0 0) (.app n.w x.gen 2 (x.waits.map encO)) (.app n.t 0 2 (x.trace.map encO)) (.bool x.refuses)
 refine AE.effW z99 (by simp) (zq3 hd' _ _) ?_
 unfold z44;dsimp only [qQ,qR,qM,qG]
 (refine go ?_)
 refine WL.call rfl gM gSL (z1a q1 hwk hk) ?_
 cases hcan:w.can with
 | false =>
  (refine go ?_)
  refine WW.ret (EffQ.finD ?_ ?_)
  ·refine z6t gKB ?_
   rw [DkS.barrier,if_neg (by simp)]
   exact ⟨gH,gH,gH,gH,bx,q7⟩
  ·exact fz_b rfl
 | true =>
  refine WL.named (fun h2=>h2.get n.p=some (.mem 4 [w.spend.row])∧h2.get n.d=some (.mem 36 [dkRow n.p n.w n.t x])∧h2.get n.w=some (.tail x.gen x.waits.length)∧h2.get n.t=some (.tail 0 x.trace.length)∧Kp (fun id=>id=n.p) h h2) ⟨gH,gH,gH,gH,(by repeat first | exact Kp.refl | assumption | with_reducible refine Kp.put ?_ (by omega) _ | with_reducible refine Kp.setN ?_ (by omega) _ | with_reducible refine Kp.keep ?_ _ | with_reducible refine Kp.setW ?_ (by simp;done) _)⟩ ?_
  rintro h2 ⟨p1,p2,p4,p5,k2⟩
  have hx2:=k2.next
  (refine go ?_)
  refine WL.go (hs:=Stp.load1 rfl p2 (z3d r33) gM) ?_
  (refine go ?_)
  refine WW.loopE (fun (s:Nat×List Bs)=>[(0,some (.ptr n.d 0 0)),(18,some (.app n.w x.gen 2 (x.waits.map encO))),(19,some (.int .i64 x.waits.length)),(20,some (.int .i64 s.1))])
   (fun s h'=>h'.get n.d=some (.mem 36 [dkRow n.p n.w n.t { x with lasts:=s.2 }])∧KeepsB [n.d] h2 h'∧s.2.length=32∧s.1≤x.waits.length∧z1s allT s.1 (x.waits.drop s.1) s.2=z1s allT 0 x.waits x.lasts)
   (fun s=>x.waits.length - s.1) (0,x.lasts) gSUB ⟨p2,KeepsB.refl,q7,Nat.zero_le _,rfl⟩ ?_
  rintro ⟨i,b⟩ h' ⟨g1,g2,g3,g4,g5⟩
  dsimp only at g1 g2 g3 g4 g5 ⊢
  have gn:=g2.1
  obtain ⟨nx,hnx⟩:∃ nx,h'.next=nx:=⟨_,rfl⟩
  (refine go ?_)
  (refine WW.ifB rfl (fun hz1 => ?_) (fun hz1 => ?_))
  ·have hi:i < x.waits.length:=by omega
   have hwi:=hw x.waits[i] (List.getElem_mem hi)
   have hstep:z1s allT (i+1) (x.waits.drop (i+1)) (b.set x.waits[i].1.toNat x.waits[i].2)=z1s allT 0 x.waits x.lasts:=by
    rw [← g5,List.drop_eq_getElem_cons hi,z1s];rfl
   (repeat first | refine WW.seq ?_ | refine WW.reg ?_ | refine WL.nil ?_ | refine WW.skip ?_ | refine WW.block ?_ | refine thenN ?_ | refine blkN ?_);iterate 4 (refine WL.go ?_)
   (repeat first | refine WW.seq ?_ | refine WW.reg ?_ | refine WL.nil ?_ | refine WW.skip ?_ | refine WW.block ?_ | refine thenN ?_ | refine blkN ?_)
   refine WW.dregX [8] [] [n.d] gN (by decide +kernel) ?_
   iterate 8 (refine DW.go ?_)
   have hmb:(b.map encBl).length=32:=by simpa using g3
   refine DW.goW (hs:=Stp.store1N (cs := .ptr n.p 0 0::((b.map encBl).set x.waits[i].1.toNat (.imm 1 (x.waits[i].2.map encB))++[.app n.w x.gen 2 (x.waits.map encO),.app n.t 0 2 (x.trace.map encO),.bool x.refuses])) rfl rfl gH rfl (by simp [dkRow,g3];omega) rfl (by rw [show 0+1+x.waits[i].1.toNat*1=1+x.waits[i].1.toNat by omega];exact zrf hmb _ _ _ (by omega)) gM) ?_ (fun hp=>PhiW.setW (by simp) hp)
   refine DW.endL ?_
   (refine go ?_)
   refine ⟨(i+1,b.set x.waits[i].1.toNat x.waits[i].2),gSUB,⟨?_,gKB,by dsimp only;rw [List.length_set,g3],by dsimp only;omega,hstep⟩,by dsimp only;omega⟩
   have ho:dkRow n.p n.w n.t { x with lasts:=b.set x.waits[i].1.toNat x.waits[i].2 } = .ptr n.p 0 0::((b.map encBl).set x.waits[i].1.toNat (.imm 1 (x.waits[i].2.map encB))++[.app n.w x.gen 2 (x.waits.map encO),.app n.t 0 2 (x.trace.map encO),.bool x.refuses]):=by
    simp only [dkRow,List.map_set];rfl
   dsimp only
   rw [ho];exact gH
  ·have hi:i=x.waits.length:=by omega
   subst hi
   simp only [List.drop_length,z1s] at g5
   refine WW.exit ?_
   (repeat first | refine WW.seq ?_ | refine WW.reg ?_ | refine WL.nil ?_ | refine WW.skip ?_ | refine WW.block ?_ | refine thenN ?_ | refine blkN ?_);iterate 3 (refine WL.go ?_)
   have hmb:(b.map encBl).length=32:=by simpa using g3
   refine WL.go (hs:=Stp.store1N (cs := .ptr n.p 0 0::(b.map encBl++[.nils,.app n.t 0 2 (x.trace.map encO),.bool x.refuses])) rfl rfl gH rfl (by simp [dkRow,g3]) rfl (z8v hmb _ _ _ _ _).1 gM) ?_
   have u1:=(g2.2 n.p (k2.us _ (hwu _ _ q1)) (by simpa using b1)).trans p1
   have u4:=(g2.2 n.w (k2.us _ (hwu _ _ q4)) (by simpa using Ne.symm b6)).trans p4
   have u5:=(g2.2 n.t (k2.us _ (hwu _ _ q5)) (by simpa using Ne.symm b7)).trans p5
   refine WL.cvt (Cvt.anewM 2 (id:=n.d) (i:=0) (j:=33) (t:=n.w) (g:=x.gen) (n:=x.waits.length) gH gH rfl (z64 hmb _ _ _ _).1) ?_
   have hset:(AV.ptr n.p 0 0::(b.map encBl++[.nils,.app n.t 0 2 (x.trace.map encO),.bool x.refuses])).set 33 (.app n.w (x.gen+1) 2 []) = .ptr n.p 0 0::(b.map encBl++[.app n.w (x.gen+1) 2 [],.app n.t 0 2 (x.trace.map encO),.bool x.refuses]):=by
    rw [← zhp (by simp [g3]),(z8v hmb _ _ _ _ _).1]
   simp only [hset]
   (repeat first | refine WW.seq ?_ | refine WW.reg ?_ | refine WL.nil ?_ | refine WW.skip ?_ | refine WW.block ?_ | refine thenN ?_ | refine blkN ?_);iterate 4 (refine WL.go ?_)
   refine WL.go (hs:=Stp.load1 rfl gH (z3d (z64 hmb _ _ _ _).2.1) gM) ?_
   (repeat first | refine WW.seq ?_ | refine WW.reg ?_ | refine WL.nil ?_ | refine WW.skip ?_ | refine WW.block ?_ | refine thenN ?_ | refine blkN ?_);iterate 1 (refine WL.go ?_)
   refine WL.cvt (Cvt.sub1 (s:=41) (v := .agg (encO (-1,[]))) rfl (SubV.agg (.cons (.refl _) (.cons .nil .nil)) (by simp [AV.scalar]))) ?_
   (repeat first | refine WW.seq ?_ | refine WW.reg ?_ | refine WL.nil ?_ | refine WW.skip ?_ | refine WW.block ?_ | refine thenN ?_ | refine blkN ?_);iterate 4 (refine WL.go ?_)
   refine WL.go (hs:=Stp.store1N (cs := .ptr n.p 0 0::(b.map encBl++[.app n.w (x.gen+1) 2 [],.app n.t 0 2 (x.trace.map encO++[encO (-1,[])]),.bool x.refuses])) rfl rfl gH rfl (by simp [g3]) rfl (z8v hmb _ _ _ _ _).2.1 gM) ?_
   (refine go ?_)
   subst g5
   refine WW.ret (EffQ.finD ?_ ?_)
   ·refine z6t ?_ ⟨gH,?_,gH,?_,bx,g3⟩
    ·have kk:KeepsB [n.p,n.d,n.w,n.t] h h':=⟨by have:=g2.1;omega,fun id hu hn=>by
      simp only [List.mem_cons,List.not_mem_nil,or_false,not_or] at hn
      exact (g2.2 id (k2.us _ hu) (by simpa using hn.2.1)).trans (k2.get id hu hn.1)⟩
     exact gKB
    ·have ho:dkRow n.p n.w n.t (x.barrier true) = .ptr n.p 0 0::((z1s allT 0 x.waits x.lasts).map encBl++[.app n.w (x.gen+1) 2 [],.app n.t 0 2 (x.trace.map encO++[encO (-1,[])]),.bool x.refuses]):=by simp [dkRow,DkS.barrier]
     rw [ho];exact gH
    ·rw [show (x.barrier true).trace.length=x.trace.length+1 by simp [DkS.barrier]]
     exact gH
   ·exact fz_b rfl
end Go.Proofs.YthblcmnhiccnhaaGreat


namespace Go.Proofs.YthblcmnhiccnhaaGreat
open Go Go.Abs

structure DkOk (d:DkS)(k:Nat):Prop where
 ll:d.lasts.length=32
 lb:∀ b∈d.lasts,b.length=32
 w:d.waits.length≤k
 t:d.trace.length≤k
 wv:∀ o∈d.waits,(0≤o.1∧o.1 < 32)∧o.2.length=32
theorem DkOk.mono {d:DkS}{k k':Nat}(h:DkOk d k)(hk:k≤k'):DkOk d k':=⟨h.ll,h.lb,Nat.le_trans h.w hk,Nat.le_trans h.t hk,h.wv⟩
theorem DkOk.write {d:DkS}{k:Nat}(h:DkOk d k){lba:Int}{b:Bs}(ok:Bool)(hm:ok=true→d.may lba b=true):DkOk (d.write (lba,b) ok) (k+1):=by
 cases ok with
 | false => exact h.mono (by omega)
 | true =>
  have:=hm rfl
  simp only [DkS.may,Bool.and_eq_true,decide_eq_true_eq] at this
  have h1:=h.w
  have h2:=h.t
  refine ⟨h.ll,h.lb,by simp [DkS.write];omega,by simp [DkS.write];omega,fun o ho => ?_⟩
  simp only [DkS.write,if_true,List.mem_append,List.mem_singleton] at ho
  rcases ho with ho | rfl
  ·exact h.wv o ho
  ·exact ⟨⟨this.1.1.1,this.1.1.2⟩,this.1.2⟩
theorem zgn {K:Nat→Bool}:∀ (l:List Wr) (i:Nat) (b:List Bs),(∀ y∈b,y.length=32)→(∀ o∈l,o.2.length=32)→∀ y∈z1s K i l b,y.length=32
 | [], _, b, hb, _ => hb
 | o :: r, i, b, hb, hl => by
  rw [z1s]
  refine zgn r (i+1) _ (fun y hy => ?_) fun p hp=>hl p (by simp [hp])
  split at hy
  ·rcases List.mem_or_eq_of_mem_set hy with hy | rfl
   ·exact hb y hy
   ·exact hl o (by simp)
  ·exact hb y hy
theorem DkOk.barrier {d:DkS}{k:Nat}(h:DkOk d k)(ok:Bool):DkOk (d.barrier ok) (k+1):=by
 cases ok with
 | false => exact h.mono (by omega)
 | true =>
  have h2:=h.t
  exact ⟨(ziz allT _ _ _).trans h.ll,zgn _ _ _ h.lb fun o ho=>(h.wv o ho).2,Nat.zero_le _,by simp [DkS.barrier];omega,fun o ho=>by simp [DkS.barrier] at ho⟩
def CaS.spillM (md:Bool)(x:CaS)(i:Nat):Bool:=x.s.dk.may (x.lf i).lba (x.valB md i)
def CaS.spillW (md:Bool)(x:CaS)(i:Nat):WS:={ x.s with pw:=if x.spillM md i then x.s.pw.spend else x.s.pw,dk:=x.s.dk.write ((x.lf i).lba,x.valB md i) (x.spillM md i&&x.s.pw.can) }
def CaS.spillX (md:Bool)(x:CaS)(i:Nat):CaS:=if x.valE md i=0 then { x with s:=x.spillW md i } else x.valX md i
def CaS.spillE (md:Bool)(x:CaS)(i:Nat):Int:=if x.valE md i=0 then (if (x.spillM md i&&x.s.pw.can) then 0 else if (x.spillW md i).pw.gone then 7 else 5) else x.valE md i
set_option maxHeartbeats 4000000 in
theorem zhw {md:Bool}{h:AHeap}{n:CaN}{x:CaS}{k:Nat}(hg:CaG md h n x)(hx:WSt md x.s k)(hk:k≤80000){kd:Nat}(hdk:DkOk x.s.dk kd)(hkd:kd≤100000)(i:Nat)(hi:i < x.now.length)(hl:(x.now.length:Int)=x.s.n)(he:0≤(x.lf i).e∧(x.lf i).e < 4294967296)(hlba:0≤(x.lf i).lba∧(x.lf i).lba < 32)(hvl:(x.valB md i).length≤1000000) :
  AC Tryz.prog 192 [.ptr n.c 0 0,.int .i64 i] h (fun r h'=>r = .int .i64 (x.spillE md i)∧CaG md h' n (x.spillX md i)∧(CaW h n x→CaW h' n (x.spillX md i))∧Kp (fun id=>n.w.own md id∨id=n.c) h h'):=by
 refine AC.introW z9e (by simp) ?_
 unfold z49;dsimp only [qQ,qR,qM,qG]
 (refine go ?_)
 refine WL.callA rfl gM gSL (z7n hg hx hk i hi hl he hlba) ?_
 rintro _ h2 ⟨rfl,g2,w2,k2⟩
 by_cases hv:x.valE md i=0
 rotate_left
 ·have e1:x.spillE md i=x.valE md i:=by rw [CaS.spillE,if_neg hv]
  have e2:x.spillX md i=x.valX md i:=by rw [CaS.spillX,if_neg hv]
  rw [valV,if_neg hv,e1,e2]
  (refine go ?_)
  (refine WW.ifB rfl (fun hz1 => ?_) (fun hz1 => ?_))
  ·(refine go ?_)
   exact WW.ret ⟨.inl rfl,_,gRES,rfl,g2,w2,k2.mono fun _ _ e => .inr e⟩
  ·exact absurd hz1 hv
 have hvx:x.valX md i=x:=by rw [CaS.valX,if_neg (by rw [hv];decide)]
 rw [hvx] at g2 w2
 have e1:x.spillE md i=if (x.spillM md i&&x.s.pw.can) then 0 else if (x.spillW md i).pw.gone then 7 else 5:=by rw [CaS.spillE,if_pos hv]
 have e2:x.spillX md i={ x with s:=x.spillW md i }:=by rw [CaS.spillX,if_pos hv]
 rw [valV,hv,if_pos rfl,e1,e2]
 have hlf:x.now[i]=x.lf i:=by simp [CaS.lf,List.getD_eq_getElem?_getD,hi]
 have hdw:=zjy g2.w.w.dk hx.fit.pw (by omega) (Nat.le_trans hdk.w (by omega)) (Nat.le_trans hdk.t (by omega)) (x.lf i).lba (x.valB md i) hvl
 have hkw:Kp (n.w.own md) h2 (dkPut n.w.dkN (if x.s.dk.may (x.lf i).lba (x.valB md i) then x.s.pw.spend else x.s.pw) (x.s.dk.write ((x.lf i).lba,x.valB md i) (x.s.dk.may (x.lf i).lba (x.valB md i)&&x.s.pw.can)) h2):=kp_dk n.w _ _
 have hll:(x.s.dk.write ((x.lf i).lba,x.valB md i) (x.s.dk.may (x.lf i).lba (x.valB md i)&&x.s.pw.can)).lasts.length=32:=by
  rw [DkS.write];split <;> exact hdk.ll
 have g3:CaG md (dkPut n.w.dkN (if x.s.dk.may (x.lf i).lba (x.valB md i) then x.s.pw.spend else x.s.pw) (x.s.dk.write ((x.lf i).lba,x.valB md i) (x.s.dk.may (x.lf i).lba (x.valB md i)&&x.s.pw.can)) h2) n { x with s:=x.spillW md i }:=caG_w g2 (g2.w.step (g2.w.w.putDk _ _ hll) hkw) hkw
 have w3:CaW h n x→CaW (dkPut n.w.dkN (if x.s.dk.may (x.lf i).lba (x.valB md i) then x.s.pw.spend else x.s.pw) (x.s.dk.write ((x.lf i).lba,x.valB md i) (x.s.dk.may (x.lf i).lba (x.valB md i)&&x.s.pw.can)) h2) n { x with s:=x.spillW md i }:=fun w=>by
  have q:=(w2 w).kp g2 hkw (fun q=>g2.nm n.c (.inl rfl) (.inl (WN.own_all q)))
  exact ⟨q.g,q.ne⟩
 have kF:Kp (fun id=>n.w.own md id∨id=n.c) h (dkPut n.w.dkN (if x.s.dk.may (x.lf i).lba (x.valB md i) then x.s.pw.spend else x.s.pw) (x.s.dk.write ((x.lf i).lba,x.valB md i) (x.s.dk.may (x.lf i).lba (x.valB md i)&&x.s.pw.can)) h2):=(k2.mono fun _ _ e => .inr e).trans (hkw.mono fun _ _ e => .inl e)
 have hM:x.s.dk.may (x.lf i).lba (x.valB md i)=x.spillM md i:=rfl
 rw [hM] at hdw g3 w3 kF
 have hpw:(x.spillW md i).pw=if x.spillM md i then x.s.pw.spend else x.s.pw:=rfl
 generalize x.spillM md i=M at *
 obtain ⟨v,hrow,hcb⟩:=g2.c
 have hc:=hcb.g
 have hob:=g2.w.w.w
 simp only [wRow] at hob
 have hob3:=g3.w.w.w
 simp only [wRow] at hob3
 have hc3:=g3.c
 obtain ⟨v3,_,hc3⟩:=hc3
 have hc3:=hc3.g
 have hpo:=z1x g3.w.w.sd.pw
 generalize dkPut n.w.dkN (if M then x.s.pw.spend else x.s.pw) (x.s.dk.write ((x.lf i).lba,x.valB md i) (M&&x.s.pw.can)) h2=h3 at *
 rcases hrow with rfl | ⟨rfl,hE⟩
 all_goals
  try have hEg:=hE.g
  (repeat first | refine WL.go ?_ | refine WW.seq ?_ | refine WW.reg ?_ | refine WL.nil ?_ | refine WW.skip ?_ | refine WW.block ?_ | refine WW.exit ?_ | refine WW.condT rfl ?_ | refine WW.condF rfl ?_ | refine WL.gox ?_ | refine thenN ?_ | refine blkN ?_)
  refine WW.dregC 16 (by decide +kernel) ?_
  (repeat first | refine PW.go ?_ | refine PW.nil ?_)
  try simp only [Nat.zero_add]
  rw [hlf]
  refine RunL.call rfl gM gSL hdw ?_
  rintro _ _ ⟨rfl,rfl⟩
  (repeat first | refine RunL.go ?_ | refine RunL.endL ?_ | refine thenN ?_ | refine blkN ?_)
  cases hok:(M&&x.s.pw.can) with
  | true =>
   (refine go ?_)
   exact WW.ret ⟨.inl rfl,_,gRES,rfl,g3,w3,kF⟩
  | false =>
   (refine go ?_)
   refine WL.call rfl gM gSL (hpo) ?_
   cases hgo:(x.spillW md i).pw.gone with
   | true =>
    (refine go ?_)
    exact WW.ret ⟨.inl rfl,_,gRES,rfl,g3,w3,kF⟩
   | false =>
    (refine go ?_)
    exact WW.ret ⟨.inl rfl,_,gRES,rfl,g3,w3,kF⟩
end Go.Proofs.YthblcmnhiccnhaaGreat


namespace Go.Proofs.YthblcmnhiccnhaaGreat
open Go Go.Abs

theorem zp4 {md:Bool}{L:List Iss}{k:Pr}{n:Nn}{hd b:Bs}{tg:Pr}{d:Bs}(h:openP md L k n hd b tg=some d)(hL:∀ x∈L,x.data.length≤4000)(hb:b.length≤4000):d.length≤4000:=by
 cases md with
 | true =>
  have h':openO L k n hd b tg=some d:=h
  rw [openO,Option.map_eq_some_iff] at h'
  obtain ⟨x,hx,rfl⟩:=h'
  exact hL x (List.mem_of_find?_eq_some hx)
 | false =>
  have h':gcmO k n hd b tg=some d:=h
  rw [gcmO] at h'
  split at h'
  ·cases h';rw [zej];exact hb
  ·cases h'
theorem zrx {md:Bool}{x:CaS}{k:Nat}(hx:WSt md x.s k)(i:Nat):(x.valB md i).length≤1000000:=by
 rw [CaS.valB]
 split
 ·rw [zp2];decide
 ·cases ho:x.valO md i with
  | none => simp
  | some d =>
   rw [Option.getD_some]
   rw [CaS.valO] at ho
   split at ho
   ·have:=zp4 ho hx.dat (by rw [sub,List.length_take];omega)
    omega
   ·cases ho
structure LvOk (x:CaS):Prop where
 e:∀ i,0≤(x.lf i).e∧(x.lf i).e < 4294967296
 lba:∀ i,0≤(x.lf i).lba∧(x.lf i).lba < 32
theorem zm5 {l:Lf}:∀ (lv:List Lf) (j i:Nat),lvOk lv j=true→lv[i]? = some l→zq l (j+i:Nat)=true
 | [], _, _, _, h => by simp at h
 | y :: r, j, 0, h, hl => by
  simp only [lvOk,Bool.and_eq_true] at h
  simp only [List.getElem?_cons_zero,Option.some.injEq] at hl
  subst hl
  exact h.1
 | y :: r, j, i + 1, h, hl => by
  simp only [lvOk,Bool.and_eq_true] at h
  simp only [List.getElem?_cons_succ] at hl
  have:=zm5 r (j+1) i h.2 hl
  rwa [show j+1+i=j+(i+1) by omega] at this
theorem zp5 {l:Lf}{i:Int}(h:zq l i=true):0≤l.lba∧l.lba < 32:=by
 rw [zq] at h
 split at h
 ·cases h
 ·split at h
  ·have:=of_decide_eq_true h
   rw [this];decide
  ·split at h
   ·simp only [Bool.and_eq_true,lbaOk,decide_eq_true_eq] at h
    exact h.1
   ·split at h
    ·simp only [Bool.and_eq_true,lbaOk,decide_eq_true_eq] at h
     exact h.1.1
    ·cases h
theorem CaOk.lv {md:Bool}{x:CaS}{k:Nat}(hx:CaOk md x k):LvOk x:=by
 have key:∀ i,(∃ l,x.now[i]? = some l∧x.lf i=l)∨x.lf i=lf0:=fun i=>by
  rw [CaS.lf,List.getD_eq_getElem?_getD]
  cases h:x.now[i]? with
  | none => exact .inr rfl
  | some l => exact .inl ⟨l, rfl, rfl⟩
 refine ⟨fun i => ?_,fun i => ?_⟩
 ·rcases key i with ⟨l,h1,h2⟩ | h2
  ·rw [h2];exact (hx.w l (List.mem_of_getElem? h1)).e
  ·rw [h2];decide
 ·rcases key i with ⟨l,h1,h2⟩ | h2
  ·rw [h2];exact zp5 (zm5 x.now 0 i hx.ok h1)
  ·rw [h2];decide
def z2q (md:Bool):List Nat→CaS→Bool→Int×CaS×Bool
 | [], x, d => (0, x, d)
 | i :: r, x, d => if (x.lf i).d = false then z2q md r x d else if x.spillE md i = 0 then z2q md r (x.spillX md i) true else (x.spillE md i, x.spillX md i, d)
def WS.dbarS (s:WS):WS:={ s with pw:=s.pw.spend,dk:=s.dk.barrier s.pw.can }
def CaS.noneL (x:CaS):CaS:={ x with now:=List.replicate x.now.length lf0,ag:=ag0 }
def CaS.empty (md:Bool)(x:CaS):Int×CaS :=
 let a:=z2q md (List.range x.now.length) x false
 if a.1=0 then
  if a.2.2 then
   if a.2.1.s.pw.can then (0,CaS.noneL { a.2.1 with s:=a.2.1.s.dbarS }) else (7,{ a.2.1 with s:=a.2.1.s.dbarS })
  else (0,a.2.1.noneL)
 else (a.1,a.2.1)
theorem z2d {md:Bool}{x:CaS}{i:Nat}:(x.spillX md i).now=x.now∧(x.spillX md i).was=x.was∧(x.spillX md i).boot=x.boot∧(x.spillX md i).j=x.j∧(x.spillX md i).ag=x.ag:=by
 rw [CaS.spillX]
 split
 ·exact ⟨rfl,rfl,rfl,rfl,rfl⟩
 ·rw [CaS.valX];split <;> exact ⟨rfl,rfl,rfl,rfl,rfl⟩
theorem zp6 {md:Bool}{x:CaS}{i k:Nat}(hx:WSt md x.s k):WSt md (x.spillX md i).s (k+1):=by
 rw [CaS.spillX]
 split
 ·refine ⟨⟨hx.fit.g,?_,hx.fit.sd.mono (by omega),Nat.le_succ_of_le hx.fit.ss,Nat.le_succ_of_le hx.fit.ll⟩,hx.cur,hx.seq,hx.dat,hx.ct.mono (by omega)⟩
  show (if x.spillM md i then x.s.pw.spend else x.s.pw).Ok (k+1)
  split
  ·exact hx.fit.pw.spend
  ·exact hx.fit.pw.mono (by omega)
 ·rw [CaS.valX];split <;> exact hx.mono (by omega)
theorem zqj {md:Bool}{x:CaS}{i kd:Nat}(hd:DkOk x.s.dk kd):DkOk (x.spillX md i).s.dk (kd+1):=by
 rw [CaS.spillX]
 split
 ·exact hd.write _ fun h=>by
   rw [Bool.and_eq_true] at h;exact h.1
 ·rw [CaS.valX];split <;> exact hd.mono (by omega)
end Go.Proofs.YthblcmnhiccnhaaGreat


namespace Go.Proofs.YthblcmnhiccnhaaGreat
open Go Go.Abs

theorem zes {l:Lf}:∀ (lv:List Lf) (i j:Nat),lvOk lv j=true→zq l (j+i:Nat)=true→lvOk (lv.set i l) j=true
 | [], _, _, h, _ => h
 | y :: r, 0, j, h, hl => by
  simp only [lvOk,Bool.and_eq_true] at h
  simp only [List.set_cons_zero,lvOk,Bool.and_eq_true]
  exact ⟨hl,h.2⟩
 | y :: r, i + 1, j, h, hl => by
  simp only [lvOk,Bool.and_eq_true] at h
  simp only [List.set_cons_succ,lvOk,Bool.and_eq_true]
  exact ⟨h.1,zes r i (j+1) h.2 (by rw [show j+1+i=j+(i+1) by omega];exact hl)⟩
theorem zo0 (i:Nat)(hi:i < 16):zq lf0 i=true:=by
 rw [zq,if_neg (by omega),if_pos (show lf0.k=0 from rfl)];decide
end Go.Proofs.YthblcmnhiccnhaaGreat


namespace Go.Proofs.YthblcmnhiccnhaaGreat
open Go Go.Abs

section
variable {h:AHeap}{E:Nat}{l:List Int}{f:Nat}{us ts:List AV}{p:Int→Bool}
theorem za0 (hE:h.get E=some (.mem 1 (l.map encE)))(hl:l.length≤1000000)(hb:zga f)(hK:∀ h2,Keeps h h2→∀ v∈l,AE Tryz.prog f (us++[.int .u32 v]++ts) h2 (.bool (p v)) h2) :
  AE Tryz.prog 282 [.ref E 0 l.length,.func (.func f) us ts] h (.int .i64 (if l.findIdx p < l.length then (l.findIdx p:Int) else -1)) h:=by
 refine AE.wf fun hwf => ?_
 have h0:=hwf _ _ hE
 refine AE.pureW z3c (by simp) ?_
 unfold z1m;dsimp only [qQ,qR,qM,qG]
 (refine go ?_)
 refine WW.loopE (fun (i:Nat)=>[(0,some (.ref E 0 l.length)),(1,some (.func (.func f) us ts)),(7,some (.int .i64 l.length)),(8,some (.int .i64 i))])
  (fun i h'=>h'=h∧i≤l.length∧i≤l.findIdx p) (fun i=>l.length - i) 0 gSUB ⟨rfl,Nat.zero_le _,Nat.zero_le _⟩ ?_
 rintro i h' ⟨rfl,c1,c2⟩
 (refine go ?_)
 (refine WW.ifB rfl (fun hz1 => ?_) (fun hz1 => ?_))
 ·have hi:i < l.length:=by omega
  (repeat first | refine WW.seq ?_ | refine WW.reg ?_ | refine WL.nil ?_ | refine WW.skip ?_ | refine WW.block ?_ | refine thenN ?_ | refine blkN ?_);iterate 2 (refine WL.go ?_)
  (repeat first | refine WW.seq ?_ | refine WW.reg ?_ | refine WL.nil ?_ | refine WW.skip ?_ | refine WW.block ?_ | refine thenN ?_ | refine blkN ?_);iterate 5 (refine WL.go ?_)
  simp only [Nat.zero_add]
  refine WL.fx1 (FX.callv rfl rfl gM hb.ok (hK _ (Keeps.refl _) l[i] (List.getElem_mem hi))) ?_
  cases hp:p l[i] with
  | true =>
   (refine go ?_)
   refine WW.ret (PureQ.finD ?_)
   have he:l.findIdx p=i:=by
    rcases Nat.lt_or_ge i (l.findIdx p) with h1 | h1
    ·have:=List.not_of_lt_findIdx h1;rw [hp] at this;simp at this
    ·omega
   rw [he,if_pos hi]
   exact fz_i rfl
  | false =>
   (refine go ?_)
   refine ⟨i+1,gSUB,⟨rfl,by omega,?_⟩,by omega⟩
   rcases Nat.lt_or_ge i (l.findIdx p) with h1 | h1
   ·exact h1
   ·have he:l.findIdx p=i:=by omega
    have:=List.findIdx_getElem (p:=p) (w:=by rw [he];exact hi)
    simp only [he] at this
    rw [hp] at this;cases this
 ·(refine go ?_)
  refine WW.ret (PureQ.finD ?_)
  have:¬ l.findIdx p < l.length:=by omega
  rw [if_neg this]
  exact fz_i rfl
end
theorem zn3 {l:List Int}{p:Int→Bool}(h:¬ l.findIdx p < l.length):l.filter (fun v => !p v)=l:=by
 rw [List.filter_eq_self]
 intro a ha
 have e:l.findIdx p=l.length:=Nat.le_antisymm List.findIdx_le_length (by omega)
 have:=List.findIdx_eq_length.1 e a ha
 simpa using this
set_option maxHeartbeats 1000000 in
theorem z92 {h:AHeap}{E:Nat}{l:List Int}{f:Nat}{us ts:List AV}{p:Int→Bool}(hE:h.get E=some (.mem 1 (l.map encE)))(hl:l.length≤1000000)(hb:zga f)(hK:∀ h2,KeepsB [E] h h2→∀ v∈l,AE Tryz.prog f (us++[.int .u32 v]++ts) h2 (.bool (p v)) h2) :
  AC Tryz.prog 250 [.ref E 0 l.length,.func (.func f) us ts] h (fun r h'=>∃ E',r = .ref E' 0 (l.filter fun v => !p v).length∧(E'=E∨h.next≤E')∧BoxAt h' E' (.mem 1 ((l.filter fun v => !p v).map encE))∧Kp (fun id=>id=E) h h'):=by
 refine AC.wfU fun hwu => ?_
 have hu0:=hwu _ _ hE
 have h0:=hu0.1
 refine AC.introW z35 (by simp) ?_
 unfold z1j;dsimp only [qQ,qR,qM,qG]
 (refine go ?_)
 refine WL.call rfl gM gSL (za0 hE hl hb (p:=p) (fun h2 hk v hv=>hK h2 ⟨hk.1,fun id hu _=>hk.2 id hu⟩ v hv)) ?_
 by_cases hx:l.findIdx p < l.length
 rotate_left
 ·rw [if_neg hx]
  (refine go ?_)
  have hfl:=zn3 (p:=p) hx
  exact WW.ret ⟨.inl rfl,_,gRES,E,by rw [hfl];rfl,.inl rfl,by rw [hfl];exact ⟨hu0,hE⟩,Kp.refl⟩
 rw [if_pos hx]
 have hpx:=List.findIdx_getElem (p:=p) (w:=hx)
 have hpre:(l.take (l.findIdx p)).filter (fun v => !p v)=l.take (l.findIdx p):=by
  rw [List.filter_eq_self]
  intro a ha
  obtain ⟨k,hk,rfl⟩:=List.mem_iff_getElem.1 ha
  rw [List.length_take] at hk
  have:=List.not_of_lt_findIdx (p:=p) (xs:=l) (i:=k) (by omega)
  rw [List.getElem_take]
  simpa using this
 generalize hk0:l.findIdx p=k0 at *
 (refine go ?_)
 refine WW.loopE (fun (s:Nat×Nat×List Int)=>[(0,some (.ref E 0 l.length)),(1,some (.func (.func f) us ts)),(5,some (.int .i64 s.1)),(6,some (.int .i64 s.2.1))])
  (fun s h'=>h'.get E=some (.mem 1 (s.2.2.map encE))∧Kp (fun id=>id=E) h h'∧s.2.2.length=l.length∧s.1 < s.2.1∧s.2.1≤l.length∧s.2.2.take s.1=(l.take s.2.1).filter (fun v => !p v)∧s.2.2.drop s.2.1=l.drop s.2.1)
  (fun s=>l.length - s.2.1) (k0,k0+1,l) gSUB ⟨hE,Kp.refl,rfl,by dsimp only;omega,by dsimp only;omega,?_,rfl⟩ ?_
 ·dsimp only
  rw [List.take_succ_eq_append_getElem hx,List.filter_append,hpre]
  simp [hpx]
 rintro ⟨i,j,c⟩ h' ⟨g1,g2,g3,g4,g5,g6,g7⟩
 dsimp only at g1 g2 g3 g4 g5 g6 g7 ⊢
 have hx':=g2.next
 (refine go ?_)
 (refine WW.ifB rfl (fun hz2 => ?_) (fun hz2 => ?_))
 ·have hj:j < l.length:=by omega
  have hcj:c[j]'(by omega)=l[j]:=by
   have h1:c[j]? = l[j]? := by
    have:=congrArg (fun q:List Int=>q[0]?) g7
    simpa [List.getElem?_drop] using this
   rw [List.getElem?_eq_getElem (by omega),List.getElem?_eq_getElem hj] at h1
   exact Option.some.inj h1
  (repeat first | refine WW.seq ?_ | refine WW.reg ?_ | refine WL.nil ?_ | refine WW.skip ?_ | refine WW.block ?_ | refine thenN ?_ | refine blkN ?_);iterate 5 (refine WL.go ?_)
  simp only [Nat.zero_add]
  rw [hcj]
  (repeat first | refine WW.seq ?_ | refine WW.reg ?_ | refine WL.nil ?_ | refine WW.skip ?_ | refine WW.block ?_ | refine thenN ?_ | refine blkN ?_);iterate 2 (refine WL.go ?_)
  refine WL.fx1 (FX.callv rfl rfl gM hb.ok (hK _ ⟨g2.1,fun id hu hn=>g2.get id hu (by simpa using hn)⟩ l[j] (List.getElem_mem hj))) ?_
  cases hp:p l[j] with
  | true =>
   (refine go ?_)
   refine ⟨(i,j+1,c),gSUB,⟨g1,g2,g3,by dsimp only;omega,by dsimp only;omega,?_,?_⟩,by dsimp only;omega⟩
   ·dsimp only
    rw [g6,List.take_succ_eq_append_getElem hj,List.filter_append]
    simp [hp]
   ·dsimp only
    rw [← List.drop_drop,← List.drop_drop,g7]
  | false =>
   (refine go ?_)
   refine ⟨(i+1,j+1,c.set i l[j]),gSUB,⟨?_,(by repeat first | exact Kp.refl | assumption | with_reducible refine Kp.put ?_ (by omega) _ | with_reducible refine Kp.setN ?_ (by omega) _ | with_reducible refine Kp.keep ?_ _ | with_reducible refine Kp.setW ?_ (by simp;done) _),by dsimp only;rw [List.length_set];exact g3,by dsimp only;omega,by dsimp only;omega,?_,?_⟩,by dsimp only;omega⟩
   ·dsimp only
    have hm:(c.set i l[j]).map encE=(c.map encE).set (0+i) [.int .u32 l[j]]:=by rw [List.map_set,Nat.zero_add];rfl
    rw [hm];exact gH
   ·dsimp only
    rw [List.take_succ_eq_append_getElem hj,List.filter_append,← g6]
    rw [List.take_succ_eq_append_getElem (by rw [List.length_set];omega),List.take_set_of_le (by omega)]
    simp [hp]
   ·dsimp only
    rw [List.drop_set_of_lt (by omega),← List.drop_drop,← List.drop_drop,g7]
 ·have hj:j=l.length:=by omega
  subst hj
  rw [List.take_of_length_le (Nat.le_refl _)] at g6
  have hfl:(l.filter fun v => !p v).length=i:=by rw [← g6,List.length_take];omega
  refine WW.exit ?_
  (repeat first | refine WW.seq ?_ | refine WW.reg ?_ | refine WL.nil ?_ | refine WW.skip ?_ | refine WW.block ?_ | refine thenN ?_ | refine blkN ?_);iterate 3 (refine WL.go ?_)
  have hcm:(c.map encE).length=l.length:=by rw [List.length_map,g3]
  refine WL.fx0 (FX.raw (XOK.clr (off:=0+i) (n:=l.length - i) rfl g1 rfl (by decide)) gM) ?_
  refine WL.named (fun h2=>h2.get E=some (.mem 1 ((c.take i).map encE++List.replicate (l.length - i) [.int .u32 0]))∧Kp (fun id=>id=E) h h2) ⟨?_,?_⟩ ?_
  ·show (h'.set E _).get E=_
   rw [za,Nat.zero_add,show i+(l.length - i)=l.length by omega,List.drop_of_length_le (by omega),List.append_nil,← List.map_take]
  ·exact g2.setW rfl _
  clear g1 g2
  rintro h2 ⟨g1,g2⟩
  have hx2:=g2.next
  have hil:i≤l.length:=by omega
  have hl2:((c.take i).map encE++List.replicate (l.length - i) [AV.int .u32 0]).length=l.length:=by simp;omega
  (repeat first | refine WW.seq ?_ | refine WW.reg ?_ | refine WL.nil ?_ | refine WW.skip ?_ | refine WW.block ?_ | refine thenN ?_ | refine blkN ?_);iterate 4 (refine WL.go ?_)
  refine WL.cvt (Cvt.trim (s:=4) (id:=E) (n:=i) (c':=(c.take i).map encE) rfl g1 (by omega) (by rw [List.take_left' (by simp;omega)]) rfl) ?_
  (refine go ?_)
  refine WW.ret ⟨.inl rfl,_,gRES,h2.next,by rw [hfl];rfl,.inr hx2,?_,?_⟩
  ·rw [← g6]
   exact ⟨z2 (x := .tail 0 0),gH⟩
  ·exact (g2.setW rfl _).put hx2 _
theorem WG.reE {md:Bool}{h h2:AHeap}{n:WN}{s:WS}(hg:WG md h n s)(w':PwS)(k':KsS){E:Nat}(hE:E=n.E∨h.next≤E)(hk:Kp (n.own md) h h2)(b2:BoxAt h2 E (.mem 1 (k'.epochs.map encE)))(g1:h2.get (n.a+9)=some (k'.obj n.p E))(gp:h2.get n.p=some (.mem 4 [w'.row]))(gr:∀ id,n.nm md id→id≠n.p→id≠n.a+9→id≠n.E→h2.get id=h.get id)(hne:k'.epochs≠[])(hl:k'.epochs.length≤1000000) :
  WG md h2 { n with E:=E } { s with pw:=w',ks:=k' }:=by
 have hw:=hg.w
 have hna:=hw.nx
 have hnB:=hw.nB
 have hoB:=hw.oB
 have hop:=hw.op
 have hol:=hw.ol
 have hx:=hk.next
 have hpl:=hw.nep.1
 have ga:∀ i,0 < i∧i < 11∧i≠8∧i≠9→h2.get (n.a+i)=h.get (n.a+i):=fun i hi=>gr _ (.inl (.inr (.inr (.inl (by omega))))) (by omega) (by omega) (by omega)
 have gB:h2.get n.B=h.get n.B:=gr _ (.inl (.inr (.inr (.inl (by omega))))) (by omega) (by omega) (by omega)
 have gl:h2.get n.l=h.get n.l:=gr _ (.inl (.inr (.inl rfl))) (by omega) (by omega) (by omega)
 obtain ⟨q1,q2,q3,q4,q5,q6⟩:=hw.sd
 obtain ⟨d1,d2,d3,d4,d5,d6⟩:=hw.dk
 refine ⟨⟨⟨gp,(ga 1 (by omega)).trans q2,gB.trans q3,(ga 2 (by omega)).trans q4,(ga 3 (by omega)).trans q5,q6⟩,⟨gp,(ga 4 (by omega)).trans d2,(ga 5 (by omega)).trans d3,(ga 6 (by omega)).trans d4,d5,d6⟩,(ga 7 (by omega)).trans hw.ct,⟨g1,b2.g,hne,hl⟩,(ga 10 (by omega)).trans hw.w,hw.lk.same gl fun e => ?_,hop,hol,hw.oo,by dsimp only;omega,?_,⟨by dsimp only;omega,b2.u.1⟩⟩,fun id hi => ?_,fun e => ?_⟩
 ·have h1:=hw.oo e
  have h3:=hw.nep.2 e
  exact ⟨gr _ (.inl (.inr (.inr (.inr ⟨e,.inl rfl⟩)))) h3.1 (by omega) (by omega),gr _ (.inl (.inr (.inr (.inr ⟨e,.inr (.inl rfl)⟩)))) h3.2.1 (by omega) (by omega),gr _ (.inl (.inr (.inr (.inr ⟨e,.inr (.inr rfl)⟩)))) h3.2.2 (by omega) (by omega)⟩
 ·dsimp only;omega
 ·by_cases hid:id=E
  ·subst hid;exact b2.u
  ·refine hk.us id (hg.us id ?_)
   rcases hi with hi | hi
   ·rcases hi with hi | hi | hi | hi
    ·exact .inl (.inl hi)
    ·exact .inl (.inr (.inl hi))
    ·refine .inl (.inr (.inr (.inl ?_)));dsimp only at hi;omega
    ·exact .inl (.inr (.inr (.inr hi)))
   ·exact .inr hi
 ·have hq:=hg.qn e
  refine (gr n.q (.inr rfl) (fun e2 => ?_) (fun e2 => ?_) (fun e2 => ?_)).trans hq
  ·rw [e2] at hq;rw [show h.get n.p=_ from q1] at hq;cases hq
  ·rw [e2] at hq;rw [hw.ks.ob] at hq;cases hq
  ·rw [e2] at hq;rw [hw.ks.tl] at hq;cases hq
def KsS.erase (k:KsS)(b:Int)(ok:Bool):KsS:=if ok then { k with epochs:=k.epochs.filter fun v => !(decide (v < b)&&decide (v≠k.cur)) } else k
def WS.addS (s:WS):WS:={ s with pw:=s.pw.spend,ks:=s.ks.add s.pw.can }
def WS.eraS (s:WS)(b:Int):WS:={ s with pw:=s.pw.spend,ks:=s.ks.erase b s.pw.can }
theorem ztp {md:Bool}{h:AHeap}{n:WN}{s:WS}(hg:WG md h n s):(h.set n.p (some (.mem 4 [s.pw.spend.row]))).get (n.a+9)=h.get (n.a+9)∧(h.set n.p (some (.mem 4 [s.pw.spend.row]))).get n.E=h.get n.E:=by
 have hop:=hg.w.op
 have hoB:=hg.w.oB
 exact ⟨z1 (by omega) rfl,z1 (by omega) rfl⟩
set_option maxHeartbeats 1000000 in
theorem zn4 {md:Bool}{h:AHeap}{n:WN}{s:WS}{k:Nat}(hg:WG md h n s)(hs:s.Fit k)(hk:k≤90000)(hc:0≤s.ks.cur∧s.ks.cur < 4294967295)(hl:s.ks.epochs.length≤100000) :
  AC Tryz.prog 139 [.ptr (n.a+9) 0 0] h (fun r h'=>r = .bool s.pw.can∧∃ E,(E=n.E∨h.next≤E)∧WG md h' { n with E:=E } s.addS∧Kp (n.own md) h h'):=by
 refine AC.introW zen (by simp) ?_
 unfold z7g;dsimp only [qQ,qR,qM,qG]
 have hw:=hg.w
 have hna:=hw.nx
 have hnB:=hw.nB
 have hoB:=hw.oB
 have hop:=hw.op
 obtain ⟨q1,q2,q3,q4⟩:=hw.ks
 have q1':=q1
 simp only [KsS.obj] at q1'
 have hks:=ztp hg
 have hpw:h.get n.p=some (.mem 4 [s.pw.row]):=hw.sd.pw
 (refine go ?_)
 refine WL.call rfl gM gSL (z1a hpw hs.pw (by omega)) ?_
 cases hcan:s.pw.can with
 | false =>
  (refine go ?_)
  refine WW.ret ⟨.inl rfl,_,gRES,rfl,n.E,.inl rfl,?_,kp_pw n _⟩
  have:=hg.step (hw.putPw s.pw.spend) (kp_pw n _)
  rw [WS.addS,KsS.add,hcan,if_neg (by simp)]
  exact this
 | true =>
  obtain ⟨nx,hnx⟩:∃ nx,h.next=nx:=⟨_,rfl⟩
  have hwr:IntKind.u32.wrap (s.ks.cur+1)=s.ks.cur+1:=z1z (And.intro (by omega) (by omega))
  (repeat first | refine WL.go ?_ | refine WW.seq ?_ | refine WW.reg ?_ | refine WL.nil ?_ | refine WW.skip ?_ | refine WW.block ?_ | refine WW.exit ?_ | refine WW.condT rfl ?_ | refine WW.condF rfl ?_ | refine WL.gox ?_ | refine thenN ?_ | refine blkN ?_)
  refine WW.dregX [9,12] [] [n.E,n.a+9] gN (by decide +kernel) ?_
  (refine go ?_)
  refine DW.callS rfl gM gSL rfl (z1r ⟨hks.1.trans q1,hks.2.trans q2,q3,q4⟩) ?_
  (refine go ?_)
  rw [hwr]
  refine DW.fx0 (FX.appR (nm:=nx) (c2:=[[.int .u32 (s.ks.cur+1)]]) (fun hu=>absurd (show nx < h.next from hu.1) (by omega)) rfl (hks.2.trans q2) (List.length_map _) rfl rfl (by simp) (by simp;omega) gM) rfl rfl (fun hp=>PhiW.put (Nat.le_refl _) (PhiW.setW (by simp) hp)) rfl ?_
  (refine go ?_)
  have hadd:s.ks.add true={ s.ks with epochs:=s.ks.epochs++[s.ks.cur+1] }:=rfl
  have hm2:s.ks.epochs.map encE++[[AV.int .u32 (s.ks.cur+1)]]=(s.ks.epochs++[s.ks.cur+1]).map encE:=by simp [encE]
  rw [hm2]
  refine WW.named (fun h2=>Kp (n.own md) h h2∧BoxAt h2 nx (.mem 1 ((s.ks.epochs++[s.ks.cur+1]).map encE))∧h2.get (n.a+9)=some ((s.ks.add true).obj n.p nx)∧h2.get n.p=some (.mem 4 [s.pw.spend.row])∧∀ id,n.nm md id→id≠n.p→id≠n.a+9→id≠n.E→h2.get id=h.get id) ⟨?_,⟨z2 (x := .tail 0 0),gH⟩,?_,gH,fun id i0 i2 i3 i4=>by have i1:=(hg.us id i0).1;exact gE⟩ ?_
  ·exact ((((Kp.refl.setW (.inl rfl) _).setW (.inr (.inl (by omega))) _).put (by omega) _).setW (.inr (.inl (by omega))) _)
  ·have ho:(s.ks.add true).obj n.p nx = .mem 3 [[.ptr n.p 0 0,.int .u64 s.ks.seed,.ref nx 0 (s.ks.epochs.length+1)]]:=by simp [KsS.obj,hadd]
   rw [ho];exact gH
  rintro h2 ⟨k2,b2,g1,gp,gr⟩
  refine WW.ret ⟨.inl rfl,_,gRES,rfl,nx,.inr (by omega),?_,k2⟩
  have:=hg.reE s.pw.spend (s.ks.add true) (.inr (by omega)) k2 (by rw [hadd];exact b2) g1 gp gr (by rw [hadd];simp) (by rw [hadd];simp;omega)
  rw [WS.addS,hcan]
  exact this
theorem zqk (h:AHeap){a b:Nat}{x y v:Int}(ha:h.get a=some (.mem 1 [[.int .u32 x]]))(hb:h.get b=some (.mem 1 [[.int .u32 y]])):AE Tryz.prog 251 [.int .u32 v,.ptr a 0 0,.ptr b 0 0] h (.bool (decide (v < x)&&decide (v≠y))) h:=by
 refine AE.wf fun hwf => ?_
 have h1:=hwf _ _ ha
 have h2:=hwf _ _ hb
 refine AE.pureW z9u (by simp) ?_
 unfold z4i;dsimp only [qQ,qR,qM,qG]
 (refine go ?_)
 (refine WL.spB rfl (fun hz1 => ?_) (fun hz1 => ?_))
 ·(refine go ?_)
  refine WW.ret (PureQ.finD ?_)
  refine fz_b ?_
  simp only [decide_eq_true hz1,Bool.true_and]
  by_cases e:v=y <;> simp [e]
 ·(refine go ?_)
  refine WW.ret (PureQ.finD ?_)
  exact fz_b (by simp;omega)
theorem zry {k:KsS}(b:Int)(h:k.epochs≠[]):(k.epochs.filter fun v => !(decide (v < b)&&decide (v≠k.cur)))≠[]∧(k.epochs.filter fun v => !(decide (v < b)&&decide (v≠k.cur))).length≤k.epochs.length:=by
 refine ⟨fun e => ?_,List.length_filter_le _ _⟩
 have hm:k.cur∈k.epochs:=by
  rw [KsS.cur,List.getLastD_eq_getLast?,List.getLast?_eq_some_getLast h]
  exact List.getLast_mem h
 have:=List.filter_eq_nil_iff.1 e k.cur hm
 simp at this
set_option maxHeartbeats 1000000 in
theorem zk8 {md:Bool}{h:AHeap}{n:WN}{s:WS}{k:Nat}(hg:WG md h n s)(hs:s.Fit k)(hk:k≤90000)(b:Int) :
  AC Tryz.prog 193 [.ptr (n.a+9) 0 0,.int .u32 b] h (fun r h'=>r = .bool s.pw.can∧∃ E,(E=n.E∨h.next≤E)∧WG md h' { n with E:=E } (s.eraS b)∧Kp (n.own md) h h'):=by
 refine AC.introW zc4 (by simp) ?_
 unfold z5t;dsimp only [qQ,qR,qM,qG]
 have hw:=hg.w
 have hna:=hw.nx
 have hnB:=hw.nB
 have hoB:=hw.oB
 have hop:=hw.op
 obtain ⟨q1,q2,q3,q4⟩:=hw.ks
 have q1':=q1
 simp only [KsS.obj] at q1'
 have hpw:h.get n.p=some (.mem 4 [s.pw.row]):=hw.sd.pw
 obtain ⟨nx,hnx⟩:∃ nx,h.next=nx:=⟨_,rfl⟩
 (refine go ?_)
 refine WL.call rfl gM gSL (z1a ((gE:_=h.get n.p).trans hpw) hs.pw (by omega)) ?_
 cases hcan:s.pw.can with
 | false =>
  (refine go ?_)
  refine WW.ret ⟨.inl rfl,_,gRES,rfl,n.E,.inl rfl,?_,?_⟩
  ·have:=(hg.step (hw.putPw s.pw.spend) (kp_pw n _))
   rw [WS.eraS,KsS.erase,hcan,if_neg (by simp)]
   have h3:WG md (h.set n.p (some (.mem 4 [s.pw.spend.row]))) n { s with pw:=s.pw.spend }:=this
   refine WG.kp (W:=fun id=>h.next≤id) h3 ⟨?_,fun id hu => ?_,fun id hu hw2 => ?_⟩ fun id hi e=>by have:=(hg.us id hi).1;omega
   ·exact z33 (z32 (x := .tail 0 0) (Nat.le_refl _))
   ·exact zw (x := .tail 0 0) hu
   ·have:id < h.next:=hu.1
    simp only [zc,zn]
    split
    ·rfl
    ·rw [if_neg (by omega)]
  ·exact (Kp.refl.put (by omega) _).setW (.inl rfl) _
 | true =>
  have hne:=zry b q3
  (refine go ?_)
  refine WL.call rfl gM gSL (z1r (hw.ks.same gE gE)) ?_
  (refine go ?_)
  refine WL.named (fun h3=>Kp (n.own md) h h3∧BoxAt h3 nx (.mem 1 [[.int .u32 b]])∧BoxAt h3 (nx+1) (.mem 1 [[.int .u32 s.ks.cur]])∧h3.get n.p=some (.mem 4 [s.pw.spend.row])∧(∀ id,id < h.next→id≠n.p→h3.get id=h.get id)∧nx+2≤h3.next) ⟨?_,⟨?_,gH⟩,⟨?_,gH⟩,gH,fun id i1 i2=>gE,?_⟩ ?_
  ·repeat first | exact Kp.refl | refine Kp.put ?_ (by omega) _ | refine Kp.setN ?_ (by omega) _ | refine Kp.setW ?_ (.inl rfl) _
  ·rw [← hnx];exact zw (x := .tail 0 0) (z2 (x := .tail 0 0))
  ·rw [← hnx];exact z2 (x := .tail 0 0)
  ·rw [← hnx];exact (leN gN (by omega))
  rintro h3 ⟨k3,bx,by',gp3,gr3,hx3⟩
  have gE:h3.get n.E=some (.mem 1 (s.ks.epochs.map encE)):=(gr3 _ (by omega) (by omega)).trans q2
  have gk:h3.get (n.a+9)=some (.mem 3 [[.ptr n.p 0 0,.int .u64 s.ks.seed,.ref n.E 0 s.ks.epochs.length]]):=(gr3 _ (by omega) (by omega)).trans q1'
  (refine go ?_)
  refine WL.callA rfl gM gSL (z92 gE q4 ⟨by kernel_rfl⟩ (p:=fun v=>decide (v < b)&&decide (v≠s.ks.cur)) (fun h2 hk2 v _=>zqk h2 ((hk2.2 nx bx.u (by simp;omega)).trans bx.g) ((hk2.2 (nx+1) by'.u (by simp;omega)).trans by'.g))) ?_
  rintro _ h4 ⟨E',rfl,hE',b4,k4⟩
  have gk4:=(k4.get (n.a+9) (k3.us _ (hg.us _ (.inl (.inr (.inr (.inl (by omega))))))) (by omega)).trans gk
  have hx4:=k4.next
  (refine go ?_)
  have hera:s.ks.erase b true={ s.ks with epochs:=s.ks.epochs.filter fun v => !(decide (v < b)&&decide (v≠s.ks.cur)) }:=rfl
  refine WW.named (fun h5=>Kp (n.own md) h h5∧BoxAt h5 E' (.mem 1 ((s.ks.epochs.filter fun v => !(decide (v < b)&&decide (v≠s.ks.cur))).map encE))∧h5.get (n.a+9)=some ((s.ks.erase b true).obj n.p E')∧h5.get n.p=some (.mem 4 [s.pw.spend.row])∧∀ id,n.nm md id→id≠n.p→id≠n.a+9→id≠n.E→h5.get id=h.get id) ⟨?_,⟨b4.u,?_⟩,?_,?_,fun id i1 i2 i3 i4 => ?_⟩ ?_
  ·exact (k3.trans (k4.mono fun id _ e=>by rw [e];exact .inr (.inl (by omega)))).setW (.inr (.inl (by omega))) _
  ·have:=b4.g;exact gH
  ·have ho:(s.ks.erase b true).obj n.p E' = .mem 3 [[.ptr n.p 0 0,.int .u64 s.ks.seed,.ref E' 0 (s.ks.epochs.filter fun v => !(decide (v < b)&&decide (v≠s.ks.cur))).length]]:=by simp [KsS.obj,hera]
   rw [ho];exact gH
  ·have:=(k4.get n.p (k3.us _ (hg.us _ (.inl (.inl rfl)))) (by omega)).trans gp3
   exact gH
  ·have i5:=hg.us id i1
   exact z1 i3 ((k4.get id (k3.us id i5) i4).trans (gr3 id i5.1 i2))
  rintro h5 ⟨k5,b5,g1,gp5,gr⟩
  refine WW.ret ⟨.inl rfl,_,gRES,rfl,E',?_,?_,k5⟩
  ·omega
  have:=hg.reE s.pw.spend (s.ks.erase b true) ?_ k5 (by rw [hera];exact b5) g1 gp5 gr (by rw [hera];exact hne.1) (by rw [hera];have:=hne.2;dsimp only;omega)
  ·rw [WS.eraS,hcan]
   exact this
  ·omega
end Go.Proofs.YthblcmnhiccnhaaGreat


namespace Go.Abs
theorem WW.joinR {P:Program}{N:Nat}{c:CC}{e:Env}{h:AHeap}{K:Env→AHeap→Prop}{Q:Exit→Env→AHeap→Prop}(M:Env→AHeap→Prop)(h1:WW P N c (fun x e h=>(x = .normal∧M e h)∨(x≠.normal∧Q x e h)) e h)(h2:∀ e h,M e h→K e h):WW P N c (thenQ K Q) e h :=
 h1.mono fun ex e h hq=>by
  rcases hq with ⟨rfl,hm⟩ | ⟨hx,hq⟩
  ·exact h2 e h hm
  ·cases ex <;> first | exact absurd rfl hx | exact hq
end Go.Abs
namespace Go.Proofs.YthblcmnhiccnhaaGreat
open Go Go.Abs

structure CaT (md:Bool)(h:AHeap)(n:CaN)(h':AHeap)(n':CaN)(x':CaS):Prop where
 g:CaG md h' n' x'
 w:CaW h' n' x'
 mv:CaMv md h n n'
 ow:∀ id,n'.w.own md id→n.w.own md id∨h.next≤id
 kp:Kp (fun id=>n.w.own md id∨n.own id) h h'
def CaTR (md:Bool)(h:AHeap)(n:CaN)(e:Int)(x':CaS)(r:AV)(h':AHeap):Prop:=r = .int .i64 e∧∃ n',CaT md h n h' n' x'
section
variable {md:Bool}{h h1 h2 h3:AHeap}{n n1 n2 n3:CaN}{x x1 x2 x3:CaS}
theorem CaT.refl (hg:CaG md h n x)(hw:CaW h n x):CaT md h n h n x:=⟨hg,hw,.refl,fun _ => .inl,Kp.refl⟩
theorem CaT.new (t:CaT md h n h1 n1 x1)(hk:Kp (fun _=>False) h1 h2):CaT md h n h2 n1 x1 :=
 ⟨t.g.new hk,t.w.kp t.g hk (fun h=>h),t.mv,t.ow,t.kp.trans (hk.mono fun _ _ h=>h.elim)⟩
theorem CaT.trans (t:CaT md h n h1 n1 x1)(u:CaT md h1 n1 h2 n2 x2):CaT md h n h2 n2 x2:=by
 have hx:=t.kp.next
 refine ⟨u.g,u.w,⟨fun id hi => ?_,fun id hi => ?_,u.mv.c.trans t.mv.c,u.mv.a.trans t.mv.a⟩,fun id hi => ?_,t.kp.trans2 u.kp fun id hi => ?_⟩
 ·exact (u.mv.o id hi).elim (t.mv.o id) fun q => .inr (by omega)
 ·exact (u.mv.w id hi).elim (t.mv.w id) fun q => .inr (by omega)
 ·exact (u.ow id hi).elim (t.ow id) fun q => .inr (by omega)
 ·rcases hi with hi | hi
  ·exact (t.ow id hi).imp .inl fun q=>q
  ·exact (t.mv.o id hi).imp .inr fun q=>q
theorem CaT.of (hk:Kp (fun _=>False) h h1)(t:CaT md h1 n h2 n2 x2):CaT md h n h2 n2 x2 :=
 ⟨t.g,t.w,t.mv.le hk.next,fun id hi=>(t.ow id hi).imp (fun q=>q) (Nat.le_trans hk.next),(hk.mono fun _ _ h=>h.elim).trans t.kp⟩
theorem CaT.keep (t:CaT md h n h1 n1 x1){id:Nat}{X:AObj}(hb:BoxAt h id X)(q1:¬ n.w.nm md id)(q2:¬ n.own id):BoxAt h1 id X :=
 hb.kp t.kp fun hh=>hh.elim (fun q=>q1 (.inl (WN.own_all q))) q2
theorem zus {E id:Nat}(hi:({ n with sE:=E }:CaN).own id):n.own id∨id=E:=by
 rcases hi with hi | hi | hi | hi | hi | hi
 ·exact .inl (.inl hi)
 ·exact .inl (.inr (.inl hi))
 ·exact .inl (.inr (.inr (.inl hi)))
 ·exact .inl (.inr (.inr (.inr (.inl hi))))
 ·exact .inl (.inr (.inr (.inr (.inr (.inl hi)))))
 ·exact .inr hi
theorem CaT.sE {E:Nat}(hE:E=n.sE∨h.next≤E)(g:CaG md h1 { n with sE:=E } x1)(w:CaW h1 { n with sE:=E } x1)(k:Kp n.own h h1):CaT md h n h1 { n with sE:=E } x1:=by
 refine ⟨g,w,⟨fun id hi => ?_,fun id hi => .inl hi,rfl,rfl⟩,fun id hi => .inl hi,k.mono fun _ _ q => .inr q⟩
 rcases zus hi with hi | rfl
 ·exact .inl hi
 ·rcases hE with hE | hE
  ·exact .inl (hE ▸ .inr (.inr (.inr (.inr (.inr rfl)))))
  ·exact .inr hE
theorem CaT.wN {n':WN}{s':WS}(hg:CaG md h n x)(hw:CaW h n x)(g:WG md h1 n' s')(ha:n'.a=n.w.a)(hnm:∀ id,n'.nm md id→n.w.nm md id∨h.next≤id)(how:∀ id,n'.own md id→n.w.own md id∨h.next≤id)(k:Kp (n.w.own md) h h1):CaT md h n h1 { n with w:=n' } { x with s:=s' }:=by
 have hno:∀ id,n.own id→¬ n.w.own md id:=fun id hi q=>hg.nm id hi (.inl (WN.own_all q))
 have hw':=hw.kp hg k (hno _ (.inl rfl))
 obtain ⟨g1,g2,⟨v,g3,g4⟩,g5,g6,g8,g7⟩:=hg
 have g4':=g4.kp k (hno _ (.inl rfl))
 have hwg:=hw'.g
 rw [← ha] at g4' hwg
 refine ⟨⟨g,g2.kp k (hno _ (.inr (.inl rfl))),⟨v,g3.kp k (hno _ (.inr (.inr (.inr (.inr (.inl rfl)))))),g4'⟩,g5.kp k (hno _ (.inr (.inr (.inl rfl)))) (hno _ (.inr (.inr (.inr (.inl rfl))))) (hno _ (.inr (.inr (.inr (.inr (.inr rfl)))))),fun id hi q => ?_,fun id hi=>Nat.lt_of_lt_of_le (g8 id hi) k.next,g7⟩,⟨hwg,hw'.ne⟩,⟨fun id hi => .inl hi,hnm,rfl,ha⟩,how,k.mono fun _ _ q => .inl q⟩
 rcases hnm id q with q | q
 ·exact g6 id hi q
 ·have:=g8 id hi;omega
theorem CaT.wE {E:Nat}{s':WS}(hg:CaG md h n x)(hw:CaW h n x)(hE:E=n.w.E∨h.next≤E)(g:WG md h1 { n.w with E:=E } s')(k:Kp (n.w.own md) h h1):CaT md h n h1 { n with w:={ n.w with E:=E } } { x with s:=s' }:=by
 refine CaT.wN hg hw g rfl (fun id hi => ?_) (fun id hi => ?_) k
 ·rcases hi with hi | hi
  ·rcases hi with hi | hi | hi | hi
   ·exact .inl (.inl (.inl hi))
   ·exact .inl (.inl (.inr (.inl hi)))
   ·dsimp only at hi
    by_cases e:id=E
    ·rcases hE with hE | hE
     ·exact .inl (.inl (.inr (.inr (.inl (by omega)))))
     ·exact .inr (by omega)
    ·exact .inl (.inl (.inr (.inr (.inl (by omega)))))
   ·exact .inl (.inl (.inr (.inr (.inr hi))))
  ·exact .inl (.inr hi)
 ·rcases hi with hi | hi | hi
  ·exact .inl (.inl hi)
  ·dsimp only at hi
   by_cases e:id=E
   ·rcases hE with hE | hE
    ·exact .inl (.inr (.inl (by omega)))
    ·exact .inr (by omega)
   ·exact .inl (.inr (.inl (by omega)))
  ·exact .inl (.inr (.inr hi))
theorem CaT.ws {s':WS}(hg:CaG md h n x)(hw:CaW h n x)(g:WG md h1 n.w s')(k:Kp (n.w.own md) h h1):CaT md h n h1 n { x with s:=s' }:=CaT.wE hg hw (.inl rfl) g k
end
set_option maxHeartbeats 4000000 in
theorem zet {md:Bool}{h:AHeap}{n:CaN}{x:CaS}{k:Nat}(hg:CaG md h n x)(hw:CaW h n x)(hx:CaOk md x k)(hk:k≤80000) :
  AC Tryz.prog 138 [.ptr n.c 0 0] h (fun r h'=>r = .int .i64 (x.comE md)∧CaT md h n h' n (x.com md)):=by
 have hgg:=z8 hx.st.fit.g
 have hll:=hx.l
 have hnm:=hg.nm
 refine AC.introW z89 (by simp) ?_
 unfold z3v;dsimp only [qQ,qR,qM,qG]
 have hc:=hw.g
 have hrow:=hw.row hg
 (repeat first | refine WL.go ?_ | refine WW.seq ?_ | refine WW.reg ?_ | refine WL.nil ?_ | refine WW.skip ?_ | refine WW.block ?_ | refine WW.exit ?_ | refine WW.condT rfl ?_ | refine WW.condF rfl ?_ | refine WL.gox ?_ | refine thenN ?_ | refine blkN ?_)
 refine WW.dregC 12 (by decide +kernel) ?_
 (repeat first | refine PW.go ?_ | refine PW.nil ?_)
 refine RunL.call rfl gM gSL (zm0 hg.w hx.st hk hg.mr hx.b hx.j (hg.nm _ (.inr (.inl rfl))) x.now (E:=n.nE) (.inr ⟨rfl,hrow⟩) hx.l hx.w hx.ok) ?_
 rintro _ h1 ⟨rfl,g1,b1,k1⟩
 obtain ⟨d1,d2,d3,d4,d5,d6,d7,d8,d9⟩:=id hg.dj
 have hno:∀ id,n.own id→id≠n.k→¬ (n.w.own md id∨id=n.k):=fun id hi hk hh=>by
  rcases hh with hh | hh
  ·exact hnm id hi (.inl (WN.own_all hh))
  ·exact hk hh
 have hsk:n.sE≠n.k:=by rcases d8 with h | h <;> omega
 have hek:n.nE≠n.k:=by rcases d7 with h | h <;> omega
 have hea:n.nE≠n.a∧n.nE≠n.q:=(d7.resolve_left hw.ne).2
 have hsc:n.sE≠n.c:=by rcases d8 with h | h <;> omega
 have c1:BoxAt h1 n.c (.mem 6 [[.ptr (n.w.a+10) 0 0,.ptr n.k 0 0,.ref n.nE 0 x.now.length,.imm 8 (x.was.map encL),.ptr n.a 0 0,.bool x.bad]]):=BoxAt.kp ⟨by obtain ⟨v,_,q⟩:=hg.c;exact q.u,hw.g⟩ k1 (hno _ (.inl rfl) d1)
 have e1:=hrow.kp k1 (hno _ (.inr (.inr (.inr (.inr (.inl rfl))))) hek)
 have a1:=hg.ag.kp k1 (hno _ (.inr (.inr (.inl rfl))) (fun e=>d4 e.symm)) (hno _ (.inr (.inr (.inr (.inl rfl)))) (fun e=>d5 e.symm)) (hno _ (.inr (.inr (.inr (.inr (.inr rfl))))) hsk)
 have k2:Kp (fun id=>n.w.own md id∨n.own id) h h1:=k1.mono fun id _ hh=>hh.elim .inl fun e => .inr (.inr (.inl e))
 have hc1:=c1.g
 have e1g:=e1.g
 have hl1:∀ id,n.own id→id < h1.next:=fun id hi=>Nat.lt_of_lt_of_le (hg.lt id hi) k1.next
 clear k1 hc
 (repeat first | refine RunL.go ?_ | refine RunL.endL ?_ | refine thenN ?_ | refine blkN ?_)
 cases hz:decide ((x.s.doC md x.boot x.j x.now).1=0) with
 | true =>
  have h0:x.comE md=0:=of_decide_eq_true hz
  rw [show (x.s.doC md x.boot x.j x.now).1=0 from h0]
  (refine go ?_)
  refine WL.call rfl gM gSL (z5u e1g (by omega)) ?_
  (refine go ?_)
  have kp:Kp (fun id=>id=n.c) h1 (h1.set n.c (some (.mem 6 [[.ptr (n.w.a+10) 0 0,.ptr n.k 0 0,.ref n.nE 0 x.now.length,.imm 8 (x.now.map encL),.ptr n.a 0 0,.bool x.bad]]))):=Kp.cvt rfl rfl fun id hi=>z1 hi rfl
  have ew:(x.com md).was=x.now:=by simp only [CaS.com,h0,if_true]
  refine WW.ret ⟨.inl rfl,_,gRES,by rw [h0];rfl,⟨g1.kp kp fun id hi e=>hnm n.c (.inl rfl) (e ▸ hi),b1.kp kp (fun e=>d1 e.symm),⟨_,.inr ⟨rfl,e1.kp kp hw.ne⟩,kp.us _ c1.u,?_⟩,a1.kp kp (fun e=>d2 e.symm) (fun e=>d3 e.symm) hsc,hnm,fun id hi=>Nat.lt_of_lt_of_le (hl1 id hi) kp.next,hg.dj⟩,⟨?_,hw.ne⟩,.refl,fun _ => .inl,k2.trans (kp.mono fun id _ e => .inr (.inl e))⟩
  all_goals
   rw [ew]
   exact za
 | false =>
  have h0:¬ x.comE md=0:=of_decide_eq_false hz
  have h0':¬ (x.s.doC md x.boot x.j x.now).1=0:=h0
  (refine go ?_)
  (refine WW.ifB rfl (fun hz1 => ?_) (fun hz1 => ?_))
  ·exact absurd hz1 h0'
  (refine go ?_)
  have ew:(x.com md).was=x.was:=by simp only [CaS.com,h0,if_false]
  refine WW.ret ⟨.inl rfl,_,gRES,rfl,⟨g1,b1,⟨_,.inr ⟨rfl,e1⟩,?_⟩,a1,hnm,hl1,hg.dj⟩,⟨?_,hw.ne⟩,.refl,fun _ => .inl,k2⟩
  ·rw [ew]
   exact c1
  ·rw [ew]
   exact hc1
end Go.Proofs.YthblcmnhiccnhaaGreat


namespace Go.Proofs.YthblcmnhiccnhaaGreat
open Go Go.Abs

theorem CaOk.com {md:Bool}{x:CaS}{k:Nat}(hx:CaOk md x k):CaOk md (x.com md) (k+50) :=
 ⟨zth hx.st hx.l,hx.b,(doC_j hx.j).1,hx.l.trans doC_n.1.symm,hx.w,hx.ok⟩
structure KsOk (ks:KsS)(k:Nat):Prop where
 ne:ks.epochs≠[]
 so:ks.epochs.Pairwise (· < ·)
 lo:∀ v∈ks.epochs,0 < v
 hi:ks.cur≤(k+1:Nat)
 ln:ks.epochs.length≤k+1
section
variable {ks:KsS}{k k':Nat}
theorem KsOk.mono (h:KsOk ks k)(hk:k≤k'):KsOk ks k':=⟨h.ne,h.so,h.lo,by have:=h.hi;omega,by have:=h.ln;omega⟩
theorem KsOk.split (h:KsOk ks k):∃ l,ks.epochs=l++[ks.cur]∧∀ v∈l,v < ks.cur:=by
 have e:ks.cur=ks.epochs.getLast h.ne:=by rw [KsS.cur,List.getLastD_eq_getLast?,List.getLast?_eq_some_getLast h.ne];rfl
 refine ⟨ks.epochs.dropLast,by rw [e];exact (List.dropLast_concat_getLast h.ne).symm,fun v hv => ?_⟩
 have hs:=h.so
 rw [← List.dropLast_concat_getLast h.ne] at hs
 rw [e]
 exact (List.pairwise_append.1 hs).2.2 v hv _ (by simp)
theorem KsOk.mem (h:KsOk ks k):ks.cur∈ks.epochs:=by
 obtain ⟨l,e,_⟩:=h.split
 have:ks.cur∈l++[ks.cur]:=by simp
 exact e ▸ this
theorem KsOk.pos (h:KsOk ks k):0 < ks.cur:=h.lo _ h.mem
theorem KsOk.le (h:KsOk ks k){v:Int}(hv:v∈ks.epochs):v≤ks.cur:=by
 obtain ⟨l,e,hl⟩:=h.split
 rw [e] at hv
 rcases List.mem_append.1 hv with hv | hv
 ·have:=hl v hv;omega
 ·simp at hv;omega
theorem ztq:(ks.add true).cur=ks.cur+1:=by simp [KsS.add,KsS.cur]
theorem KsOk.add (h:KsOk ks k)(ok:Bool):KsOk (ks.add ok) (k+1):=by
 cases ok with
 | false => exact h.mono (by omega)
 | true =>
  have hh:=h.hi
  have hl:=h.ln
  have hp:=h.pos
  have ee:(ks.add true).epochs=ks.epochs++[ks.cur+1]:=rfl
  refine ⟨by rw [ee];simp,?_,?_,by rw [ztq];omega,by rw [ee];simp;omega⟩
  ·rw [ee,List.pairwise_append]
   exact ⟨h.so,by simp,fun a ha b hb=>by have:=h.le ha;simp at hb;omega⟩
  ·rw [ee]
   intro v hv
   rcases List.mem_append.1 hv with hv | hv
   ·exact h.lo v hv
   ·simp at hv;omega
theorem z93 (h:KsOk ks k):(ks.erase ks.cur true).epochs=[ks.cur]:=by
 obtain ⟨l,e,hl⟩:=h.split
 show ks.epochs.filter _=_
 rw [e,List.filter_append]
 have h1:l.filter (fun v => !(decide (v < ks.cur)&&decide (v≠ks.cur)))=[]:=by
  rw [List.filter_eq_nil_iff]
  intro a ha
  have:=hl a ha
  simp;omega
 rw [h1]
 simp
theorem ztr (h:KsOk ks k)(ok:Bool):(ks.erase ks.cur ok).cur=ks.cur:=by
 cases ok with
 | false => rfl
 | true => rw [KsS.cur, z93 h]; rfl
theorem KsOk.era (h:KsOk ks k)(ok:Bool):KsOk (ks.erase ks.cur ok) (k+1):=by
 cases ok with
 | false => exact h.mono (by omega)
 | true =>
  have hh:=h.hi
  refine ⟨by rw [z93 h];simp,by rw [z93 h];simp,by rw [z93 h];simp;exact h.pos,by rw [ztr h];omega,by rw [z93 h];simp⟩
theorem WSt.ksw {md:Bool}{s:WS}{k:Nat}(h:WSt md s k)(hk:KsOk s.ks k)(hkk:k≤1000000){ks':KsS}(h':KsOk ks' (k+1)):WSt md { s with pw:=s.pw.spend,ks:=ks' } (k+1) :=
 ⟨⟨h.fit.g,h.fit.pw.spend,h.fit.sd.mono (by omega),Nat.le_succ_of_le h.fit.ss,Nat.le_succ_of_le h.fit.ll⟩,⟨h'.mem,by have:=h'.pos;show 0≤ks'.cur;omega,by have:=h'.hi;show ks'.cur < _;omega⟩,h.seq,h.dat,h.ct.mono (by omega)⟩
end
structure CaI (md:Bool)(x:CaS)(k:Nat):Prop where
 ok:CaOk md x k
 dk:DkOk x.s.dk k
 ag:AgOk x.ag k
 an:∀ i∈x.ag.arr,i < x.now.length
 wl:x.was.length=x.now.length
 ks:KsOk x.s.ks k
section
variable {md:Bool}{x y:CaS}{k k':Nat}
theorem CaOk.mono (h:CaOk md x k)(hk:k≤k'):CaOk md x k':={ h with st:=h.st.mono hk }
theorem CaI.mono (h:CaI md x k)(hk:k≤k'):CaI md x k':=⟨h.ok.mono hk,h.dk.mono hk,h.ag.mono hk,h.an,h.wl,h.ks.mono hk⟩
theorem CaI.n16 (h:CaI md x k):4≤x.now.length∧x.now.length≤16:=by
 have h1:=z8 h.ok.st.fit.g;have h2:=h.ok.l;omega
theorem CaI.lv (h:CaI md x k):LvOk x:=h.ok.lv
theorem CaI.ws (h:CaI md x k){s':WS}(hs:WSt md s' k')(hd:DkOk s'.dk k')(hn:s'.n=x.s.n)(hks:s'.ks=x.s.ks)(hk:k≤k'):CaI md { x with s:=s' } k' :=
 ⟨⟨hs,h.ok.b,h.ok.j,by rw [h.ok.l,← hn],h.ok.w,h.ok.ok⟩,hd,h.ag.mono hk,h.an,h.wl,by dsimp only;rw [hks];exact h.ks.mono hk⟩
theorem zp7 {i:Nat}:(x.spillX md i).s.n=x.s.n∧(x.spillX md i).s.ks=x.s.ks:=by
 rw [CaS.spillX];split
 ·exact ⟨rfl,rfl⟩
 ·rw [CaS.valX];split <;> exact ⟨rfl,rfl⟩
theorem CaI.spillX (h:CaI md x k)(i:Nat):CaI md (x.spillX md i) (k+1):=by
 obtain ⟨e1,e2,e3,e4,e5⟩:=z2d (md:=md) (x:=x) (i:=i)
 obtain ⟨e6,e7⟩:=zp7 (md:=md) (x:=x) (i:=i)
 exact ⟨⟨zp6 h.ok.st,by rw [e3];exact h.ok.b,by rw [e4];exact h.ok.j,by rw [e1,e6];exact h.ok.l,by rw [e1];exact h.ok.w,by rw [e1];exact h.ok.ok⟩,zqj h.dk,by rw [e5];exact h.ag.mono (by omega),by rw [e5,e1];exact h.an,by rw [e2,e1];exact h.wl,by rw [e7];exact h.ks.mono (by omega)⟩
theorem zj4 {i:Nat}:(x.valX md i).s=x.s∧(x.valX md i).now=x.now∧(x.valX md i).was=x.was∧(x.valX md i).boot=x.boot∧(x.valX md i).j=x.j∧(x.valX md i).ag=x.ag:=by
 rw [CaS.valX];split <;> exact ⟨rfl,rfl,rfl,rfl,rfl,rfl⟩
theorem CaI.bad (h:CaI md x k)(b:Bool):CaI md { x with bad:=b } k:=⟨⟨h.ok.st,h.ok.b,h.ok.j,h.ok.l,h.ok.w,h.ok.ok⟩,h.dk,h.ag,h.an,h.wl,h.ks⟩
theorem CaI.valX (h:CaI md x k)(i:Nat):CaI md (x.valX md i) k:=by
 rw [CaS.valX];split
 ·exact h.bad true
 ·exact h
def CaS.out (x:CaS):CaS:={ x with s:=x.s.dbarS }
theorem WSt.dbar {s:WS}(h:WSt md s k):WSt md s.dbarS (k+1):=⟨⟨h.fit.g,h.fit.pw.spend,h.fit.sd.mono (by omega),Nat.le_succ_of_le h.fit.ss,Nat.le_succ_of_le h.fit.ll⟩,h.cur,h.seq,h.dat,h.ct.mono (by omega)⟩
theorem CaI.out (h:CaI md x k):CaI md x.out (k+1):=h.ws h.ok.st.dbar (h.dk.barrier _) rfl rfl (by omega)
theorem zm6 {s:AgS}{i:Nat}:∀ y∈(s.drop i).arr,y∈s.arr:=fun y hy=>by
 rw [AgS.drop] at hy
 split at hy
 ·rename_i hx
  exact (z7m (last:=s.last) (of_decide_eq_true hx)).2 y (List.mem_of_mem_take hy)
 ·exact hy
theorem CaI.drops (h:CaI md x k){i:Nat}(hi:i < x.now.length):CaI md (x.drops i) k:=by
 have hn:=h.n16
 refine ⟨⟨h.ok.st,h.ok.b,h.ok.j,by show ((x.now.set i lf0).length:Int)=x.s.n;rw [List.length_set];exact h.ok.l,fun y hy => ?_,zes _ _ 0 h.ok.ok (by rw [Nat.zero_add];exact zo0 _ (by omega))⟩,h.dk,h.ag.drop _,fun y hy=>by rw [show (x.drops i).now.length=x.now.length from List.length_set ..];exact h.an y (zm6 y hy),by rw [show (x.drops i).now.length=x.now.length from List.length_set ..];exact h.wl,h.ks⟩
 rcases List.mem_or_eq_of_mem_set hy with hy | rfl
 ·exact h.ok.w y hy
 ·exact wf0 _ (List.mem_replicate.2 ⟨by decide,rfl⟩)
theorem zrz {s:WS}{boot:Int}{j:Nat}{lv:List Lf}(h:DkOk s.dk k):DkOk (s.doC md boot j lv).2.1.dk (k+50):=by
 rw [zuq];exact h.mono (by omega)
theorem CaI.com (h:CaI md x k):CaI md (x.com md) (k+50):=by
 obtain ⟨q1,q2⟩:=doC_n (md:=md) (s:=x.s) (boot:=x.boot) (j:=x.j) (lv:=x.now)
 refine ⟨h.ok.com,zrz h.dk,h.ag.mono (by omega),h.an,?_,?_⟩
 ·show (if x.comE md=0 then x.now else x.was).length=x.now.length
  split
  ·rfl
  ·exact h.wl
 ·show KsOk (x.s.doC md x.boot x.j x.now).2.1.ks _
  rw [q2];exact h.ks.mono (by omega)
end
section
variable {md:Bool}{h:AHeap}{n:CaN}{x:CaS}{k:Nat}
theorem z1k (hg:CaG md h n x)(hw:CaW h n x)(hi:CaI md x k)(hk:k≤80000):AC Tryz.prog 138 [.ptr n.c 0 0] h (CaTR md h n (x.comE md) (x.com md)) :=
 (zet hg hw hi.ok hk).mono fun r h' ⟨h1,h2⟩=>⟨h1,n,h2⟩
theorem z7o (hg:CaG md h n x)(hw:CaW h n x)(hx:CaI md x k)(hk:k≤80000){i:Nat}(hi:i < x.now.length) :
  AC Tryz.prog 192 [.ptr n.c 0 0,.int .i64 i] h (fun r h'=>r = .int .i64 (x.spillE md i)∧CaT md h n h' n (x.spillX md i)) :=
 (zhw hg hx.ok.st hk hx.dk (by omega) i hi hx.ok.l (hx.lv.e i) (hx.lv.lba i) (zrx hx.ok.st i)).mono fun r h' ⟨h1,h2,h3,h4⟩ =>
  ⟨h1,h2,h3 hw,.refl,fun _ => .inl,h4.mono fun _ _ e=>e.imp (fun q=>q) fun e => .inl e⟩
theorem zgo (hg:CaG md h n x)(hw:CaW h n x)(hx:CaI md x k)(hk:k≤80000){i:Nat}(hi:i < x.now.length) :
  AC Tryz.prog 192 [.ptr n.c 0 0,.int .i64 i] h (CaTR md h n (x.spillE md i) (x.spillX md i)) :=
 (z7o hg hw hx hk hi).mono fun r h' ⟨h1,h2⟩=>⟨h1,n,h2⟩
theorem zgp (hg:CaG md h n x)(hw:CaW h n x)(hx:CaI md x k)(hk:k≤80000){i:Nat}(hi:i < x.now.length) :
  AC Tryz.prog 203 [.ptr n.c 0 0,.int .i64 i] h (fun r h'=>r = .tup []∧∃ n',CaT md h n h' n' (x.drops i)) :=
 (z91 hg hw hx.ag (by omega) hi hx.n16.2).mono fun r h' ⟨h1,E,hE,g,w,kp⟩=>⟨h1,_,CaT.sE hE g w kp⟩
theorem zo1 (hg:CaG md h n x)(hx:CaI md x k)(hk:k≤80000):AE Tryz.prog 36 [.ptr (n.w.a+4) 0 0] h (.bool x.s.pw.can) (dkPut n.w.dkN x.s.pw.spend (x.s.dk.barrier x.s.pw.can) h) :=
 zgm hg.w.w.dk hx.ok.st.fit.pw (by omega) (Nat.le_trans hx.dk.w (by omega)) (Nat.le_trans hx.dk.t (by omega)) fun o ho=>(hx.dk.wv o ho).1
theorem zql (hg:CaG md h n x)(hw:CaW h n x)(hx:CaI md x k):CaT md h n (dkPut n.w.dkN x.s.pw.spend (x.s.dk.barrier x.s.pw.can) h) n x.out:=by
 have hkw:Kp (n.w.own md) h (dkPut n.w.dkN x.s.pw.spend (x.s.dk.barrier x.s.pw.can) h):=kp_dk n.w _ _
 exact CaT.ws hg hw (hg.w.step (hg.w.w.putDk _ _ (hx.dk.barrier x.s.pw.can).ll) hkw) hkw
end
def CaS.ev2 (md:Bool)(x:CaS)(i:Nat):Int×CaS:=((x.drops i).comE md,(x.drops i).com md)
def CaS.ev1 (md:Bool)(x:CaS)(i:Nat):Int×CaS :=
 if (x.lf i).d=false then x.ev2 md i
 else if x.spillE md i≠0 then (x.spillE md i,x.spillX md i)
 else if (x.spillX md i).s.pw.can=false then (7,(x.spillX md i).out)
 else (x.spillX md i).out.ev2 md i
def CaS.evict (md:Bool)(x:CaS):Int×CaS:=x.ev1 md (x.ag.arr.headD 0)
section
variable {md:Bool}{h:AHeap}{n:CaN}{x:CaS}{k:Nat}
theorem CaI.ev2 (hx:CaI md x k){i:Nat}(hi:i < x.now.length):CaI md (x.ev2 md i).2 (k+50):=(hx.drops hi).com
theorem CaI.head (hx:CaI md x k):x.ag.arr.headD 0 < x.now.length:=by
 have hn:=hx.n16
 cases he:x.ag.arr with
 | nil => show 0 < _; omega
 | cons y r => exact hx.an y (by rw [he]; simp)
theorem CaI.evict (hx:CaI md x k):CaI md (x.evict md).2 (k+52):=by
 have hi:=hx.head
 rw [CaS.evict]
 generalize x.ag.arr.headD 0=i at *
 have hs:=hx.spillX i
 have hs1:(x.spillX md i).now.length=x.now.length:=by rw [z2d.1]
 rw [CaS.ev1]
 split
 ·exact (hx.ev2 hi).mono (by omega)
 ·split
  ·exact hs.mono (by omega)
  ·split
   ·exact hs.out.mono (by omega)
   ·exact hs.out.ev2 (by show i < (x.spillX md i).now.length;omega)
set_option maxHeartbeats 4000000 in
theorem zhx (hg:CaG md h n x)(hw:CaW h n x)(hx:CaI md x k)(hk:k≤70000):AC Tryz.prog 204 [.ptr n.c 0 0] h (CaTR md h n (x.evict md).1 (x.evict md).2):=by
 have hi:=hx.head
 have hlf:x.now[x.ag.arr.headD 0]=x.lf (x.ag.arr.headD 0):=by simp only [CaS.lf,List.getD_eq_getElem?_getD,List.getElem?_eq_getElem hi,Option.getD_some]
 refine AC.introW z9h (by simp) ?_
 unfold z4c;dsimp only [qQ,qR,qM,qG]
 have hc:=hw.g
 have hrow:=hw.row hg
 have hEg:=hrow.g
 have hev:x.evict md=x.ev1 md (x.ag.arr.headD 0):=rfl
 (refine go ?_)
 refine WL.call rfl gM gSL (zk6 hg.ag hx.ag (by omega)) ?_
 generalize x.evict md=R at *
 generalize x.ag.arr.headD 0=i at *
 (refine go ?_)
 simp only [Nat.zero_add]
 rw [hlf]
 refine WW.joinR (fun e2 h2=>subE [(0,some (.ptr n.c 0 0)),(3,some (.int .i64 i))] e2∧∃ y n2 k2,CaT md h n h2 n2 y∧CaI md y k2∧k2≤80000∧i < y.now.length∧R=y.ev2 md i) ?_ ?_
 ·cases hd:(x.lf i).d with
  | false =>
   (refine go ?_)
   exact .inl ⟨rfl,gSUB,x,n,k,CaT.refl hg hw,hx,by omega,hi,by rw [hev,CaS.ev1,if_pos hd]⟩
  | true =>
   (refine go ?_)
   refine WL.callA rfl gM gSL (zgo hg hw hx (by omega) hi) ?_
   rintro _ h2 ⟨rfl,n2,t2⟩
   (refine go ?_)
   (refine WW.ifB rfl (fun hz1 => ?_) (fun hz1 => ?_))
   ·(refine go ?_)
    have e1:R=(x.spillE md i,x.spillX md i):=by rw [hev,CaS.ev1,if_neg (by rw [hd];simp),if_pos hz1]
    exact WW.ret (.inr ⟨by simp,.inl rfl,_,gRES,by rw [e1];rfl,n2,by rw [e1];exact t2⟩)
   have hs:=hx.spillX i
   have hs1:(x.spillX md i).now.length=x.now.length:=by rw [z2d.1]
   have hc2:=t2.w.g
   have hob:=t2.g.w.w.w
   simp only [wRow] at hob
   rw [show n.c=n2.c from t2.mv.c.symm]
   (refine go ?_)
   refine WL.call rfl gM gSL (zo1 t2.g hs (by omega)) ?_
   have t3:=t2.trans (zql t2.g t2.w hs)
   refine WL.named (fun h3=>CaT md h n h3 n2 (x.spillX md i).out) t3 ?_
   clear t3 hc2 hob
   intro h3 t3
   cases hcan:(x.spillX md i).s.pw.can with
   | false =>
    have e1:R=(7,(x.spillX md i).out):=by rw [hev,CaS.ev1,if_neg (by rw [hd];simp),if_neg (fun hh=>hh hz1),if_pos hcan]
    (refine go ?_)
    exact WW.ret (.inr ⟨by simp,.inl rfl,_,gRES,by rw [e1];rfl,n2,by rw [e1];exact t3⟩)
   | true =>
    (refine go ?_)
    exact .inl ⟨rfl,gSUB,_,n2,_,t3,hs.out,by omega,by show i < (x.spillX md i).now.length;omega,by rw [hev,CaS.ev1,if_neg (by rw [hd];simp),if_neg (fun hh=>hh hz1),if_neg (by rw [hcan];simp)]⟩
 ·clear hc hEg
  rintro e2 h2 ⟨hs,y,n2,k2,t2,hy,hk2,hiy,hR⟩
  refine WW.cvt (Cvt.sub hs) ?_
  rw [show n.c=n2.c from t2.mv.c.symm]
  (refine go ?_)
  refine WL.callA rfl gM gSL (zgp t2.g t2.w hy hk2 hiy) ?_
  rintro _ h3 ⟨rfl,n3,t3⟩
  (refine go ?_)
  rw [show n2.c=n3.c from t3.mv.c.symm]
  refine WL.callA rfl gM gSL (z1k t3.g t3.w (hy.drops hiy) hk2) ?_
  rintro _ h4 ⟨rfl,n4,t4⟩
  (refine go ?_)
  exact WW.ret ⟨.inl rfl,_,gRES,by rw [hR];rfl,n4,by rw [hR];exact (t2.trans t3).trans t4⟩
def CaS.room (md:Bool)(x:CaS):Int×CaS :=
 if 0≤freeI x then (0,x)
 else if x.comE md≠0 then (x.comE md,x.com md)
 else if 0≤freeI (x.com md) then (0,x.com md)
 else (x.com md).evict md
theorem CaI.room (hx:CaI md x k):CaI md (x.room md).2 (k+102):=by
 rw [CaS.room]
 split
 ·exact hx.mono (by omega)
 ·split
  ·exact hx.com.mono (by omega)
  ·split
   ·exact hx.com.mono (by omega)
   ·exact hx.com.evict
theorem zam (hg:CaG md h n x)(hw:CaW h n x)(hx:CaI md x k)(hk:k≤60000):AC Tryz.prog 137 [.ptr n.c 0 0] h (CaTR md h n (x.room md).1 (x.room md).2):=by
 refine AC.introW zau (by simp) ?_
 unfold z53;dsimp only [qQ,qR,qM,qG]
 have hn:=hx.n16
 have hrm:x.room md=if 0≤freeI x then (0,x) else if x.comE md≠0 then (x.comE md,x.com md) else if 0≤freeI (x.com md) then (0,x.com md) else (x.com md).evict md:=rfl
 generalize x.room md=R at *
 (refine go ?_)
 refine WL.call rfl gM gSL (z2e hg hn.2 hx.wl) ?_
 (refine go ?_)
 (refine WW.ifB rfl (fun hz1 => ?_) (fun hz1 => ?_))
 ·rw [if_pos hz1] at hrm
  subst hrm
  (refine go ?_)
  exact WW.ret ⟨.inl rfl,_,gRES,rfl,n,CaT.refl hg hw⟩
 rw [if_neg (by omega)] at hrm
 (refine go ?_)
 refine WL.callA rfl gM gSL (z1k hg hw hx (by omega)) ?_
 rintro _ h2 ⟨rfl,n2,t2⟩
 have hx2:=hx.com
 (refine go ?_)
 (refine WW.ifB rfl (fun hz2 => ?_) (fun hz2 => ?_))
 ·rw [if_pos hz2] at hrm
  subst hrm
  (refine go ?_)
  exact WW.ret ⟨.inl rfl,_,gRES,rfl,n2,t2⟩
 rw [if_neg (fun hh=>hh hz2)] at hrm
 have hn2:=hx2.n16
 rw [show n.c=n2.c from t2.mv.c.symm]
 (refine go ?_)
 refine WL.call rfl gM gSL (z2e t2.g hn2.2 hx2.wl) ?_
 (refine go ?_)
 (refine WW.ifB rfl (fun hz3 => ?_) (fun hz3 => ?_))
 ·rw [if_pos hz3] at hrm
  subst hrm
  (refine go ?_)
  exact WW.ret ⟨.inl rfl,_,gRES,rfl,n2,t2⟩
 rw [if_neg (by omega)] at hrm
 subst hrm
 (refine go ?_)
 refine WL.callA rfl gM gSL (zhx t2.g t2.w hx2 (by omega)) ?_
 rintro _ h3 ⟨rfl,n3,t3⟩
 (refine go ?_)
 exact WW.ret ⟨.inl rfl,_,gRES,rfl,n3,t2.trans t3⟩
end
end Go.Proofs.YthblcmnhiccnhaaGreat


namespace Go.Proofs.YthblcmnhiccnhaaGreat
open Go Go.Abs

def CaS.layP (md:Bool)(x:CaS)(f:Nat)(lba:Int)(d:Bs):Bs×Pr:=sealP md x.s.L x.s.key (x.layN f) (putB lba 2) d
def CaS.layM (md:Bool)(x:CaS)(f:Nat)(lba:Int)(d:Bs):List Iss:=sealL md x.s.L x.s.key (x.layN f) (putB lba 2) d
def CaS.layE (x:CaS):Int:=if x.j=100 then 6 else if x.s.pw.can then 0 else 7
def CaS.layZ (md:Bool)(x:CaS)(f:Nat)(lba:Int)(d:Bs):WS:={ x.s with L:=x.layM md f lba d,pw:=x.s.pw.spend,sd:=x.s.sd.write ((f:Int)*32,(x.layP md f lba d).1) x.s.pw.can }
def CaS.layX (md:Bool)(x:CaS)(f:Nat)(lba:Int)(d:Bs):CaS:=if x.j=100 then x else { x with s:=x.layZ md f lba d,j:=x.j+1 }
def CaS.layF (md:Bool)(x:CaS)(f:Nat)(lba:Int)(d:Bs)(dirty:Bool):Lf:=⟨1,dirty,lba,x.s.ks.cur,f,x.boot*4294967296+((x.j+1:Nat):Int),(x.layP md f lba d).2⟩
def CaS.layR (md:Bool)(x:CaS)(f:Nat)(lba:Int)(d:Bs)(dirty:Bool):AV := .tup [.int .i64 (if x.layE=0 then (f:Int) else -1),.agg (encL (if x.layE=0 then x.layF md f lba d dirty else lf0)),.int .i64 x.layE]
theorem zm7 {x:CaS}{f:Nat}(hf:freeI x=f):f < x.now.length:=by
 rw [freeI] at hf
 split at hf
 ·omega
 ·omega
theorem zut {md:Bool}{h h':AHeap}{n:CaN}{x:CaS}(hg:CaG md h n x)(hk:Kp (fun id=>id=n.k) h h')(hm:h'.get n.k=some (mkO x.boot (x.j+1))):CaG md h' n { x with j:=x.j+1 }:=by
 obtain ⟨g1,g2,⟨v,g3,g4⟩,g5,g6,g8,g7⟩:=hg
 obtain ⟨d1,d2,d3,d4,d5,d6,d7,d8,d9⟩:=g7
 have hE:n.nE≠n.k:=by rcases d7 with h | h <;> omega
 have hS:n.sE≠n.k:=by rcases d8 with h | h <;> omega
 exact ⟨g1.kp hk fun id hi e=>g6 n.k (.inr (.inl rfl)) (e ▸ hi),⟨hk.us _ g2.u,hm⟩,⟨v,g3.kp hk hE,g4.kp hk d1⟩,g5.kp hk (fun e=>d4 e.symm) (fun e=>d5 e.symm) hS,g6,fun id hi=>Nat.lt_of_lt_of_le (g8 id hi) hk.next,⟨d1,d2,d3,d4,d5,d6,d7,d8,d9⟩⟩
set_option maxHeartbeats 16000000 in
theorem zan {md:Bool}{h:AHeap}{n:CaN}{x:CaS}{k:Nat}(hg:CaG md h n x)(hw:CaW h n x)(hx:CaI md x k)(hk:k≤80000){f:Nat}(hf:freeI x=f)(lba:Int)(hlba:0≤lba∧lba < 32)(d:Bs)(hd:d.length=32)(dirty:Bool) :
  AC Tryz.prog 135 [.ptr n.c 0 0,.int .i64 lba,.imm 1 (d.map encB),.bool dirty] h
   (fun r h'=>r=x.layR md f lba d dirty∧CaT md h n h' n (x.layX md f lba d)):=by
 have hfn:=zm7 hf
 have hn16:x.now.length≤16:=hx.n16.2
 have hnl:∀ id,n.w.nm md id→id < h.next:=fun id hi=>(hg.w.us _ hi).1
 have hna:n.w.a+11≤h.next:=hg.w.w.nx
 have hck:n.c≠n.k:=hg.dj.1
 have hkl:=hg.lt n.k (.inr (.inl rfl))
 have hkn:=hg.nm n.k (.inr (.inl rfl))
 have hcn:=hg.nm n.c (.inl rfl)
 have hcl:=hg.lt n.c (.inl rfl)
 have hc:=hw.g
 have hob:=hg.w.w.w
 simp only [wRow] at hob
 have hkg:=hg.mr
 have hT:∀ {h9:AHeap},CaG md h9 n { x with s:=x.layZ md f lba d,j:=x.j+1 }→Kp (fun id=>n.w.own md id∨id=n.k) h h9→CaT md h n h9 n { x with s:=x.layZ md f lba d,j:=x.j+1 }:=fun g9 k9 =>
  ⟨g9,⟨(hw.kp hg k9 (fun q=>q.elim (fun q=>hcn (.inl (WN.own_all q))) hck)).g,hw.ne⟩,.refl,fun _ => .inl,k9.mono fun _ _ q=>q.imp (fun q=>q) fun e => .inr (.inl e)⟩
 refine AC.introW zb7 (by simp) ?_
 unfold z5k;dsimp only [qQ,qR,qM,qG]
 (refine go ?_)
 refine WL.call rfl gM gSL (z2e (hg.new (by repeat first | exact Kp.refl | assumption | with_reducible refine Kp.put ?_ (by omega) _ | with_reducible refine Kp.setN ?_ (by omega) _ | with_reducible refine Kp.keep ?_ _ | with_reducible refine Kp.setW ?_ (by rfl) _)) (by omega) hx.wl) ?_
 rw [hf]
 (refine go ?_)
 refine WL.call rfl gM gSL (z6u (hg.w.new (by repeat first | exact Kp.refl | assumption | with_reducible refine Kp.put ?_ (by omega) _ | with_reducible refine Kp.setN ?_ (by omega) _ | with_reducible refine Kp.keep ?_ _ | with_reducible refine Kp.setW ?_ (by rfl) _)).w hx.ok.st.cur.2) ?_
 (refine go ?_)
 by_cases hj:x.j=100
 ·have e1:x.layX md f lba d=x:=by rw [CaS.layX,if_pos hj]
  have e2:x.layE=6:=by rw [CaS.layE,if_pos hj]
  have e3:x.layR md f lba d dirty = .tup [.int .i64 (-1),.agg (encL lf0),.int .i64 6]:=by rw [CaS.layR,e2];rfl
  have hkg':=hkg.g
  rw [hj] at hkg'
  rw [e1,e3]
  refine WL.call rfl gM gSL (zae ((gE:_=h.get n.k).trans hkg') x.s.ks.cur f (by omega)) ?_
  (refine go ?_)
  exact WW.ret ⟨.inl rfl,_,gRES,rfl,(CaT.refl hg hw).new (by repeat first | exact Kp.refl | assumption | with_reducible refine Kp.put ?_ (by omega) _ | with_reducible refine Kp.setN ?_ (by omega) _ | with_reducible refine Kp.keep ?_ _ | with_reducible refine Kp.setW ?_ (by rfl) _)⟩
 have hj':x.j < 100:=by have:=hx.ok.j;omega
 have e1:x.layX md f lba d={ x with s:=x.layZ md f lba d,j:=x.j+1 }:=by rw [CaS.layX,if_neg hj]
 have e2:x.layE=if x.s.pw.can then 0 else 7:=by rw [CaS.layE,if_neg hj]
 have e3:x.layR md f lba d dirty = .tup [.int .i64 (if x.layE=0 then (f:Int) else -1),.agg (encL (if x.layE=0 then x.layF md f lba d dirty else lf0)),.int .i64 x.layE]:=rfl
 rw [e1,e3]
 clear e1 e3
 generalize x.layE=EE at *
 refine WL.call rfl gM gSL (zad ((gE:_=h.get n.k).trans hkg.g) hx.ok.b hj' x.s.ks.cur f (by omega)) ?_
 (refine go ?_)
 refine WW.named (fun h3=>CaG md h3 n { x with j:=x.j+1 }∧Kp (fun id=>id=n.k) h h3∧h3.get h.next=some (.mem 8 [[.int .i64 0,.bool false,.int .i64 0,.int .u32 0,.int .u32 0,.int .u64 0,.int .u64 0,.int .u64 0]])∧h3.get (h.next+1)=some (.mem 2 [encP x.s.key])∧h3.get (h.next+2)=some (.mem 3 [encN (x.layN f)])∧h3.next=h.next+3∧h3.get n.c=some (.mem 6 [[.ptr (n.w.a+10) 0 0,.ptr n.k 0 0,.ref n.nE 0 x.now.length,.imm 8 (x.was.map encL),.ptr n.a 0 0,.bool x.bad]])) ⟨zut hg (by repeat first | exact Kp.refl | assumption | with_reducible refine Kp.put ?_ (by omega) _ | with_reducible refine Kp.setN ?_ (by omega) _ | with_reducible refine Kp.keep ?_ _ | with_reducible refine Kp.setW ?_ (by simp;done) _) gH,(by repeat first | exact Kp.refl | assumption | with_reducible refine Kp.put ?_ (by omega) _ | with_reducible refine Kp.setN ?_ (by omega) _ | with_reducible refine Kp.keep ?_ _ | with_reducible refine Kp.setW ?_ (by simp;done) _),gH,gH,gH,(gN:_=h.next+1+1+1),gH⟩ ?_
 clear hc hob hkg
 rintro h3 ⟨g3,k3,r9,r13,r14,hn3,hc⟩
 have hLL:x.s.L.length≤1000000:=by have:=hx.ok.st.fit.ll;omega
 have hpl:(putB lba 2).length≤4000:=by simp [putB]
 have hLk:n.w.l < h.next:=hnl _ (.inl (.inr (.inl rfl)))
 simp only [encP] at r13
 simp only [encN,CaS.layN] at r14
 refine WW.thenI (fun e' F'=>subE [(0,some (.ptr n.c 0 0)),(1,some (.int .i64 lba)),(3,some (.bool dirty)),(9,some (.ptr h.next 0 0)),(11,some (.int .i64 f)),(14,some (.ptr (h.next+2) 0 0)),(16,some (.ptr (h.next+3) 0 0))] e'∧CaG md F' n { x with s:={ x.s with L:=x.layM md f lba d },j:=x.j+1 }∧Kp (fun id=>n.w.own md id∨id=n.k) h F'∧F'.get h.next=some (.mem 8 [[.int .i64 0,.bool false,.int .i64 0,.int .u32 0,.int .u32 0,.int .u64 0,.int .u64 0,.int .u64 0]])∧F'.get (h.next+2)=some (.mem 3 [encN (x.layN f)])∧F'.get (h.next+3)=some (.mem 3 [encS (x.layP md f lba d).1 (x.layP md f lba d).2])∧h.next+4≤F'.next∧F'.get n.c=some (.mem 6 [[.ptr (n.w.a+10) 0 0,.ptr n.k 0 0,.ref n.nE 0 x.now.length,.imm 8 (x.was.map encL),.ptr n.a 0 0,.bool x.bad]])) ?_ ?_
 ·have hob:=g3.w.w.w
  simp only [wRow] at hob
  have hlk:=g3.w.w.lk
  cases md with
  | true =>
   have hoL:n.w.o < h.next:=hnl _ (.inl (.inr (.inr (.inr ⟨rfl,.inl rfl⟩))))
   have htL:n.w.t < h.next:=hnl _ (.inl (.inr (.inr (.inr ⟨rfl,.inr (.inl rfl)⟩))))
   have hco:n.c≠n.w.o:=fun e=>hcn (.inl (.inr (.inr (.inr ⟨rfl,.inl e⟩))))
   have hct:n.c≠n.w.t:=fun e=>hcn (.inl (.inr (.inr (.inr ⟨rfl,.inr (.inl e)⟩))))
   have hoo:=g3.w.w.oo rfl
   refine WW.dregA [16] [12,17] [12] [3,6,7,8,10] [n.w.t,n.w.o] gN (by decide +kernel) ?_
   iterate 3 (refine DA.go ?_)
   refine DA.goF (hs:=fun h2 hp2=>by apply Stp.load1;exact rfl;exact (hp2 _ (by omega) (by simp;omega)).trans gH;exact (by first | exact ze rfl rfl | exact zy rfl | exact z4 (Nat.le_of_ble_eq_true rfl) (by first | (simp only [putC,AV.cs,encP,encN,encI,encS,encA,List.take_succ_cons,List.take_zero,List.take_nil,List.drop_succ_cons,List.drop_zero,List.drop_nil,List.cons_append,List.nil_append,List.append_nil,List.length_cons,List.length_nil,Nat.zero_add,Nat.add_zero,Nat.reduceAdd];exact rfl) | exact rfl) | exact z4 (by simp) (by first | (simp only [putC,AV.cs,encP,encN,encI,encS,encA,List.take_succ_cons,List.take_zero,List.take_nil,List.drop_succ_cons,List.drop_zero,List.drop_nil,List.cons_append,List.nil_append,List.append_nil,List.length_cons,List.length_nil,Nat.zero_add,Nat.add_zero,Nat.reduceAdd];exact rfl) | exact rfl));exact gM) ?_
   iterate 2 (refine DA.go ?_)
   refine DA.goF (hs:=fun h2 hp2=>by apply Stp.load1;exact rfl;exact (hp2 _ (by omega) (by simp;omega)).trans gH;exact (by first | exact ze rfl rfl | exact zy rfl | exact z4 (Nat.le_of_ble_eq_true rfl) (by first | (simp only [putC,AV.cs,encP,encN,encI,encS,encA,List.take_succ_cons,List.take_zero,List.take_nil,List.drop_succ_cons,List.drop_zero,List.drop_nil,List.cons_append,List.nil_append,List.append_nil,List.length_cons,List.length_nil,Nat.zero_add,Nat.add_zero,Nat.reduceAdd];exact rfl) | exact rfl) | exact z4 (by simp) (by first | (simp only [putC,AV.cs,encP,encN,encI,encS,encA,List.take_succ_cons,List.take_zero,List.take_nil,List.drop_succ_cons,List.drop_zero,List.drop_nil,List.cons_append,List.nil_append,List.append_nil,List.length_cons,List.length_nil,Nat.zero_add,Nat.add_zero,Nat.reduceAdd];exact rfl) | exact rfl));exact gM) ?_
   refine DA.goF (hs:=fun h2 hp2=>by apply Stp.load1;exact rfl;exact (hp2 _ (by omega) (by simp;omega)).trans gH;exact (by first | exact ze rfl rfl | exact zy rfl | exact z4 (Nat.le_of_ble_eq_true rfl) (by first | (simp only [putC,AV.cs,encP,encN,encI,encS,encA,List.take_succ_cons,List.take_zero,List.take_nil,List.drop_succ_cons,List.drop_zero,List.drop_nil,List.cons_append,List.nil_append,List.append_nil,List.length_cons,List.length_nil,Nat.zero_add,Nat.add_zero,Nat.reduceAdd];exact rfl) | exact rfl) | exact z4 (by simp) (by first | (simp only [putC,AV.cs,encP,encN,encI,encS,encA,List.take_succ_cons,List.take_zero,List.take_nil,List.drop_succ_cons,List.drop_zero,List.drop_nil,List.cons_append,List.nil_append,List.append_nil,List.length_cons,List.length_nil,Nat.zero_add,Nat.add_zero,Nat.reduceAdd];exact rfl) | exact rfl));exact gM) ?_
   refine DA.goF (hs:=fun h2 hp2=>by apply Stp.load1;exact rfl;exact (hp2 _ (by omega) (by simp;omega)).trans gH;exact (by first | exact ze rfl rfl | exact zy rfl | exact z4 (Nat.le_of_ble_eq_true rfl) (by first | (simp only [putC,AV.cs,encP,encN,encI,encS,encA,List.take_succ_cons,List.take_zero,List.take_nil,List.drop_succ_cons,List.drop_zero,List.drop_nil,List.cons_append,List.nil_append,List.append_nil,List.length_cons,List.length_nil,Nat.zero_add,Nat.add_zero,Nat.reduceAdd];exact rfl) | exact rfl) | exact z4 (by simp) (by first | (simp only [putC,AV.cs,encP,encN,encI,encS,encA,List.take_succ_cons,List.take_zero,List.take_nil,List.drop_succ_cons,List.drop_zero,List.drop_nil,List.cons_append,List.nil_append,List.append_nil,List.length_cons,List.length_nil,Nat.zero_add,Nat.add_zero,Nat.reduceAdd];exact rfl) | exact rfl));exact gM) ?_
   refine DA.go ?_
   refine DA.callF rfl gM gSL rfl rfl rfl (fun h2 _=>z5h lba hlba h2) (fun _ _ _=>rfl) ?_
   refine DA.go ?_
   refine DA.callSS (i1:=n.w.t) (i2:=n.w.o) (vs:=[.ptr n.w.l 0 0,.agg (encP x.s.key),.agg (encN (x.layN f)),.imm 1 ((putB lba 2).map encB),.imm 1 (d.map encB)]) rfl gM gSL rfl rfl rfl (fun _ hp=>PhiW.setW (by simp) (PhiW.setW (by simp) hp)) ⟨by omega,by omega⟩
    (fun h5 hs=>zag ((hlk.same ((hs.2 _ (by omega)).trans gE) (fun _=>⟨(hs.2 _ (by omega)).trans gE,(hs.2 _ (by omega)).trans gE,(hs.2 _ (by omega)).trans gE⟩)).id rfl) hLL x.s.key (x.layN f) (putB lba 2) d hpl (by omega)) ?_
   (repeat first | refine DA.go ?_ | refine DA.goF ?_ | refine DA.new ?_ | refine DA.set ?_ | refine DA.endL ?_ | refine thenN ?_ | refine blkN ?_)
   have hto:n.w.t≠n.w.o:=fun e=>by
    obtain ⟨q0,q1,q2,q3⟩:=hlk.id rfl
    rw [e,q1] at q2;cases q2
   have hSL:x.layM true f lba d=x.s.L++[newI (x.s.L.length+1) x.s.key (x.layN f) (putB lba 2) d]:=rfl
   have hSP:x.layP true f lba d=((newI (x.s.L.length+1) x.s.key (x.layN f) (putB lba 2) d).out,(newI (x.s.L.length+1) x.s.key (x.layN f) (putB lba 2) d).tag):=rfl
   rw [hSL,hSP]
   refine ⟨rfl,gSUB,caG_w g3 (g3.w.reL (x.s.L++[newI (x.s.L.length+1) x.s.key (x.layN f) (putB lba 2) d]) (by repeat first | exact Kp.refl | assumption | with_reducible refine Kp.put ?_ (by omega) _ | with_reducible refine Kp.setN ?_ (by omega) _ | with_reducible refine Kp.keep ?_ _ | with_reducible refine Kp.setW ?_ (by simp;done) _) (fun _=>⟨gH,by rw [List.length_append];exact gH⟩) nofun) (((by repeat first | exact Kp.refl | assumption | with_reducible refine Kp.put ?_ (by omega) _ | with_reducible refine Kp.setN ?_ (by omega) _ | with_reducible refine Kp.keep ?_ _ | with_reducible refine Kp.setW ?_ (by simp;done) _):Kp (fun id=>id=n.w.o∨id=n.w.t) h3 _).mono fun id _ e => .inr (.inr ⟨rfl,e.elim .inl fun e => .inr (.inl e)⟩)),(k3.mono fun _ _ e => .inr e).trans (((by repeat first | exact Kp.refl | assumption | with_reducible refine Kp.put ?_ (by omega) _ | with_reducible refine Kp.setN ?_ (by omega) _ | with_reducible refine Kp.keep ?_ _ | with_reducible refine Kp.setW ?_ (by simp;done) _):Kp (fun id=>id=n.w.o∨id=n.w.t) h3 _).mono fun id _ e => .inl (.inr (.inr ⟨rfl,e.elim .inl fun e => .inr (.inl e)⟩))),gH,gH,gH,Nat.succ_le_of_lt zgj,gH⟩
  | false =>
   refine WW.dregA [16] [12,17] [12] [3,6,7,8,10] [] gN (by decide +kernel) ?_
   (repeat first | refine DA.go ?_ | refine DA.goF ?_ | refine DA.new ?_ | refine DA.set ?_ | refine DA.endL ?_ | refine thenN ?_ | refine blkN ?_)
   refine DA.callF rfl gM gSL rfl rfl rfl (fun h2 _=>z5h lba hlba h2) (fun _ _ _=>rfl) ?_
   (repeat first | refine DA.go ?_ | refine DA.goF ?_ | refine DA.new ?_ | refine DA.set ?_ | refine DA.endL ?_ | refine thenN ?_ | refine blkN ?_)
   refine DA.callP rfl gM (vs:=[.ptr n.w.l 0 0,.agg (encP x.s.key),.agg (encN (x.layN f)),.imm 1 ((putB lba 2).map encB),.imm 1 (d.map encB)]) gSL rfl rfl rfl (fun h5 hs=>zaf (((hs.2 _ (by omega)).trans gE).trans (hlk.re rfl)) x.s.key (x.layN f) (putB lba 2) d hpl (by omega)) ?_
   (repeat first | refine DA.go ?_ | refine DA.goF ?_ | refine DA.new ?_ | refine DA.set ?_ | refine DA.endL ?_ | refine thenN ?_ | refine blkN ?_)
   refine ⟨rfl,gSUB,caG_w g3 (g3.w.reL x.s.L (by repeat first | exact Kp.refl | assumption | with_reducible refine Kp.put ?_ (by omega) _ | with_reducible refine Kp.setN ?_ (by omega) _ | with_reducible refine Kp.keep ?_ _ | with_reducible refine Kp.setW ?_ (by simp;done) _) nofun (fun _=>rfl)) (((by repeat first | exact Kp.refl | assumption | with_reducible refine Kp.put ?_ (by omega) _ | with_reducible refine Kp.setN ?_ (by omega) _ | with_reducible refine Kp.keep ?_ _ | with_reducible refine Kp.setW ?_ (by simp;done) _):Kp (fun _=>False) h3 _).mono fun id _ e=>e.elim),(k3.mono fun _ _ e => .inr e).trans (((by repeat first | exact Kp.refl | assumption | with_reducible refine Kp.put ?_ (by omega) _ | with_reducible refine Kp.setN ?_ (by omega) _ | with_reducible refine Kp.keep ?_ _ | with_reducible refine Kp.setW ?_ (by simp;done) _):Kp (fun _=>False) h3 _).mono fun id _ e=>e.elim),gH,gH,gH,Nat.succ_le_of_lt zgj,gH⟩
 clear hc g3 k3 r9 r13 r14 hn3
 rintro e7 h5 ⟨hs7,g5,k5,r9,r14,r16,hn5,hc⟩
 refine WW.cvt (Cvt.sub hs7) ?_
 clear hs7
 have hob:h5.get (n.w.a+10)=some (.mem 7 [wRow n.w x.s.n]):=g5.w.w.w
 simp only [wRow] at hob
 have hfs:=hx.ok.st.fit
 have hfit:(f:Int) < x.s.n:=by have:=hx.ok.l;omega
 have hol:(x.layP md f lba d).1.length=32:=(z7k _ _ _ _ _ _).trans hd
 have hgg:=z8 hfs.g
 have hin:inB x.s.sd.lasts.length ((f:Int)*32) ((x.layP md f lba d).1.length)=true:=by
  rw [hol,hfs.sd.len,zj hfs.g]
  simp [inB];omega
 have hll:x.s.sd.lasts.length≤1000000:=by
  rw [hfs.sd.len,zj hfs.g];omega
 have hZ:x.layZ md f lba d={ x.s with L:=x.layM md f lba d,pw:=x.s.pw.spend,sd:=x.s.sd.write ((f:Int)*32,(x.layP md f lba d).1) x.s.pw.can }:=rfl
 have hF:encL (x.layF md f lba d dirty)=[.int .i64 1,.bool dirty,.int .i64 lba,.int .u32 x.s.ks.cur,.int .u32 f,.int .u64 (x.boot*4294967296+((x.j+1:Nat):Int)),.int .u64 (x.layP md f lba d).2.1,.int .u64 (x.layP md f lba d).2.2]:=rfl
 generalize x.layZ md f lba d=Z at *
 generalize x.layF md f lba d dirty=F at *
 generalize x.layP md f lba d=I at *
 (repeat first | refine WW.seq ?_ | refine WW.reg ?_ | refine WL.nil ?_ | refine WW.skip ?_ | refine WW.block ?_ | refine thenN ?_ | refine blkN ?_)
 refine WW.live fun hl5 => ?_
 refine WW.dregC 18 (by decide +kernel) ?_
 (repeat first | refine PW.go ?_ | refine PW.nil ?_)
 refine PW.call rfl gM gSL (zcf x.s.n f hfs.g ⟨by omega,hfit⟩ _) ?_
 (repeat first | refine PW.go ?_ | refine PW.nil ?_)
 refine RunL.call rfl gM gSL (z43 g5.w.w.sd hfs.pw (by omega) hll (Nat.le_trans hfs.sd.kw (by omega)) (Nat.le_trans hfs.sd.kt (by omega)) ((f:Int)*32) I.1 (by omega)) ?_
 rintro _ h6 ⟨rfl,e6⟩
 dsimp only at e6
 rw [hin] at e6 ⊢
 simp only [Bool.true_and,if_true] at e6 ⊢
 have k6:Kp (n.w.own md) h5 h6:=by rw [e6];exact kp_sd n.w _ _
 have g6:CaG md h6 n { x with s:=Z,j:=x.j+1 }:=by
  have gw:WG md h6 n.w Z:=by
   rw [e6,hZ]
   exact g5.w.step (g5.w.w.putSd _ _) (kp_sd n.w _ _)
  exact caG_w g5 gw k6
 have hno:∀ id,n.w.own md id→id < h.next:=fun id hi=>hnl _ (.inl (WN.own_all hi))
 have t9:=(k6.get _ (hl5 _ _ r9) fun q=>by have:=hno _ q;omega).trans r9
 have t14:=(k6.get _ (hl5 _ _ r14) fun q=>by have:=hno _ q;omega).trans r14
 have t16:=(k6.get _ (hl5 _ _ r16) fun q=>by have:=hno _ q;omega).trans r16
 have k7:Kp (fun id=>n.w.own md id∨id=n.k) h h6:=k5.trans (k6.mono fun _ _ q => .inl q)
 have hx6:=k6.next
 simp only [encN,CaS.layN] at t14
 simp only [encS] at t16
 clear hl5 r9 r14 r16 e6 hob hc g5 k5 k6 hin hll
 have hfin:∀ Y,CaT md h n (h6.set h.next (some Y)) n { x with s:=Z,j:=x.j+1 }:=fun Y=>by
  have kt:Kp (fun id=>id=h.next) h6 (h6.set h.next (some Y)):=Kp.cvt rfl rfl fun id hi=>z1 hi rfl
  exact hT (g6.kp kt (fun id hi e=>by have:=hnl id hi;omega) (fun id hi e=>by have:=hg.lt id hi;omega)) (k7.trans2 kt fun id hi => .inr (by omega))
 (repeat first | refine RunL.go ?_ | refine RunL.endL ?_ | refine thenN ?_ | refine blkN ?_)
 cases hcan:x.s.pw.can with
 | true =>
  rw [hcan,if_pos rfl] at e2
  subst e2
  rw [if_pos rfl,if_pos rfl,hF]
  (refine go ?_)
  exact WW.ret ⟨.inl rfl,_,gRES,rfl,hfin _⟩
 | false =>
  rw [hcan,if_neg (by simp)] at e2
  subst e2
  rw [if_neg (by decide),if_neg (by decide)]
  (refine go ?_)
  exact WW.ret ⟨.inl rfl,_,gRES,rfl,hfin _⟩
end Go.Proofs.YthblcmnhiccnhaaGreat


namespace Go.Proofs.YthblcmnhiccnhaaGreat
open Go Go.Abs

section
variable {md:Bool}{h h':AHeap}{n:CaN}{x:CaS}{k:Nat}
theorem zeu:∀ (l:List Nat) (y:CaS) (d:Bool) (k:Nat),CaI md y k→CaI md (z2q md l y d).2.1 (k+l.length)∧(z2q md l y d).2.1.now=y.now
 | [], y, d, k, h => ⟨h, rfl⟩
 | i :: r, y, d, k, h => by
  rw [z2q]
  split
  ·obtain ⟨h1,h2⟩:=zeu r y d k h
   exact ⟨h1.mono (by simp),h2⟩
  ·split
   ·obtain ⟨h1,h2⟩:=zeu r (y.spillX md i) true (k+1) (h.spillX i)
    exact ⟨h1.mono (by simp;omega),h2.trans z2d.1⟩
   ·exact ⟨(h.spillX i).mono (by simp),z2d.1⟩
theorem wf0':lf0.Wf:=wf0 _ (List.mem_replicate.2 ⟨by decide,rfl⟩)
theorem zev:∀ (m j:Nat),j+m≤16→lvOk (List.replicate m lf0) j=true
 | 0, _, _ => rfl
 | m + 1, j, h => by
  rw [List.replicate_succ,lvOk,Bool.and_eq_true]
  exact ⟨zo0 j (by omega),zev m (j+1) (by omega)⟩
theorem CaI.noneL (hx:CaI md x k):CaI md x.noneL k:=by
 have hn:=hx.n16
 refine ⟨⟨hx.ok.st,hx.ok.b,hx.ok.j,by show ((List.replicate x.now.length lf0).length:Int)=x.s.n;rw [List.length_replicate];exact hx.ok.l,fun y hy => ?_,zev _ _ (by omega)⟩,hx.dk,agOk0.mono (Nat.zero_le _),fun i hi=>by simp [CaS.noneL,ag0] at hi,by simp [CaS.noneL,hx.wl],hx.ks⟩
 obtain ⟨_,rfl⟩:=List.mem_replicate.1 hy
 exact wf0'
theorem CaI.empty (hx:CaI md x k):CaI md (x.empty md).2 (k+17):=by
 have hn:=hx.n16
 obtain ⟨h1,h2⟩:=zeu (md:=md) (List.range x.now.length) x false k hx
 rw [List.length_range] at h1
 rw [CaS.empty]
 dsimp only
 split
 ·split
  ·split
   ·exact (CaI.noneL (x:=CaS.out _) h1.out).mono (by omega)
   ·exact h1.out.mono (by omega)
  ·exact h1.noneL.mono (by omega)
 ·exact h1.mono (by omega)
theorem zs0 (hg:CaG md h n x)(hw:CaW h n x){E a q:Nat}(hk:Kp (fun id=>id=n.c) h h')(hc:h'.get n.c=some (.mem 6 [[.ptr (n.w.a+10) 0 0,.ptr n.k 0 0,.ref E 0 x.now.length,.imm 8 (x.was.map encL),.ptr a 0 0,.bool x.bad]]))(hE:BoxAt h' E (.mem 8 ((List.replicate x.now.length lf0).map encL)))(ha:AgAt h' a q q ag0)(l1:h.next≤E)(l2:E < a)(l3:E < q)(l4:a≠q):CaT md h n h' { n with nE:=E,a:=a,q:=q,sE:=q } x.noneL:=by
 have hap:a < h'.next:=ha.ob.u.1
 have hqp:q < h'.next:=by obtain ⟨v,_,h6⟩:=ha.qo;exact h6.u.1
 have hEp:E < h'.next:=hE.u.1
 obtain ⟨g1,g2,⟨v,g3,g4⟩,g5,g6,g8,g7⟩:=hg
 obtain ⟨d1,d2,d3,d4,d5,d6,d7,d8,d9⟩:=g7
 have lc:=g8 n.c (.inl rfl)
 have lk:=g8 n.k (.inr (.inl rfl))
 have hown:∀ id,({ n with nE:=E,a:=a,q:=q,sE:=q }:CaN).own id→id=n.c∨id=n.k∨(h.next≤id∧id < h'.next):=fun id hi=>by
  rcases hi with hi | hi | hi | hi | hi | hi
  ·exact .inl hi
  ·exact .inr (.inl hi)
  ·exact .inr (.inr (by dsimp only at hi;omega))
  ·exact .inr (.inr (by dsimp only at hi;omega))
  ·exact .inr (.inr (by dsimp only at hi;omega))
  ·exact .inr (.inr (by dsimp only at hi;omega))
 have hx:=hk.next
 refine ⟨⟨g1.kp hk fun id hi e=>g6 n.c (.inl rfl) (e ▸ hi),g2.kp hk (fun e=>d1 e.symm),⟨_,.inr ⟨rfl,?_⟩,hk.us _ g4.u,?_⟩,ha,fun id hi q => ?_,fun id hi => ?_,d1,by dsimp only;omega,by dsimp only;omega,by dsimp only;omega,by dsimp only;omega,l4,.inr ⟨by dsimp only;omega,by dsimp only;omega,by dsimp only;omega⟩,.inl rfl,by dsimp only;omega⟩,⟨?_,by dsimp only;omega⟩,⟨fun id hi => ?_,fun id hi => .inl hi,rfl,rfl⟩,fun id hi => .inl hi,hk.mono fun id _ e => .inr (.inl e)⟩
 ·exact hE
 ·rw [show x.noneL.now.length=x.now.length from List.length_replicate ..];exact hc
 ·rcases hown id hi with rfl | rfl | hh
  ·exact g6 _ (.inl rfl) q
  ·exact g6 _ (.inr (.inl rfl)) q
  ·have:=(g1.us _ q).1;omega
 ·rcases hown id hi with rfl | rfl | hh <;> omega
 ·rw [show x.noneL.now.length=x.now.length from List.length_replicate ..];exact hc
 ·rcases hown id hi with rfl | rfl | hh
  ·exact .inl (.inl rfl)
  ·exact .inl (.inr (.inl rfl))
  ·exact .inr hh.1
set_option maxHeartbeats 8000000 in
theorem z94 (hg:CaG md h n x)(hw:CaW h n x)(hx:CaI md x k)(hk:k≤70000):AC Tryz.prog 128 [.ptr n.c 0 0] h (CaTR md h n (x.empty md).1 (x.empty md).2):=by
 have hn:=hx.n16
 refine AC.introW z9a (by simp) ?_
 unfold z45;dsimp only [qQ,qR,qM,qG]
 have hc:=hw.g
 have hrow:=hw.row hg
 have hem:∀ A,z2q md (List.range x.now.length) x false=A→x.empty md=if A.1=0 then (if A.2.2 then (if A.2.1.s.pw.can then (0,A.2.1.out.noneL) else (7,A.2.1.out)) else (0,A.2.1.noneL)) else (A.1,A.2.1):=fun A e=>by rw [CaS.empty,e];rfl
 obtain ⟨A,hA⟩:∃ A,z2q md (List.range x.now.length) x false=A:=⟨_,rfl⟩
 have hem:=hem A hA
 generalize x.empty md=R at *
 (refine go ?_)
 refine WW.loopE (fun (s:Nat×CaS×Bool)=>[(0,some (.ptr n.c 0 0)),(3,some (.bool s.2.2)),(10,some (.ref n.nE 0 x.now.length)),(11,some (.int .i64 x.now.length)),(12,some (.int .i64 s.1))])
  (fun s h'=>CaT md h n h' n s.2.1∧CaI md s.2.1 (k+s.1)∧s.2.1.now=x.now∧s.1≤x.now.length∧z2q md ((List.range x.now.length).drop s.1) s.2.1 s.2.2=A) (fun s=>x.now.length - s.1) (0,x,false) gSUB ⟨CaT.refl hg hw,hx,rfl,Nat.zero_le _,hA⟩ ?_
 clear hc hrow
 rintro ⟨i,y,d⟩ h1 ⟨t1,hy,hyn,hi,hF⟩
 dsimp only at t1 hy hyn hi hF ⊢
 have hc:=t1.w.g
 have hrow:=t1.w.row t1.g
 rw [hyn] at hrow hc
 have hEg:=hrow.g
 have hEl:=hrow.u.1
 (refine go ?_)
 (refine WW.ifB rfl (fun hz1 => ?_) (fun hz1 => ?_))
 ·have hil:i < x.now.length:=by omega
  have hdr:(List.range x.now.length).drop i=i::(List.range x.now.length).drop (i+1):=by
   rw [List.drop_eq_getElem_cons (by simpa using hil),List.getElem_range]
  rw [hdr,z2q] at hF
  have hlf:x.now[i]=y.lf i:=by simp only [CaS.lf,hyn,List.getD_eq_getElem?_getD,List.getElem?_eq_getElem hil,Option.getD_some]
  (refine go ?_)
  simp only [Nat.zero_add]
  rw [hlf]
  cases hd:(y.lf i).d with
  | false =>
   rw [if_pos hd] at hF
   (refine go ?_)
   exact ⟨(i+1,y,d),gSUB,⟨t1.new (by repeat first | exact Kp.refl | assumption | with_reducible refine Kp.put ?_ (by omega) _ | with_reducible refine Kp.setN ?_ (by omega) _ | with_reducible refine Kp.keep ?_ _ | with_reducible refine Kp.setW ?_ (by rfl) _),hy.mono (by omega),hyn,by dsimp only;omega,hF⟩,by dsimp only;omega⟩
  | true =>
   rw [if_neg (by rw [hd];simp)] at hF
   (refine go ?_)
   refine WL.named (fun h2=>CaT md h n h2 n y) (t1.new (by repeat first | exact Kp.refl | assumption | with_reducible refine Kp.put ?_ (by omega) _ | with_reducible refine Kp.setN ?_ (by omega) _ | with_reducible refine Kp.keep ?_ _ | with_reducible refine Kp.setW ?_ (by rfl) _)) ?_
   clear hc hEg hEl
   intro h2 t2
   refine WL.callA rfl gM gSL (z7o t2.g t2.w hy (by omega) (by rw [hyn];exact hil)) ?_
   rintro _ h3 ⟨rfl,t3⟩
   (refine go ?_)
   (refine WW.ifB rfl (fun hz2 => ?_) (fun hz2 => ?_))
   ·have e1:A=(y.spillE md i,y.spillX md i,d):=by rw [if_neg hz2] at hF;exact hF.symm
    subst e1
    have e2:R=(y.spillE md i,y.spillX md i):=by rw [hem,if_neg hz2]
    (refine go ?_)
    exact WW.ret ⟨.inl rfl,_,gRES,by rw [e2];rfl,n,by rw [e2];exact t2.trans t3⟩
   ·have hz2':y.spillE md i=0:=by simpa using hz2
    rw [if_pos hz2'] at hF
    (refine go ?_)
    exact ⟨(i+1,y.spillX md i,true),gSUB,⟨t2.trans t3,(hy.spillX i).mono (by omega),by rw [z2d.1];exact hyn,by dsimp only;omega,hF⟩,by dsimp only;omega⟩
 ·have hil:i=x.now.length:=by omega
  subst hil
  rw [List.drop_of_length_le (by simp),z2q] at hF
  subst hF
  dsimp only at hem
  rw [if_pos rfl] at hem
  refine WW.exit ?_
  (repeat first | refine thenN ?_ | refine blkN ?_)
  refine WW.seq ?_
  -- what is dirty lasts
  refine WW.joinR (fun e2 h2=>subE [(0,some (.ptr n.c 0 0))] e2∧∃ z,CaT md h n h2 n z∧z.now=x.now∧R=(0,z.noneL)) ?_ ?_
  ·cases d with
   | false =>
    (refine go ?_)
    exact .inl ⟨rfl,gSUB,y,t1,hyn,hem⟩
   | true =>
    have hob:=t1.g.w.w.w
    simp only [wRow] at hob
    rw [if_pos rfl] at hem
    (refine go ?_)
    refine WL.call rfl gM gSL (zo1 t1.g hy (by omega)) ?_
    have t3:=t1.trans (zql t1.g t1.w hy)
    refine WL.named (fun h3=>CaT md h n h3 n y.out) t3 ?_
    clear t3 hc hob hEg
    intro h3 t3
    cases hcan:y.s.pw.can with
    | true =>
     rw [if_pos hcan] at hem
     (refine go ?_)
     exact .inl ⟨rfl,gSUB,y.out,t3,hyn,hem⟩
    | false =>
     rw [if_neg (by rw [hcan];simp)] at hem
     (refine go ?_)
     exact WW.ret (.inr ⟨by simp,.inl rfl,_,gRES,by rw [hem];rfl,n,by rw [hem];exact t3⟩)
  ·clear hc hEg hrow t1 hy hyn hem
   rintro e2 h2 ⟨hs,z,t2,hzn,hR⟩
   refine WW.cvt (Cvt.sub hs) ?_
   have hc:=t2.w.g
   rw [hzn] at hc
   have hcl:=t2.g.lt n.c (.inl rfl)
   obtain ⟨nx,hnx⟩:∃ nx,h2.next=nx:=⟨_,rfl⟩
   (refine go ?_)
   refine WL.live fun hl9 => ?_
   refine WL.named (fun h3=>Kp (fun id=>id=n.c) h2 h3∧h3.get n.c=some (.mem 6 [[.ptr (n.w.a+10) 0 0,.ptr n.k 0 0,.ref nx 0 x.now.length,.imm 8 (z.was.map encL),.ptr n.a 0 0,.bool z.bad]])∧BoxAt h3 nx (.mem 8 ((List.replicate x.now.length lf0).map encL))) ⟨?_,gH,?_⟩ ?_
   ·exact Kp.setW (W:=fun id=>id=n.c) (Kp.put Kp.refl (by omega) _) rfl _
   ·rw [List.map_replicate]
    exact ⟨hl9 _ _ gH,gH⟩
   clear hc hl9
   rintro h3 ⟨k3,hc3,bE⟩
   have hx3:=k3.next
   have hEl:=bE.u.1
   (refine go ?_)
   refine WL.callA rfl gM gSL (zgh _) ?_
   rintro _ h4 ⟨a,q,rfl,ag4,haq,ha,hq,k4⟩
   have hx4:=k4.next
   have hc4:=(k4.get n.c (k3.us _ (by obtain ⟨v,_,qq⟩:=t2.g.c;exact qq.u)) (fun h=>h)).trans hc3
   have bE4:=bE.kp k4 (fun h=>h)
   (refine go ?_)
   have kk:Kp (fun id=>id=n.c) h2 (h4.set n.c (some (.mem 6 [[.ptr (n.w.a+10) 0 0,.ptr n.k 0 0,.ref nx 0 x.now.length,.imm 8 (z.was.map encL),.ptr a 0 0,.bool z.bad]]))):=(k3.trans (k4.mono fun _ _ h=>h.elim)).trans (Kp.cvt rfl rfl fun id hi=>z1 hi rfl)
   have kc:Kp (fun id=>id=n.c) h4 (h4.set n.c (some (.mem 6 [[.ptr (n.w.a+10) 0 0,.ptr n.k 0 0,.ref nx 0 x.now.length,.imm 8 (z.was.map encL),.ptr a 0 0,.bool z.bad]]))):=Kp.cvt rfl rfl fun id hi=>z1 hi rfl
   have tf:=zs0 t2.g t2.w kk (by rw [hzn];exact za) (by rw [hzn];exact bE4.kp kc (by omega)) (ag4.kp kc (by omega) (by omega) (by omega)) (by omega) (by omega) (by omega) haq
   exact WW.ret ⟨.inl rfl,_,gRES,by rw [hR];rfl,_,by rw [hR];exact t2.trans tf⟩
end
end Go.Proofs.YthblcmnhiccnhaaGreat


namespace Go.Proofs.YthblcmnhiccnhaaGreat
open Go Go.Abs

def CaS.erase (x:CaS):CaS:={ x with s:=x.s.eraS x.s.ks.cur }
def CaS.addK (x:CaS):CaS:={ x with s:=x.s.addS }
def CaS.forget (md:Bool)(x:CaS):Int×CaS:=if x.comE md≠0 then (x.comE md,x.com md) else (if (x.com md).s.pw.can then 0 else 7,(x.com md).erase)
def CaS.finish (md:Bool)(x:CaS):Int×CaS:=if x.s.ks.epochs.length < 2 then (0,x) else if (x.empty md).1≠0 then x.empty md else (x.empty md).2.forget md
def CaS.rotA (md:Bool)(x:CaS):Int×CaS:=if x.s.pw.can=false then (7,x.addK) else x.addK.forget md
def CaS.rotE (md:Bool)(x:CaS):Int×CaS:=if (x.empty md).1≠0 then x.empty md else (x.empty md).2.rotA md
def CaS.rotate (md:Bool)(x:CaS):Int×CaS:=if x.comE md≠0 then (x.comE md,x.com md) else (x.com md).rotE md
section
variable {md:Bool}{h:AHeap}{n:CaN}{x:CaS}{k:Nat}
theorem CaI.ksw (hx:CaI md x k)(hk:k≤1000000){ks':KsS}(h':KsOk ks' (k+1)):CaI md { x with s:={ x.s with pw:=x.s.pw.spend,ks:=ks' } } (k+1) :=
 ⟨⟨hx.ok.st.ksw hx.ks hk h',hx.ok.b,hx.ok.j,hx.ok.l,hx.ok.w,hx.ok.ok⟩,hx.dk.mono (by omega),hx.ag.mono (by omega),hx.an,hx.wl,h'⟩
theorem CaI.erase (hx:CaI md x k)(hk:k≤1000000):CaI md x.erase (k+1):=hx.ksw hk (hx.ks.era _)
theorem CaI.addK (hx:CaI md x k)(hk:k≤1000000):CaI md x.addK (k+1):=hx.ksw hk (hx.ks.add _)
theorem CaI.forget (hx:CaI md x k)(hk:k≤900000):CaI md (x.forget md).2 (k+51):=by
 rw [CaS.forget]
 split
 ·exact hx.com.mono (by omega)
 ·exact hx.com.erase (by omega)
theorem CaI.finish (hx:CaI md x k)(hk:k≤800000):CaI md (x.finish md).2 (k+68):=by
 rw [CaS.finish]
 split
 ·exact hx.mono (by omega)
 ·split
  ·exact hx.empty.mono (by omega)
  ·exact hx.empty.forget (by omega)
theorem CaI.rotate (hx:CaI md x k)(hk:k≤800000):CaI md (x.rotate md).2 (k+119):=by
 rw [CaS.rotate]
 split
 ·exact hx.com.mono (by omega)
 ·rw [CaS.rotE]
  split
  ·exact hx.com.empty.mono (by omega)
  ·rw [CaS.rotA]
   split
   ·exact (hx.com.empty.addK (by omega)).mono (by omega)
   ·exact (hx.com.empty.addK (by omega)).forget (by omega)
set_option maxHeartbeats 4000000 in
theorem z7p (hg:CaG md h n x)(hw:CaW h n x)(hx:CaI md x k)(hk:k≤60000):AC Tryz.prog 129 [.ptr n.c 0 0] h (CaTR md h n (x.forget md).1 (x.forget md).2):=by
 refine AC.introW z87 (by simp) ?_
 unfold z3s;dsimp only [qQ,qR,qM,qG]
 have hR:x.forget md=if x.comE md≠0 then (x.comE md,x.com md) else (if (x.com md).s.pw.can then 0 else 7,(x.com md).erase):=rfl
 generalize x.forget md=R at *
 (refine go ?_)
 refine WL.callA rfl gM gSL (z1k hg hw hx (by omega)) ?_
 rintro _ h2 ⟨rfl,n2,t2⟩
 have hx2:=hx.com
 (refine go ?_)
 (refine WW.ifB rfl (fun hz1 => ?_) (fun hz1 => ?_))
 ·rw [if_pos hz1] at hR
  subst hR
  (refine go ?_)
  exact WW.ret ⟨.inl rfl,_,gRES,rfl,n2,t2⟩
 rw [if_neg (fun hh=>hh hz1)] at hR
 subst hR
 generalize x.com md=y at *
 rw [show n.c=n2.c from t2.mv.c.symm]
 have hc:=t2.w.g
 have hob:=t2.g.w.w.w
 simp only [wRow] at hob
 (repeat first | refine WL.go ?_ | refine WW.seq ?_ | refine WW.reg ?_ | refine WL.nil ?_ | refine WW.skip ?_ | refine WW.block ?_ | refine WW.exit ?_ | refine WW.condT rfl ?_ | refine WW.condF rfl ?_ | refine WL.gox ?_ | refine thenN ?_ | refine blkN ?_)
 refine WW.dregC 15 (by decide +kernel) ?_
 (repeat first | refine PW.go ?_ | refine PW.nil ?_)
 refine PW.call rfl gM gSL (z1r t2.g.w.w.ks) ?_
 (repeat first | refine PW.go ?_ | refine PW.nil ?_)
 refine RunL.call rfl gM gSL (zk8 t2.g.w hx2.ok.st.fit (by omega) y.s.ks.cur) ?_
 rintro _ h3 ⟨rfl,E,hE,g3,k3⟩
 have t3:=t2.trans (CaT.wE t2.g t2.w hE g3 k3)
 clear hc hob
 (repeat first | refine RunL.go ?_ | refine RunL.endL ?_ | refine thenN ?_ | refine blkN ?_)
 cases hcan:y.s.pw.can with
 | true =>
  (refine go ?_)
  exact WW.ret ⟨.inl rfl,_,gRES,rfl,_,t3⟩
 | false =>
  (refine go ?_)
  exact WW.ret ⟨.inl rfl,_,gRES,rfl,_,t3⟩
set_option maxHeartbeats 1000000 in
theorem zew (hg:CaG md h n x)(hw:CaW h n x)(hx:CaI md x k)(hk:k≤50000):AC Tryz.prog 79 [.ptr n.c 0 0] h (CaTR md h n (x.finish md).1 (x.finish md).2):=by
 refine AC.introW z85 (by simp) ?_
 unfold z3r;dsimp only [qQ,qR,qM,qG]
 have hR:x.finish md=if x.s.ks.epochs.length < 2 then (0,x) else if (x.empty md).1≠0 then x.empty md else (x.empty md).2.forget md:=rfl
 generalize x.finish md=R at *
 have hc:=hw.g
 have hob:=hg.w.w.w
 simp only [wRow] at hob
 (refine go ?_)
 refine WL.call rfl gM gSL (z8u hg.w.w.ks) ?_
 (refine go ?_)
 (refine WW.ifB rfl (fun hz1 => ?_) (fun hz1 => ?_))
 ·have hlt:x.s.ks.epochs.length < 2:=by first | omega | (simp at hz1;omega)
  rw [if_pos hlt] at hR
  subst hR
  (refine go ?_)
  exact WW.ret ⟨.inl rfl,_,gRES,rfl,n,CaT.refl hg hw⟩
 have hlt:¬ x.s.ks.epochs.length < 2:=by first | omega | (simp at hz1;omega)
 rw [if_neg hlt] at hR
 (refine go ?_)
 refine WL.callA rfl gM gSL (z94 hg hw hx (by omega)) ?_
 rintro _ h2 ⟨rfl,n2,t2⟩
 have hx2:=hx.empty
 clear hc hob
 generalize x.empty md=Y at *
 obtain ⟨e,y⟩:=Y
 dsimp only at *
 (refine go ?_)
 (refine WW.ifB rfl (fun hz2 => ?_) (fun hz2 => ?_))
 ·rw [if_pos hz2] at hR
  subst hR
  (refine go ?_)
  exact WW.ret ⟨.inl rfl,_,gRES,rfl,n2,t2⟩
 rw [if_neg (fun hh=>hh hz2)] at hR
 subst hR
 rw [show n.c=n2.c from t2.mv.c.symm]
 (refine go ?_)
 refine WL.callA rfl gM gSL (z7p t2.g t2.w hx2 (by omega)) ?_
 rintro _ h3 ⟨rfl,n3,t3⟩
 (refine go ?_)
 exact WW.ret ⟨.inl rfl,_,gRES,rfl,n3,t2.trans t3⟩
end
end Go.Proofs.YthblcmnhiccnhaaGreat


namespace Go.Proofs.YthblcmnhiccnhaaGreat
open Go Go.Abs

def optV:Option Bs→AV
 | none => .nils
 | some b => .imm 1 (b.map encB)
def CaTd (md:Bool)(h:AHeap)(n:CaN)(e:Int)(o:Option Bs)(x':CaS)(r:AV)(h':AHeap):Prop:=r = .agg [.int .i64 e,optV o]∧∃ n',CaT md h n h' n' x'
structure CaC (md:Bool)(h h2:AHeap)(n:CaN)(T:Nat)(hc:AHeap)(nc:CaN)(xc:CaS):Prop where
 l:h.next≤T∧T < h2.next
 o:∀ id,n.w.nm md id∨n.own id→id < h.next
 k:Kp (fun _=>False) h h2
 t:CaT md h2 n hc nc xc
 b:BoxAt hc T (.mem 2 [[.int .i64 0,.nils]])
section
variable {md:Bool}{h h2 hc h':AHeap}{n nc n':CaN}{x xc x':CaS}{T:Nat}
theorem CaC.start (hg:CaG md h n x)(hw:CaW h n x)(k:Kp (fun _=>False) h h2)(hT:h.next≤T)(hb:BoxAt h2 T (.mem 2 [[.int .i64 0,.nils]])):CaC md h h2 n T h2 n x :=
 ⟨⟨hT,hb.u.1⟩,fun id hi=>hi.elim (fun q=>(hg.w.us _ q).1) (hg.lt id),k,CaT.refl (hg.new k) (hw.kp hg k (fun h=>h)),hb⟩
theorem CaC.off (c:CaC md h h2 n T hc nc xc)(id:Nat)(hi:nc.w.nm md id∨nc.own id):id≠T:=by
 have hl:=c.l
 rcases hi with hi | hi
 ·rcases c.t.mv.w id hi with q | q
  ·have:=c.o id (.inl q);omega
  ·omega
 ·rcases c.t.mv.o id hi with q | q
  ·have:=c.o id (.inr q);omega
  ·omega
theorem CaC.step (c:CaC md h h2 n T hc nc xc)(u:CaT md hc nc h' n' x'):CaC md h h2 n T h' n' x' :=
 ⟨c.l,c.o,c.k,c.t.trans u,u.keep c.b (fun q=>c.off _ (.inl q) rfl) (fun q=>c.off _ (.inr q) rfl)⟩
theorem CaC.new (c:CaC md h h2 n T hc nc xc)(k:Kp (fun _=>False) hc h'):CaC md h h2 n T h' nc xc:=⟨c.l,c.o,c.k,c.t.new k,c.b.kp k (fun h=>h)⟩
theorem CaC.fin (c:CaC md h h2 n T hc nc xc)(Y:AObj):CaT md h n (hc.set T (some Y)) nc xc:=by
 have kt:Kp (fun id=>id=T) hc (hc.set T (some Y)):=Kp.cvt rfl rfl fun id hi=>z1 hi rfl
 have hl:=c.l
 have t:=CaT.of c.k c.t
 exact ⟨t.g.kp kt (fun id hi e=>c.off id (.inl hi) e) (fun id hi e=>c.off id (.inr hi) e),t.w.kp t.g kt (fun e=>c.off _ (.inr (.inl rfl)) e),t.mv,t.ow,t.kp.trans2 kt fun id e => .inr (by omega)⟩
end
def CaS.used (x:CaS)(i:Nat):CaS:={ x with ag:=x.ag.touch i }
def CaS.frN (x:CaS):Nat:=(freeI x).toNat
def CaS.slN (x:CaS)(lba:Int):Nat:=(ixF (slotP lba) x.now).toNat
def CaS.readD (md:Bool)(x:CaS)(lba:Int):Int×Option Bs×CaS :=
 if freeI x < 0∨x.j=100 then (0,some (x.s.dk.block lba),x)
 else if x.layE≠0 then (x.layE,none,x.layX md x.frN lba (x.s.dk.block lba))
 else (0,some (x.s.dk.block lba),(x.layX md x.frN lba (x.s.dk.block lba)).puts x.frN (x.layF md x.frN lba (x.s.dk.block lba) false))
def CaS.readO (md:Bool)(x:CaS)(lba:Int):Int×Option Bs×CaS :=
 if 0≤ixF (slotP lba) x.now then
  (if x.valE md (x.slN lba)≠0 then (x.valE md (x.slN lba),none,x.valX md (x.slN lba)) else (0,some (x.valB md (x.slN lba)),(x.valX md (x.slN lba)).used (x.slN lba)))
 else if x.s.pw.gone then (7,none,x)
 else x.readD md lba
def zeroL (lba:Int):Lf:=⟨2,true,lba,0,0,0,(0,0)⟩
def CaS.writeO (md:Bool)(x:CaS)(lba:Int)(d:Bs):Int×CaS :=
 if (x.room md).1≠0 then x.room md
 else if (x.room md).2.layE≠0 then ((x.room md).2.layE,(x.room md).2.layX md (x.room md).2.frN lba d)
 else (0,((x.room md).2.layX md (x.room md).2.frN lba d).puts (x.room md).2.frN ((x.room md).2.layF md (x.room md).2.frN lba d true))
def CaS.discO (md:Bool)(x:CaS)(lba:Int):Int×CaS :=
 if (x.room md).1≠0 then x.room md else (0,(x.room md).2.puts (x.room md).2.frN (zeroL lba))
section
variable {md:Bool}{x:CaS}{k f:Nat}{lba:Int}{d:Bs}
theorem zj5 {dk:DkS}{kd:Nat}(h:DkOk dk kd)(hl:0≤lba∧lba < 32):(dk.block lba).length=32:=by
 have key:∀ (l:List Wr) (b:Bs),b.length=32→(∀ o∈l,o.2.length=32)→(l.foldl (fun b o=>if o.1=lba then o.2 else b) b).length=32:=by
  intro l
  induction l with
  | nil => intro b hb _; exact hb
  | cons o r ih =>
   intro b hb ho
   refine ih _ ?_ fun p hp=>ho p (by simp [hp])
   show List.length (if o.1=lba then o.2 else b)=32
   split
   ·exact ho o (by simp)
   ·exact hb
 refine key _ _ ?_ fun o ho=>(h.wv o ho).2
 have hll:=h.ll
 have hi:lba.toNat < dk.lasts.length:=by omega
 rw [List.getD_eq_getElem?_getD,List.getElem?_eq_getElem hi]
 exact h.lb _ (List.getElem_mem hi)
theorem zcg {s:AgS}{i:Nat}:∀ y∈(s.touch i).arr,y=i∨y∈s.arr:=fun y hy=>by
 have h4:=(z90 (last:=(s.drop i).last.set i ((s.drop i).ticks+1)) (s.drop i).arr.length ((s.drop i).arr++[i]) (s.drop i).arr.length (by simp)).2 y hy
 rcases List.mem_append.1 h4 with h4 | h4
 ·exact .inr (zm6 y h4)
 ·exact .inl (List.mem_singleton.1 h4)
theorem CaI.used (h:CaI md x k){i:Nat}(hi:i < x.now.length):CaI md (x.used i) (k+1):=by
 have hn:=h.n16
 refine ⟨⟨h.ok.st.mono (by omega),h.ok.b,h.ok.j,h.ok.l,h.ok.w,h.ok.ok⟩,h.dk.mono (by omega),h.ag.touch (by omega),fun y hy => ?_,h.wl,h.ks.mono (by omega)⟩
 rcases zcg y hy with rfl | hy
 ·exact hi
 ·exact h.an y hy
theorem CaI.putA (h:CaI md x k){l:Lf}(hf:f < x.now.length)(hl:l.Wf)(hi:zq l f=true):CaI md (x.putA f l) (k+1):=by
 have hn:=h.n16
 have hlen:(x.putA f l).now.length=x.now.length:=List.length_set ..
 refine ⟨⟨h.ok.st.mono (by omega),h.ok.b,h.ok.j,by rw [hlen];exact h.ok.l,fun y hy => ?_,zes _ _ 0 h.ok.ok (by rw [Nat.zero_add];exact hi)⟩,h.dk.mono (by omega),h.ag.touch (by omega),fun y hy => ?_,by rw [hlen];exact h.wl,h.ks.mono (by omega)⟩
 ·rcases List.mem_or_eq_of_mem_set hy with hy | rfl
  ·exact h.ok.w y hy
  ·exact hl
 ·rw [hlen]
  rcases zcg y hy with rfl | hy
  ·exact hf
  ·exact h.an y hy
theorem CaI.puts (h:CaI md x k){l:Lf}(hf:f < x.now.length)(hl:l.Wf)(hi:zq l f=true):CaI md (x.puts f l) (k+1):=by
 rw [CaS.puts]
 split
 ·rename_i hs
  have:=of_decide_eq_true hs
  exact (h.putA hf hl hi).drops (by rw [show (x.putA f l).now.length=x.now.length from List.length_set ..];exact this)
 ·exact h.putA hf hl hi
theorem WSt.layZ (h:CaI md x k)(hf:f < x.now.length)(hd:d.length=32):WSt md (x.layZ md f lba d) (k+1):=by
 have hs:=h.ok.st
 have hg:=z8 hs.fit.g
 have hll:=h.ok.l
 have hL:=zj1 md x.s.L x.s.key (x.layN f) (putB lba 2) d
 have hl2:=hs.fit.ll
 have hp:(x.layP md f lba d).1.length=32:=(z7k _ _ _ _ _ _).trans hd
 refine ⟨⟨hs.fit.g,hs.fit.pw.spend,hs.fit.sd.write (o:=((f:Int)*32,(x.layP md f lba d).1)) ⟨by dsimp only;omega,?_⟩ _,Nat.le_succ_of_le hs.fit.ss,?_⟩,hs.cur,fun e=>(hs.seq e).sealL _ _ _ _,zj2 hs.dat (by simp only [newI];omega),hs.ct.mono (by omega)⟩
 ·rw [zj hs.fit.g,hp];dsimp only;omega
 ·show (x.layM md f lba d).length≤k+1
  rw [CaS.layM];omega
theorem CaI.layX (h:CaI md x k)(hf:f < x.now.length)(hd:d.length=32):CaI md (x.layX md f lba d) (k+1):=by
 rw [CaS.layX]
 split
 ·exact h.mono (by omega)
 ·rename_i hj
  have:=h.ok.j
  exact ⟨⟨WSt.layZ h hf hd,h.ok.b,by show x.j+1≤100;omega,h.ok.l,h.ok.w,h.ok.ok⟩,h.dk.mono (by omega),h.ag.mono (by omega),h.an,h.wl,h.ks.mono (by omega)⟩
theorem zex:(x.layX md f lba d).now=x.now∧(x.layX md f lba d).was=x.was∧(x.layX md f lba d).ag=x.ag∧(x.layX md f lba d).bad=x.bad∧(x.layX md f lba d).boot=x.boot:=by
 rw [CaS.layX];split <;> exact ⟨rfl,rfl,rfl,rfl,rfl⟩
theorem zts (h:CaI md x k)(hk:k≤900000){dirty:Bool}(hj:x.j≠100)(hf:f < x.now.length)(hl:0≤lba∧lba < 32):(x.layF md f lba d dirty).Wf∧zq (x.layF md f lba d dirty) f=true:=by
 have hn:=h.n16
 have hb:=h.ok.b
 have hj2:=h.ok.j
 have hcur:=h.ok.st.cur.2
 have hp:=h.ks.pos
 have hw:Wfp (x.layP md f lba d).2:=zrm (Nat.le_trans h.ok.st.fit.ll (by omega)) _ _ _ _
 refine ⟨⟨by show (-9223372036854775808:Int)≤1∧(1:Int)≤_;omega,by show -9223372036854775808≤lba∧lba≤_;omega,hcur,by show (0:Int)≤((f:Nat):Int)∧((f:Nat):Int) < _;omega,?_,hw.1,hw.2⟩,?_⟩
 ·show 0≤x.boot*4294967296+((x.j+1:Nat):Int)∧x.boot*4294967296+((x.j+1:Nat):Int) < 18446744073709551616;omega
 ·rw [zq,if_neg (by omega),if_neg (by show ¬ (1:Int)=0;omega),if_neg (by show ¬ (1:Int)=2;omega),if_pos (show (x.layF md f lba d dirty).k=1 from rfl)]
  simp only [Bool.and_eq_true,decide_eq_true_eq,lbaOk]
  exact ⟨⟨⟨hl.1,hl.2⟩,rfl⟩,hp⟩
theorem zuu (h:x.layE=0):x.j≠100:=fun e=>by rw [CaS.layE,if_pos e] at h;cases h
theorem CaI.layPut (h:CaI md x k)(hk:k≤900000){dirty:Bool}(he:x.layE=0)(hf:f < x.now.length)(hd:d.length=32)(hl:0≤lba∧lba < 32):CaI md ((x.layX md f lba d).puts f (x.layF md f lba d dirty)) (k+2):=by
 obtain ⟨h1,h2⟩:=zts (d:=d) (dirty:=dirty) h hk (zuu he) hf hl
 exact (h.layX hf hd).puts (by rw [zex.1];exact hf) h1 h2
theorem zs1 {f:Nat}(hf:f < 16)(hl:0≤lba∧lba < 32):(zeroL lba).Wf∧zq (zeroL lba) f=true:=by
 refine ⟨⟨by show (-9223372036854775808:Int)≤2∧(2:Int)≤_;omega,by show -9223372036854775808≤lba∧lba≤_;omega,by show (0:Int)≤0∧(0:Int) < _;omega,by show (0:Int)≤0∧(0:Int) < _;omega,by show (0:Int)≤0∧(0:Int) < _;omega,by show (0:Int)≤0∧(0:Int) < _;omega,by show (0:Int)≤0∧(0:Int) < _;omega⟩,?_⟩
 rw [zq,if_neg (by omega),if_neg (by show ¬ (2:Int)=0;omega),if_pos (show (zeroL lba).k=2 from rfl)]
 simp [zeroL,lbaOk,hl,lf0]
theorem zgq (h:0≤freeI x):freeI x=x.frN:=by unfold CaS.frN;omega
theorem z6z (h:0≤freeI x):x.frN < x.now.length:=zm7 (zgq h)
theorem zj6 (p:Lf→Bool)(l:List Lf):ixF p l = -1∨(0≤ixF p l∧(ixF p l).toNat < l.length∧ixF p l=((ixF p l).toNat:Int)):=by
 rw [ixF];split
 ·exact .inr ⟨by omega,by omega,by omega⟩
 ·exact .inl rfl
theorem ztt {i:Nat}(hi:i < x.now.length)(h1:(x.now.getD i lf0).k=0)(h2:(x.was.getD i lf0).k=0):0≤freeI x:=by
 have:(List.range x.now.length).findIdx (freeP x) < (List.range x.now.length).length:=List.findIdx_lt_length_of_exists ⟨i,by simpa using hi,by simp only [freeP,h1,h2];decide⟩
 rw [List.length_range] at this
 rw [freeI,if_pos this]
 omega
theorem zm8 (hx:CaI md x k){i:Nat}(hi:i < x.now.length)(h:(x.ev2 md i).1=0):0≤freeI (x.ev2 md i).2:=by
 have hw:((x.drops i).com md).was=(x.drops i).now:=by simp only [CaS.com];exact if_pos h
 have hn:((x.drops i).com md).now=x.now.set i lf0:=rfl
 have h0:(x.now.set i lf0).getD i lf0=lf0:=by rw [List.getD_eq_getElem?_getD,List.getElem?_set_self hi];rfl
 refine ztt (x:=(x.drops i).com md) (i:=i) (by rw [hn,List.length_set];exact hi) (by rw [hn,h0];rfl) (by rw [hw,show (x.drops i).now=x.now.set i lf0 from rfl,h0];rfl)
theorem z7q (hx:CaI md x k)(h:(x.room md).1=0):0≤freeI (x.room md).2:=by
 rw [CaS.room] at h ⊢
 split at h
 ·rename_i h1;rw [if_pos h1];exact h1
 ·rename_i h1
  rw [if_neg h1]
  split at h
  ·rename_i h2;exact absurd h h2
  ·rename_i h2
   rw [if_neg h2]
   split at h
   ·rename_i h3;rw [if_pos h3];exact h3
   ·rename_i h3
    rw [if_neg h3]
    have hy:=hx.com
    generalize x.com md=y at *
    have hi:=hy.head
    rw [CaS.evict] at h ⊢
    generalize y.ag.arr.headD 0=i at *
    have hs:=hy.spillX i
    have hs1:(y.spillX md i).now.length=y.now.length:=by rw [z2d.1]
    rw [CaS.ev1] at h ⊢
    split at h
    ·rename_i h4;rw [if_pos h4];exact zm8 hy hi h
    ·rename_i h4
     rw [if_neg h4]
     split at h
     ·rename_i h5;exact absurd h h5
     ·rename_i h5
      rw [if_neg h5]
      split at h
      ·cases h
      ·rename_i h6
       rw [if_neg h6]
       exact zm8 hs.out (by show i < (y.spillX md i).now.length;omega) h
theorem CaI.writeO (h:CaI md x k)(hk:k≤800000)(hd:d.length=32)(hl:0≤lba∧lba < 32):CaI md (x.writeO md lba d).2 (k+104):=by
 have hr:=h.room
 rw [CaS.writeO]
 split
 ·exact hr.mono (by omega)
 ·rename_i h1
  have hf:=z7q h (by simpa using h1)
  split
  ·exact (hr.layX (z6z hf) hd).mono (by omega)
  ·rename_i h2
   exact hr.layPut (by omega) (by simpa using h2) (z6z hf) hd hl
theorem CaI.discO (h:CaI md x k)(hl:0≤lba∧lba < 32):CaI md (x.discO md lba).2 (k+103):=by
 have hr:=h.room
 have hn:=hr.n16
 rw [CaS.discO]
 split
 ·exact hr.mono (by omega)
 ·rename_i h1
  have hf:=z6z (z7q h (by simpa using h1))
  obtain ⟨h3,h4⟩:=zs1 (f:=(x.room md).2.frN) (by omega) hl
  exact hr.puts hf h3 h4
theorem CaI.readO (h:CaI md x k)(hk:k≤800000)(hl:0≤lba∧lba < 32):CaI md (x.readO md lba).2.2 (k+2):=by
 rw [CaS.readO]
 split
 ·rename_i h1
  have hi:x.slN lba < x.now.length:=by
   rcases zj6 (slotP lba) x.now with e | e
   ·omega
   ·exact e.2.1
  split
  ·exact (h.valX _).mono (by omega)
  ·exact ((h.valX _).used (by rw [zj4.2.1];exact hi)).mono (by omega)
 ·split
  ·exact h.mono (by omega)
  ·have hb:=zj5 h.dk hl
   rw [CaS.readD]
   split
   ·exact h.mono (by omega)
   ·rename_i h3
    have hf:x.frN < x.now.length:=z6z (by omega)
    split
    ·exact (h.layX hf hb).mono (by omega)
    ·rename_i h4
     exact h.layPut (by omega) (by simpa using h4) hf hb hl
end
end Go.Proofs.YthblcmnhiccnhaaGreat


namespace Go.Proofs.YthblcmnhiccnhaaGreat
open Go Go.Abs

theorem zey {md:Bool}{h:AHeap}{n:CaN}{x:CaS}{k:Nat}(hg:CaG md h n x)(hw:CaW h n x)(hx:CaI md x k)(hk:k≤80000){f:Nat}(hf:f < x.now.length)(l:Lf) :
  AC Tryz.prog 136 [.ptr n.c 0 0,.int .i64 f,.agg (encL l)] h (fun r h'=>r = .tup []∧∃ n',CaT md h n h' n' (x.puts f l)) :=
 (zk7 hg hw hx.ag (by omega) hf hx.n16.2 l).mono fun r h' ⟨h1,E,hE,g,w,kp⟩=>⟨h1,_,CaT.sE hE g w kp⟩
theorem zqm {md:Bool}{h:AHeap}{n:CaN}{x:CaS}{k:Nat}(hg:CaG md h n x)(hw:CaW h n x)(hx:CaI md x k)(hk:k≤80000){i:Nat}(hi:i < x.now.length) :
  AC Tryz.prog 132 [.ptr n.c 0 0,.int .i64 i] h (fun r h'=>r = .tup [valV (x.valE md i) (x.valB md i),.int .i64 (x.valE md i)]∧CaT md h n h' n (x.valX md i)) :=
 (z7n hg hx.ok.st hk i hi hx.ok.l (hx.lv.e i) (hx.lv.lba i)).mono fun r h' ⟨h1,h2,h3,h4⟩=>⟨h1,h2,h3 hw,.refl,fun _ => .inl,h4.mono fun _ _ e => .inr (.inl e)⟩
theorem zqn {md:Bool}{h:AHeap}{n:CaN}{x:CaS}{k:Nat}(hg:CaG md h n x)(hw:CaW h n x)(hx:CaI md x k)(hk:k≤80000){i:Nat}(hi:i < x.now.length) :
  AC Tryz.prog 78 [.ptr n.a 0 0,.int .i64 i] h (fun r h'=>r = .bool true∧∃ n',CaT md h n h' n' (x.used i)) :=
 (z6y hg.ag hx.ag (by omega) hg.dj.2.2.2.2.2.1 (x:=i) (by have:=hx.n16;omega)).mono fun r h' ⟨h1,E,hE1,hE2,A4,k3⟩ =>
  ⟨h1,_,CaT.sE (.inr hE1) (hg.age k3 A4 ⟨hE1,hE2⟩) (hw.age hg k3) (k3.mono fun id _ e=>e.elim (fun e => .inr (.inr (.inl e))) fun e=>e.elim (fun e => .inr (.inr (.inr (.inl e)))) fun e => .inr (.inr (.inr (.inr (.inr e)))))⟩
section
variable {md:Bool}{h:AHeap}{n:CaN}{x:CaS}{k:Nat}
set_option maxHeartbeats 4000000 in
theorem zhy (hg:CaG md h n x)(hw:CaW h n x)(hx:CaI md x k)(hk:k≤60000)(lba:Int)(hl:0≤lba∧lba < 32)(u:Bs) :
  AC Tryz.prog 81 [.ptr n.c 0 0,.agg [.int .i64 1,.int .i64 lba,.imm 1 (u.map encB)]] h (CaTd md h n (x.readO md lba).1 (x.readO md lba).2.1 (x.readO md lba).2.2):=by
 have hn:=hx.n16
 refine AC.introW zaq (by simp) ?_
 unfold z4z;dsimp only [qQ,qR,qM,qG]
 have hR:x.readO md lba=if 0≤ixF (slotP lba) x.now then (if x.valE md (x.slN lba)≠0 then (x.valE md (x.slN lba),none,x.valX md (x.slN lba)) else (0,some (x.valB md (x.slN lba)),(x.valX md (x.slN lba)).used (x.slN lba))) else if x.s.pw.gone then (7,none,x) else x.readD md lba:=rfl
 have hix:=zj6 (slotP lba) x.now
 rw [show (ixF (slotP lba) x.now).toNat=x.slN lba from rfl] at hix
 generalize x.readO md lba=R at *
 generalize hiX:ixF (slotP lba) x.now=X at *
 (repeat first | refine WW.seq ?_ | refine WW.reg ?_ | refine WL.nil ?_ | refine WW.skip ?_ | refine WW.block ?_ | refine thenN ?_ | refine blkN ?_);iterate 2 (refine WL.go ?_)
 refine WL.live fun hl9 => ?_
 refine WL.named (fun h2=>CaC md h h2 n (h.next+1) h2 n x∧BoxAt h2 h.next (.mem 3 [[.int .i64 1,.int .i64 lba,.imm 1 (u.map encB)]])) ⟨CaC.start hg hw (by repeat first | exact Kp.refl | assumption | with_reducible refine Kp.put ?_ (by omega) _ | with_reducible refine Kp.setN ?_ (by omega) _ | with_reducible refine Kp.keep ?_ _ | with_reducible refine Kp.setW ?_ (by rfl) _) (by omega) ⟨hl9 _ _ gH,gH⟩,⟨hl9 _ _ gH,gH⟩⟩ ?_
 clear hl9
 rintro h2 ⟨c2,b3⟩
 have r3:=b3.g
 have r4:=c2.b.g
 (refine go ?_)
 refine WL.call rfl gM gSL (zal c2.t.g (by omega) lba) ?_
 rw [hiX]
 (refine go ?_)
 (refine WW.ifB rfl (fun hz1 => ?_) (fun hz1 => ?_))
 ·have hXi:X=(x.slN lba:Int):=by omega
  have hi:x.slN lba < x.now.length:=by omega
  rw [if_pos hz1] at hR
  rw [hXi]
  generalize x.slN lba=i at *
  (refine go ?_)
  refine WL.callA rfl gM gSL (zqm c2.t.g c2.t.w hx (by omega) hi) ?_
  rintro _ h3 ⟨rfl,t3⟩
  have c3:=c2.step t3
  have r4:=c3.b.g
  by_cases he:x.valE md i=0
  ·rw [if_neg (by rw [he];simp)] at hR
   subst hR
   rw [valV,he,if_pos rfl]
   have hc3:=t3.w.g
   (refine go ?_)
   refine WL.callA rfl gM gSL (zqn t3.g t3.w (hx.valX i) (by omega) (i:=i) (by rw [zj4.2.1];exact hi)) ?_
   rintro _ h4 ⟨rfl,n4,t4⟩
   have c4:=c3.step t4
   have r4:=c4.b.g
   (refine go ?_)
   exact WW.ret ⟨.inl rfl,[.agg [.int .i64 0,.imm 1 ((x.valB md i).map encB)]],gRES,rfl,n4,c4.fin _⟩
  ·rw [if_pos he] at hR
   subst hR
   rw [valV,if_neg he]
   (refine go ?_)
   (refine WW.ifB rfl (fun hz2 => ?_) (fun hz2 => ?_))
   ·(refine go ?_)
    exact WW.ret ⟨.inl rfl,[.agg [.int .i64 (x.valE md i),.nils]],gRES,rfl,n,c3.fin _⟩
   ·exact absurd hz2 he
 rw [if_neg (by omega)] at hR
 have hob:=c2.t.g.w.w.w
 simp only [wRow] at hob
 have hc:=c2.t.w.g
 (repeat first | refine WL.go ?_ | refine WW.seq ?_ | refine WW.reg ?_ | refine WL.nil ?_ | refine WW.skip ?_ | refine WW.block ?_ | refine WW.exit ?_ | refine WW.condT rfl ?_ | refine WW.condF rfl ?_ | refine WL.gox ?_ | refine thenN ?_ | refine blkN ?_)
 refine WW.dregX [] [] [] gN (by decide +kernel) ?_
 (refine go ?_)
 refine DW.callS rfl gM gSL rfl (zll c2.t.g.w.w.dk (Nat.le_trans hx.dk.w (by omega)) (fun b hb=>by have:=hx.dk.lb b hb;omega) (fun o ho=>by have:=(hx.dk.wv o ho).2;omega) lba) ?_
 rw [show (decide (0≤lba)&&decide (lba < 32))=true by simp;omega,Bool.true_and]
 cases hgo:x.s.pw.gone with
 | true =>
  rw [hgo,if_pos rfl] at hR
  subst hR
  (refine go ?_)
  exact WW.ret ⟨.inl rfl,[.agg [.int .i64 7,.nils]],gRES,rfl,n,c2.fin _⟩
 | false =>
 rw [hgo,if_neg (by simp)] at hR
 simp only [Bool.not_false,if_true]
 have hbl:=zj5 hx.dk hl
 rw [CaS.readD] at hR
 generalize x.s.dk.block lba=d at *
 (refine go ?_)
 refine WL.call rfl gM gSL (z2e c2.t.g hn.2 hx.wl) ?_
 have hjl:=hx.ok.j
 have hend:freeI x < 0∨x.j=100→CaTd md h n R.1 R.2.1 R.2.2 (.agg [.int .i64 0,.imm 1 (d.map encB)]) (h2.set (h.next+1) (some (.mem 2 [[.int .i64 0,.imm 1 (d.map encB)]]))):=fun e=>by
  rw [if_pos e] at hR
  subst hR
  exact ⟨rfl,n,c2.fin _⟩
 (refine go ?_)
 (refine WL.spB rfl (fun hz3 => ?_) (fun hz3 => ?_))
 ·have hE:=hend (.inl hz3)
  (refine go ?_)
  exact WW.ret ⟨.inl rfl,[.agg [.int .i64 0,.imm 1 (d.map encB)]],gRES,hE⟩
 (refine go ?_)
 refine WL.call rfl gM gSL (z5g c2.t.g.mr.g hjl) ?_
 (refine go ?_)
 (refine WW.ifB rfl (fun hz4 => ?_) (fun hz4 => ?_))
 ·have hE:=hend (.inr (by omega))
  (refine go ?_)
  exact WW.ret ⟨.inl rfl,[.agg [.int .i64 0,.imm 1 (d.map encB)]],gRES,hE⟩
 rw [if_neg (by omega)] at hR
 have hf:freeI x=x.frN:=zgq (by omega)
 have hfl:=z6z (x:=x) (by omega)
 generalize x.frN=f at *
 clear hend hc hob
 (refine go ?_)
 refine WL.callA rfl gM gSL (zan c2.t.g c2.t.w hx (by omega) hf lba hl d hbl false) ?_
 rintro _ h3 ⟨rfl,t3⟩
 have c3:=c2.step t3
 have hx3:=hx.layX (md:=md) (f:=f) (lba:=lba) hfl hbl
 rw [CaS.layR]
 by_cases he:x.layE=0
 ·rw [he,if_neg (by simp)] at hR
  subst hR
  rw [he,if_pos rfl,if_pos rfl]
  have hf3:f < (x.layX md f lba d).now.length:=by rw [zex.1];exact hfl
  generalize x.layF md f lba d false=L at *
  generalize x.layX md f lba d=y at *
  (refine go ?_)
  refine WL.named (fun h4=>CaC md h h2 n (h.next+1) h4 n y) (c3.new (by repeat first | exact Kp.refl | assumption | with_reducible refine Kp.put ?_ (by omega) _ | with_reducible refine Kp.setN ?_ (by omega) _ | with_reducible refine Kp.keep ?_ _ | with_reducible refine Kp.setW ?_ (by rfl) _)) ?_
  intro h4 c4
  refine WL.callA rfl gM gSL (zey c4.t.g c4.t.w hx3 (by omega) hf3 L) ?_
  rintro _ h5 ⟨rfl,n5,t5⟩
  have c5:=c4.step t5
  have r4:=c5.b.g
  (refine go ?_)
  exact WW.ret ⟨.inl rfl,[.agg [.int .i64 0,.imm 1 (d.map encB)]],gRES,rfl,n5,c5.fin _⟩
 ·rw [if_pos he] at hR
  subst hR
  rw [if_neg he,if_neg he]
  have r4:=c3.b.g
  have r4l:=c3.b.u.1
  (refine go ?_)
  (refine WW.ifB rfl (fun hz5 => ?_) (fun hz5 => ?_))
  ·(refine go ?_)
   exact WW.ret ⟨.inl rfl,[.agg [.int .i64 x.layE,.nils]],gRES,rfl,n,(c3.new (by repeat first | exact Kp.refl | assumption | with_reducible refine Kp.put ?_ (by omega) _ | with_reducible refine Kp.setN ?_ (by omega) _ | with_reducible refine Kp.keep ?_ _ | with_reducible refine Kp.setW ?_ (by rfl) _)).fin _⟩
  ·exact absurd hz5 he
set_option maxHeartbeats 4000000 in
theorem zgr (hg:CaG md h n x)(hw:CaW h n x)(hx:CaI md x k)(hk:k≤50000)(lba:Int)(hl:0≤lba∧lba < 32)(d:Bs)(hd:d.length=32) :
  AC Tryz.prog 82 [.ptr n.c 0 0,.agg [.int .i64 2,.int .i64 lba,.imm 1 (d.map encB)]] h (CaTd md h n (x.writeO md lba d).1 none (x.writeO md lba d).2):=by
 refine AC.introW z9b (by simp) ?_
 unfold z46;dsimp only [qQ,qR,qM,qG]
 have hR:x.writeO md lba d=if (x.room md).1≠0 then x.room md else if (x.room md).2.layE≠0 then ((x.room md).2.layE,(x.room md).2.layX md (x.room md).2.frN lba d) else (0,((x.room md).2.layX md (x.room md).2.frN lba d).puts (x.room md).2.frN ((x.room md).2.layF md (x.room md).2.frN lba d true)):=rfl
 generalize x.writeO md lba d=R at *
 (repeat first | refine WW.seq ?_ | refine WW.reg ?_ | refine WL.nil ?_ | refine WW.skip ?_ | refine WW.block ?_ | refine thenN ?_ | refine blkN ?_);iterate 2 (refine WL.go ?_)
 refine WL.live fun hl9 => ?_
 refine WL.named (fun h2=>CaC md h h2 n (h.next+1) h2 n x∧BoxAt h2 h.next (.mem 3 [[.int .i64 2,.int .i64 lba,.imm 1 (d.map encB)]])) ⟨CaC.start hg hw (by repeat first | exact Kp.refl | assumption | with_reducible refine Kp.put ?_ (by omega) _ | with_reducible refine Kp.setN ?_ (by omega) _ | with_reducible refine Kp.keep ?_ _ | with_reducible refine Kp.setW ?_ (by rfl) _) (by omega) ⟨hl9 _ _ gH,gH⟩,⟨hl9 _ _ gH,gH⟩⟩ ?_
 clear hl9
 rintro h2 ⟨c2,b3⟩
 have hnn:¬ n.w.nm md h.next:=fun q=>by have:=(hg.w.us _ q).1;omega
 have hno:¬ n.own h.next:=fun q=>by have:=hg.lt _ q;omega
 (refine go ?_)
 refine WL.callA rfl gM gSL (zam c2.t.g c2.t.w hx (by omega)) ?_
 rintro _ h3 ⟨rfl,n3,t3⟩
 have c3:=c2.step t3
 have b3:=t3.keep b3 hnn hno
 have hx3:=hx.room
 have hfr:=z7q hx
 generalize x.room md=Y at *
 obtain ⟨e,y⟩:=Y
 dsimp only at *
 have r3:=b3.g
 have r4:=c3.b.g
 (refine go ?_)
 (refine WW.ifB rfl (fun hz1 => ?_) (fun hz1 => ?_))
 ·rw [if_pos hz1] at hR
  subst hR
  (refine go ?_)
  exact WW.ret ⟨.inl rfl,[.agg [.int .i64 e,.nils]],gRES,rfl,n3,c3.fin _⟩
 rw [if_neg (fun hh=>hh hz1)] at hR
 have hfr:=hfr (by simpa using hz1)
 have hf:freeI y=y.frN:=zgq hfr
 have hfl:=z6z hfr
 generalize y.frN=f at *
 rw [show n.c=n3.c from t3.mv.c.symm]
 (refine go ?_)
 refine WL.callA rfl gM gSL (zan t3.g t3.w hx3 (by omega) hf lba hl d hd true) ?_
 rintro _ h4 ⟨rfl,t4⟩
 have c4:=c3.step t4
 have hx4:=hx3.layX (md:=md) (f:=f) (lba:=lba) hfl hd
 rw [CaS.layR]
 by_cases he:y.layE=0
 ·rw [he,if_neg (by simp)] at hR
  subst hR
  rw [he,if_pos rfl,if_pos rfl]
  have hf4:f < (y.layX md f lba d).now.length:=by rw [zex.1];exact hfl
  generalize y.layF md f lba d true=L at *
  generalize y.layX md f lba d=z at *
  clear r3 r4
  (refine go ?_)
  refine WL.named (fun h5=>CaC md h h2 n (h.next+1) h5 n3 z) (c4.new (by repeat first | exact Kp.refl | assumption | with_reducible refine Kp.put ?_ (by omega) _ | with_reducible refine Kp.setN ?_ (by omega) _ | with_reducible refine Kp.keep ?_ _ | with_reducible refine Kp.setW ?_ (by rfl) _)) ?_
  intro h5 c5
  refine WL.callA rfl gM gSL (zey c5.t.g c5.t.w hx4 (by omega) hf4 L) ?_
  rintro _ h6 ⟨rfl,n6,t6⟩
  have c6:=c5.step t6
  have r4:=c6.b.g
  (refine go ?_)
  exact WW.ret ⟨.inl rfl,[.agg [.int .i64 0,.nils]],gRES,rfl,n6,c6.fin _⟩
 ·rw [if_pos he] at hR
  subst hR
  rw [if_neg he,if_neg he]
  have r4:=c4.b.g
  have r4l:=c4.b.u.1
  (refine go ?_)
  (refine WW.ifB rfl (fun hz5 => ?_) (fun hz5 => ?_))
  ·(refine go ?_)
   exact WW.ret ⟨.inl rfl,[.agg [.int .i64 y.layE,.nils]],gRES,rfl,n3,(c4.new (by repeat first | exact Kp.refl | assumption | with_reducible refine Kp.put ?_ (by omega) _ | with_reducible refine Kp.setN ?_ (by omega) _ | with_reducible refine Kp.keep ?_ _ | with_reducible refine Kp.setW ?_ (by rfl) _)).fin _⟩
  ·exact absurd hz5 he
set_option maxHeartbeats 4000000 in
theorem zhz (hg:CaG md h n x)(hw:CaW h n x)(hx:CaI md x k)(hk:k≤50000)(lba:Int)(u:Bs) :
  AC Tryz.prog 84 [.ptr n.c 0 0,.agg [.int .i64 4,.int .i64 lba,.imm 1 (u.map encB)]] h (CaTd md h n (x.discO md lba).1 none (x.discO md lba).2):=by
 refine AC.introW z7t (by simp) ?_
 unfold z3i;dsimp only [qQ,qR,qM,qG]
 have hR:x.discO md lba=if (x.room md).1≠0 then x.room md else (0,(x.room md).2.puts (x.room md).2.frN (zeroL lba)):=rfl
 generalize x.discO md lba=R at *
 (repeat first | refine WW.seq ?_ | refine WW.reg ?_ | refine WL.nil ?_ | refine WW.skip ?_ | refine WW.block ?_ | refine thenN ?_ | refine blkN ?_);iterate 2 (refine WL.go ?_)
 refine WL.live fun hl9 => ?_
 refine WL.named (fun h2=>CaC md h h2 n (h.next+1) h2 n x∧BoxAt h2 h.next (.mem 3 [[.int .i64 4,.int .i64 lba,.imm 1 (u.map encB)]])) ⟨CaC.start hg hw (by repeat first | exact Kp.refl | assumption | with_reducible refine Kp.put ?_ (by omega) _ | with_reducible refine Kp.setN ?_ (by omega) _ | with_reducible refine Kp.keep ?_ _ | with_reducible refine Kp.setW ?_ (by rfl) _) (by omega) ⟨hl9 _ _ gH,gH⟩,⟨hl9 _ _ gH,gH⟩⟩ ?_
 clear hl9
 rintro h2 ⟨c2,b3⟩
 have hnn:¬ n.w.nm md h.next:=fun q=>by have:=(hg.w.us _ q).1;omega
 have hno:¬ n.own h.next:=fun q=>by have:=hg.lt _ q;omega
 (refine go ?_)
 refine WL.callA rfl gM gSL (zam c2.t.g c2.t.w hx (by omega)) ?_
 rintro _ h3 ⟨rfl,n3,t3⟩
 have c3:=c2.step t3
 have b3:=t3.keep b3 hnn hno
 have hx3:=hx.room
 have hfr:=z7q hx
 generalize x.room md=Y at *
 obtain ⟨e,y⟩:=Y
 dsimp only at *
 have r3:=b3.g
 have r4:=c3.b.g
 (refine go ?_)
 (refine WW.ifB rfl (fun hz1 => ?_) (fun hz1 => ?_))
 ·rw [if_pos hz1] at hR
  subst hR
  (refine go ?_)
  exact WW.ret ⟨.inl rfl,[.agg [.int .i64 e,.nils]],gRES,rfl,n3,c3.fin _⟩
 rw [if_neg (fun hh=>hh hz1)] at hR
 have hfr:=hfr (by simpa using hz1)
 have hf:freeI y=y.frN:=zgq hfr
 have hfl:=z6z hfr
 generalize y.frN=f at *
 subst hR
 rw [show n.c=n3.c from t3.mv.c.symm]
 (repeat first | refine WL.go ?_ | refine WW.seq ?_ | refine WW.reg ?_ | refine WL.nil ?_ | refine WW.skip ?_ | refine WW.block ?_ | refine WW.exit ?_ | refine WW.condT rfl ?_ | refine WW.condF rfl ?_ | refine WL.gox ?_ | refine thenN ?_ | refine blkN ?_)
 refine WW.dregC 6 (by decide +kernel) ?_
 (repeat first | refine PW.go ?_ | refine PW.nil ?_)
 refine PW.call rfl gM gSL (z2e t3.g hx3.n16.2 hx3.wl) ?_
 (repeat first | refine PW.go ?_ | refine PW.nil ?_)
 rw [hf]
 refine RunL.call rfl gM (vs:=[.ptr n3.c 0 0,.int .i64 f,.agg (encL (zeroL lba))]) gSL (zey t3.g t3.w hx3 (by omega) hfl (zeroL lba)) ?_
 rintro _ h4 ⟨rfl,n4,t4⟩
 have c4:=c3.step t4
 have r4:=c4.b.g
 (repeat first | refine RunL.go ?_ | refine RunL.endL ?_ | refine thenN ?_ | refine blkN ?_)
 (refine go ?_)
 exact WW.ret ⟨.inl rfl,[.agg [.int .i64 0,.nils]],gRES,rfl,n4,c4.fin _⟩
set_option maxHeartbeats 2000000 in
theorem zgs (hg:CaG md h n x)(hw:CaW h n x)(hx:CaI md x k)(hk:k≤50000)(lba:Int)(u:Bs) :
  AC Tryz.prog 83 [.ptr n.c 0 0,.agg [.int .i64 3,.int .i64 lba,.imm 1 (u.map encB)]] h (CaTd md h n (x.comE md) none (x.com md)):=by
 refine AC.introW z9c (by simp) ?_
 unfold z47;dsimp only [qQ,qR,qM,qG]
 (repeat first | refine WW.seq ?_ | refine WW.reg ?_ | refine WL.nil ?_ | refine WW.skip ?_ | refine WW.block ?_ | refine thenN ?_ | refine blkN ?_);iterate 2 (refine WL.go ?_)
 refine WL.live fun hl9 => ?_
 refine WL.named (fun h2=>CaC md h h2 n (h.next+1) h2 n x) (CaC.start hg hw (by repeat first | exact Kp.refl | assumption | with_reducible refine Kp.put ?_ (by omega) _ | with_reducible refine Kp.setN ?_ (by omega) _ | with_reducible refine Kp.keep ?_ _ | with_reducible refine Kp.setW ?_ (by rfl) _) (by omega) ⟨hl9 _ _ gH,gH⟩) ?_
 clear hl9
 rintro h2 c2
 (refine go ?_)
 refine WL.callA rfl gM gSL (z1k c2.t.g c2.t.w hx (by omega)) ?_
 rintro _ h3 ⟨rfl,n3,t3⟩
 have c3:=c2.step t3
 have r4:=c3.b.g
 (refine go ?_)
 exact WW.ret ⟨.inl rfl,[.agg [.int .i64 (x.comE md),.nils]],gRES,rfl,n3,c3.fin _⟩
set_option maxHeartbeats 4000000 in
theorem zez (hg:CaG md h n x)(hw:CaW h n x)(hx:CaI md x k)(hk:k≤50000)(lba:Int)(u:Bs) :
  AC Tryz.prog 85 [.ptr n.c 0 0,.agg [.int .i64 5,.int .i64 lba,.imm 1 (u.map encB)]] h (CaTd md h n (x.rotate md).1 none (x.rotate md).2):=by
 refine AC.introW z88 (by simp) ?_
 unfold z3u;dsimp only [qQ,qR,qM,qG]
 have hR:x.rotate md=if x.comE md≠0 then (x.comE md,x.com md) else (x.com md).rotE md:=rfl
 generalize x.rotate md=R at *
 (repeat first | refine WW.seq ?_ | refine WW.reg ?_ | refine WL.nil ?_ | refine WW.skip ?_ | refine WW.block ?_ | refine thenN ?_ | refine blkN ?_);iterate 2 (refine WL.go ?_)
 refine WL.live fun hl9 => ?_
 refine WL.named (fun h2=>CaC md h h2 n (h.next+1) h2 n x) (CaC.start hg hw (by repeat first | exact Kp.refl | assumption | with_reducible refine Kp.put ?_ (by omega) _ | with_reducible refine Kp.setN ?_ (by omega) _ | with_reducible refine Kp.keep ?_ _ | with_reducible refine Kp.setW ?_ (by rfl) _) (by omega) ⟨hl9 _ _ gH,gH⟩) ?_
 clear hl9
 rintro h2 c2
 (refine go ?_)
 refine WL.callA rfl gM gSL (z1k c2.t.g c2.t.w hx (by omega)) ?_
 rintro _ h3 ⟨rfl,n3,t3⟩
 have c3:=c2.step t3
 have r4:=c3.b.g
 have hx3:=hx.com
 (refine go ?_)
 (refine WW.ifB rfl (fun hz1 => ?_) (fun hz1 => ?_))
 ·rw [if_pos hz1] at hR
  subst hR
  (refine go ?_)
  exact WW.ret ⟨.inl rfl,[.agg [.int .i64 (x.comE md),.nils]],gRES,rfl,n3,c3.fin _⟩
 rw [if_neg (fun hh=>hh hz1)] at hR
 generalize x.com md=y at *
 rw [show n.c=n3.c from t3.mv.c.symm]
 (refine go ?_)
 refine WL.callA rfl gM gSL (z94 t3.g t3.w hx3 (by omega)) ?_
 rintro _ h4 ⟨rfl,n4,t4⟩
 have c4:=c3.step t4
 have r4:=c4.b.g
 have hx4:=hx3.empty
 rw [CaS.rotE] at hR
 generalize y.empty md=Z at *
 obtain ⟨e,z⟩:=Z
 dsimp only at *
 (refine go ?_)
 (refine WW.ifB rfl (fun hz2 => ?_) (fun hz2 => ?_))
 ·rw [if_pos hz2] at hR
  subst hR
  (refine go ?_)
  exact WW.ret ⟨.inl rfl,[.agg [.int .i64 e,.nils]],gRES,rfl,n4,c4.fin _⟩
 rw [if_neg (fun hh=>hh hz2),CaS.rotA] at hR
 rw [show n3.c=n4.c from t4.mv.c.symm]
 have hc4:=t4.w.g
 have hob:=t4.g.w.w.w
 simp only [wRow] at hob
 have hpos:=hx4.ks.pos
 have hhi:=hx4.ks.hi
 have hln:=hx4.ks.ln
 (refine go ?_)
 refine WL.callA rfl gM gSL (zn4 t4.g.w hx4.ok.st.fit (by omega) (by omega) (by omega)) ?_
 rintro _ h5 ⟨rfl,E,hE,g5,k5⟩
 have t5:CaT md h4 n4 h5 _ z.addK:=CaT.wE t4.g t4.w hE g5 k5
 have c5:=c4.step t5
 have r4:=c5.b.g
 clear hc4 hob
 have hx5:=hx4.addK (by omega)
 have hn5:({ n4 with w:={ n4.w with E:=E } }:CaN).c=n4.c:=rfl
 generalize ({ n4 with w:={ n4.w with E:=E } }:CaN)=n5 at *
 cases hcan:z.s.pw.can with
 | false =>
  rw [if_pos hcan] at hR
  subst hR
  (refine go ?_)
  exact WW.ret ⟨.inl rfl,[.agg [.int .i64 7,.nils]],gRES,rfl,n5,c5.fin _⟩
 | true =>
  rw [if_neg (by rw [hcan];simp)] at hR
  subst hR
  rw [← hn5]
  (refine go ?_)
  refine WL.callA rfl gM gSL (z7p t5.g t5.w hx5 (by omega)) ?_
  rintro _ h6 ⟨rfl,n6,t6⟩
  have c6:=c5.step t6
  have r4:=c6.b.g
  (refine go ?_)
  exact WW.ret ⟨.inl rfl,[.agg [.int .i64 (z.addK.forget md).1,.nils]],gRES,rfl,n6,c6.fin _⟩
end
end Go.Proofs.YthblcmnhiccnhaaGreat


namespace Go.Proofs.YthblcmnhiccnhaaGreat
open Go Go.Abs

def lbaIn (lba:Int):Bool:=decide (0≤lba)&&decide (lba < 32)
def clOk (k lba:Int)(d:Bs):Bool:=if k=1∨k=4 then lbaIn lba else if k=2 then lbaIn lba&&decide (d.length=32) else decide (k=3∨k=5)
theorem z59 {lba:Int}(h:lbaIn lba=true):0≤lba∧lba < 32:=by simpa [lbaIn] using h
theorem zm9 (k lba:Int)(d:Bs)(h:AHeap):AE Tryz.prog 80 [.agg [.int .i64 k,.int .i64 lba,.imm 1 (d.map encB)]] h (.bool (clOk k lba d)) h:=by
 by_cases h1:k=1
 ·subst h1
  exact zce 1 (.inl rfl) lba _ (.inr ⟨_,rfl⟩) h
 by_cases h4:k=4
 ·subst h4
  exact zce 4 (.inr rfl) lba _ (.inr ⟨_,rfl⟩) h
 by_cases h3:k=3
 ·subst h3
  exact zcd 3 (.inl rfl) lba _ (.inr ⟨_,rfl⟩) h
 by_cases h5:k=5
 ·subst h5
  exact zcd 5 (.inr rfl) lba _ (.inr ⟨_,rfl⟩) h
 by_cases h2:k=2
 ·subst h2
  have e:clOk 2 lba d=(lbaIn lba&&decide (d.length=32)):=rfl
  rw [e]
  refine AE.pureW z4v (by simp) ?_
  unfold z3t;dsimp only [qQ,qR,qM,qG]
  (refine go ?_)
  refine WL.call rfl gM gSL (z8z _ _) ?_
  rw [show (decide (0≤lba)&&decide (lba < 32))=lbaIn lba from rfl]
  cases hl:lbaIn lba with
  | false =>
   (refine go ?_)
   refine WW.ret (PureQ.finD ?_)
   exact fz_b (by simp)
  | true =>
   (refine go ?_)
   refine WW.ret (PureQ.finD ?_)
   exact fz_b (by rw [Bool.eq_iff_iff];simp;omega)
 have e:clOk k lba d=false:=by rw [clOk,if_neg (by omega),if_neg h2];exact decide_eq_false (by omega)
 rw [e]
 refine AE.pureW z4v (by simp) ?_
 unfold z3t;dsimp only [qQ,qR,qM,qG]
 (refine go ?_)
 (refine WW.ifB rfl (fun hz1 => ?_) (fun hz1 => ?_))
 ·exact absurd hz1 h1
 (refine go ?_)
 (refine WW.ifB rfl (fun hz2 => ?_) (fun hz2 => ?_))
 ·exact absurd hz2 h4
 (refine go ?_)
 (refine WW.ifB rfl (fun hz3 => ?_) (fun hz3 => ?_))
 ·exact absurd hz3 h2
 (refine go ?_)
 (refine WW.ifB rfl (fun hz4 => ?_) (fun hz4 => ?_))
 ·exact absurd hz4 h3
 (refine go ?_)
 (refine WW.ifB rfl (fun hz5 => ?_) (fun hz5 => ?_))
 ·exact absurd hz5 h5
 (refine go ?_)
 refine WW.ret (PureQ.finD ?_)
 exact fz_b rfl
def CaS.doK (md:Bool)(x:CaS)(k lba:Int)(d:Bs):Int×Option Bs×CaS :=
 if k=1 then x.readO md lba
 else if k=2 then ((x.writeO md lba d).1,none,(x.writeO md lba d).2)
 else if k=3 then (x.comE md,none,x.com md)
 else if k=4 then ((x.discO md lba).1,none,(x.discO md lba).2)
 else ((x.rotate md).1,none,(x.rotate md).2)
def CaS.doO (md:Bool)(x:CaS)(k lba:Int)(d:Bs):Int×Option Bs×CaS :=
 if x.s.pw.gone then (7,none,x)
 else if x.bad then (4,none,x)
 else if clOk k lba d=false then (1,none,x)
 else x.doK md k lba d
section
variable {md:Bool}{h:AHeap}{n:CaN}{x:CaS}{k:Nat}
theorem CaI.doO (hx:CaI md x k)(hk:k≤700000){c lba:Int}{d:Bs}:CaI md (x.doO md c lba d).2.2 (k+119):=by
 rw [CaS.doO]
 split
 ·exact hx.mono (by omega)
 ·split
  ·exact hx.mono (by omega)
  ·split
   ·exact hx.mono (by omega)
   ·rename_i h3
    have h3:clOk c lba d=true:=by simpa using h3
    rw [clOk] at h3
    rw [CaS.doK]
    split
    ·rename_i h4
     rw [if_pos (.inl h4)] at h3
     exact (hx.readO (by omega) (z59 h3)).mono (by omega)
    ·split
     ·rename_i h4 h5
      rw [if_neg (by omega),if_pos h5,Bool.and_eq_true] at h3
      exact (hx.writeO (by omega) (of_decide_eq_true h3.2) (z59 h3.1)).mono (by omega)
     ·split
      ·exact hx.com.mono (by omega)
      ·split
       ·rename_i h4 h5 h6 h7
        rw [if_pos (.inr h7)] at h3
        exact (hx.discO (z59 h3)).mono (by omega)
       ·exact hx.rotate (by omega)
theorem zs2 (hg:CaG md h n x)(hw:CaW h n x)(hx:CaI md x k)(hk:k≤50000)(c lba:Int)(d:Bs)(hok:clOk c lba d=true) :
  AC Tryz.prog (methC c) [.ptr n.c 0 0,.agg [.int .i64 c,.int .i64 lba,.imm 1 (d.map encB)]] h (CaTd md h n (x.doK md c lba d).1 (x.doK md c lba d).2.1 (x.doK md c lba d).2.2):=by
 rw [CaS.doK]
 rw [clOk] at hok
 by_cases h1:c=1
 ·subst h1
  rw [if_pos rfl,show methC 1=81 from rfl]
  exact zhy hg hw hx (by omega) lba (z59 hok) d
 by_cases h2:c=2
 ·subst h2
  rw [if_neg (by omega),if_pos rfl,Bool.and_eq_true] at hok
  rw [if_neg h1,if_pos rfl,show methC 2=82 from rfl]
  exact zgr hg hw hx hk lba (z59 hok.1) d (of_decide_eq_true hok.2)
 by_cases h3:c=3
 ·subst h3
  rw [if_neg h1,if_neg h2,if_pos rfl,show methC 3=83 from rfl]
  exact zgs hg hw hx hk lba d
 by_cases h4:c=4
 ·subst h4
  rw [if_neg h1,if_neg h2,if_neg h3,if_pos rfl,show methC 4=84 from rfl]
  exact zhz hg hw hx hk lba d
 have h5:c=5:=by
  rw [if_neg (by omega),if_neg h2] at hok
  have:=of_decide_eq_true hok
  omega
 subst h5
 rw [if_neg h1,if_neg h2,if_neg h3,if_neg h4,show methC 5=85 from rfl]
 exact zez hg hw hx hk lba d
end
end Go.Proofs.YthblcmnhiccnhaaGreat


namespace Go.Proofs.YthblcmnhiccnhaaGreat
open Go Go.Abs

section
variable {md:Bool}{h:AHeap}{n:CaN}{x:CaS}{k:Nat}
set_option maxHeartbeats 4000000 in
theorem zma (hg:CaG md h n x)(hw:CaW h n x)(hx:CaI md x k)(hk:k≤50000)(c lba:Int)(d:Bs) :
  AC Tryz.prog 25 [.ptr n.c 0 0,.agg [.int .i64 c,.int .i64 lba,.imm 1 (d.map encB)]] h (CaTd md h n (x.doO md c lba d).1 (x.doO md c lba d).2.1 (x.doO md c lba d).2.2):=by
 refine AC.introW z5j (by simp) ?_
 unfold z39;dsimp only [qQ,qR,qM,qG]
 have hR:x.doO md c lba d=if x.s.pw.gone then (7,none,x) else if x.bad then (4,none,x) else if clOk c lba d=false then (1,none,x) else x.doK md c lba d:=rfl
 generalize x.doO md c lba d=R at *
 (repeat first | refine WW.seq ?_ | refine WW.reg ?_ | refine WL.nil ?_ | refine WW.skip ?_ | refine WW.block ?_ | refine thenN ?_ | refine blkN ?_);iterate 2 (refine WL.go ?_)
 refine WL.live fun hl9 => ?_
 refine WL.named (fun h2=>CaC md h h2 n (h.next+1) h2 n x∧BoxAt h2 h.next (.mem 3 [[.int .i64 c,.int .i64 lba,.imm 1 (d.map encB)]])) ⟨CaC.start hg hw (by repeat first | exact Kp.refl | assumption | with_reducible refine Kp.put ?_ (by omega) _ | with_reducible refine Kp.setN ?_ (by omega) _ | with_reducible refine Kp.keep ?_ _ | with_reducible refine Kp.setW ?_ (by rfl) _) (by omega) ⟨hl9 _ _ gH,gH⟩,⟨hl9 _ _ gH,gH⟩⟩ ?_
 clear hl9
 rintro h2 ⟨c2,b3⟩
 have hl2:=c2.l
 have r3:=b3.g
 have r4:=c2.b.g
 have hob:=c2.t.g.w.w.w
 simp only [wRow] at hob
 have hc:=c2.t.w.g
 (refine go ?_)
 refine WL.call rfl gM gSL (z1x c2.t.g.w.w.sd.pw) ?_
 cases hgo:x.s.pw.gone with
 | true =>
  rw [hgo,if_pos rfl] at hR
  subst hR
  (refine go ?_)
  exact WW.ret ⟨.inl rfl,[.agg [.int .i64 7,.nils]],gRES,rfl,n,c2.fin _⟩
 | false =>
 cases hb:x.bad with
 | true =>
  rw [hgo,if_neg (by simp),hb,if_pos rfl] at hR
  subst hR
  rw [hb] at hc
  (refine go ?_)
  exact WW.ret ⟨.inl rfl,[.agg [.int .i64 4,.nils]],gRES,rfl,n,c2.fin _⟩
 | false =>
 rw [hb] at hc
 (refine go ?_)
 refine WL.call rfl gM gSL (zm9 c lba d _) ?_
 cases hok:clOk c lba d with
 | false =>
  rw [hgo,if_neg (by simp),hb,if_neg (by simp),hok,if_pos rfl] at hR
  subst hR
  (refine go ?_)
  exact WW.ret ⟨.inl rfl,[.agg [.int .i64 1,.nils]],gRES,rfl,n,c2.fin _⟩
 | true =>
 rw [hgo,if_neg (by simp),hb,if_neg (by simp),hok,if_neg (by simp)] at hR
 subst hR
 have hkk:c=1∨c=2∨c=3∨c=4∨c=5:=by
  rw [clOk] at hok
  by_cases h1:c=1∨c=4
  ·omega
  ·rw [if_neg h1] at hok
   by_cases h2:c=2
   ·omega
   ·rw [if_neg h2] at hok
    have:=of_decide_eq_true hok
    omega
 (refine go ?_)
 iterate 5 refine WL.fx0 (FX.mput (r:=none) rfl rfl rfl gH trivial rfl gM) ?_
 (refine go ?_)
 obtain ⟨ti,htab⟩:=zqf hkk
 refine WL.fx1 (FX.look (es:=tabC) rfl rfl gH trivial htab rfl gM) ?_
 simp only [lookR,Option.map_some,Option.getD_some]
 clear htab
 (repeat first | refine WW.seq ?_ | refine WW.reg ?_ | refine WL.nil ?_ | refine WW.skip ?_ | refine WW.block ?_ | refine thenN ?_ | refine blkN ?_);iterate 2 (refine WL.go ?_)
 refine WL.cut (fun e2 h3=>subE [(4,some (.ptr (h.next+1) 0 0)),(37,some (.func (.func (methC c)) [] [])),(38,some (.ptr n.c 0 0)),(39,some (.agg [.int .i64 c,.int .i64 lba,.imm 1 (d.map encB)]))] e2∧CaC md h h2 n (h.next+1) h3 n x) ⟨gSUB,c2.new (by repeat first | exact Kp.refl | assumption | with_reducible refine Kp.put ?_ (by omega) _ | with_reducible refine Kp.setN ?_ (by omega) _ | with_reducible refine Kp.keep ?_ _ | with_reducible refine Kp.setW ?_ (by rfl) _)⟩ ?_
 clear hc hob r3 r4 b3 c2
 rintro e2 h3 ⟨l1,c3⟩
 refine WL.cvt (Cvt.sub l1) ?_
 refine WL.fxr (FXR.callv rfl rfl gM (zp1 hkk) (zs2 c3.t.g c3.t.w hx hk c lba d hok)) ?_
 rintro _ h5 ⟨_,rfl,rfl,n5,t5⟩
 have c5:=c3.step t5
 have r4:=c5.b.g
 generalize x.doK md c lba d=R at *
 obtain ⟨e,o,y⟩:=R
 dsimp only at *
 rcases o with _ | b
 ·(refine go ?_)
  exact WW.ret ⟨.inl rfl,[.agg [.int .i64 e,.nils]],gRES,rfl,n5,c5.fin _⟩
 ·(refine go ?_)
  exact WW.ret ⟨.inl rfl,[.agg [.int .i64 e,.imm 1 (b.map encB)]],gRES,rfl,n5,c5.fin _⟩
end
end Go.Proofs.YthblcmnhiccnhaaGreat


namespace Go.Proofs.YthblcmnhiccnhaaGreat
open Go Go.Abs

section
variable {md:Bool}{s:WS}{k:Nat}
theorem zs3 {b:Bs}{i:Int}(h:leafG b i=true):zq (leafD b i) i=true:=by
 simp only [leafG,Bool.and_eq_true] at h
 exact h.1.2
theorem zmb {f:Nat→Lf}:∀ (m j:Nat),(∀ i,i < m→zq (f (j+i)) ((j+i:Nat):Int)=true)→lvOk ((List.range' j m).map f) j=true
 | 0, _, _ => rfl
 | m + 1, j, h => by
  rw [List.range'_succ,List.map_cons,lvOk,Bool.and_eq_true]
  refine ⟨by simpa using h 0 (by omega),zmb m (j+1) fun i hi => ?_⟩
  have:=h (i+1) (by omega)
  rwa [show j+(i+1)=j+1+i by omega] at this
theorem ztu (hs:WSt md s k)(he:s.loadE md=0):((s.loadL md).length:Int)=s.n∧(∀ y∈s.loadL md,y.Wf)∧lvOk (s.loadL md) 0=true:=by
 have hg:=z8 hs.fit.g
 rw [WS.loadE] at he
 rw [WS.loadL]
 split at he
 ·cases he
 ·rename_i h1
  rw [if_neg h1]
  split at he
  ·rename_i h2
   rw [if_pos h2]
   refine ⟨by rw [List.length_replicate];omega,fun y hy => ?_,zev _ _ (by omega)⟩
   obtain ⟨_,rfl⟩:=List.mem_replicate.1 hy
   exact wf0'
  ·rename_i h2
   rw [if_neg h2]
   split at he
   ·rename_i h3;exact absurd he h3
   ·rename_i h3
    rw [if_neg h3,WS.readL,if_pos he]
    have hA:s.allG (s.ct.value % 2) s.n.toNat=true:=by
     rw [WS.readE] at he
     split at he
     ·cases he
     ·split at he
      ·rename_i h4;exact h4.2
      ·cases he
    rw [WS.allG,List.all_eq_true] at hA
    refine ⟨by simp [WS.leaves];omega,fun y hy => ?_,?_⟩
    ·rw [WS.leaves] at hy
     obtain ⟨j,hj,rfl⟩:=List.mem_map.1 hy
     have:=List.mem_range.1 hj
     exact zlh _ _ (by omega)
    ·rw [WS.leaves,List.range_eq_range']
     exact zmb _ _ fun i hi=>by
      rw [Nat.zero_add]
      exact zs3 (hA i (List.mem_range.2 hi))
theorem zf0 (lv:List Lf):∀ i,∀ y∈(agUp lv i).arr,y < i
 | 0, y, hy => by simp [agUp, ag0] at hy
 | i + 1, y, hy => by
  rw [agUp] at hy
  split at hy
  ·rcases zcg y hy with rfl | hy
   ·omega
   ·have:=zf0 lv i y hy;omega
  ·have:=zf0 lv i y hy;omega
structure WsI (md:Bool)(s:WS)(k:Nat):Prop where
 st:WSt md s k
 dk:DkOk s.dk k
 ks:KsOk s.ks k
theorem WsI.mono {k':Nat}(h:WsI md s k)(hk:k≤k'):WsI md s k':=⟨h.st.mono hk,h.dk.mono hk,h.ks.mono hk⟩
theorem CaI.wi {x:CaS}(h:CaI md x k):WsI md x.s k:=⟨h.ok.st,h.dk,h.ks⟩
theorem WsI.boot (h:WsI md s k):WsI md s.bootS (k+1):=⟨h.st.boot,h.dk.mono (by omega),h.ks.mono (by omega)⟩
theorem WsI.load (h:WsI md s k):WsI md (s.loadS md) (k+40):=by
 obtain ⟨_,_,_,_,e5,_⟩:=z9x md s
 exact ⟨h.st.load,by rw [zrs];exact h.dk.mono (by omega),by rw [e5];exact h.ks.mono (by omega)⟩
def WS.openC (md:Bool)(s:WS):CaS:=⟨s.bootS.loadS md,s.ct.boots+1,0,s.bootS.loadL md,s.bootS.loadL md,agUp (s.bootS.loadL md) (s.bootS.loadL md).length,false⟩
theorem WsI.openC (h:WsI md s k)(hk:k≤1000000)(he:s.bootS.loadE md=0):CaI md (s.openC md) (k+41):=by
 have h1:=h.boot
 have h2:=h1.load
 obtain ⟨l1,l2,l3⟩:=ztu h1.st he
 have hg:=z8 h1.st.fit.g
 have hct:=h.st.ct.b
 obtain ⟨_,e2,_,_,e5,_⟩:=z9x md s.bootS
 refine ⟨⟨h2.st,by show 0≤s.ct.boots+1∧s.ct.boots+1 < 4294967296;omega,by show 0≤100;omega,by show ((s.bootS.loadL md).length:Int)=(s.bootS.loadS md).n;rw [e2];exact l1,l2,l3⟩,h2.dk,?_,fun i hi=>zf0 _ _ i hi,rfl,h2.ks⟩
 exact (zcx _ _ (by omega)).mono (by omega)
def CaS.no (s:WS):CaS:=⟨s,0,0,[],[],ag0,false⟩
def WS.openO (md:Bool)(s:WS):Int×CaS :=
 if s.pw.gone then (7,.no s)
 else if s.pw.can=false then (7,.no s.bootS)
 else if s.bootS.loadE md≠0 then (s.bootS.loadE md,.no (s.bootS.loadS md))
 else (s.openC md).finish md
end
def OpR (md:Bool)(h:AHeap)(n:WN)(e:Int)(x:CaS)(r:AV)(h':AHeap):Prop :=
 ∃ N:CaN,r = .tup [if e=0 then .ptr N.c 0 0 else .nilp,.int .i64 e]∧WG md h' N.w x.s∧N.w.a=n.a∧(∀ id,N.w.nm md id→n.nm md id∨h.next≤id)∧(∀ id,N.w.own md id→n.own md id∨h.next≤id)∧Kp (n.own md) h h'∧(e=0→CaG md h' N x∧CaW h' N x∧∀ id,N.own id→h.next≤id)
theorem OpR.no {md:Bool}{h h':AHeap}{n:WN}{e:Int}{x:CaS}(he:e≠0)(hg:WG md h' n x.s)(hk:Kp (n.own md) h h'):OpR md h n e x (.tup [.nilp,.int .i64 e]) h' :=
 ⟨⟨n,0,0,0,0,0,0⟩,by rw [if_neg he],hg,rfl,fun _ => .inl,fun _ => .inl,hk,fun e=>absurd e he⟩
set_option maxHeartbeats 8000000 in
theorem zi0 {md:Bool}{h:AHeap}{n:WN}{s:WS}{k:Nat}(hg:WG md h n s)(hi:WsI md s k)(hk:k≤40000) :
  AC Tryz.prog 23 [.ptr (n.a+10) 0 0] h (OpR md h n (s.openO md).1 (s.openO md).2):=by
 have hs:=hi.st
 refine AC.introW za1 (by simp) ?_
 unfold z6a;dsimp only [qQ,qR,qM,qG]
 have hR:s.openO md=if s.pw.gone then (7,.no s) else if s.pw.can=false then (7,.no s.bootS) else if s.bootS.loadE md≠0 then (s.bootS.loadE md,.no (s.bootS.loadS md)) else (s.openC md).finish md:=rfl
 generalize s.openO md=R at *
 have hob:=hg.w.w
 simp only [wRow] at hob
 have hna:n.a+11≤h.next:=hg.w.nx
 have hlt:∀ id,n.nm md id→id < h.next:=fun id hi=>(hg.us id hi).1
 obtain ⟨ct1,ct2,ct3⟩:=hs.ct
 (refine go ?_)
 refine WL.call rfl gM gSL (z1x hg.w.sd.pw) ?_
 cases hgo:s.pw.gone with
 | true =>
  rw [hgo,if_pos rfl] at hR
  subst hR
  (refine go ?_)
  exact WW.ret ⟨.inl rfl,_,gRES,(show OpR md h n 7 (.no s) _ _ from OpR.no (e:=7) (by decide) hg Kp.refl)⟩
 | false =>
 rw [hgo,if_neg (by simp)] at hR
 (refine go ?_)
 refine WL.call rfl gM gSL (ztk hg hs (by omega)) ?_
 refine WL.named (fun h2=>WG md h2 n s.bootS∧Kp (n.own md) h h2) ⟨hg.boot,kp_ct n _ _⟩ ?_
 rintro h2 ⟨g2,k2⟩
 have hx2:=k2.next
 have hs2:=hs.boot
 clear hob
 cases hcan:s.pw.can with
 | false =>
  rw [if_pos hcan] at hR
  subst hR
  (refine go ?_)
  exact WW.ret ⟨.inl rfl,_,gRES,(show OpR md h n 7 (.no s.bootS) _ _ from OpR.no (e:=7) (by decide) g2 k2)⟩
 | true =>
 rw [if_neg (by rw [hcan];simp)] at hR
 have hbc:s.bootS.ct=⟨s.ct.value,s.ct.boots+1,s.ct.at'⟩:=by rw [WS.bootS,hcan];rfl
 (refine go ?_)
 refine WL.callA rfl gM gSL (zhu g2 hs2 (by omega)) ?_
 rintro _ h3 ⟨v,rfl,ld,g3,k3⟩
 obtain ⟨q1,q2,q3,q4,q5,q6⟩:=z9x md s.bootS
 have hx3:=k3.next
 rcases ld with ⟨he,E,rfl,bE,hE⟩ | ⟨he,rfl⟩
 rotate_left
 ·rw [if_pos he] at hR
  subst hR
  (refine go ?_)
  (refine WW.ifB rfl (fun hz1 => ?_) (fun hz1 => ?_))
  ·(refine go ?_)
   exact WW.ret ⟨.inl rfl,_,gRES,OpR.no he g3 (k2.trans k3)⟩
  ·exact absurd hz1 he
 rw [if_neg (by rw [he];simp)] at hR
 have hI:=hi.openC (by omega) he
 have hct:=g3.w.ct
 rw [q4,hbc] at hct
 have hob:=g3.w.w
 simp only [wRow] at hob
 have hn16:=hI.n16
 rw [he]
 have hX:s.openC md=⟨s.bootS.loadS md,s.ct.boots+1,0,s.bootS.loadL md,s.bootS.loadL md,agUp (s.bootS.loadL md) (s.bootS.loadL md).length,false⟩:=rfl
 generalize s.openC md=X at *
 have hnow:X.now=s.bootS.loadL md:=by rw [hX]
 rw [hnow] at hn16
 clear g2 he
 generalize s.bootS.loadL md=lv at *
 generalize s.bootS.loadS md=s3 at *
 have hElt:E < h3.next:=bE.u.1
 (refine go ?_)
 refine WL.call rfl gM gSL (zhm (p:=n.p) hct) ?_
 (refine go ?_)
 refine WL.call rfl gM gSL (zlk rfl (s.ct.boots+1) (by omega)) ?_
 refine WL.named (fun h4=>WG md h4 n s3∧Kp (fun _=>False) h3 h4∧BoxAt h4 h3.next (mkO (s.ct.boots+1) 0)∧BoxAt h4 E (.mem 8 (lv.map encL))) ⟨g3.new (by repeat first | exact Kp.refl | assumption | with_reducible refine Kp.put ?_ (by omega) _ | with_reducible refine Kp.setN ?_ (by omega) _ | with_reducible refine Kp.keep ?_ _ | with_reducible refine Kp.setW ?_ (by rfl) _),(by repeat first | exact Kp.refl | assumption | with_reducible refine Kp.put ?_ (by omega) _ | with_reducible refine Kp.setN ?_ (by omega) _ | with_reducible refine Kp.keep ?_ _ | with_reducible refine Kp.setW ?_ (by rfl) _),⟨z2,gH⟩,bE.kp (W:=fun _=>False) (by repeat first | exact Kp.refl | assumption | with_reducible refine Kp.put ?_ (by omega) _ | with_reducible refine Kp.setN ?_ (by omega) _ | with_reducible refine Kp.keep ?_ _ | with_reducible refine Kp.setW ?_ (by rfl) _) (fun h=>h)⟩ ?_
 have hmkN:∀ id,n.nm md id→id < h3.next:=fun id hi=>by have:=hlt id hi;omega
 clear bE
 rintro h4 ⟨g4,k4,b4,e4⟩
 have hx4:=k4.next
 generalize h3.next=mk at *
 have hmk4:mk < h4.next:=b4.u.1
 clear hob g3 hct
 have hob:=g4.w.w
 simp only [wRow] at hob
 have e4g:=e4.g
 (refine go ?_)
 refine WL.call rfl gM gSL (z5u e4g (by omega)) ?_
 (refine go ?_)
 refine WL.callA rfl gM gSL (zgh _) ?_
 rintro _ h5 ⟨a,q,rfl,ag5,haq,ha,hq,k5⟩
 have hx5:=k5.next
 have hap:a < h5.next:=ag5.ob.u.1
 have hqp:q < h5.next:=by obtain ⟨v,_,h6⟩:=ag5.qo;exact h6.u.1
 have g5:=g4.new k5
 have b5:=b4.kp k5 (fun h=>h)
 have e5:=e4.kp k5 (fun h=>h)
 clear hob e4g
 (repeat first | refine WW.seq ?_ | refine WW.reg ?_ | refine WL.nil ?_ | refine WW.skip ?_ | refine WW.block ?_ | refine thenN ?_ | refine blkN ?_);iterate 3 (refine WL.go ?_)
 refine WL.live fun hl9 => ?_
 have hX0:{ X with ag:=agUp lv 0 }=(⟨s3,s.ct.boots+1,0,lv,lv,ag0,false⟩:CaS):=by rw [hX];rfl
 refine WL.named (fun h6=>CaG md h6 ⟨n,h5.next,mk,a,q,E,q⟩ { X with ag:=agUp lv 0 }∧CaW h6 ⟨n,h5.next,mk,a,q,E,q⟩ { X with ag:=agUp lv 0 }∧Kp (fun _=>False) h5 h6) ⟨?_,?_,(by repeat first | exact Kp.refl | assumption | with_reducible refine Kp.put ?_ (by omega) _ | with_reducible refine Kp.setN ?_ (by omega) _ | with_reducible refine Kp.keep ?_ _ | with_reducible refine Kp.setW ?_ (by rfl) _)⟩ ?_
 ·rw [hX0]
  refine ⟨g5.new (by repeat first | exact Kp.refl | assumption | with_reducible refine Kp.put ?_ (by omega) _ | with_reducible refine Kp.setN ?_ (by omega) _ | with_reducible refine Kp.keep ?_ _ | with_reducible refine Kp.setW ?_ (by rfl) _),b5.kp (W:=fun _=>False) (by repeat first | exact Kp.refl | assumption | with_reducible refine Kp.put ?_ (by omega) _ | with_reducible refine Kp.setN ?_ (by omega) _ | with_reducible refine Kp.keep ?_ _ | with_reducible refine Kp.setW ?_ (by rfl) _) (fun h=>h),⟨_,.inr ⟨rfl,e5.kp (W:=fun _=>False) (by repeat first | exact Kp.refl | assumption | with_reducible refine Kp.put ?_ (by omega) _ | with_reducible refine Kp.setN ?_ (by omega) _ | with_reducible refine Kp.keep ?_ _ | with_reducible refine Kp.setW ?_ (by rfl) _) (fun h=>h)⟩,⟨z2,gH⟩⟩,ag5.kp (W:=fun _=>False) (by repeat first | exact Kp.refl | assumption | with_reducible refine Kp.put ?_ (by omega) _ | with_reducible refine Kp.setN ?_ (by omega) _ | with_reducible refine Kp.keep ?_ _ | with_reducible refine Kp.setW ?_ (by rfl) _) (fun h=>h) (fun h=>h) (fun h=>h),?_,?_,?_⟩
  ·intro id hid hn
   have:=hlt id hn
   rcases hid with rfl | rfl | rfl | rfl | rfl | rfl <;> (dsimp only at *;omega)
  ·intro id hid
   have hL:h5.next < (h5.put h5.next (.mem 6 [[.ptr (n.a+10) 0 0,.ptr mk 0 0,.ref E 0 lv.length,.imm 8 (lv.map encL),.ptr a 0 0,.bool false]])).next:=(ltN gN (by omega))
   rcases hid with rfl | rfl | rfl | rfl | rfl | rfl <;> first | omega | (dsimp only;omega)
  ·dsimp only
   refine ⟨by omega,by omega,by omega,by omega,by omega,haq,.inr ⟨by omega,by omega,by omega⟩,.inl rfl,by omega⟩
 ·rw [hX0]
  exact ⟨gH,by dsimp only;omega⟩
 have hc5:h.next≤h5.next:=by omega
 generalize h5.next=c at *
 clear g5 b5 ag5 g4 b4 e4 e5 hl9 hX0
 rintro h6 ⟨g6,w6,k6⟩
 have k7:Kp (n.own md) h h6:=k2.trans (k3.trans ((k4.trans (k5.trans k6)).mono fun _ _ h=>h.elim))
 have hx6a:=k6.next
 have hx7:=k7.next
 have hb6:mk < h6.next∧a < h6.next∧q < h6.next∧E < h6.next:=⟨g6.lt mk (.inr (.inl rfl)),g6.lt a (.inr (.inr (.inl rfl))),g6.lt q (.inr (.inr (.inr (.inl rfl)))),g6.lt E (.inr (.inr (.inr (.inr (.inl rfl)))))⟩
 clear k2 k3 k4 k5 k6
 have e6:=(w6.row g6).g
 rw [show ({ X with ag:=agUp lv 0 }:CaS).now=lv from hnow] at e6
 (refine go ?_)
 refine WW.loopE (fun (s:Nat×CaN)=>[(7,some (.ptr c 0 0)),(57,some (.ref E 0 lv.length)),(58,some (.int .i64 lv.length)),(59,some (.int .i64 s.1))])
  (fun s h'=>CaT md h6 ⟨n,c,mk,a,q,E,q⟩ h' s.2 { X with ag:=agUp lv s.1 }∧s.2.a=a∧s.2.nE=E∧s.1≤lv.length) (fun s=>lv.length - s.1) (0,⟨n,c,mk,a,q,E,q⟩) gSUB ⟨CaT.refl g6 w6,rfl,rfl,Nat.zero_le _⟩ ?_
 clear e6
 rintro ⟨i,N⟩ h7 ⟨t7,hNa,hNE,hil⟩
 dsimp only at t7 hNa hNE hil ⊢
 have hcN:N.c=c:=t7.mv.c
 have hrow:=t7.w.row t7.g
 have hcg:=t7.w.g
 rw [show ({ X with ag:=agUp lv i }:CaS).now=lv from hnow,hNE] at hrow hcg
 rw [hNa,hcN] at hcg
 have hEg:=hrow.g
 have hEl:=hrow.u.1
 have hcl:=t7.g.lt N.c (.inl rfl)
 rw [hcN] at hcl
 (refine go ?_)
 (refine WW.ifB rfl (fun hz1 => ?_) (fun hz1 => ?_))
 ·have hi2:i < lv.length:=by omega
  have hgd:lv.getD i lf0=lv[i]:=by simp [List.getD_eq_getElem?_getD,hi2]
  have hak:=zcx lv i (by omega)
  (refine go ?_)
  simp only [Nat.zero_add]
  (refine WW.ifB rfl (fun hz2 => ?_) (fun hz2 => ?_))
  ·have hz2':¬ (lv.getD i lf0).k=0:=by rw [hgd];simpa using hz2
   have hst:agUp lv (i+1)=(agUp lv i).touch i:=by rw [agUp,if_pos hz2']
   refine WW.named (fun h8=>CaT md h6 ⟨n,c,mk,a,q,E,q⟩ h8 N { X with ag:=agUp lv i }∧h8.get c=some (.mem 6 [[.ptr (N.w.a+10) 0 0,.ptr N.k 0 0,.ref E 0 lv.length,.imm 8 (X.was.map encL),.ptr a 0 0,.bool X.bad]])) ⟨t7.new (by repeat first | exact Kp.refl | assumption | with_reducible refine Kp.put ?_ (by omega) _ | with_reducible refine Kp.setN ?_ (by omega) _ | with_reducible refine Kp.keep ?_ _ | with_reducible refine Kp.setW ?_ (by rfl) _),gH⟩ ?_
   rintro h8 ⟨t8,hcg8⟩
   have hag:=t8.g.ag
   have hdj:=t8.g.dj.2.2.2.2.2.1
   rw [hNa] at hag hdj
   (refine go ?_)
   refine WL.callA rfl gM gSL (z6y hag hak (by omega) hdj (x:=i) (by omega)) ?_
   rintro _ h9 ⟨rfl,E9,hE9,hE9',a9,k10⟩
   rw [← hNa] at a9 k10
   have t9:CaT md h8 N h9 { N with sE:=E9 } { X with ag:=(agUp lv i).touch i }:=CaT.sE (.inr hE9) (t8.g.age k10 a9 ⟨hE9,hE9'⟩) (t8.w.age t8.g k10) (k10.mono fun id _ e=>e.elim (fun e => .inr (.inr (.inl e))) fun e=>e.elim (fun e => .inr (.inr (.inr (.inl e)))) fun e => .inr (.inr (.inr (.inr (.inr e)))))
   (refine go ?_)
   exact ⟨(i+1,{ N with sE:=E9 }),gSUB,⟨by rw [hst];exact t8.trans t9,hNa,hNE,by dsimp only;omega⟩,by dsimp only;omega⟩
  have hz2':(lv.getD i lf0).k=0:=by rw [hgd];simpa using hz2
  have hst:agUp lv (i+1)=agUp lv i:=by rw [agUp,if_neg (by simpa using hz2')]
  (refine go ?_)
  exact ⟨(i+1,N),gSUB,⟨by rw [hst];exact t7.new (by repeat first | exact Kp.refl | assumption | with_reducible refine Kp.put ?_ (by omega) _ | with_reducible refine Kp.setN ?_ (by omega) _ | with_reducible refine Kp.keep ?_ _ | with_reducible refine Kp.setW ?_ (by rfl) _),hNa,hNE,by dsimp only;omega⟩,by dsimp only;omega⟩
 ·have hie:i=lv.length:=by omega
  subst hie
  have hXX:({ X with ag:=agUp lv lv.length }:CaS)=X:=by rw [hX]
  rw [hXX] at t7
  clear hcg hEg hrow
  (refine go ?_)
  rw [← hcN]
  refine WL.callA rfl gM gSL (zew t7.g t7.w hI (by omega)) ?_
  rintro _ h8 ⟨rfl,N8,t8⟩
  have tA:=t7.trans t8
  rw [← hR] at tA
  rw [← hR]
  obtain ⟨Re,Rx⟩:=R
  dsimp only at tA ⊢
  have kA:Kp (n.own md) h h8:=k7.trans2 tA.kp fun id hi=>by
   rcases hi with hi | hi
   ·exact .inl hi
   ·rcases hi with hi | hi | hi | hi | hi | hi <;> (dsimp only at hi;exact .inr (by omega))
  have hnm:∀ id,N8.w.nm md id→n.nm md id∨h.next≤id:=fun id hi=>(tA.mv.w id hi).imp (fun q=>q) fun q=>by omega
  have how:∀ id,N8.w.own md id→n.own md id∨h.next≤id:=fun id hi=>(tA.ow id hi).imp (fun q=>q) fun q=>by omega
  have hoo:∀ id,N8.own id→h.next≤id:=fun id hi=>by
   rcases tA.mv.o id hi with hi | hi
   ·rcases hi with hi | hi | hi | hi | hi | hi <;> (dsimp only at hi;omega)
   ·omega
  (refine go ?_)
  (refine WW.ifB rfl (fun hz3 => ?_) (fun hz3 => ?_))
  ·(refine go ?_)
   exact WW.ret ⟨.inl rfl,_,gRES,N8,by rw [if_neg hz3];rfl,tA.g.w,tA.mv.a,hnm,how,kA,fun e=>absurd e hz3⟩
  ·have hz3':Re=0:=by simpa using hz3
   (refine go ?_)
   refine WW.ret ⟨.inl rfl,_,gRES,N8,by rw [hz3',if_pos rfl,tA.mv.c,hcN];rfl,tA.g.w,tA.mv.a,hnm,how,kA,fun _=>⟨tA.g,tA.w,hoo⟩⟩
end Go.Proofs.YthblcmnhiccnhaaGreat


namespace Go.Proofs.YthblcmnhiccnhaaGreat
open Go Go.Abs

structure BxS where
 c:CaS
 on:Bool
 sn:List Bs
section
variable {md:Bool}{h h1 h2 h' hc:AHeap}{N N1 N2 N' Nc:CaN}{b E E1 E2 Ec T:Nat}{st st1 st2 stc:BxS}{W:Nat→Prop}
end
def BxS.ws (st:BxS)(s:WS):BxS:={ st with c:={ st.c with s:=s } }
def WS.refuse (s:WS)(r:Bool):WS:={ s with dk:={ s.dk with refuses:=r } }
def BxS.call (md:Bool)(st:BxS)(k lba:Int)(d:Bs):Int×Option Bs×BxS :=
 if st.on then ((st.c.doO md k lba d).1,(st.c.doO md k lba d).2.1,{ st with c:=(st.c.doO md k lba d).2.2 }) else (8,none,st)
def BxS.crash (md:Bool)(st:BxS)(keep:List Bool):Int×BxS :=
 (((st.c.s.crash (keepF keep)).openO md).1,{ st with c:=((st.c.s.crash (keepF keep)).openO md).2,on:=decide (((st.c.s.crash (keepF keep)).openO md).1=0) })
def BxS.back (st:BxS)(n:Int):Int×BxS:=if 0≤n∧n < st.sn.length then (0,st.ws (st.c.s.back (st.sn.getD n.toNat []))) else (1,st)
def BxS.act (md:Bool)(st:BxS)(a:Ac):Int×Option Bs×BxS :=
 if a.k=1 then st.call md a.ck a.lba a.cd
 else if a.k=2 then (0,none,st.ws (st.c.s.fused a.n))
 else if a.k=3 then ((st.crash md a.kp).1,none,(st.crash md a.kp).2)
 else if a.k=4 then (if inB st.c.s.sd.lasts.length a.off a.d.length then 0 else 1,none,st.ws (st.c.s.smash (a.off,a.d)))
 else if a.k=5 then (0,none,{ st with sn:=st.sn++[st.c.s.sd.snap] })
 else if a.k=6 then ((st.back a.n).1,none,(st.back a.n).2)
 else if a.k=7 then (0,none,st.ws (st.c.s.refuse (a.n !=0)))
 else (1,none,st)
structure BxI (md:Bool)(st:BxS)(k:Nat):Prop where
 wi:WsI md st.c.s k
 ci:st.on=true→CaI md st.c k
 sl:∀ c∈st.sn,c.length=(sizeG st.c.s.n).toNat
 sk:st.sn.length≤k
end Go.Proofs.YthblcmnhiccnhaaGreat


namespace Go.Proofs.YthblcmnhiccnhaaGreat
open Go Go.Abs

section
variable {md:Bool}{h:AHeap}{N:CaN}{b E:Nat}{st:BxS}{k:Nat}
theorem WsI.openO {s:WS}(h:WsI md s k)(hk:k≤700000):WsI md (s.openO md).2.s (k+109)∧((s.openO md).1=0→CaI md (s.openO md).2 (k+109)):=by
 rw [WS.openO]
 split
 ·exact ⟨h.mono (by omega),nofun⟩
 ·split
  ·exact ⟨h.boot.mono (by omega),nofun⟩
  ·split
   ·rename_i h3
    exact ⟨h.boot.load.mono (by omega),fun e=>absurd e h3⟩
   ·rename_i h3
    have:=(h.openC (by omega) (by simpa using h3)).finish (by omega)
    exact ⟨this.wi.mono (by omega),fun _=>this.mono (by omega)⟩
end
end Go.Proofs.YthblcmnhiccnhaaGreat


namespace Go.Proofs.YthblcmnhiccnhaaGreat
open Go Go.Abs

section
variable {md:Bool}{x:CaS}{s:WS}{st:BxS}{k:Nat}
end
def bx0 (md:Bool)(m:Nat)(seed:Int):BxS:=⟨(ws0 m seed).openC md,true,[]⟩
theorem wsi0 (md:Bool){m:Nat}(hG:isG m=true)(seed:Int):WsI md (ws0 m seed) 0:=by
 refine ⟨wst0 md hG seed,⟨by simp [ws0,dk0],fun b hb => ?_,Nat.le_refl _,Nat.le_refl _,fun o ho=>by simp [ws0,dk0] at ho⟩,⟨by simp [ws0],by simp [ws0],by simp [ws0],by simp [ws0,KsS.cur],by simp [ws0]⟩⟩
 simp only [ws0,dk0,List.mem_replicate] at hb
 rw [hb.2];rfl
theorem open0 (md:Bool)(m:Nat)(seed:Int):(ws0 m seed).openO md=(0,(ws0 m seed).openC md):=by
 have h1:(ws0 m seed).bootS.loadE md=0:=(zcc (md:=md) (s:=(ws0 m seed).bootS) rfl rfl).1
 have h2:((ws0 m seed).openC md).s=(ws0 m seed).bootS:=(zcc (md:=md) (s:=(ws0 m seed).bootS) rfl rfl).2.2
 rw [WS.openO,if_neg (by simp [ws0]),if_neg (by simp [ws0,PwS.can]),if_neg (by rw [h1];simp),CaS.finish,if_pos]
 rw [h2];simp [ws0,WS.bootS]
theorem zuv (md:Bool){m:Nat}(hG:isG m=true)(seed:Int):BxI md (bx0 md m seed) 109:=by
 have h:=(wsi0 md hG seed).openO (by omega)
 rw [open0] at h
 exact ⟨h.1,fun _=>h.2 rfl,fun c hc=>by simp [bx0] at hc,by simp [bx0]⟩
section
variable {md:Bool}{h:AHeap}{N:CaN}{b E:Nat}{st:BxS}
end
end Go.Proofs.YthblcmnhiccnhaaGreat


set_option maxRecDepth 100000
namespace Go.Proofs.YthblcmnhiccnhaaGreat
open Go Go.Abs

def z5v:CC := .seq (.reg [qQ 1 (.box 3 (.t 0)),qM 2 (.c (.bool false))]) (.seq (.seq (.reg [qQ 12 (.load 3 true (.t 1)),qQ 13 (.call 42 [.t 12]),qM 14 (.t 13),qG 15 (.faddr 2 (.t 1)) 14 false,qG 16 (.load 1 false (.t 15)) 14 false,qG 17 (.len (.t 16)) 14 false,qG 18 (.bin .gtr (.t 17) (.c (.int .i64 100))) 14 false,qQ 19 (.pick (.t 14) (.c (.bool true)) (.t 18))]) (.cond (.t 19) (.seq (.reg [qM 2 (.c (.bool true))]) .ret) .skip)) (.seq (.reg [qQ 21 (.call 22 [.c (.int .i64 4),.c (.int .u64 3),.c (.bool true)]),qM 20 (.t 21),qQ 22 (.ext 0 (.t 20)),qQ 23 (.ext 1 (.t 20)),qM 3 (.t 22),qM 4 (.t 23)]) (.seq (.reg [qM 25 (.t 3),qQ 26 (.call 23 [.t 25]),qM 24 (.t 26),qQ 27 (.ext 0 (.t 24)),qQ 28 (.ext 1 (.t 24)),qM 5 (.t 27),qM 6 (.t 28)]) (.seq (.seq (.reg [qM 29 (.t 6),qQ 30 (.bin .neq (.t 29) (.c (.int .i64 0))),qM 31 (.t 30),qG 32 (.mov (.t 5)) 31 false,qG 33 (.eqv .p false (.t 32) (.c .nilp)) 31 false,qQ 34 (.pick (.t 31) (.c (.bool true)) (.t 33))]) (.cond (.t 34) (.seq (.reg [qM 2 (.c (.bool false))]) .ret) .skip)) (.seq (.reg [qM 35 (.t 3),qQ 36 (.nilck (.t 35)),qQ 37 (.faddr 1 (.t 36)),qQ 38 (.load 1 false (.t 37)),qQ 39 (.call 43 [.t 38]),qM 7 (.t 39)]) (.seq (.reg [qM 40 (.t 5),qQ 41 (.load 3 true (.t 1)),qQ 42 (.call 25 [.t 40,.t 41]),qQ 8 (.alloc [.int .i64 0,.nils]),qR (.store 2 (.t 8) (.t 42))]) (.seq (.reg [qQ 44 (.call 23 [.c .nilp]),qM 43 (.t 44),qQ 45 (.ext 0 (.t 43)),qQ 46 (.ext 1 (.t 43)),qM 9 (.t 45),qM 10 (.t 46)]) (.seq (.reg [qM 11 (.c .nilp)]) (.seq (.reg [qQ 47 (.faddr 0 (.t 8)),qQ 48 (.load 1 false (.t 47)),qQ 49 (.bin .eql (.t 48) (.c (.int .i64 1))),qM 50 (.t 49),qG 51 (.mov (.t 3)) 50 true,qG 52 (.nilck (.t 51)) 50 true,qG 53 (.faddr 1 (.t 52)) 50 true,qG 54 (.load 1 false (.t 53)) 50 true,qG 55 (.call 43 [.t 54]) 50 true,qG 56 (.mov (.t 7)) 50 true,qG 57 (.bin .eql (.t 55) (.t 56)) 50 true,qQ 58 (.pick (.t 50) (.t 57) (.c (.bool false))),qM 59 (.t 58),qG 60 (.mov (.t 10)) 59 true,qG 61 (.bin .eql (.t 60) (.c (.int .i64 1))) 59 true,qQ 62 (.pick (.t 59) (.t 61) (.c (.bool false))),qM 63 (.t 62),qG 64 (.mov (.t 11)) 63 true,qG 65 (.load 3 true (.t 1)) 63 true,qG 66 (.call 25 [.t 64,.t 65]) 63 true,qG 67 (.fld 0 1 false (.t 66)) 63 true,qG 68 (.bin .eql (.t 67) (.c (.int .i64 1))) 63 true,qQ 69 (.pick (.t 63) (.t 68) (.c (.bool false))),qM 70 (.t 69),qG 71 (.mov (.t 11)) 70 true,qG 72 (.call 40 [.t 71]) 70 true,qG 73 (.not (.t 72)) 70 true,qQ 74 (.pick (.t 70) (.t 73) (.c (.bool false))),qM 75 (.t 74),qG 76 (.mov (.t 11)) 75 true,qG 77 (.call 31 [.t 76]) 75 true,qG 78 (.len (.t 77)) 75 true,qG 79 (.mov (.t 11)) 75 true,qG 80 (.call 33 [.t 79]) 75 true,qG 81 (.bin .add (.t 78) (.t 80)) 75 true,qG 82 (.bin .eql (.t 81) (.c (.int .i64 0))) 75 true,qQ 83 (.pick (.t 75) (.t 82) (.c (.bool false))),qM 84 (.t 83),qG 85 (.call 26 []) 84 true,qQ 86 (.pick (.t 84) (.t 85) (.c (.bool false))),qM 2 (.t 86)]) .ret)))))))))
theorem zch:FnIs Tryz.prog 11 87 z5v [.t 2]:=⟨Tryz.f11,_,Tryz.func11,rfl,rfl,by kernel_rfl,by kernel_rfl⟩

def zao:CC := .seq (.reg [qM 0 (.c (.bool false))]) (.seq (.reg [qQ 8 (.call 22 [.c (.int .i64 4),.c (.int .u64 1),.c (.bool true)]),qM 7 (.t 8),qQ 9 (.ext 0 (.t 7)),qQ 10 (.ext 1 (.t 7)),qM 1 (.t 9),qM 2 (.t 10)]) (.seq (.reg [qM 12 (.t 1),qQ 13 (.call 23 [.t 12]),qM 11 (.t 13),qQ 14 (.ext 0 (.t 11)),qQ 15 (.ext 1 (.t 11)),qM 3 (.t 14),qM 4 (.t 15)]) (.seq (.seq (.reg [qM 16 (.t 4),qQ 17 (.bin .neq (.t 16) (.c (.int .i64 0))),qM 18 (.t 17),qG 19 (.mov (.t 3)) 18 false,qG 20 (.eqv .p false (.t 19) (.c .nilp)) 18 false,qQ 21 (.pick (.t 18) (.c (.bool true)) (.t 20))]) (.cond (.t 21) (.seq (.reg [qM 0 (.c (.bool false))]) .ret) .skip)) (.seq (.seq (.reg [qM 5 (.c (.int .i64 0))]) (.block 0 (.loop (.seq (.seq (.reg [qM 22 (.t 5),qQ 23 (.bin .lss (.t 22) (.c (.int .i64 5)))]) (.cond (.t 23) .skip (.exit 0))) (.seq (.block 1 (.seq (.reg [qM 26 (.t 3),qM 27 (.t 5),qQ 28 (.call 29 [.c (.int .u8 7)]),qQ 29 (.build [.int .i64 0,.int .i64 0,.nils] [(0,1,.c (.int .i64 2)),(1,1,.t 27),(2,1,.t 28)]),qQ 30 (.call 25 [.t 26,.t 29]),qQ 31 (.fld 0 1 false (.t 30)),qQ 32 (.bin .neq (.t 31) (.c (.int .i64 0)))]) (.cond (.t 32) (.seq (.reg [qM 0 (.c (.bool false))]) .ret) .skip))) (.reg [qM 24 (.t 5),qQ 25 (.bin .add (.t 24) (.c (.int .i64 1))),qM 5 (.t 25)])))))) (.seq (.reg [qM 33 (.t 3),qQ 34 (.build [.int .i64 0,.int .i64 0,.nils] [(0,1,.c (.int .i64 1)),(1,1,.c (.int .i64 4))]),qQ 35 (.call 25 [.t 33,.t 34]),qQ 6 (.alloc [.int .i64 0,.nils]),qR (.store 2 (.t 6) (.t 35))]) (.seq (.dreg [qM 36 (.t 1),qQ 37 (.nilck (.t 36)),qQ 38 (.faddr 4 (.t 37)),qQ 39 (.load 1 false (.t 38)),qQ 40 (.call 48 [.t 39]),qQ 41 (.bin .eql (.t 40) (.c (.int .u64 2))),qM 42 (.t 41),qG 43 (.faddr 0 (.t 6)) 42 true,qG 44 (.load 1 false (.t 43)) 42 true,qG 45 (.bin .eql (.t 44) (.c (.int .i64 0))) 42 true,qQ 46 (.pick (.t 42) (.t 45) (.c (.bool false))),qM 47 (.t 46),qG 48 (.faddr 1 (.t 6)) 47 true,qG 49 (.load 1 false (.t 48)) 47 true,qG 50 (.b2s (.t 49)) 47 true,qG 51 (.call 29 [.c (.int .u8 7)]) 47 true,qG 52 (.b2s (.t 51)) 47 true,qG 53 (.eqv .s false (.t 50) (.t 52)) 47 true,qQ 54 (.pick (.t 47) (.t 53) (.c (.bool false))),qM 55 (.t 54),qG 56 (.mov (.t 3)) 55 true,qG 57 (.call 40 [.t 56]) 55 true,qG 58 (.not (.t 57)) 55 true,qQ 59 (.pick (.t 55) (.t 58) (.c (.bool false))),qM 0 (.t 59)] [[],[0],[1],[2],[3],[4],[5,4],[6],[7,6],[8,6],[6,9],[10,6],[11],[12,11],[13,11],[11,11],[15,11],[14,16,11],[11,17],[18,15],[19],[20,19,19],[21,19],[19,22],[23,21,0,1,2,3,4,5,6,7,8,9,10,11,12,13,14,15,16,17,18,19,20,21,22,23]]) .ret))))))
theorem zi1:FnIs Tryz.prog 26 60 zao [.t 0]:=⟨Tryz.f26,_,Tryz.func26,rfl,rfl,by kernel_rfl,by kernel_rfl⟩

def zap:CC := .seq (.reg [qM 2 (.c .nils)]) (.seq (.reg [qQ 5 (.mksl 1 [.int .u8 0] 1 (.c (.int .i64 32)) (.c (.int .i64 32))),qM 3 (.t 5)]) (.seq (.seq (.reg [qM 4 (.c (.int .i64 0))]) (.block 0 (.loop (.seq (.seq (.reg [qM 6 (.t 4),qM 7 (.t 3),qQ 8 (.len (.t 7)),qQ 9 (.bin .lss (.t 6) (.t 8))]) (.cond (.t 9) .skip (.exit 0))) (.seq (.block 1 (.reg [qM 12 (.t 3),qM 13 (.t 4),qM 14 (.t 0),qQ 15 (.iaddr 1 (.t 12) (.t 13)),qR (.store 1 (.t 15) (.t 14))])) (.reg [qM 10 (.t 4),qQ 11 (.bin .add (.t 10) (.c (.int .i64 1))),qM 4 (.t 11)])))))) (.seq (.reg [qM 16 (.t 3),qM 2 (.t 16)]) .ret)))
theorem zi2:FnIs Tryz.prog 29 17 zap [.t 2]:=⟨Tryz.f29,_,Tryz.func29,rfl,rfl,by kernel_rfl,by kernel_rfl⟩

def z5a:CC := .seq (.reg [qM 2 (.c (.int .i64 0))]) (.seq (.reg [qM 3 (.c (.int .i64 0))]) (.seq (.seq (.reg [qM 5 (.t 0),qQ 6 (.call 31 [.t 5]),qQ 7 (.len (.t 6)),qM 8 (.c (.int .i64 0))]) (.block 0 (.loop (.seq (.reg [qQ 9 (.bin .lss (.t 8) (.t 7))]) (.seq (.cond (.t 9) .skip (.exit 0)) (.seq (.block 1 (.seq (.reg [qM 10 (.t 8),qM 4 (.t 10)]) (.seq (.reg [qM 11 (.t 0),qM 12 (.t 4),qQ 13 (.call 88 [.t 11,.t 12])]) (.cond (.t 13) (.reg [qM 14 (.t 3),qQ 15 (.bin .add (.t 14) (.c (.int .i64 1))),qM 3 (.t 15)]) .skip)))) (.reg [qQ 16 (.bin .add (.t 8) (.c (.int .i64 1))),qM 8 (.t 16)]))))))) (.seq (.reg [qM 17 (.t 3),qM 2 (.t 17)]) .ret)))
theorem zaz:FnIs Tryz.prog 33 18 z5a [.t 2]:=⟨Tryz.f33,_,Tryz.func33,rfl,rfl,by kernel_rfl,by kernel_rfl⟩

def z1y:CC := .seq (.reg [qM 2 (.c (.bool false))]) (.seq (.reg [qM 3 (.t 0),qQ 4 (.eqv .p true (.t 3) (.c .nilp)),qM 5 (.t 4),qG 6 (.mov (.t 0)) 5 true,qG 7 (.nilck (.t 6)) 5 true,qG 8 (.faddr 5 (.t 7)) 5 true,qG 9 (.load 1 false (.t 8)) 5 true,qQ 10 (.pick (.t 5) (.t 9) (.c (.bool false))),qM 2 (.t 10)]) .ret)
theorem z2x:FnIs Tryz.prog 40 11 z1y [.t 2]:=⟨Tryz.f40,_,Tryz.func40,rfl,rfl,by kernel_rfl,by kernel_rfl⟩

def z60:CC := .seq (.reg [qQ 1 (.box 3 (.t 0)),qM 2 (.c (.bool false))]) (.seq (.reg [qQ 4 (.faddr 1 (.t 1)),qQ 5 (.load 1 false (.t 4)),qQ 6 (.bin .geq (.t 5) (.c (.int .i64 0))),qM 7 (.t 6),qG 8 (.faddr 1 (.t 1)) 7 true,qG 9 (.load 1 false (.t 8)) 7 true,qG 10 (.bin .lss (.t 9) (.c (.int .i64 32))) 7 true,qQ 11 (.pick (.t 7) (.t 10) (.c (.bool false))),qM 3 (.t 11)]) (.seq (.seq (.reg [qQ 12 (.faddr 0 (.t 1)),qQ 13 (.load 1 false (.t 12))]) (.block 0 (.seq (.seq (.reg [qQ 15 (.bin .eql (.t 13) (.c (.int .i64 1))),qM 14 (.t 15)]) (.cond (.t 14) .skip (.reg [qQ 16 (.bin .eql (.t 13) (.c (.int .i64 4))),qM 14 (.t 16)]))) (.cond (.t 14) (.seq (.reg [qM 17 (.t 3),qM 2 (.t 17)]) .ret) (.seq (.reg [qQ 19 (.bin .eql (.t 13) (.c (.int .i64 2))),qM 18 (.t 19)]) (.cond (.t 18) (.seq (.reg [qM 20 (.t 3),qM 21 (.t 20),qG 22 (.faddr 2 (.t 1)) 21 true,qG 23 (.load 1 false (.t 22)) 21 true,qG 24 (.len (.t 23)) 21 true,qG 25 (.bin .eql (.t 24) (.c (.int .i64 32))) 21 true,qQ 26 (.pick (.t 21) (.t 25) (.c (.bool false))),qM 2 (.t 26)]) .ret) .skip)))))) (.seq (.reg [qQ 27 (.faddr 0 (.t 1)),qQ 28 (.load 1 false (.t 27)),qQ 29 (.bin .eql (.t 28) (.c (.int .i64 3))),qM 30 (.t 29),qG 31 (.faddr 0 (.t 1)) 30 false,qG 32 (.load 1 false (.t 31)) 30 false,qG 33 (.bin .eql (.t 32) (.c (.int .i64 5))) 30 false,qQ 34 (.pick (.t 30) (.c (.bool true)) (.t 33)),qM 2 (.t 34)]) .ret)))
theorem z80:FnIs Tryz.prog 42 35 z60 [.t 2]:=⟨Tryz.f42,_,Tryz.func42,rfl,rfl,by kernel_rfl,by kernel_rfl⟩

end Go.Proofs.YthblcmnhiccnhaaGreat


