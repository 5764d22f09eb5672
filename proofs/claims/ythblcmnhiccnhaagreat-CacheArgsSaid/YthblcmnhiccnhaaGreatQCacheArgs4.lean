/- What the statement's proof needs, part 4. -/
import Derived.Test.YthblcmnhiccnhaaGreatQCacheArgs3
set_option linter.all false
namespace Go.Proofs.YthblcmnhiccnhaaGreat
open Go Go.Abs

theorem zdm (p:Pr):(pairB p).length=16:=by simp [pairB]
attribute [local irreducible] encF pairB
theorem zps (sub:Pr)(k:Nat):∀ i:Nat,flowR sub (k+1) i=flowR sub k i++pairB (encF sub (((i+k:Nat):Int),0)):=by
 induction k with
 | zero => intro i; exact (List.append_nil _).trans (List.nil_append _).symm
 | succ k ih =>
  intro i
  rw [flowR,ih (i+1),flowR,List.append_assoc,show i+1+k=i+(k+1) by omega]
theorem zpt (sub:Pr)(k:Nat):flowR sub (k+1) 1=flowR sub k 1++pairB (encF sub ((k:Int)+1,0)):=by
 rw [zps,show (((1+k:Nat)):Int)=(k:Int)+1 by omega]
theorem zbp (sub:Pr):∀ k i:Nat,(flowR sub k i).length=16*k
 | 0, _ => rfl
 | k + 1, i => by rw [flowR, List.length_append, zdm, zbp sub k]; omega
theorem z7a (sub:Pr)(n:Nat):(flowF sub n).length=n:=by
 rw [flowF,List.length_take,zbp];omega
theorem za8 (sub:Pr)(n:Nat)(hn:n≤4000)(h:AHeap):AE Tryz.prog 170 [.agg (encP sub),.int .i64 n] h (.imm 1 ((flowF sub n).map encB)) h:=by
 refine AE.pureW zj9 (by simp) ?_
 unfold zba;dsimp only [qQ,qR,qM,qG]
 (refine go ?_)
 (refine WW.ifB rfl (fun hz2 => ?_) (fun hz2 => ?_))
 ·exfalso;omega
 (refine go ?_)
 refine WW.cvt (Cvt.adopt 1 (s:=5) rfl gN) ?_
 refine WW.loopE (fun (i:Nat)=>[(1,some (.int .i64 n)),(2,some (.ptr h.next 0 0)),(5,some (.app (h.next+1) 0 1 ((flowR sub i 1).map encB))),(6,some (.int .u64 ((i:Int)+1)))])
  (fun i h'=>h'.get h.next=some (.mem 2 [encP sub])∧h'.get (h.next+1)=some (.tail 0 (16*i))∧Keeps h h'∧i≤(n+15) / 16) (fun i=>(n+15) / 16 - i) 0 (by repeat first | exact subE.nil _ | (apply subE.cons;focus (first | exact rfl | (simp [z6,flowR];done) | (simp [z6,flowR];omega)))) ⟨gH,(by repeat first | exact zi (by first | rfl | exact List.length_map _ | (simp;done) | (simp;omega)) | exact get_set_tl (by first | rfl | exact List.length_map _ | (simp;done) | (simp;omega)) | assumption | with_reducible apply z3 (by omega) | with_reducible apply z1 (by omega)),gK,by omega⟩ ?_
 rintro i h' ⟨g1,g2,g3,g4⟩
 have hl:=zbp sub i 1
 (repeat first | refine WW.seq ?_ | refine WW.reg ?_ | refine WL.nil ?_ | refine WW.skip ?_ | refine WW.block ?_ | refine thenN ?_ | refine blkN ?_);iterate 2 (refine WL.go ?_)
 rw [hl]
 (refine go ?_)
 (refine WW.ifB rfl (fun hz3 => ?_) (fun hz3 => ?_))
 ·(refine go ?_)
  refine WL.call rfl gM gSL (z1c sub ((i:Int)+1,0) _) ?_
  (refine go ?_)
  refine WL.call rfl gM gSL (z1e _ _) ?_
  have hp:=zdm (encF sub ((i:Int)+1,0))
  (refine go ?_)
  rw [zcm,← zpt,hp]
  refine ⟨i+1,gSUB,⟨gH,(by repeat first | exact zi (by first | rfl | exact List.length_map _ | (simp;done) | (simp;omega)) | exact get_set_tl (by first | rfl | exact List.length_map _ | (simp;done) | (simp;omega)) | assumption | with_reducible apply z3 (by omega) | with_reducible apply z1 (by omega)),gK,by omega⟩,by omega⟩
 ·(refine go ?_)
  refine WW.ret (PureQ.finD ?_)
  rw [show List.drop 0 (List.take n (List.map encB (flowR sub i 1)))=(flowF sub n).map encB by
   rw [List.drop_zero,flowF,show (n+15) / 16=i by omega,List.map_take]]
  exact z8k rfl
theorem zui (x y:UInt8):bits .xor .u8 (x.toNat:Int) (y.toNat:Int)=((x ^^^ y).toNat:Int):=by
 show IntKind.u8.wrap ((BitVec.ofInt 8 (x.toNat:Int) ^^^ BitVec.ofInt 8 (y.toNat:Int)).toNat:Int)=_
 have h1:∀ z:UInt8,BitVec.ofInt 8 (z.toNat:Int)=z.toBitVec:=fun z=>by
  apply BitVec.eq_of_toNat_eq
  rw [BitVec.toNat_ofInt]
  have:=z.toNat_lt
  simp;omega
 rw [h1,h1]
 have h2:=(x ^^^ y).toNat_lt
 have h3:(x.toBitVec ^^^ y.toBitVec).toNat=(x ^^^ y).toNat:=rfl
 rw [h3,z1z (by constructor <;> omega)]
theorem zeh {a b:Bs}(hb:b.length=a.length):(xorB a b).length=a.length:=by simp [xorB,hb]
theorem zt4 {a b:Bs}{i:Nat}(h1:i < a.length)(h2:i < b.length):(xorB a b).getD i 0=a[i] ^^^ b[i]:=by
 have h3:i < (xorB a b).length:=by simp [xorB];omega
 rw [List.getD_eq_getElem?_getD,List.getElem?_eq_getElem h3,Option.getD_some]
 simp [xorB]
theorem zok {l:Bs}{n:Nat}(hn:l.length=n):(List.range n).map (fun k=>encB (l.getD k 0))=l.map encB:=by
 subst hn
 refine List.ext_getElem (by simp) fun i h1 h2 => ?_
 have h3:i < l.length:=by simpa using h2
 simp [List.getElem?_eq_getElem h3]
theorem zt5 (a:Int):(if a < a then a else a)=a:=by simp
theorem zdn (a b:Bs)(hb:b.length=a.length)(hl:a.length≤4000)(h:AHeap):AE Tryz.prog 169 [.imm 1 (a.map encB),.imm 1 (b.map encB)] h (.imm 1 ((xorB a b).map encB)) h:=by
 refine AE.pureW zmj (by simp) ?_
 unfold zfe;dsimp only [qQ,qR,qM,qG]
 (repeat first | refine WW.seq ?_ | refine WW.reg ?_ | refine WL.nil ?_ | refine WW.skip ?_ | refine WW.block ?_ | refine thenN ?_ | refine blkN ?_);iterate 1 (refine WL.go ?_)
 (repeat first | refine WW.seq ?_ | refine WW.reg ?_ | refine WL.nil ?_ | refine WW.skip ?_ | refine WW.block ?_ | refine thenN ?_ | refine blkN ?_);iterate 4 (refine WL.go ?_)
 rw [hb]
 refine WL.auto (Stp.mn rfl rfl gM) ?_
 rw [zt5]
 (refine go ?_)
 refine WW.loopE (fun (i:Nat)=>[(0,some (.imm 1 (a.map encB))),(1,some (.imm 1 (b.map encB))),(5,some (.ref h.next 0 a.length)),(14,some (.int .i64 a.length)),(15,some (.int .i64 i))])
  (fun i h'=>h'.get h.next=some (.mem 1 ((List.range a.length).map fun k=>if k < i then encB ((xorB a b).getD k 0) else [.int .u8 0]))∧Keeps h h'∧i≤a.length) (fun i=>a.length - i) 0 gSUB ⟨?_,gK,by simp⟩ ?_
 ·rw [← zbf (x:=[.int .u8 0]) (by intros;rfl)]
  exact gH
 rintro i h' ⟨g1,g2,g3⟩
 (refine go ?_)
 (refine WW.ifB rfl (fun hz1 => ?_) (fun hz1 => ?_))
 ·have h2:i < b.length:=by omega
  (refine go ?_)
  refine ⟨i+1,gSUB,⟨?_,gK,by omega⟩,by omega⟩
  rw [za,Nat.zero_add,zeb (by rw [zt4 (show i < a.length by omega) h2];simp [putC,AV.cs,encB,zui])]
 ·(refine go ?_)
  refine WW.ret (PureQ.finD ?_)
  rw [zec (by omega)] at g1
  refine zb5 g1 (Nat.le_refl _) (by simp) ?_ (z2m fun _=>zbg _)
  exact zok (zeh hb)
end Go.Proofs.YthblcmnhiccnhaaGreat


namespace Go.Proofs.YthblcmnhiccnhaaGreat
open Go Go.Abs

theorem Cvt.frzE {e:Env}{h:AHeap}{s id off len sz:Nat}{cc c':List (List AV)}(hs:lk s e=some (.ref id off len))(hg:h.get id=some (.mem sz cc))(hc:(cc.drop off).take len=c'):Cvt e h ((s,some (.imm sz c'))::e) (h.set id none):=by subst hc;exact Cvt.frz hs hg
def getS (v:Int)(c:UInt8):Int:=o64 (shl64 v 8) (c.toNat:Int)
theorem zuj (b:Bs):getB b=b.foldl getS 0:=rfl
structure GetS where
 i:Nat
 v:Int
theorem z14 (b:Bs)(hb:1≤b.length∧b.length≤8)(h:AHeap):AE Tryz.prog 238 [.imm 1 (b.map encB)] h (.tup [.int .u64 (getB b),.bool true]) h:=by
 refine AE.pureW zmk (by simp) ?_
 unfold zfg;dsimp only [qQ,qR,qM,qG]
 (refine go ?_)
 (apply WL.orB;exact rfl;exact rfl;exact rfl;exact BP.of;intro hz1)
 ·(repeat first | (apply GW.goS;exact Stp.auto) | apply GW.nil | exact rfl)
 refine WL.nil ?_
 (repeat first | refine WW.seq ?_ | refine WW.reg ?_ | refine WL.nil ?_ | refine WW.skip ?_ | refine WW.block ?_ | refine thenN ?_ | refine blkN ?_)
 (refine WW.ifB rfl (fun hz2 => ?_) (fun hz2 => ?_))
 ·exfalso;simp at hz2;omega
 (refine go ?_)
 refine WW.loopE (fun (s:GetS)=>[(4,some (.int .u64 s.v)),(15,some (.imm 1 (b.map encB))),(16,some (.int .i64 b.length)),(17,some (.int .i64 s.i))])
  (fun s h'=>Keeps h h'∧s.i≤b.length∧getB b=(b.drop s.i).foldl getS s.v) (fun s=>b.length - s.i) ⟨0,0⟩ gSUB ⟨gK,Nat.zero_le _,by simp [zuj]⟩ ?_
 rintro ⟨i,v⟩ h' ⟨g1,g2,g3⟩
 simp only at g1 g2 g3 ⊢
 (refine go ?_)
 (refine WW.ifB rfl (fun hz3 => ?_) (fun hz3 => ?_))
 ·have hi:i < b.length:=by omega
  have hu:=(b[i]).toNat_lt
  (refine go ?_)
  refine ⟨⟨i+1,getS v b[i]⟩,gSUB,⟨gK,hi,?_⟩,(by show b.length - (i+1) < b.length - i;omega)⟩
  rw [g3,List.drop_eq_getElem_cons hi];rfl
 ·have hi:i=b.length:=by omega
  (refine go ?_)
  refine WW.ret (PureQ.finD ?_)
  rw [g3,hi,List.drop_length]
  exact Fz.tup2 (fz_i rfl) (fz_b rfl)
theorem zpu (b:Bs)(n:Nat):((b.map encB).take n).drop 0=(b.take n).map encB:=by simp
theorem zpv (b:Bs)(n:Nat):((b.map encB).take (b.map encB).length).drop n=(b.drop n).map encB:=by rw [List.take_of_length_le (Nat.le_refl _),List.map_drop]
theorem z2o (b:Bs)(hb:b.length=16)(h:AHeap):AE Tryz.prog 175 [.imm 1 (b.map encB)] h (.tup [.agg (encP (pairF b)),.bool true]) h:=by
 refine AE.pureW zkt (by simp) ?_
 unfold zdi;dsimp only [qQ,qR,qM,qG]
 (refine go ?_)
 (refine WW.ifB rfl (fun hz1 => ?_) (fun hz1 => ?_))
 ·exfalso;omega
 (refine go ?_)
 have hc1:=z14 (b.take 8) (by simp;omega)
 rw [← zpu] at hc1
 refine WL.call rfl gM gSL (hc1 _) ?_
 (refine go ?_)
 have hc2:=z14 (b.drop 8) (by simp;omega)
 rw [← zpv] at hc2
 refine WL.call rfl gM gSL (hc2 _) ?_
 (refine go ?_)
 refine WW.ret (PureQ.finD ?_)
 exact Fz.tup2 (zd rfl (flatP (pairF b))) (fz_b rfl)
theorem zr6 {u:Nat→Prop}{id g:Nat}(hu:u id)(l:List Pr):Clo u (.app id g 2 (l.map encP)) := .app _ _ _ _ hu fun x hx v hv=>by
 obtain ⟨b,_,rfl⟩:=List.mem_map.1 hx
 exact z13 (flatP b v hv)
theorem z7b:rowsF []=[]:=by unfold rowsF;simp
theorem zfr {b:Bs}(hb:b≠[]):rowsF b=b.take 16::rowsF (b.drop 16):=by
 conv=>lhs;unfold rowsF
 rw [dif_neg hb]
theorem zdo {b:Bs}(hb:b≠[]):z17 b=pairF (fillF (b.take 16))::z17 (b.drop 16):=by rw [z17,zfr hb];rfl
theorem zpw {b:Bs}(hb:b.length≤16):(fillF b).length=16:=by simp [fillF];omega
theorem zuk (l:List Pr):flatC (l.map encP):=z2m flatP
theorem zr7 (b:Bs):((b.map encB).take (b.map encB).length).drop (min (b.map encB).length 16)=(b.drop 16).map encB:=by
 rw [List.take_of_length_le (Nat.le_refl _),← List.map_drop]
 congr 1
 simp only [List.length_map]
 rcases Nat.le_total b.length 16 with h | h
 ·rw [Nat.min_eq_left h,List.drop_length,List.drop_eq_nil_of_le h]
 ·rw [Nat.min_eq_right h]
theorem zt6 (b:Bs):((((List.replicate 16 [AV.int .u8 0]).take 0++(b.map encB).take (min (b.map encB).length 16)++(List.replicate 16 [AV.int .u8 0]).drop (0+min (b.map encB).length 16))).drop 0).take 16=(fillF (b.take 16)).map encB:=by
 have e0:[AV.int .u8 0]=encB 0:=rfl
 rw [e0,fillF]
 simp only [List.take_zero,List.nil_append,List.drop_zero,Nat.zero_add,List.length_map,List.map_append,List.map_take,List.map_replicate,List.drop_replicate,List.length_take]
 rw [List.take_of_length_le (by simp;omega)]
 congr 1
 ·rcases Nat.le_total b.length 16 with h | h
  ·rw [Nat.min_eq_left h,List.take_of_length_le (by simp),List.take_of_length_le (by simpa using h)]
  ·rw [Nat.min_eq_right h]
 ·rw [Nat.min_comm]
theorem zbq {h:AHeap}{nx:Nat}(hn:h.next=nx)(b:Bs)(hb:b.length≤4000):AE Tryz.prog 233 [.imm 1 (b.map encB)] h (.app nx 0 2 ((z17 b).map encP)) (h.put nx (.tail 0 (z17 b).length)):=by
 subst hn
 refine AE.effW zkp (by simp) (Ext.put Ext.refl trivial) ?_
 unfold zde;dsimp only [qQ,qR,qM,qG]
 (refine go ?_)
 refine WW.cvt (Cvt.adopt 2 (s:=3) rfl gN) ?_
 refine WW.loopE (fun (s:Bs×List Pr)=>[(0,some (.imm 1 (s.1.map encB))),(3,some (.app h.next 0 2 (s.2.map encP)))])
  (fun s h'=>h'.get h.next=some (.tail 0 s.2.length)∧h.next+1≤h'.next∧Keeps h h'∧s.1.length≤4000∧s.2.length+s.1.length≤4000∧z17 b=s.2++z17 s.1) (fun s=>s.1.length) (b,[]) gSUB ⟨(by repeat first | exact zi (by first | rfl | exact List.length_map _ | (simp;done) | (simp;omega)) | exact get_set_tl (by first | rfl | exact List.length_map _ | (simp;done) | (simp;omega)) | assumption | with_reducible apply z3 (by omega) | with_reducible apply z1 (by omega)),(leN gN (by omega)),gK,hb,by simpa using hb,rfl⟩ ?_
 rintro ⟨r,l⟩ h' ⟨g1,g2,g3,g4,g5,g6⟩
 simp only at g1 g2 g3 g4 g5 g6 ⊢
 (refine go ?_)
 (refine WW.ifB rfl (fun hz1 => ?_) (fun hz1 => ?_))
 ·have hr:r≠[]:=fun e=>by subst e;simp at hz1
  have h0:0 < r.length:=by omega
  (repeat first | refine WW.seq ?_ | refine WW.reg ?_ | refine WL.nil ?_ | refine WW.skip ?_ | refine WW.block ?_ | refine thenN ?_ | refine blkN ?_);iterate 2 (refine WL.go ?_)
  (repeat first | refine WW.seq ?_ | refine WW.reg ?_ | refine WL.nil ?_ | refine WW.skip ?_ | refine WW.block ?_ | refine thenN ?_ | refine blkN ?_);iterate 4 (refine WL.go ?_)
  (repeat first | refine WW.seq ?_ | refine WW.reg ?_ | refine WL.nil ?_ | refine WW.skip ?_ | refine WW.block ?_ | refine thenN ?_ | refine blkN ?_);iterate 3 (refine WL.go ?_)
  rw [zr7]
  (repeat first | refine WW.seq ?_ | refine WW.reg ?_ | refine WL.nil ?_ | refine WW.skip ?_ | refine WW.block ?_ | refine thenN ?_ | refine blkN ?_);iterate 1 (refine WL.go ?_)
  (repeat first | refine WW.seq ?_ | refine WW.reg ?_ | refine WL.nil ?_ | refine WW.skip ?_ | refine WW.block ?_ | refine thenN ?_ | refine blkN ?_);iterate 1 (refine WL.go ?_)
  refine WL.cvt (Cvt.frzE (s:=19) rfl gH (zt6 r)) ?_
  refine WL.call rfl gM gSL (z2o _ (zpw (by simp;omega)) _) ?_
  (refine go ?_)
  rw [show [[AV.int IntKind.u64 (pairF (fillF (r.take 16))).1,AV.int IntKind.u64 (pairF (fillF (r.take 16))).2]]=[pairF (fillF (r.take 16))].map encP from rfl,zcm]
  refine ⟨(r.drop 16,l++[pairF (fillF (r.take 16))]),gSUB,⟨(by repeat first | exact zi (by first | rfl | exact List.length_map _ | (simp;done) | (simp;omega)) | exact get_set_tl (by first | rfl | exact List.length_map _ | (simp;done) | (simp;omega)) | assumption | with_reducible apply z3 (by omega) | with_reducible apply z1 (by omega)),(leN gN (by omega)),gK,by simp;omega,by simp;omega,?_⟩,by simp;omega⟩
  rw [g6,zdo hr,List.append_assoc];rfl
 ·have hr:r=[]:=by cases r with
   | nil => rfl
   | cons x y => exfalso; simp only [List.length_cons] at hz1; omega
  subst hr
  rw [show z17 []=[] by rw [z17,z7b];rfl,List.append_nil] at g6
  subst g6
  (refine go ?_)
  refine WW.ret (EffQ.finD ?_ ?_)
  ·exact zoj g3 g1 g2
  ·exact .clo _ (zr6 z2 _)
end Go.Proofs.YthblcmnhiccnhaaGreat


set_option maxRecDepth 100000
namespace Go.Proofs.YthblcmnhiccnhaaGreat
open Go Go.Abs

def z5o:CC := .seq (.reg [qQ 3 (.box 1 (.t 0)),qM 6 (.c (.bool false))]) (.seq (.reg [qQ 7 (.faddr 0 (.t 3)),qQ 8 (.load 1 false (.t 7)),qQ 9 (.call 62 [.t 8]),qM 10 (.t 9),qG 11 (.mov (.t 1)) 10 true,qG 12 (.bin .geq (.t 11) (.c (.int .i64 0))) 10 true,qQ 13 (.pick (.t 10) (.t 12) (.c (.bool false))),qM 14 (.t 13),qG 15 (.mov (.t 1)) 14 true,qG 16 (.mov (.t 2)) 14 true,qG 17 (.bin .lss (.t 15) (.t 16)) 14 true,qQ 18 (.pick (.t 14) (.t 17) (.c (.bool false))),qM 6 (.t 18)]) .ret)
theorem zbr:FnIs Tryz.prog 180 19 z5o [.t 6]:=⟨Tryz.f180,_,Tryz.func180,rfl,rfl,by kernel_rfl,by kernel_rfl⟩

def z6l:CC := .seq (.reg [qQ 1 (.box 1 (.t 0)),qM 2 (.c (.int .i64 0))]) (.seq (.reg [qQ 3 (.faddr 0 (.t 1)),qQ 4 (.load 1 false (.t 3)),qQ 5 (.bin .mul (.t 4) (.c (.int .i64 64))),qM 2 (.t 5)]) .ret)
theorem zd4:FnIs Tryz.prog 181 6 z6l [.t 2]:=⟨Tryz.f181,_,Tryz.func181,rfl,rfl,by kernel_rfl,by kernel_rfl⟩

def z6m:CC := .seq (.reg [qQ 3 (.box 1 (.t 0)),qM 6 (.c (.int .i64 0))]) (.seq (.seq (.reg [qQ 7 (.load 1 true (.t 3)),qM 8 (.t 1),qQ 9 (.call 180 [.t 7,.t 8,.c (.int .i64 2)]),qQ 10 (.not (.t 9)),qM 11 (.t 10),qG 12 (.load 1 true (.t 3)) 11 false,qG 13 (.mov (.t 2)) 11 false,qG 14 (.faddr 0 (.t 3)) 11 false,qG 15 (.load 1 false (.t 14)) 11 false,qG 16 (.call 180 [.t 12,.t 13,.t 15]) 11 false,qG 17 (.not (.t 16)) 11 false,qQ 18 (.pick (.t 11) (.c (.bool true)) (.t 17))]) (.cond (.t 18) (.seq (.reg [qM 6 (.c (.int .i64 (-1)))]) .ret) .skip)) (.seq (.dreg [qQ 19 (.faddr 0 (.t 3)),qQ 20 (.load 1 false (.t 19)),qQ 21 (.bin .mul (.t 20) (.c (.int .i64 32))),qM 22 (.t 1),qQ 23 (.load 1 true (.t 3)),qQ 24 (.call 181 [.t 23]),qQ 25 (.bin .mul (.t 22) (.t 24)),qQ 26 (.bin .add (.t 21) (.t 25)),qM 27 (.t 2),qQ 28 (.bin .mul (.t 27) (.c (.int .i64 32))),qQ 29 (.bin .add (.t 26) (.t 28)),qM 6 (.t 29)] [[],[0],[1],[],[],[4],[3,5],[2,6],[],[8],[7,9],[10,5,0,1,2,3,4,5,6,7,8,9,10]]) .ret))
theorem zd5:FnIs Tryz.prog 186 30 z6m [.t 6]:=⟨Tryz.f186,_,Tryz.func186,rfl,rfl,by kernel_rfl,by kernel_rfl⟩

def z6n:CC := .seq (.reg [qQ 3 (.box 1 (.t 0)),qM 6 (.c (.int .i64 0))]) (.seq (.seq (.reg [qQ 7 (.load 1 true (.t 3)),qM 8 (.t 1),qQ 9 (.call 180 [.t 7,.t 8,.c (.int .i64 2)]),qQ 10 (.not (.t 9)),qM 11 (.t 10),qG 12 (.load 1 true (.t 3)) 11 false,qG 13 (.mov (.t 2)) 11 false,qG 14 (.faddr 0 (.t 3)) 11 false,qG 15 (.load 1 false (.t 14)) 11 false,qG 16 (.bin .mul (.c (.int .i64 2)) (.t 15)) 11 false,qG 17 (.call 180 [.t 12,.t 13,.t 16]) 11 false,qG 18 (.not (.t 17)) 11 false,qQ 19 (.pick (.t 11) (.c (.bool true)) (.t 18))]) (.cond (.t 19) (.seq (.reg [qM 6 (.c (.int .i64 (-1)))]) .ret) .skip)) (.seq (.reg [qQ 20 (.load 1 true (.t 3)),qM 21 (.t 1),qQ 22 (.call 297 [.t 20,.c (.func (.func 186) [] []),.t 21]),qM 23 (.t 2),qQ 24 (.bin .mul (.t 23) (.c (.int .i64 16))),qQ 25 (.bin .add (.t 22) (.t 24)),qM 6 (.t 25)]) .ret))
theorem zd6:FnIs Tryz.prog 284 26 z6n [.t 6]:=⟨Tryz.f284,_,Tryz.func284,rfl,rfl,by kernel_rfl,by kernel_rfl⟩

def z54:CC := .seq (.reg [qQ 3 (.box 1 (.t 0)),qM 6 (.c (.int .i64 0))]) (.seq (.reg [qM 7 (.t 1),qQ 8 (.load 1 true (.t 3)),qM 9 (.t 2),qQ 10 (.faddr 0 (.t 3)),qQ 11 (.load 1 false (.t 10)),qQ 12 (.bin .sub (.t 11) (.c (.int .i64 1))),qQ 13 (.callv (.t 7) [.t 8,.t 9,.t 12]),qQ 14 (.bin .add (.t 13) (.c (.int .i64 32))),qM 6 (.t 14)]) .ret)
theorem zav:FnIs Tryz.prog 297 15 z54 [.t 6]:=⟨Tryz.f297,_,Tryz.func297,rfl,rfl,by kernel_rfl,by kernel_rfl⟩

def z7c:CC := .seq (.reg [qQ 2 (.box 1 (.t 0)),qM 4 (.c (.int .i64 0))]) (.seq (.seq (.reg [qQ 5 (.load 1 true (.t 2)),qM 6 (.t 1),qQ 7 (.call 180 [.t 5,.t 6,.c (.int .i64 2)]),qQ 8 (.not (.t 7))]) (.cond (.t 8) (.seq (.reg [qM 4 (.c (.int .i64 (-1)))]) .ret) .skip)) (.seq (.dreg [qQ 9 (.faddr 0 (.t 2)),qQ 10 (.load 1 false (.t 9)),qQ 11 (.bin .mul (.t 10) (.c (.int .i64 32))),qQ 12 (.load 1 true (.t 2)),qQ 13 (.call 181 [.t 12]),qQ 14 (.bin .mul (.c (.int .i64 2)) (.t 13)),qQ 15 (.bin .add (.t 11) (.t 14)),qM 16 (.t 1),qQ 17 (.bin .mul (.t 16) (.c (.int .i64 60))),qQ 18 (.bin .add (.t 15) (.t 17)),qM 4 (.t 18)] [[],[0],[1],[],[3],[4],[2,5],[],[7],[6,8],[9,4,0,1,2,3,4,5,6,7,8,9]]) .ret))
theorem zei:FnIs Tryz.prog 122 19 z7c [.t 4]:=⟨Tryz.f122,_,Tryz.func122,rfl,rfl,by kernel_rfl,by kernel_rfl⟩

def z6o:CC := .seq (.reg [qQ 1 (.box 1 (.t 0)),qM 2 (.c (.int .i64 0))]) (.seq (.seq (.reg [qQ 3 (.faddr 0 (.t 1)),qQ 4 (.load 1 false (.t 3)),qQ 5 (.call 62 [.t 4]),qQ 6 (.not (.t 5))]) (.cond (.t 6) (.seq (.reg [qM 2 (.c (.int .i64 0))]) .ret) .skip)) (.seq (.reg [qQ 7 (.load 1 true (.t 1)),qQ 8 (.call 122 [.t 7,.c (.int .i64 1)]),qQ 9 (.bin .add (.t 8) (.c (.int .i64 60))),qM 2 (.t 9)]) .ret))
theorem zd7:FnIs Tryz.prog 67 10 z6o [.t 2]:=⟨Tryz.f67,_,Tryz.func67,rfl,rfl,by kernel_rfl,by kernel_rfl⟩

def zdp:CC := .seq (.reg [qM 6 (.c .nilp),qM 7 (.c (.int .i64 0))]) (.seq (.seq (.reg [qM 11 (.t 0),qQ 12 (.call 62 [.t 11]),qQ 13 (.not (.t 12))]) (.cond (.t 13) (.seq (.reg [qM 6 (.c .nilp),qM 7 (.c (.int .i64 1))]) .ret) .skip)) (.seq (.reg [qM 14 (.t 0),qQ 15 (.build [.int .i64 0] [(0,1,.t 14)]),qQ 16 (.call 63 []),qQ 8 (.alloc [.int .i64 0]),qR (.store 1 (.t 8) (.t 15)),qM 9 (.t 16)]) (.seq (.reg [qQ 17 (.call 64 []),qM 10 (.t 17)]) (.seq (.seq (.reg [qM 18 (.t 2)]) (.cond (.t 18) (.reg [qQ 19 (.call 65 []),qM 10 (.t 19)]) .skip)) (.seq (.dreg [qQ 20 (.load 1 true (.t 8)),qM 21 (.t 9),qQ 22 (.load 1 true (.t 8)),qQ 23 (.call 67 [.t 22]),qM 24 (.t 9),qQ 25 (.call 66 [.t 23,.t 24]),qM 26 (.t 9),qQ 27 (.call 68 [.t 26]),qM 28 (.t 9),qQ 29 (.call 69 [.t 28]),qM 30 (.t 1),qM 31 (.t 9),qQ 32 (.call 70 [.t 30,.t 31]),qM 33 (.t 10),qQ 34 (.build [.int .i64 0,.nilp,.nilp,.nilp,.nilp,.nilp,.nilp] [(0,1,.t 20),(1,1,.t 21),(2,1,.t 25),(3,1,.t 27),(4,1,.t 29),(5,1,.t 32),(6,1,.t 33)]),qQ 35 (.box 7 (.t 34)),qM 6 (.t 35),qM 7 (.c (.int .i64 0))] [[],[],[],[2],[],[3,4,3],[],[6,5],[],[8,7],[],[],[10,11,9],[],[0,1,5,7,9,12,13],[14],[15,12,0,1,2,3,4,5,6,7,8,9,10,11,12,13,14,15],[16,0,1,2,3,4,5,6,7,8,9,10,11,12,13,14,15,16]]) .ret)))))
theorem zl4:FnIs Tryz.prog 22 36 zdp [.t 6,.t 7]:=⟨Tryz.f22,_,Tryz.func22,rfl,rfl,by kernel_rfl,by kernel_rfl⟩

def z5p:CC := .seq (.reg [qM 2 (.c (.int .u32 0)),qQ 3 (.alloc [.int .u64 0,.int .u64 0])]) (.seq (.seq (.reg [qM 4 (.t 0),qQ 5 (.eqv .p false (.t 4) (.c .nilp))]) (.cond (.t 5) (.seq (.reg [qQ 6 (.build [.int .u64 0,.int .u64 0] []),qM 2 (.c (.int .u32 0)),qR (.store 2 (.t 3) (.t 6))]) .ret) .skip)) (.seq (.reg [qM 7 (.t 0),qQ 8 (.nilck (.t 7)),qQ 9 (.faddr 5 (.t 8)),qQ 10 (.load 1 false (.t 9)),qQ 11 (.call 30 [.t 10]),qM 2 (.t 11)]) (.seq (.reg [qM 13 (.t 0),qQ 14 (.nilck (.t 13)),qQ 15 (.faddr 5 (.t 14)),qQ 16 (.load 1 false (.t 15)),qM 17 (.t 2),qQ 18 (.call 58 [.t 16,.t 17]),qM 12 (.t 18),qQ 19 (.ext 0 (.t 12)),qQ 20 (.ext 1 (.t 12)),qR (.store 2 (.t 3) (.t 19))]) (.seq (.dreg [qM 21 (.t 2),qQ 22 (.load 2 true (.t 3)),qM 2 (.t 21),qR (.store 2 (.t 3) (.t 22))] [[],[],[0,0],[1,2,0,1,2]]) .ret))))
theorem zbs:FnIs Tryz.prog 199 23 z5p [.t 2,.cell 3 2 true]:=⟨Tryz.f199,_,Tryz.func199,rfl,rfl,by kernel_rfl,by kernel_rfl⟩

end Go.Proofs.YthblcmnhiccnhaaGreat


namespace Go.Proofs.YthblcmnhiccnhaaGreat
open Go Go.Abs

def zdq:CC := .seq (.reg [qQ 5 (.box 2 (.t 2)),qM 6 (.c .nils),qM 7 (.c (.int .i64 0))]) (.seq (.seq (.reg [qM 19 (.t 0),qM 20 (.t 1),qQ 21 (.call 185 [.t 19,.t 20]),qQ 22 (.not (.t 21))]) (.cond (.t 22) (.seq (.reg [qM 6 (.c .nils),qM 7 (.c (.int .i64 1))]) .ret) .skip)) (.seq (.reg [qM 8 (.c .nils)]) (.seq (.seq (.reg [qM 23 (.t 0),qQ 24 (.nilck (.t 23)),qQ 25 (.faddr 0 (.t 24)),qQ 26 (.faddr 0 (.t 25)),qQ 27 (.load 1 false (.t 26)),qM 28 (.c (.int .i64 0))]) (.block 0 (.loop (.seq (.reg [qQ 29 (.bin .lss (.t 28) (.t 27))]) (.seq (.cond (.t 29) .skip (.exit 0)) (.seq (.block 1 (.seq (.reg [qM 30 (.t 28),qM 9 (.t 30)]) (.seq (.dreg [qM 32 (.t 0),qQ 33 (.nilck (.t 32)),qQ 34 (.faddr 2 (.t 33)),qQ 35 (.load 1 false (.t 34)),qM 36 (.t 0),qQ 37 (.nilck (.t 36)),qQ 38 (.faddr 0 (.t 37)),qQ 39 (.load 1 true (.t 38)),qM 40 (.t 1),qM 41 (.t 9),qQ 42 (.call 186 [.t 39,.t 40,.t 41]),qQ 43 (.call 182 [.t 35,.t 42,.c (.int .i64 32)]),qM 31 (.t 43),qQ 44 (.ext 0 (.t 31)),qQ 45 (.ext 1 (.t 31)),qM 10 (.t 44),qM 11 (.t 45)] [[],[0],[1],[2],[],[4],[5],[6],[],[],[7,8,9],[3,10,10],[11],[12],[12],[13,11,0,1,2,3,4,5,6,7,8,9,10,11,12,13],[14,15,0,1,2,3,4,5,6,7,8,9,10,11,12,13,14,15]]) (.seq (.seq (.reg [qM 46 (.t 11),qQ 47 (.not (.t 46))]) (.cond (.t 47) (.seq (.reg [qM 6 (.c .nils),qM 7 (.c (.int .i64 7))]) .ret) .skip)) (.reg [qM 48 (.t 8),qM 49 (.t 10),qQ 50 (.bsl 1 [.t 49]),qQ 51 (.app 1 24 (.t 48) (.t 50)),qM 8 (.t 51)]))))) (.reg [qQ 52 (.bin .add (.t 28) (.c (.int .i64 1))),qM 28 (.t 52)]))))))) (.seq (.reg [qM 54 (.t 0),qQ 55 (.nilck (.t 54)),qQ 56 (.faddr 6 (.t 55)),qQ 57 (.load 1 false (.t 56)),qM 58 (.t 8),qQ 59 (.call 187 [.t 57,.t 58]),qM 53 (.t 59),qQ 60 (.ext 0 (.t 53)),qQ 61 (.ext 1 (.t 53)),qM 12 (.t 60),qM 13 (.t 61)]) (.seq (.seq (.dreg [qM 62 (.t 13),qQ 63 (.not (.t 62)),qM 64 (.t 63),qG 65 (.mov (.t 12)) 64 false,qG 66 (.iaddr 2 (.t 65) (.c (.int .i64 1))) 64 false,qG 67 (.load 2 true (.t 66)) 64 false,qG 68 (.load 2 true (.t 5)) 64 false,qG 69 (.eqv (.a [.i,.i]) true (.t 67) (.t 68)) 64 false,qQ 70 (.pick (.t 64) (.c (.bool true)) (.t 69))] [[],[0],[1],[2],[3,2],[4,2],[2],[5,6,2],[2,7]]) (.cond (.t 70) (.seq (.reg [qM 6 (.c .nils),qM 7 (.c (.int .i64 3))]) .ret) .skip)) (.seq (.reg [qM 14 (.c .nils)]) (.seq (.seq (.reg [qM 71 (.t 8),qQ 72 (.len (.t 71)),qM 73 (.c (.int .i64 0))]) (.block 2 (.loop (.seq (.reg [qQ 74 (.bin .lss (.t 73) (.t 72))]) (.seq (.cond (.t 74) .skip (.exit 2)) (.seq (.block 3 (.seq (.reg [qM 75 (.t 73),qQ 76 (.iaddr 1 (.t 71) (.t 73)),qQ 77 (.load 1 false (.t 76)),qM 15 (.t 75),qM 16 (.t 77)]) (.seq (.reg [qM 79 (.t 16),qM 80 (.t 15),qQ 81 (.call 188 [.t 79,.t 80]),qM 78 (.t 81),qQ 82 (.ext 0 (.t 78)),qQ 83 (.ext 1 (.t 78)),qQ 17 (.alloc [.int .i64 0,.bool false,.int .i64 0,.int .u32 0,.int .u32 0,.int .u64 0,.int .u64 0,.int .u64 0]),qR (.store 8 (.t 17) (.t 82)),qM 18 (.t 83)]) (.seq (.seq (.reg [qM 84 (.t 18),qQ 85 (.not (.t 84))]) (.cond (.t 85) (.seq (.reg [qM 6 (.c .nils),qM 7 (.c (.int .i64 3))]) .ret) .skip)) (.reg [qM 86 (.t 14),qQ 87 (.load 8 true (.t 17)),qQ 88 (.bsl 8 [.t 87]),qQ 89 (.app 8 56 (.t 86) (.t 88)),qM 14 (.t 89)]))))) (.reg [qQ 90 (.bin .add (.t 73) (.c (.int .i64 1))),qM 73 (.t 90)]))))))) (.seq (.reg [qM 91 (.t 14),qM 6 (.t 91),qM 7 (.c (.int .i64 0))]) .ret))))))))
theorem zl5:FnIs Tryz.prog 124 92 zdq [.t 6,.t 7]:=⟨Tryz.f124,_,Tryz.func124,rfl,rfl,by kernel_rfl,by kernel_rfl⟩

def zbt:CC := .seq (.reg [qQ 6 (.alloc [.int .u64 0,.int .u64 0]),qM 7 (.c (.int .i64 0))]) (.seq (.seq (.reg [qM 19 (.t 0),qM 20 (.t 1),qQ 21 (.call 185 [.t 19,.t 20]),qQ 22 (.not (.t 21)),qM 23 (.t 22),qG 24 (.mov (.t 2)) 23 false,qG 25 (.len (.t 24)) 23 false,qG 26 (.mov (.t 0)) 23 false,qG 27 (.nilck (.t 26)) 23 false,qG 28 (.faddr 0 (.t 27)) 23 false,qG 29 (.faddr 0 (.t 28)) 23 false,qG 30 (.load 1 false (.t 29)) 23 false,qG 31 (.bin .neq (.t 25) (.t 30)) 23 false,qQ 32 (.pick (.t 23) (.c (.bool true)) (.t 31))]) (.cond (.t 32) (.seq (.reg [qQ 33 (.build [.int .u64 0,.int .u64 0] []),qR (.store 2 (.t 6) (.t 33)),qM 7 (.c (.int .i64 1))]) .ret) .skip)) (.seq (.reg [qM 8 (.c .nils)]) (.seq (.reg [qM 9 (.c .nils),qM 10 (.c .nils)]) (.seq (.seq (.reg [qM 34 (.t 2),qQ 35 (.len (.t 34)),qM 36 (.c (.int .i64 0))]) (.block 0 (.loop (.seq (.reg [qQ 37 (.bin .lss (.t 36) (.t 35))]) (.seq (.cond (.t 37) .skip (.exit 0)) (.seq (.block 1 (.seq (.reg [qM 38 (.t 36),qQ 39 (.iaddr 8 (.t 34) (.t 36)),qQ 40 (.load 8 true (.t 39)),qQ 12 (.alloc [.int .i64 0,.bool false,.int .i64 0,.int .u32 0,.int .u32 0,.int .u64 0,.int .u64 0,.int .u64 0]),qM 11 (.t 38),qR (.store 8 (.t 12) (.t 40))]) (.seq (.reg [qQ 42 (.load 8 true (.t 12)),qM 43 (.t 11),qQ 44 (.call 248 [.t 42,.t 43]),qM 41 (.t 44),qQ 45 (.ext 0 (.t 41)),qQ 46 (.ext 1 (.t 41)),qM 13 (.t 45),qM 14 (.t 46)]) (.seq (.seq (.reg [qM 47 (.t 14),qQ 48 (.not (.t 47))]) (.cond (.t 48) (.seq (.reg [qQ 49 (.build [.int .u64 0,.int .u64 0] []),qR (.store 2 (.t 6) (.t 49)),qM 7 (.c (.int .i64 1))]) .ret) .skip)) (.reg [qM 50 (.t 8),qM 51 (.t 13),qQ 52 (.bsl 1 [.t 51]),qQ 53 (.app 1 24 (.t 50) (.t 52)),qM 54 (.t 9),qM 55 (.t 13),qQ 56 (.app 1 1 (.t 54) (.t 55)),qM 8 (.t 53),qM 9 (.t 56)]))))) (.reg [qQ 57 (.bin .add (.t 36) (.c (.int .i64 1))),qM 36 (.t 57)]))))))) (.seq (.reg [qM 59 (.t 0),qQ 60 (.nilck (.t 59)),qQ 61 (.faddr 6 (.t 60)),qQ 62 (.load 1 false (.t 61)),qM 63 (.t 8),qQ 64 (.call 187 [.t 62,.t 63]),qM 58 (.t 64),qQ 65 (.ext 0 (.t 58)),qQ 66 (.ext 1 (.t 58)),qM 15 (.t 65),qM 16 (.t 66)]) (.seq (.seq (.reg [qM 67 (.t 15),qQ 68 (.len (.t 67)),qM 69 (.c (.int .i64 0))]) (.block 2 (.loop (.seq (.reg [qQ 70 (.bin .lss (.t 69) (.t 68))]) (.seq (.cond (.t 70) .skip (.exit 2)) (.seq (.block 3 (.seq (.reg [qQ 71 (.iaddr 2 (.t 67) (.t 69)),qQ 72 (.load 2 true (.t 71)),qQ 18 (.alloc [.int .u64 0,.int .u64 0]),qR (.store 2 (.t 18) (.t 72))]) (.reg [qM 73 (.t 10),qQ 74 (.load 2 true (.t 18)),qQ 75 (.call 232 [.t 74]),qQ 76 (.app 1 1 (.t 73) (.t 75)),qM 10 (.t 76)]))) (.reg [qQ 77 (.bin .add (.t 69) (.c (.int .i64 1))),qM 69 (.t 77)]))))))) (.seq (.seq (.dreg [qM 78 (.t 0),qQ 79 (.nilck (.t 78)),qQ 80 (.faddr 2 (.t 79)),qQ 81 (.load 1 false (.t 80)),qM 82 (.t 0),qQ 83 (.nilck (.t 82)),qQ 84 (.faddr 0 (.t 83)),qQ 85 (.load 1 true (.t 84)),qM 86 (.t 1),qQ 87 (.call 186 [.t 85,.t 86,.c (.int .i64 0)]),qM 88 (.t 9),qQ 89 (.call 202 [.t 81,.t 87,.t 88]),qQ 90 (.not (.t 89)),qM 91 (.t 90),qG 92 (.mov (.t 0)) 91 false,qG 93 (.nilck (.t 92)) 91 false,qG 94 (.faddr 2 (.t 93)) 91 false,qG 95 (.load 1 false (.t 94)) 91 false,qG 96 (.mov (.t 0)) 91 false,qG 97 (.nilck (.t 96)) 91 false,qG 98 (.faddr 0 (.t 97)) 91 false,qG 99 (.load 1 true (.t 98)) 91 false,qG 100 (.mov (.t 1)) 91 false,qG 101 (.call 284 [.t 99,.t 100,.c (.int .i64 0)]) 91 false,qG 102 (.mov (.t 10)) 91 false,qG 103 (.call 202 [.t 95,.t 101,.t 102]) 91 false,qG 104 (.not (.t 103)) 91 false,qQ 105 (.pick (.t 91) (.c (.bool true)) (.t 104))] [[],[0],[1],[2],[],[4],[5],[6],[],[7,8],[],[3,9,10,9],[11],[12,11],[13],[14,13],[15,13],[16,13],[13],[18,13],[19,13],[20,13],[13],[21,22,13,13],[13],[17,23,24,23,13],[25,13],[13,26]]) (.cond (.t 105) (.seq (.reg [qQ 106 (.build [.int .u64 0,.int .u64 0] []),qR (.store 2 (.t 6) (.t 106)),qM 7 (.c (.int .i64 7))]) .ret) .skip)) (.seq (.reg [qM 107 (.t 15),qQ 108 (.iaddr 2 (.t 107) (.c (.int .i64 1))),qQ 109 (.load 2 true (.t 108)),qR (.store 2 (.t 6) (.t 109)),qM 7 (.c (.int .i64 0))]) .ret))))))))
theorem zjm:FnIs Tryz.prog 253 110 zbt [.cell 6 2 true,.t 7]:=⟨Tryz.f253,_,Tryz.func253,rfl,rfl,by kernel_rfl,by kernel_rfl⟩

def zim:CC := .seq (.reg [qM 4 (.c (.bool false))]) (.seq (.reg [qM 5 (.t 0),qQ 6 (.eqv .p true (.t 5) (.c .nilp)),qM 7 (.t 6),qG 8 (.mov (.t 1)) 7 true,qG 9 (.bin .geq (.t 8) (.c (.int .i64 0))) 7 true,qQ 10 (.pick (.t 7) (.t 9) (.c (.bool false))),qM 11 (.t 10),qG 12 (.mov (.t 1)) 11 true,qG 13 (.bin .lss (.t 12) (.c (.int .i64 2))) 11 true,qQ 14 (.pick (.t 11) (.t 13) (.c (.bool false))),qM 4 (.t 14)]) .ret)
theorem zol:FnIs Tryz.prog 185 15 zim [.t 4]:=⟨Tryz.f185,_,Tryz.func185,rfl,rfl,by kernel_rfl,by kernel_rfl⟩

def zfs:CC := .seq (.reg [qQ 4 (.alloc [.int .i64 0,.bool false,.int .i64 0,.int .u32 0,.int .u32 0,.int .u64 0,.int .u64 0,.int .u64 0]),qM 5 (.c (.bool false))]) (.seq (.reg [qM 13 (.t 0),qQ 14 (.bsl 1 [.c (.int .i64 1),.c (.int .i64 1),.c (.int .i64 2),.c (.int .i64 4),.c (.int .i64 8),.c (.int .i64 16)]),qQ 15 (.call 247 [.t 13,.t 14]),qM 12 (.t 15),qQ 16 (.ext 0 (.t 12)),qQ 17 (.ext 1 (.t 12)),qM 6 (.t 16),qM 7 (.t 17)]) (.seq (.seq (.reg [qM 18 (.t 7),qQ 19 (.not (.t 18))]) (.cond (.t 19) (.seq (.reg [qQ 20 (.build [.int .i64 0,.bool false,.int .i64 0,.int .u32 0,.int .u32 0,.int .u64 0,.int .u64 0,.int .u64 0] []),qR (.store 8 (.t 4) (.t 20)),qM 5 (.c (.bool false))]) .ret) .skip)) (.seq (.reg [qQ 8 (.alloc [.int .i64 0,.bool false,.int .i64 0,.int .u32 0,.int .u32 0,.int .u64 0,.int .u64 0,.int .u64 0])]) (.seq (.reg [qQ 9 (.alloc [.int .u64 0,.int .u64 0,.int .u64 0,.int .u64 0,.int .u64 0])]) (.seq (.seq (.reg [qM 21 (.c (.int .i64 0))]) (.block 0 (.loop (.seq (.reg [qQ 22 (.bin .lss (.t 21) (.c (.int .i64 5)))]) (.seq (.cond (.t 22) .skip (.exit 0)) (.seq (.block 1 (.seq (.reg [qM 23 (.t 21),qM 10 (.t 23)]) (.reg [qM 25 (.t 10),qM 26 (.t 6),qM 27 (.t 10),qQ 28 (.iaddr 1 (.t 26) (.t 27)),qQ 29 (.load 1 false (.t 28)),qQ 30 (.call 238 [.t 29]),qM 24 (.t 30),qQ 31 (.ext 0 (.t 24)),qQ 32 (.ext 1 (.t 24)),qQ 33 (.iaddrA 5 1 (.t 9) (.t 25)),qR (.store 1 (.t 33) (.t 31))]))) (.reg [qQ 34 (.bin .add (.t 21) (.c (.int .i64 1))),qM 21 (.t 34)]))))))) (.seq (.dreg [qQ 35 (.iaddrA 5 1 (.t 9) (.c (.int .i64 0))),qQ 36 (.load 1 false (.t 35)),qQ 37 (.conv .i64 (.t 36)),qQ 38 (.iaddrA 5 1 (.t 9) (.c (.int .i64 1))),qQ 39 (.load 1 false (.t 38)),qQ 40 (.bin .eql (.t 39) (.c (.int .u64 1))),qQ 41 (.iaddrA 5 1 (.t 9) (.c (.int .i64 2))),qQ 42 (.load 1 false (.t 41)),qQ 43 (.conv .i64 (.t 42)),qQ 44 (.faddr 0 (.t 8)),qR (.store 1 (.t 44) (.t 37)),qQ 45 (.faddr 1 (.t 8)),qR (.store 1 (.t 45) (.t 40)),qQ 46 (.faddr 2 (.t 8)),qR (.store 1 (.t 46) (.t 43))] [[],[0],[1],[],[3],[4],[],[6],[7],[0,1,2],[9,2,0,1,2],[0,1,2,3,4,5,9,10],[11,5,10,0,1,2,3,4,5,9,10],[0,1,2,3,4,5,6,7,8,9,10,11,12],[13,8,12,0,1,2,3,4,5,6,7,8,9,10,11,12]]) (.seq (.seq (.reg [qQ 47 (.faddr 0 (.t 8)),qQ 48 (.load 1 false (.t 47)),qQ 49 (.bin .eql (.t 48) (.c (.int .i64 1)))]) (.cond (.t 49) (.reg [qM 50 (.t 1),qQ 51 (.conv .u32 (.t 50)),qQ 52 (.faddr 3 (.t 8)),qQ 53 (.faddr 1 (.t 52)),qR (.store 1 (.t 53) (.t 51))]) .skip)) (.seq (.dreg [qQ 54 (.iaddrA 5 1 (.t 9) (.c (.int .i64 3))),qQ 55 (.load 1 false (.t 54)),qQ 56 (.conv .u32 (.t 55)),qQ 57 (.iaddrA 5 1 (.t 9) (.c (.int .i64 4))),qQ 58 (.load 1 false (.t 57)),qQ 59 (.faddr 3 (.t 8)),qQ 60 (.faddr 0 (.t 59)),qR (.store 1 (.t 60) (.t 56)),qQ 61 (.faddr 3 (.t 8)),qQ 62 (.faddr 2 (.t 61)),qR (.store 1 (.t 62) (.t 58))] [[],[0],[1],[],[3],[0,1,2],[5,0,1,2],[6,2,0,1,2],[0,1,2,3,4,5,6,7],[8,0,1,2,3,4,5,6,7],[9,4,7,0,1,2,3,4,5,6,7]]) (.seq (.reg [qM 64 (.t 6),qQ 65 (.iaddr 1 (.t 64) (.c (.int .i64 5))),qQ 66 (.load 1 false (.t 65)),qQ 67 (.call 175 [.t 66]),qM 63 (.t 67),qQ 68 (.ext 0 (.t 63)),qQ 69 (.ext 1 (.t 63)),qQ 70 (.faddr 6 (.t 8)),qR (.store 2 (.t 70) (.t 68))]) (.seq (.reg [qQ 72 (.load 8 true (.t 8)),qM 73 (.t 1),qQ 74 (.call 248 [.t 72,.t 73]),qM 71 (.t 74),qQ 75 (.ext 0 (.t 71)),qQ 76 (.ext 1 (.t 71)),qM 11 (.t 75),qM 7 (.t 76)]) (.seq (.seq (.reg [qM 77 (.t 7),qQ 78 (.not (.t 77)),qM 79 (.t 78),qG 80 (.mov (.t 11)) 79 false,qG 81 (.mov (.t 0)) 79 false,qG 82 (.call 179 [.t 80,.t 81]) 79 false,qG 83 (.not (.t 82)) 79 false,qQ 84 (.pick (.t 79) (.c (.bool true)) (.t 83))]) (.cond (.t 84) (.seq (.reg [qQ 85 (.build [.int .i64 0,.bool false,.int .i64 0,.int .u32 0,.int .u32 0,.int .u64 0,.int .u64 0,.int .u64 0] []),qR (.store 8 (.t 4) (.t 85)),qM 5 (.c (.bool false))]) .ret) .skip)) (.seq (.reg [qQ 86 (.load 8 true (.t 8)),qR (.store 8 (.t 4) (.t 86)),qM 5 (.c (.bool true))]) .ret))))))))))))
theorem zmm:FnIs Tryz.prog 188 87 zfs [.cell 4 8 true,.t 5]:=⟨Tryz.f188,_,Tryz.func188,rfl,rfl,by kernel_rfl,by kernel_rfl⟩

def zin:CC := .seq (.reg [qQ 2 (.box 8 (.t 0)),qM 4 (.c (.bool false))]) (.seq (.seq (.reg [qM 5 (.t 1),qQ 6 (.bin .lss (.t 5) (.c (.int .i64 0))),qM 7 (.t 6),qG 8 (.mov (.t 1)) 7 false,qG 9 (.bin .geq (.t 8) (.c (.int .i64 16))) 7 false,qQ 10 (.pick (.t 7) (.c (.bool true)) (.t 9))]) (.cond (.t 10) (.seq (.reg [qM 4 (.c (.bool false))]) .ret) .skip)) (.seq (.seq (.reg [qQ 11 (.faddr 0 (.t 2)),qQ 12 (.load 1 false (.t 11))]) (.block 0 (.seq (.reg [qQ 14 (.bin .eql (.t 12) (.c (.int .i64 0))),qM 13 (.t 14)]) (.cond (.t 13) (.seq (.reg [qQ 15 (.load 8 true (.t 2)),qQ 16 (.build [.int .i64 0,.bool false,.int .i64 0,.int .u32 0,.int .u32 0,.int .u64 0,.int .u64 0,.int .u64 0] []),qQ 17 (.eqv (.a [.i,.b,.i,.i,.i,.i,.i,.i]) false (.t 15) (.t 16)),qM 4 (.t 17)]) .ret) (.seq (.reg [qQ 19 (.bin .eql (.t 12) (.c (.int .i64 2))),qM 18 (.t 19)]) (.cond (.t 18) (.seq (.reg [qQ 20 (.faddr 2 (.t 2)),qQ 21 (.load 1 false (.t 20)),qQ 22 (.call 166 [.t 21]),qM 23 (.t 22),qG 24 (.load 8 true (.t 2)) 23 true,qG 25 (.faddr 2 (.t 2)) 23 true,qG 26 (.load 1 false (.t 25)) 23 true,qG 27 (.build [.int .i64 0,.bool false,.int .i64 0,.int .u32 0,.int .u32 0,.int .u64 0,.int .u64 0,.int .u64 0] [(0,1,.c (.int .i64 2)),(1,1,.c (.bool true)),(2,1,.t 26)]) 23 true,qG 28 (.eqv (.a [.i,.b,.i,.i,.i,.i,.i,.i]) false (.t 24) (.t 27)) 23 true,qQ 29 (.pick (.t 23) (.t 28) (.c (.bool false))),qM 4 (.t 29)]) .ret) (.seq (.reg [qQ 31 (.bin .eql (.t 12) (.c (.int .i64 1))),qM 30 (.t 31)]) (.cond (.t 30) (.seq (.reg [qQ 32 (.faddr 2 (.t 2)),qQ 33 (.load 1 false (.t 32)),qQ 34 (.call 166 [.t 33]),qM 35 (.t 34),qG 36 (.faddr 3 (.t 2)) 35 true,qG 37 (.faddr 1 (.t 36)) 35 true,qG 38 (.load 1 false (.t 37)) 35 true,qG 39 (.mov (.t 1)) 35 true,qG 40 (.conv .u32 (.t 39)) 35 true,qG 41 (.bin .eql (.t 38) (.t 40)) 35 true,qQ 42 (.pick (.t 35) (.t 41) (.c (.bool false))),qM 43 (.t 42),qG 44 (.faddr 3 (.t 2)) 43 true,qG 45 (.faddr 0 (.t 44)) 43 true,qG 46 (.load 1 false (.t 45)) 43 true,qG 47 (.bin .gtr (.t 46) (.c (.int .u32 0))) 43 true,qQ 48 (.pick (.t 43) (.t 47) (.c (.bool false))),qM 4 (.t 48)]) .ret) .skip)))))))) (.seq (.reg [qM 4 (.c (.bool false))]) .ret)))
theorem zom:FnIs Tryz.prog 112 49 zin [.t 4]:=⟨Tryz.f112,_,Tryz.func112,rfl,rfl,by kernel_rfl,by kernel_rfl⟩

def zft:CC := .seq (.reg [qQ 2 (.box 8 (.t 0)),qM 4 (.c .nils),qM 5 (.c (.bool false))]) (.seq (.seq (.reg [qQ 7 (.load 8 true (.t 2)),qM 8 (.t 1),qQ 9 (.call 112 [.t 7,.t 8]),qQ 10 (.not (.t 9))]) (.cond (.t 10) (.seq (.reg [qM 4 (.c .nils),qM 5 (.c (.bool false))]) .ret) .skip)) (.seq (.reg [qM 6 (.c (.int .u64 0))]) (.seq (.seq (.reg [qQ 11 (.faddr 1 (.t 2)),qQ 12 (.load 1 false (.t 11))]) (.cond (.t 12) (.reg [qM 6 (.c (.int .u64 1))]) .skip)) (.seq (.dreg [qQ 13 (.faddr 0 (.t 2)),qQ 14 (.load 1 false (.t 13)),qQ 15 (.conv .u64 (.t 14)),qQ 16 (.call 173 [.t 15,.c (.int .i64 1)]),qM 17 (.t 6),qQ 18 (.call 173 [.t 17,.c (.int .i64 1)]),qQ 19 (.faddr 2 (.t 2)),qQ 20 (.load 1 false (.t 19)),qQ 21 (.conv .u64 (.t 20)),qQ 22 (.call 173 [.t 21,.c (.int .i64 2)]),qQ 23 (.faddr 3 (.t 2)),qQ 24 (.faddr 0 (.t 23)),qQ 25 (.load 1 false (.t 24)),qQ 26 (.conv .u64 (.t 25)),qQ 27 (.call 173 [.t 26,.c (.int .i64 4)]),qQ 28 (.faddr 3 (.t 2)),qQ 29 (.faddr 2 (.t 28)),qQ 30 (.load 1 false (.t 29)),qQ 31 (.call 173 [.t 30,.c (.int .i64 8)]),qQ 32 (.faddr 6 (.t 2)),qQ 33 (.load 2 true (.t 32)),qQ 34 (.call 232 [.t 33]),qQ 35 (.bsl 1 [.t 16,.t 18,.t 22,.t 27,.t 31,.t 34]),qQ 36 (.call 172 [.t 35]),qM 4 (.t 36),qM 5 (.c (.bool true))] [[],[0],[1],[2],[],[4,3],[],[6],[7],[8,5],[],[10],[11],[12],[13,9],[],[15],[16],[17,14],[],[19],[20,18],[3,5,9,14,18,21],[22,21],[23,23,0,1,2,3,4,5,6,7,8,9,10,11,12,13,14,15,16,17,18,19,20,21,22,23],[24,0,1,2,3,4,5,6,7,8,9,10,11,12,13,14,15,16,17,18,19,20,21,22,23,24]]) .ret))))
theorem zmn:FnIs Tryz.prog 248 37 zft [.t 4,.t 5]:=⟨Tryz.f248,_,Tryz.func248,rfl,rfl,by kernel_rfl,by kernel_rfl⟩

def zbu:CC := .seq (.reg [qM 2 (.c (.bool false))]) (.seq (.reg [qM 3 (.t 0),qQ 4 (.bin .geq (.t 3) (.c (.int .i64 0))),qM 5 (.t 4),qG 6 (.mov (.t 0)) 5 true,qG 7 (.bin .lss (.t 6) (.c (.int .i64 32))) 5 true,qQ 8 (.pick (.t 5) (.t 7) (.c (.bool false))),qM 2 (.t 8)]) .ret)
theorem zjn:FnIs Tryz.prog 166 9 zbu [.t 2]:=⟨Tryz.f166,_,Tryz.func166,rfl,rfl,by kernel_rfl,by kernel_rfl⟩

def zio:CC := .seq (.reg [qQ 4 (.alloc [.int .u64 0,.int .u32 0,.int .i64 0,.int .u64 0,.int .u64 0]),qM 5 (.c (.int .i64 0))]) (.seq (.seq (.reg [qM 9 (.t 0),qQ 10 (.eqv .p false (.t 9) (.c .nilp))]) (.cond (.t 10) (.seq (.reg [qQ 11 (.build [.int .u64 0,.int .u32 0,.int .i64 0,.int .u64 0,.int .u64 0] []),qR (.store 5 (.t 4) (.t 11)),qM 5 (.c (.int .i64 1))]) .ret) .skip)) (.seq (.dreg [qM 13 (.t 0),qQ 14 (.nilck (.t 13)),qQ 15 (.faddr 2 (.t 14)),qQ 16 (.load 1 false (.t 15)),qM 17 (.t 0),qM 18 (.t 1),qQ 19 (.call 183 [.t 17,.t 18]),qQ 20 (.call 182 [.t 16,.t 19,.c (.int .i64 60)]),qM 12 (.t 20),qQ 21 (.ext 0 (.t 12)),qQ 22 (.ext 1 (.t 12)),qM 6 (.t 21),qM 7 (.t 22)] [[],[0],[1],[2],[],[],[4,5],[3,6,6],[7],[8],[8],[9,7,0,1,2,3,4,5,6,7,8,9],[10,11,0,1,2,3,4,5,6,7,8,9,10,11]]) (.seq (.seq (.reg [qM 23 (.t 7),qQ 24 (.not (.t 23))]) (.cond (.t 24) (.seq (.reg [qQ 25 (.build [.int .u64 0,.int .u32 0,.int .i64 0,.int .u64 0,.int .u64 0] []),qR (.store 5 (.t 4) (.t 25)),qM 5 (.c (.int .i64 7))]) .ret) .skip)) (.seq (.reg [qM 27 (.t 0),qM 28 (.t 6),qQ 29 (.call 184 [.t 27,.t 28]),qM 26 (.t 29),qQ 30 (.ext 0 (.t 26)),qQ 31 (.ext 1 (.t 26)),qQ 8 (.alloc [.int .u64 0,.int .u32 0,.int .i64 0,.int .u64 0,.int .u64 0]),qR (.store 5 (.t 8) (.t 30)),qM 7 (.t 31)]) (.seq (.seq (.dreg [qM 32 (.t 7),qQ 33 (.not (.t 32)),qM 34 (.t 33),qG 35 (.faddr 0 (.t 8)) 34 false,qG 36 (.load 1 false (.t 35)) 34 false,qG 37 (.mov (.t 1)) 34 false,qG 38 (.bin .neq (.t 36) (.t 37)) 34 false,qQ 39 (.pick (.t 34) (.c (.bool true)) (.t 38)),qM 40 (.t 39),qG 41 (.faddr 2 (.t 8)) 40 false,qG 42 (.load 1 false (.t 41)) 40 false,qG 43 (.mov (.t 0)) 40 false,qG 44 (.nilck (.t 43)) 40 false,qG 45 (.faddr 0 (.t 44)) 40 false,qG 46 (.faddr 0 (.t 45)) 40 false,qG 47 (.load 1 false (.t 46)) 40 false,qG 48 (.bin .neq (.t 42) (.t 47)) 40 false,qQ 49 (.pick (.t 40) (.c (.bool true)) (.t 48))] [[],[0],[1],[2],[3,2],[2],[4,5,2],[2,6],[7,2],[8],[9,8],[8],[11,8],[12,8],[13,8],[14,8],[10,15,8],[8,16]]) (.cond (.t 49) (.seq (.reg [qQ 50 (.build [.int .u64 0,.int .u32 0,.int .i64 0,.int .u64 0,.int .u64 0] []),qR (.store 5 (.t 4) (.t 50)),qM 5 (.c (.int .i64 3))]) .ret) .skip)) (.seq (.reg [qQ 51 (.load 5 true (.t 8)),qR (.store 5 (.t 4) (.t 51)),qM 5 (.c (.int .i64 0))]) .ret))))))
theorem zon:FnIs Tryz.prog 123 52 zio [.cell 4 5 true,.t 5]:=⟨Tryz.f123,_,Tryz.func123,rfl,rfl,by kernel_rfl,by kernel_rfl⟩

def zbv:CC := .seq (.reg [qQ 5 (.box 5 (.t 2)),qM 6 (.c (.int .i64 0))]) (.seq (.reg [qQ 18 (.load 5 true (.t 5)),qQ 19 (.call 285 [.t 18]),qM 17 (.t 19),qQ 20 (.ext 0 (.t 17)),qQ 21 (.ext 1 (.t 17)),qM 7 (.t 20),qM 8 (.t 21)]) (.seq (.seq (.dreg [qM 22 (.t 0),qQ 23 (.eqv .p false (.t 22) (.c .nilp)),qM 24 (.t 23),qG 25 (.mov (.t 8)) 24 false,qG 26 (.not (.t 25)) 24 false,qQ 27 (.pick (.t 24) (.c (.bool true)) (.t 26)),qM 28 (.t 27),qG 29 (.faddr 2 (.t 5)) 28 false,qG 30 (.load 1 false (.t 29)) 28 false,qG 31 (.mov (.t 0)) 28 false,qG 32 (.nilck (.t 31)) 28 false,qG 33 (.faddr 0 (.t 32)) 28 false,qG 34 (.faddr 0 (.t 33)) 28 false,qG 35 (.load 1 false (.t 34)) 28 false,qG 36 (.bin .neq (.t 30) (.t 35)) 28 false,qQ 37 (.pick (.t 28) (.c (.bool true)) (.t 36))] [[],[0],[1],[2],[3,2],[2,4],[5,2],[6],[7,6],[6],[9,6],[10,6],[11,6],[12,6],[8,13,6],[6,14]]) (.cond (.t 37) (.seq (.reg [qM 6 (.c (.int .i64 1))]) .ret) .skip)) (.seq (.reg [qM 39 (.t 0),qQ 40 (.call 199 [.t 39]),qM 38 (.t 40),qQ 41 (.ext 0 (.t 38)),qQ 42 (.ext 1 (.t 38)),qQ 10 (.alloc [.int .u64 0,.int .u64 0]),qM 9 (.t 41),qR (.store 2 (.t 10) (.t 42))]) (.seq (.reg [qM 44 (.t 1),qM 45 (.t 9),qQ 46 (.call 200 [.t 44,.t 45,.c (.int .i64 65535)]),qM 43 (.t 46),qQ 47 (.ext 0 (.t 43)),qQ 48 (.ext 1 (.t 43)),qQ 11 (.alloc [.int .u32 0,.int .u32 0,.int .u64 0]),qR (.store 3 (.t 11) (.t 47)),qM 12 (.t 48)]) (.seq (.seq (.reg [qM 49 (.t 12),qQ 50 (.bin .neq (.t 49) (.c (.int .i64 0)))]) (.cond (.t 50) (.seq (.reg [qM 51 (.t 12),qM 6 (.t 51)]) .ret) .skip)) (.seq (.dreg [qM 53 (.t 0),qQ 54 (.nilck (.t 53)),qQ 55 (.faddr 6 (.t 54)),qQ 56 (.load 1 false (.t 55)),qQ 57 (.load 2 true (.t 10)),qQ 58 (.load 3 true (.t 11)),qM 59 (.t 7),qQ 60 (.call 201 [.t 56,.t 57,.t 58,.c .nils,.t 59]),qM 52 (.t 60),qQ 61 (.ext 0 (.t 52)),qQ 62 (.ext 1 (.t 52)),qQ 13 (.alloc [.nils,.int .u64 0,.int .u64 0]),qR (.store 3 (.t 13) (.t 61)),qM 14 (.t 62)] [[],[0],[1],[2],[],[],[],[3,4,5,6],[7],[8],[8],[],[11,9,7,0,1,2,3,4,5,6,7,8,9,11],[10,12,0,1,2,3,4,5,6,7,8,9,10,11,12]]) (.seq (.reg [qQ 64 (.load 3 true (.t 11)),qQ 65 (.load 3 true (.t 13)),qQ 66 (.call 286 [.t 64,.t 65]),qM 63 (.t 66),qQ 67 (.ext 0 (.t 63)),qQ 68 (.ext 1 (.t 63)),qM 15 (.t 67),qM 16 (.t 68)]) (.seq (.seq (.dreg [qM 69 (.t 0),qQ 70 (.nilck (.t 69)),qQ 71 (.faddr 2 (.t 70)),qQ 72 (.load 1 false (.t 71)),qM 73 (.t 0),qQ 74 (.faddr 0 (.t 5)),qQ 75 (.load 1 false (.t 74)),qQ 76 (.call 183 [.t 73,.t 75]),qM 77 (.t 15),qQ 78 (.call 202 [.t 72,.t 76,.t 77]),qQ 79 (.not (.t 78))] [[],[0],[1],[2],[],[],[5],[4,6],[],[3,7,8,7],[9]]) (.cond (.t 79) (.seq (.reg [qM 6 (.c (.int .i64 7))]) .ret) .skip)) (.seq (.reg [qM 6 (.c (.int .i64 0))]) .ret)))))))))
theorem zfu:FnIs Tryz.prog 255 80 zbv [.t 6]:=⟨Tryz.f255,_,Tryz.func255,rfl,rfl,by kernel_rfl,by kernel_rfl⟩

def zbw:CC := .seq (.reg [qQ 4 (.alloc [.int .u64 0,.int .u32 0,.int .i64 0,.int .u64 0,.int .u64 0]),qM 5 (.c (.bool false))]) (.seq (.reg [qM 13 (.t 1),qQ 14 (.call 241 [.t 13]),qM 12 (.t 14),qQ 15 (.ext 0 (.t 12)),qQ 16 (.ext 1 (.t 12)),qQ 17 (.ext 2 (.t 12)),qQ 6 (.alloc [.int .u32 0,.int .u32 0,.int .u64 0]),qQ 7 (.alloc [.nils,.int .u64 0,.int .u64 0]),qR (.store 3 (.t 6) (.t 15)),qR (.store 3 (.t 7) (.t 16)),qM 8 (.t 17)]) (.seq (.dreg [qM 19 (.t 0),qQ 20 (.nilck (.t 19)),qQ 21 (.faddr 5 (.t 20)),qQ 22 (.load 1 false (.t 21)),qQ 23 (.faddr 0 (.t 6)),qQ 24 (.load 1 false (.t 23)),qQ 25 (.call 58 [.t 22,.t 24]),qM 18 (.t 25),qQ 26 (.ext 0 (.t 18)),qQ 27 (.ext 1 (.t 18)),qQ 9 (.alloc [.int .u64 0,.int .u64 0]),qR (.store 2 (.t 9) (.t 26)),qM 10 (.t 27)] [[],[0],[1],[2],[],[4],[3,5],[6],[7],[7],[],[10,8,6,0,1,2,3,4,5,6,7,8,10],[9,11,0,1,2,3,4,5,6,7,8,9,10,11]]) (.seq (.seq (.dreg [qM 28 (.t 8),qQ 29 (.not (.t 28)),qM 30 (.t 29),qG 31 (.mov (.t 10)) 30 false,qG 32 (.not (.t 31)) 30 false,qQ 33 (.pick (.t 30) (.c (.bool true)) (.t 32)),qM 34 (.t 33),qG 35 (.load 3 true (.t 6)) 34 false,qG 36 (.call 242 [.t 35]) 34 false,qG 37 (.mov (.t 0)) 34 false,qG 38 (.nilck (.t 37)) 34 false,qG 39 (.faddr 4 (.t 38)) 34 false,qG 40 (.load 1 false (.t 39)) 34 false,qG 41 (.call 243 [.t 40]) 34 false,qG 42 (.bin .neq (.t 36) (.t 41)) 34 false,qQ 43 (.pick (.t 34) (.c (.bool true)) (.t 42))] [[],[0],[1],[2],[3,2],[2,4],[5,2],[6],[7,6,6],[6],[9,6],[10,6],[11,6],[12,8,6],[8,13,6],[6,14]]) (.cond (.t 43) (.seq (.reg [qQ 44 (.build [.int .u64 0,.int .u32 0,.int .i64 0,.int .u64 0,.int .u64 0] []),qR (.store 5 (.t 4) (.t 44)),qM 5 (.c (.bool false))]) .ret) .skip)) (.seq (.dreg [qM 46 (.t 0),qQ 47 (.nilck (.t 46)),qQ 48 (.faddr 6 (.t 47)),qQ 49 (.load 1 false (.t 48)),qQ 50 (.load 2 true (.t 9)),qQ 51 (.load 3 true (.t 6)),qQ 52 (.load 3 true (.t 7)),qQ 53 (.call 197 [.t 49,.t 50,.t 51,.c .nils,.t 52]),qM 45 (.t 53),qQ 54 (.ext 0 (.t 45)),qQ 55 (.ext 1 (.t 45)),qM 11 (.t 54),qM 8 (.t 55)] [[],[0],[1],[2],[],[],[],[3,4,5,6],[7],[8],[8],[9,7,0,1,2,3,4,5,6,7,8,9],[10,11,0,1,2,3,4,5,6,7,8,9,10,11]]) (.seq (.seq (.reg [qM 56 (.t 8),qQ 57 (.not (.t 56))]) (.cond (.t 57) (.seq (.reg [qQ 58 (.build [.int .u64 0,.int .u32 0,.int .i64 0,.int .u64 0,.int .u64 0] []),qR (.store 5 (.t 4) (.t 58)),qM 5 (.c (.bool false))]) .ret) .skip)) (.seq (.reg [qM 59 (.t 11),qQ 60 (.call 244 [.t 59]),qQ 61 (.ext 0 (.t 60)),qQ 62 (.ext 1 (.t 60)),qR (.store 5 (.t 4) (.t 61)),qM 5 (.t 62)]) .ret))))))
theorem zjo:FnIs Tryz.prog 184 63 zbw [.cell 4 5 true,.t 5]:=⟨Tryz.f184,_,Tryz.func184,rfl,rfl,by kernel_rfl,by kernel_rfl⟩

def zdr:CC := .seq (.reg [qM 4 (.c (.int .i64 0))]) (.seq (.reg [qM 5 (.t 0),qQ 6 (.nilck (.t 5)),qQ 7 (.faddr 0 (.t 6)),qQ 8 (.load 1 true (.t 7)),qM 9 (.t 1),qQ 10 (.bin .rem (.t 9) (.c (.int .u64 2))),qQ 11 (.conv .i64 (.t 10)),qQ 12 (.call 122 [.t 8,.t 11]),qM 4 (.t 12)]) .ret)
theorem zl6:FnIs Tryz.prog 183 13 zdr [.t 4]:=⟨Tryz.f183,_,Tryz.func183,rfl,rfl,by kernel_rfl,by kernel_rfl⟩

def zbx:CC := .seq (.reg [qQ 1 (.box 3 (.t 0)),qM 2 (.c (.int .u64 0))]) (.seq (.reg [qQ 3 (.faddr 2 (.t 1)),qQ 4 (.load 1 false (.t 3)),qQ 5 (.sh .shr (.t 4) (.c (.int .u64 32))),qM 2 (.t 5)]) .ret)
theorem zjp:FnIs Tryz.prog 242 6 zbx [.t 2]:=⟨Tryz.f242,_,Tryz.func242,rfl,rfl,by kernel_rfl,by kernel_rfl⟩

def z55:CC := .seq (.reg [qM 2 (.c (.int .i64 0))]) (.seq (.seq (.reg [qM 3 (.t 0),qQ 4 (.eqv .p false (.t 3) (.c .nilp))]) (.cond (.t 4) (.seq (.reg [qM 2 (.c (.int .i64 0))]) .ret) .skip)) (.seq (.reg [qM 5 (.t 0),qQ 6 (.nilck (.t 5)),qQ 7 (.faddr 1 (.t 6)),qQ 8 (.load 1 false (.t 7)),qQ 9 (.bin .sub (.c (.int .i64 100)) (.t 8)),qM 2 (.t 9)]) .ret))
theorem zaw:FnIs Tryz.prog 134 10 z55 [.t 2]:=⟨Tryz.f134,_,Tryz.func134,rfl,rfl,by kernel_rfl,by kernel_rfl⟩

def z2p:CC := .seq (.reg [qQ 6 (.alloc [.int .u32 0,.int .u32 0,.int .u64 0]),qM 7 (.c (.int .i64 0))]) (.seq (.block 0 (.seq (.reg [qM 9 (.t 2),qQ 10 (.bin .lss (.t 9) (.c (.int .i64 0))),qM 11 (.t 10),qG 12 (.mov (.t 2)) 11 false,qG 13 (.bin .gtr (.t 12) (.c (.int .i64 65535))) 11 false,qQ 14 (.pick (.t 11) (.c (.bool true)) (.t 13)),qM 8 (.t 14)]) (.cond (.t 8) (.seq (.reg [qQ 15 (.build [.int .u32 0,.int .u32 0,.int .u64 0] []),qR (.store 3 (.t 6) (.t 15)),qM 7 (.c (.int .i64 1))]) .ret) (.seq (.reg [qM 17 (.t 0),qQ 18 (.call 134 [.t 17]),qQ 19 (.bin .eql (.t 18) (.c (.int .i64 0))),qM 16 (.t 19)]) (.cond (.t 16) (.seq (.reg [qQ 20 (.build [.int .u32 0,.int .u32 0,.int .u64 0] []),qR (.store 3 (.t 6) (.t 20)),qM 7 (.c (.int .i64 6))]) .ret) .skip))))) (.seq (.reg [qM 21 (.t 0),qQ 22 (.nilck (.t 21)),qQ 23 (.faddr 1 (.t 22)),qQ 24 (.load 1 false (.t 23)),qQ 25 (.bin .add (.t 24) (.c (.int .i64 1))),qQ 26 (.nilck (.t 21)),qQ 27 (.faddr 1 (.t 26)),qR (.store 1 (.t 27) (.t 25))]) (.seq (.dreg [qM 28 (.t 1),qM 29 (.t 2),qQ 30 (.conv .u32 (.t 29)),qM 31 (.t 0),qQ 32 (.nilck (.t 31)),qQ 33 (.faddr 0 (.t 32)),qQ 34 (.load 1 false (.t 33)),qQ 35 (.sh .shl (.t 34) (.c (.int .u64 32))),qM 36 (.t 0),qQ 37 (.nilck (.t 36)),qQ 38 (.faddr 1 (.t 37)),qQ 39 (.load 1 false (.t 38)),qQ 40 (.conv .u64 (.t 39)),qQ 41 (.bin .add (.t 35) (.t 40)),qQ 42 (.build [.int .u32 0,.int .u32 0,.int .u64 0] [(0,1,.t 28),(1,1,.t 30),(2,1,.t 41)]),qR (.store 3 (.t 6) (.t 42)),qM 7 (.c (.int .i64 0))] [[],[],[1],[],[3],[4],[5],[6],[],[8],[9],[10],[11],[7,12],[0,2,13],[14,0,1,2,3,4,5,6,7,8,9,10,11,12,13,14],[15,0,1,2,3,4,5,6,7,8,9,10,11,12,13,14,15]]) .ret)))
theorem z4e:FnIs Tryz.prog 200 43 z2p [.cell 6 3 true,.t 7]:=⟨Tryz.f200,_,Tryz.func200,rfl,rfl,by kernel_rfl,by kernel_rfl⟩

def zds:CC := .seq (.reg [qM 2 (.c .nilp),qM 3 (.c (.int .i64 0))]) (.seq (.seq (.reg [qM 4 (.t 0),qQ 5 (.bin .gtr (.t 4) (.c (.int .u64 4294967295)))]) (.cond (.t 5) (.seq (.reg [qM 2 (.c .nilp),qM 3 (.c (.int .i64 1))]) .ret) .skip)) (.seq (.reg [qM 6 (.t 0),qQ 7 (.build [.int .u64 0,.int .i64 0] [(0,1,.t 6)]),qQ 8 (.box 2 (.t 7)),qM 2 (.t 8),qM 3 (.c (.int .i64 0))]) .ret))
theorem zl7:FnIs Tryz.prog 74 9 zds [.t 2,.t 3]:=⟨Tryz.f74,_,Tryz.func74,rfl,rfl,by kernel_rfl,by kernel_rfl⟩

def zfv:CC := .seq (.reg [qQ 2 (.alloc [.int .u64 0,.int .u32 0,.int .i64 0,.int .u64 0,.int .u64 0]),qM 3 (.c (.bool false))]) (.seq (.reg [qM 15 (.t 0),qQ 16 (.bsl 1 [.c (.int .i64 8),.c (.int .i64 4),.c (.int .i64 4),.c (.int .i64 16)]),qQ 17 (.call 247 [.t 15,.t 16]),qM 14 (.t 17),qQ 18 (.ext 0 (.t 14)),qQ 19 (.ext 1 (.t 14)),qM 4 (.t 18),qM 5 (.t 19)]) (.seq (.seq (.reg [qM 20 (.t 5),qQ 21 (.not (.t 20))]) (.cond (.t 21) (.seq (.reg [qQ 22 (.build [.int .u64 0,.int .u32 0,.int .i64 0,.int .u64 0,.int .u64 0] []),qR (.store 5 (.t 2) (.t 22)),qM 3 (.c (.bool false))]) .ret) .skip)) (.seq (.reg [qM 24 (.t 4),qQ 25 (.iaddr 1 (.t 24) (.c (.int .i64 0))),qQ 26 (.load 1 false (.t 25)),qQ 27 (.call 238 [.t 26]),qM 23 (.t 27),qQ 28 (.ext 0 (.t 23)),qQ 29 (.ext 1 (.t 23)),qM 6 (.t 28),qM 7 (.t 29)]) (.seq (.reg [qM 31 (.t 4),qQ 32 (.iaddr 1 (.t 31) (.c (.int .i64 1))),qQ 33 (.load 1 false (.t 32)),qQ 34 (.call 238 [.t 33]),qM 30 (.t 34),qQ 35 (.ext 0 (.t 30)),qQ 36 (.ext 1 (.t 30)),qM 8 (.t 35),qM 9 (.t 36)]) (.seq (.reg [qM 38 (.t 4),qQ 39 (.iaddr 1 (.t 38) (.c (.int .i64 2))),qQ 40 (.load 1 false (.t 39)),qQ 41 (.call 238 [.t 40]),qM 37 (.t 41),qQ 42 (.ext 0 (.t 37)),qQ 43 (.ext 1 (.t 37)),qM 10 (.t 42),qM 11 (.t 43)]) (.seq (.reg [qM 45 (.t 4),qQ 46 (.iaddr 1 (.t 45) (.c (.int .i64 3))),qQ 47 (.load 1 false (.t 46)),qQ 48 (.call 175 [.t 47]),qM 44 (.t 48),qQ 49 (.ext 0 (.t 44)),qQ 50 (.ext 1 (.t 44)),qQ 12 (.alloc [.int .u64 0,.int .u64 0]),qR (.store 2 (.t 12) (.t 49)),qM 13 (.t 50)]) (.seq (.seq (.reg [qM 51 (.t 10),qQ 52 (.conv .i64 (.t 51)),qQ 53 (.call 280 [.t 52]),qQ 54 (.not (.t 53))]) (.cond (.t 54) (.seq (.reg [qQ 55 (.build [.int .u64 0,.int .u32 0,.int .i64 0,.int .u64 0,.int .u64 0] []),qR (.store 5 (.t 2) (.t 55)),qM 3 (.c (.bool false))]) .ret) .skip)) (.seq (.reg [qM 56 (.t 6),qM 57 (.t 8),qQ 58 (.conv .u32 (.t 57)),qM 59 (.t 10),qQ 60 (.conv .i64 (.t 59)),qQ 61 (.load 2 true (.t 12)),qQ 62 (.build [.int .u64 0,.int .u32 0,.int .i64 0,.int .u64 0,.int .u64 0] [(0,1,.t 56),(1,1,.t 58),(2,1,.t 60),(3,2,.t 61)]),qR (.store 5 (.t 2) (.t 62)),qM 3 (.c (.bool true))]) .ret))))))))
theorem zmo:FnIs Tryz.prog 244 63 zfv [.cell 2 5 true,.t 3]:=⟨Tryz.f244,_,Tryz.func244,rfl,rfl,by kernel_rfl,by kernel_rfl⟩

def za9:CC := .seq (.reg [qQ 2 (.alloc [.int .u32 0,.int .u32 0,.int .u64 0]),qQ 3 (.alloc [.nils,.int .u64 0,.int .u64 0]),qM 4 (.c (.bool false))]) (.seq (.reg [qM 14 (.t 0),qQ 15 (.bsl 1 [.c (.int .i64 4),.c (.int .i64 8),.c (.int .i64 32),.c (.int .i64 16)]),qQ 16 (.call 247 [.t 14,.t 15]),qM 13 (.t 16),qQ 17 (.ext 0 (.t 13)),qQ 18 (.ext 1 (.t 13)),qM 5 (.t 17),qM 6 (.t 18)]) (.seq (.seq (.reg [qM 19 (.t 6),qQ 20 (.not (.t 19))]) (.cond (.t 20) (.seq (.reg [qQ 21 (.build [.int .u32 0,.int .u32 0,.int .u64 0] []),qQ 22 (.build [.nils,.int .u64 0,.int .u64 0] []),qR (.store 3 (.t 2) (.t 21)),qR (.store 3 (.t 3) (.t 22)),qM 4 (.c (.bool false))]) .ret) .skip)) (.seq (.reg [qM 24 (.t 5),qQ 25 (.iaddr 1 (.t 24) (.c (.int .i64 0))),qQ 26 (.load 1 false (.t 25)),qQ 27 (.call 238 [.t 26]),qM 23 (.t 27),qQ 28 (.ext 0 (.t 23)),qQ 29 (.ext 1 (.t 23)),qM 7 (.t 28),qM 8 (.t 29)]) (.seq (.reg [qM 31 (.t 5),qQ 32 (.iaddr 1 (.t 31) (.c (.int .i64 1))),qQ 33 (.load 1 false (.t 32)),qQ 34 (.call 238 [.t 33]),qM 30 (.t 34),qQ 35 (.ext 0 (.t 30)),qQ 36 (.ext 1 (.t 30)),qM 9 (.t 35),qM 10 (.t 36)]) (.seq (.reg [qM 38 (.t 5),qQ 39 (.iaddr 1 (.t 38) (.c (.int .i64 3))),qQ 40 (.load 1 false (.t 39)),qQ 41 (.call 175 [.t 40]),qM 37 (.t 41),qQ 42 (.ext 0 (.t 37)),qQ 43 (.ext 1 (.t 37)),qQ 11 (.alloc [.int .u64 0,.int .u64 0]),qR (.store 2 (.t 11) (.t 42)),qM 12 (.t 43)]) (.seq (.dreg [qM 44 (.t 7),qQ 45 (.conv .u32 (.t 44)),qM 46 (.t 9),qQ 47 (.build [.int .u32 0,.int .u32 0,.int .u64 0] [(0,1,.t 45),(1,1,.c (.int .u32 65535)),(2,1,.t 46)]),qM 48 (.t 5),qQ 49 (.iaddr 1 (.t 48) (.c (.int .i64 2))),qQ 50 (.load 1 false (.t 49)),qQ 51 (.load 2 true (.t 11)),qQ 52 (.build [.nils,.int .u64 0,.int .u64 0] [(0,1,.t 50),(1,2,.t 51)]),qR (.store 3 (.t 2) (.t 47)),qR (.store 3 (.t 3) (.t 52)),qM 4 (.c (.bool true))] [[],[0],[],[1,2],[],[4],[5],[],[6,7],[3,0,1,2,3],[8,9,0,1,2,3,4,5,6,7,8,9],[10,0,1,2,3,4,5,6,7,8,9,10]]) .ret))))))
theorem zhj:FnIs Tryz.prog 241 53 za9 [.cell 2 3 true,.cell 3 3 true,.t 4]:=⟨Tryz.f241,_,Tryz.func241,rfl,rfl,by kernel_rfl,by kernel_rfl⟩

def zfw:CC := .seq (.reg [qQ 1 (.box 5 (.t 0)),qM 2 (.c .nils),qM 3 (.c (.bool false))]) (.seq (.seq (.reg [qQ 4 (.faddr 2 (.t 1)),qQ 5 (.load 1 false (.t 4)),qQ 6 (.call 280 [.t 5]),qQ 7 (.not (.t 6))]) (.cond (.t 7) (.seq (.reg [qM 2 (.c .nils),qM 3 (.c (.bool false))]) .ret) .skip)) (.seq (.dreg [qQ 8 (.faddr 0 (.t 1)),qQ 9 (.load 1 false (.t 8)),qQ 10 (.call 173 [.t 9,.c (.int .i64 8)]),qQ 11 (.faddr 1 (.t 1)),qQ 12 (.load 1 false (.t 11)),qQ 13 (.conv .u64 (.t 12)),qQ 14 (.call 173 [.t 13,.c (.int .i64 4)]),qQ 15 (.faddr 2 (.t 1)),qQ 16 (.load 1 false (.t 15)),qQ 17 (.conv .u64 (.t 16)),qQ 18 (.call 173 [.t 17,.c (.int .i64 4)]),qQ 19 (.faddr 3 (.t 1)),qQ 20 (.load 2 true (.t 19)),qQ 21 (.call 232 [.t 20]),qQ 22 (.bsl 1 [.t 10,.t 14,.t 18,.t 21]),qQ 23 (.call 172 [.t 22]),qM 2 (.t 23),qM 3 (.c (.bool true))] [[],[0],[1],[],[3],[4],[5,2],[],[7],[8],[9,6],[],[11],[12,10],[2,6,10,13],[14,13],[15,15,0,1,2,3,4,5,6,7,8,9,10,11,12,13,14,15],[16,0,1,2,3,4,5,6,7,8,9,10,11,12,13,14,15,16]]) .ret))
theorem zmp:FnIs Tryz.prog 285 24 zfw [.t 2,.t 3]:=⟨Tryz.f285,_,Tryz.func285,rfl,rfl,by kernel_rfl,by kernel_rfl⟩

def zaa:CC := .seq (.reg [qQ 2 (.box 3 (.t 0)),qQ 3 (.box 3 (.t 1)),qM 4 (.c .nils),qM 5 (.c (.bool false))]) (.seq (.seq (.reg [qQ 6 (.faddr 0 (.t 3)),qQ 7 (.load 1 false (.t 6)),qQ 8 (.len (.t 7)),qQ 9 (.bin .neq (.t 8) (.c (.int .i64 32))),qM 10 (.t 9),qG 11 (.faddr 1 (.t 2)) 10 false,qG 12 (.load 1 false (.t 11)) 10 false,qG 13 (.bin .neq (.t 12) (.c (.int .u32 65535))) 10 false,qQ 14 (.pick (.t 10) (.c (.bool true)) (.t 13))]) (.cond (.t 14) (.seq (.reg [qM 4 (.c .nils),qM 5 (.c (.bool false))]) .ret) .skip)) (.seq (.dreg [qQ 15 (.faddr 0 (.t 2)),qQ 16 (.load 1 false (.t 15)),qQ 17 (.conv .u64 (.t 16)),qQ 18 (.call 173 [.t 17,.c (.int .i64 4)]),qQ 19 (.faddr 2 (.t 2)),qQ 20 (.load 1 false (.t 19)),qQ 21 (.call 173 [.t 20,.c (.int .i64 8)]),qQ 22 (.faddr 0 (.t 3)),qQ 23 (.load 1 false (.t 22)),qQ 24 (.faddr 1 (.t 3)),qQ 25 (.load 2 true (.t 24)),qQ 26 (.call 232 [.t 25]),qQ 27 (.bsl 1 [.t 18,.t 21,.t 23,.t 26]),qQ 28 (.call 172 [.t 27]),qM 4 (.t 28),qM 5 (.c (.bool true))] [[],[0],[1],[2],[],[4],[5,3],[],[7],[],[9],[10,6],[3,6,8,11],[12,11],[13,13,0,1,2,3,4,5,6,7,8,9,10,11,12,13],[14,0,1,2,3,4,5,6,7,8,9,10,11,12,13,14]]) .ret))
theorem zhk:FnIs Tryz.prog 286 29 zaa [.t 4,.t 5]:=⟨Tryz.f286,_,Tryz.func286,rfl,rfl,by kernel_rfl,by kernel_rfl⟩

def z8m:CC := .seq (.reg [qM 2 (.c (.bool false))]) (.seq (.reg [qM 3 (.t 0),qQ 4 (.bin .eql (.t 3) (.c (.int .i64 4))),qM 5 (.t 4),qG 6 (.mov (.t 0)) 5 false,qG 7 (.bin .eql (.t 6) (.c (.int .i64 8))) 5 false,qQ 8 (.pick (.t 5) (.c (.bool true)) (.t 7)),qM 9 (.t 8),qG 10 (.mov (.t 0)) 9 false,qG 11 (.bin .eql (.t 10) (.c (.int .i64 16))) 9 false,qQ 12 (.pick (.t 9) (.c (.bool true)) (.t 11)),qM 2 (.t 12)]) .ret)
theorem zfx:FnIs Tryz.prog 280 13 z8m [.t 2]:=⟨Tryz.f280,_,Tryz.func280,rfl,rfl,by kernel_rfl,by kernel_rfl⟩

def zfy:CC := .seq (.reg [qM 4 (.c .nils),qM 5 (.c (.bool false))]) (.seq (.reg [qQ 9 (.bsl0),qM 6 (.t 9)]) (.seq (.seq (.reg [qM 10 (.t 1),qQ 11 (.len (.t 10)),qM 12 (.c (.int .i64 0))]) (.block 0 (.loop (.seq (.reg [qQ 13 (.bin .lss (.t 12) (.t 11))]) (.seq (.cond (.t 13) .skip (.exit 0)) (.seq (.block 1 (.seq (.reg [qQ 14 (.iaddr 1 (.t 10) (.t 12)),qQ 15 (.load 1 false (.t 14)),qM 8 (.t 15)]) (.seq (.seq (.reg [qM 16 (.t 8),qQ 17 (.bin .lss (.t 16) (.c (.int .i64 0))),qM 18 (.t 17),qG 19 (.mov (.t 8)) 18 false,qG 20 (.mov (.t 0)) 18 false,qG 21 (.len (.t 20)) 18 false,qG 22 (.bin .gtr (.t 19) (.t 21)) 18 false,qQ 23 (.pick (.t 18) (.c (.bool true)) (.t 22))]) (.cond (.t 23) (.seq (.reg [qM 4 (.c .nils),qM 5 (.c (.bool false))]) .ret) .skip)) (.seq (.reg [qM 24 (.t 6),qM 25 (.t 0),qM 26 (.t 8),qQ 27 (.slc 1 (.t 25) none (some (.t 26))),qQ 28 (.call 87 [.t 27]),qQ 29 (.bsl 1 [.t 28]),qQ 30 (.app 1 24 (.t 24) (.t 29)),qM 6 (.t 30)]) (.reg [qM 31 (.t 0),qM 32 (.t 8),qQ 33 (.slc 1 (.t 31) (some (.t 32)) none),qM 0 (.t 33)]))))) (.reg [qQ 34 (.bin .add (.t 12) (.c (.int .i64 1))),qM 12 (.t 34)]))))))) (.seq (.seq (.reg [qM 35 (.t 0),qQ 36 (.len (.t 35)),qQ 37 (.bin .gtr (.t 36) (.c (.int .i64 0)))]) (.cond (.t 37) (.seq (.reg [qM 4 (.c .nils),qM 5 (.c (.bool false))]) .ret) .skip)) (.seq (.reg [qM 38 (.t 6),qM 4 (.t 38),qM 5 (.c (.bool true))]) .ret))))
theorem zmq:FnIs Tryz.prog 247 39 zfy [.t 4,.t 5]:=⟨Tryz.f247,_,Tryz.func247,rfl,rfl,by kernel_rfl,by kernel_rfl⟩

end Go.Proofs.YthblcmnhiccnhaaGreat


namespace Go.Proofs.YthblcmnhiccnhaaGreat
open Go Go.Abs

theorem WW.thenI {P:Program}{N:Nat}{c:CC}{e:Env}{h:AHeap}{K:Env→AHeap→Prop}{Q:Exit→Env→AHeap→Prop}(I:Env→AHeap→Prop)(h1:WW P N c (fun x e h=>x = .normal∧I e h) e h)(h2:∀ e h,I e h→K e h):WW P N c (thenQ K Q) e h :=
 ⟨h1.out.mono fun x e h hq=>by
  obtain ⟨rfl,hi⟩:=hq
  exact thenN (h2 e h hi)⟩
theorem zr8 (v:Nat)(hv:v < 72057594037927936)(c:UInt8):getS (v:Int) c=((v*256+c.toNat:Nat):Int):=by
 have hc:=c.toNat_lt
 have h1:shl64 (v:Int) 8=((v*256:Nat):Int):=by
  show ((v:Int)*256) % 18446744073709551616=_
  omega
 rw [getS,h1]
 show ((((BitVec.ofInt 64 ((v*256:Nat):Int)) ||| (BitVec.ofInt 64 ((c.toNat:Nat):Int))).toNat:Nat):Int) % 18446744073709551616=_
 rw [BitVec.ofInt_natCast,BitVec.ofInt_natCast,BitVec.toNat_or,BitVec.toNat_ofNat,BitVec.toNat_ofNat,Nat.mod_eq_of_lt (by omega),Nat.mod_eq_of_lt (by omega)]
 have h2:v*256 ||| c.toNat=v*256+c.toNat:=by
  have:=Nat.shiftLeft_add_eq_or_of_lt (i:=8) (b:=c.toNat) (by omega) v
  rw [Nat.shiftLeft_eq] at this
  exact this.symm
 rw [h2]
 omega
def valB (b:Bs)(v:Nat):Nat:=b.foldl (fun v c=>v*256+c.toNat) v
theorem zl8:∀ (b:Bs) (v k:Nat),v < 256 ^ k→k+b.length≤8→b.foldl getS (v:Int)=(valB b v:Int)∧valB b v < 256 ^ (k+b.length)
 | [], v, k, hv, _ => ⟨rfl, hv⟩
 | c :: r, v, k, hv, hk => by
  simp only [List.length_cons] at hk
  have hc:=c.toNat_lt
  have h7:256 ^ k≤256 ^ 7:=Nat.pow_le_pow_right (by decide) (by omega)
  have h8:(256:Nat) ^ 7=72057594037927936:=by decide
  rw [List.foldl_cons,zr8 v (by omega) c]
  have h9:v*256+c.toNat < 256 ^ (k+1):=by rw [Nat.pow_succ];omega
  have:=zl8 r (v*256+c.toNat) (k+1) h9 (by omega)
  simp only [valB,List.foldl_cons,List.length_cons] at this ⊢
  rw [show k+(r.length+1)=k+1+r.length by omega]
  exact this
theorem zr9 (b:Bs)(hb:b.length≤8):getB b=(valB b 0:Int)∧valB b 0 < 256 ^ b.length:=by
 have:=zl8 b 0 0 (by decide) (by omega)
 rw [Nat.zero_add] at this
 exact this
theorem z1i (b:Bs)(k:Nat)(hb:b.length=k)(hk:k≤8):0≤getB b∧getB b < ((256 ^ k:Nat):Int):=by
 obtain ⟨h1,h2⟩:=zr9 b (by omega)
 rw [hb] at h2
 rw [h1]
 exact ⟨Int.natCast_nonneg _,Int.ofNat_lt.2 h2⟩
theorem z27 (v:Int)(n:Nat)(hn:1≤n∧n≤8):(putB v n).length=n:=by
 rw [putB,if_neg (by omega)];simp
def cutL:Bs→List Nat→List Bs
 | _, [] => []
 | b, n :: r => b.take n :: cutL (b.drop n) r
theorem ziq:∀ (ns:List Nat) (b:Bs) (n:Nat),cutL b (ns++[n])=cutL b ns++[(b.drop ns.sum).take n]
 | [], b, n => by simp [cutL]
 | m :: r, b, n => by
  rw [List.cons_append,cutL,ziq r,cutL,List.cons_append,List.drop_drop,List.sum_cons]
def encZ (n:Nat):List AV:=[.int .i64 n]
theorem clo_imm {n:Nat}{l:List Bs}{N:Nat→Prop}:∀ x∈l.map encR,∀ v∈x,Clo N v:=fun x hx v hv=>by
 obtain ⟨b,_,rfl⟩:=List.mem_map.1 hx
 simp only [encR,List.mem_singleton] at hv
 subst hv
 exact .imm _ _ fun y hy u hu=>by
  obtain ⟨c,_,rfl⟩:=List.mem_map.1 hy
  exact z13 (by simp only [encB,List.mem_singleton] at hu;subst hu;rfl)
theorem zra {h h1:AHeap}{id g:Nat}{l l':List Bs}(e:l=l'):Fz h h1 (.app id g 1 (l.map encR)) (.imm 1 (l'.map encR)):=by
 subst e;exact .app _ _ _ _ (clo_imm (n:=0))
theorem z7v (b:Bs)(hb:b.length≤100000)(ns:List Nat)(hn:ns.length≤1000)(hm:∀ n∈ns,n≤100000)(h:AHeap) :
  AE Tryz.prog 247 [.imm 1 (b.map encB),.imm 1 (ns.map encZ)] h (.tup [.imm 1 ((if b.length=ns.sum then cutL b ns else []).map encR),.bool (decide (b.length=ns.sum))]) h:=by
 refine AE.pureW zmq (by simp) ?_
 unfold zfy;dsimp only [qQ,qR,qM,qG]
 (refine go ?_)
 refine WW.cvt (Cvt.adopt 1 (s:=6) rfl gN) ?_
 refine WW.loopE (fun (i:Nat)=>[(0,some (.imm 1 ((b.drop (ns.take i).sum).map encB))),(6,some (.app h.next 0 1 ((cutL b (ns.take i)).map encR))),(10,some (.imm 1 (ns.map encZ))),(11,some (.int .i64 ns.length)),(12,some (.int .i64 i))])
  (fun i h'=>h'.get h.next=some (.tail 0 i)∧Keeps h h'∧h.next+1≤h'.next∧i≤ns.length∧(ns.take i).sum≤b.length) (fun i=>ns.length - i) 0 gSUB ⟨gH,gK,(leN gN (by omega)),Nat.zero_le _,by simp⟩ ?_
 rintro i h' ⟨g1,g2,g3,g4,g5⟩
 obtain ⟨nx,hnx⟩:∃ nx,h'.next=nx:=⟨_,rfl⟩
 have hlen:(cutL b (ns.take i)).length=i:=by
  have:∀ (l:List Nat) (b:Bs),(cutL b l).length=l.length:=fun l=>by
   induction l with
   | nil => intro b; rfl
   | cons n r ih => intro b; simp [cutL, ih]
  rw [this,List.length_take,Nat.min_eq_left g4]
 have hdl:(b.drop (ns.take i).sum).length=b.length - (ns.take i).sum:=List.length_drop
 (refine go ?_)
 (refine WW.ifB rfl (fun hz1 => ?_) (fun hz1 => ?_))
 ·have hi:i < ns.length:=by omega
  have hni:=hm ns[i] (List.getElem_mem hi)
  have hsplit:ns.take (i+1)=ns.take i++[ns[i]]:=List.take_succ_eq_append_getElem hi
  have hsum:(ns.take (i+1)).sum=(ns.take i).sum+ns[i]:=by rw [hsplit,List.sum_append];simp
  have hle:(ns.take (i+1)).sum≤ns.sum:=by
   have:=congrArg List.sum (List.take_append_drop (i+1) ns)
   rw [List.sum_append] at this;omega
  (refine go ?_)
  (refine WW.ifB rfl (fun hz3 => ?_) (fun hz3 => ?_))
  ·(refine go ?_)
   refine WW.ret (PureQ.finD ?_)
   have hne:¬ b.length=ns.sum:=by omega
   rw [if_neg hne,decide_eq_false hne]
   exact Fz.tup2 (.nil _) (fz_b rfl)
  (refine go ?_)
  rw [show List.take ns[i] ((b.drop (ns.take i).sum).map encB)=(((b.drop (ns.take i).sum).take ns[i])).map encB by rw [List.map_take]]
  refine WL.call rfl gM gSL (zp _ (by rw [List.length_take];omega) _) ?_
  (refine go ?_)
  refine ⟨i+1,?_,⟨(by repeat first | exact zi (by first | rfl | exact List.length_map _ | (simp;done) | (simp;omega)) | exact get_set_tl (by first | rfl | exact List.length_map _ | (simp;done) | (simp;omega)) | assumption | with_reducible apply z3 (by omega) | with_reducible apply z1 (by omega)),gK,(leN gN (by omega)),by omega,by omega⟩,by omega⟩
  have e1:List.drop ns[i] ((b.drop (ns.take i).sum).map encB)=(b.drop (ns.take (i+1)).sum).map encB:=by rw [← List.map_drop,List.drop_drop,hsum]
  have e2:(cutL b (ns.take (i+1))).map encR=(cutL b (ns.take i)).map encR++[[.imm 1 (((b.drop (ns.take i).sum).take ns[i]).map encB)]]:=by rw [hsplit,ziq,List.map_append];rfl
  rw [e2]
  simp only [List.take_length,List.length_map] at e1 ⊢
  rw [← e1]
  rw [show (b.drop (ns.take i).sum).length=((b.drop (ns.take i).sum).map encB).length by rw [List.length_map],List.take_length]
  exact gSUB
 ·have hi:i=ns.length:=by omega
  subst hi
  rw [List.take_length] at *
  (refine go ?_)
  (refine WW.ifB rfl (fun hz4 => ?_) (fun hz4 => ?_))
  ·(refine go ?_)
   refine WW.ret (PureQ.finD ?_)
   have hne:¬ b.length=ns.sum:=by omega
   rw [if_neg hne,decide_eq_false hne]
   exact Fz.tup2 (.nil _) (fz_b rfl)
  ·(refine go ?_)
   refine WW.ret (PureQ.finD ?_)
   have he:b.length=ns.sum:=by omega
   rw [if_pos he,decide_eq_true he]
   exact Fz.tup2 (zra rfl) (fz_b rfl)
end Go.Proofs.YthblcmnhiccnhaaGreat


namespace Go.Proofs.YthblcmnhiccnhaaGreat
open Go Go.Abs

theorem zt7 (c:Bs)(i:Nat):((c.map encB).take (i+16)).drop i=((c.drop i).take 16).map encB:=by
 rw [List.drop_take,← List.map_drop,← List.map_take,show i+16 - i=16 by omega]
theorem AE.back {P:Program}{f:Nat}{vs:List AV}{h h1:AHeap}{r r1:AV}(hac:AE P f vs h r1 h1)(hk:Keeps h h1)(hz:Fz h h1 r1 r):AE P f vs h r h:=by
 intro m w cargs hr hl hv
 refine (hac m w cargs hr hl hv).mono fun ex w' ⟨v,m',r2,h2,e1,g1,g2,g3,e2,e3⟩ => ?_
 subst e2 e3
 have hs:∀ id x,h.get id=some x→h2.get id=some x:=fun id x hg=>(hk.2 id (hr.live id x hg)).trans hg
 exact ⟨v,m',r,h,e1,zh2 hr g1 hs,hz.vr g1 hs hr.live g2,zb4 g3 hr hs,rfl,rfl⟩
theorem zjq (b:Bs)(hb:b.length≤4000)(h:AHeap):AE Tryz.prog 233 [.imm 1 (b.map encB)] h (.imm 2 ((z17 b).map encP)) h :=
 AE.back (zbq rfl b hb) gK (z83 rfl (zuk _))
theorem zir (n:Nat):∀ b:Bs,b.length≤n→(z17 b).length≤n:=by
 induction n with
 | zero => intro b hb; obtain rfl : b = [] := List.length_eq_zero_iff.1 (by omega); simp [z17, z7b]
 | succ n ih =>
  intro b hb
  by_cases h0:b=[]
  ·subst h0;simp [z17,z7b]
  ·have h1:0 < b.length:=List.length_pos_iff.2 h0
   rw [zdo h0,List.length_cons]
   have:=ih (b.drop 16) (by simp;omega)
   omega
def tagL (head b:Bs):List Pr:=z17 head++z17 b++[((head.length:Int),(b.length:Int))]
theorem zt8 (head b:Bs):List.map encP (z17 head)++List.map encP (z17 b)++[[AV.int .u64 (head.length:Int),AV.int .u64 (b.length:Int)]]=(tagL head b).map encP:=by simp [tagL,encP]
theorem zul (sub:Pr)(head b:Bs):tagF sub head b=addF (evalF (encF sub (0,1)) (tagL head b)) (encF sub (0,0)):=rfl
attribute [local irreducible] encF mulF addF evalF z17 tagL
theorem zfz (sub:Pr)(head b:Bs)(h1:head.length≤4000)(h2:b.length≤4000)(h:AHeap):AE Tryz.prog 171 [.agg (encP sub),.imm 1 (head.map encB),.imm 1 (b.map encB)] h (.agg (encP (tagF sub head b))) h:=by
 have p1:=zir _ head h1
 have p2:=zir _ b h2
 refine AE.pureW zoe (by simp) ?_
 unfold zie;dsimp only [qQ,qR,qM,qG]
 (refine go ?_)
 refine WL.call rfl gM gSL (zbq (nx:=h.next+2) gN head h1) ?_
 (refine go ?_)
 refine WL.call rfl gM gSL (zjq b h2 _) ?_
 (refine go ?_)
 rw [zt8]
 refine WL.call rfl gM gSL (z1c sub (0,1) _) ?_
 (refine go ?_)
 refine DW.callS rfl gM gSL rfl (zjl _ (tagL head b) (by simp [tagL];omega) _) ?_
 (refine go ?_)
 refine DW.callS rfl gM gSL rfl (z1c sub (0,0) _) ?_
 (refine go ?_)
 refine DW.callS rfl gM gSL rfl (z6j _ _ _) ?_
 (refine go ?_)
 refine WW.ret (PureQ.finD ?_)
 exact zd (by rw [zul];rfl) (flatP (addF _ _))
end Go.Proofs.YthblcmnhiccnhaaGreat


namespace Go.Proofs.YthblcmnhiccnhaaGreat
open Go Go.Abs

theorem zg0 (a b:Bs)(h1:a.length≤4000)(h2:b.length≤4000)(h:AHeap):AE Tryz.prog 167 [.imm 1 (a.map encB),.imm 1 (b.map encB)] h (.bool true) h:=by
 refine AE.pureW zod (by simp) ?_
 unfold zid;dsimp only [qQ,qR,qM,qG]
 (refine go ?_)
 (apply WL.andB;exact rfl;exact rfl;exact rfl;exact BP.of;intro hz1)
 ·(repeat first | (apply GW.goS;exact Stp.auto) | apply GW.nil | exact rfl)
 (refine go ?_)
 refine WW.ret (PureQ.finD ?_)
 exact fz_b (by simp;omega)
theorem zej (key:Pr)(n:Nn)(data:Bs):(gcmB key n data).length=data.length:=by rw [gcmB,zeh (z7a _ _)]
theorem znk {h h1:AHeap}(b:Bs)(t:Pr):Fz h h1 (.tup [.agg (encS b t),.bool true]) (.tup [.agg (encS b t),.bool true]):=Fz.tup2 (.clo _ (.agg _ (z9m b t))) (fz_b rfl)
attribute [local irreducible] encF mulF addF evalF z17 tagL subF flowF tagF xorB
theorem zmr (key:Pr)(n:Nn)(head data:Bs)(h1:head.length≤4000)(h2:data.length≤4000)(h:AHeap):AE Tryz.prog 113 [.agg (encP key),.agg (encN n),.imm 1 (head.map encB),.imm 1 (data.map encB)] h (.tup [.agg (encS (gcmB key n data) (gcmT key n head (gcmB key n data))),.bool true]) h:=by
 refine AE.pureW zmg (by simp) ?_
 unfold zfb;dsimp only [qQ,qR,qM,qG]
 (refine go ?_)
 refine WL.call rfl gM gSL (zg0 head data h1 h2 _) ?_
 (refine go ?_)
 refine WL.call rfl gM gSL (zdl key n _) ?_
 (refine go ?_)
 refine WL.call rfl gM gSL (za8 (subF key n) data.length h2 _) ?_
 (refine go ?_)
 refine WL.call rfl gM gSL (zdn data (flowF (subF key n) data.length) (z7a _ _) h2 _) ?_
 (refine go ?_)
 refine WL.call rfl gM gSL (zfz (subF key n) head (xorB data (flowF (subF key n) data.length)) h1 (by rw [zeh (z7a _ _)];exact h2) _) ?_
 (refine go ?_)
 refine WW.ret (PureQ.finD ?_)
 exact znk (gcmB key n data) (gcmT key n head (gcmB key n data))
theorem zum {key:Pr}{n:Nn}{head b:Bs}{tg:Pr}(h1:head.length≤4000)(h2:b.length≤4000)(ht:gcmT key n head b=tg):gcmO key n head b tg=some (gcmB key n b):=by rw [gcmO,if_pos ⟨h1,h2,ht⟩]
theorem zun {key:Pr}{n:Nn}{head b:Bs}{tg:Pr}(ht:¬ gcmT key n head b=tg):gcmO key n head b tg=none:=by rw [gcmO,if_neg fun hh=>ht hh.2.2]
theorem zms (key:Pr)(n:Nn)(head b:Bs)(tg:Pr)(h1:head.length≤4000)(h2:b.length≤4000)(h:AHeap):AE Tryz.prog 114 [.agg (encP key),.agg (encN n),.imm 1 (head.map encB),.agg (encS b tg)] h (.tup [.imm 1 (((gcmO key n head b tg).getD []).map encB),.bool (gcmO key n head b tg).isSome]) h:=by
 refine AE.pureW zmh (by simp) ?_
 unfold zfc;dsimp only [qQ,qR,qM,qG]
 (refine go ?_)
 refine WL.call rfl gM gSL (zdl key n _) ?_
 (refine go ?_)
 refine DW.callS rfl gM gSL rfl (zg0 head b h1 h2 _) ?_
 (refine go ?_)
 refine DW.callS rfl gM gSL rfl (zfz (subF key n) head b h1 h2 _) ?_
 (refine go ?_)
 refine WW.ifB rfl (fun hz => ?_) (fun hz => ?_)
 ·(refine go ?_)
  refine WW.ret (PureQ.finD ?_)
  have hn:¬ gcmT key n head b=tg:=by
   intro e
   have h3:(gcmT key n head b==tg)=false:=by rw [← z6i];exact hz
   simp [e] at h3
  rw [zun hn]
  exact Fz.tup2 (.nil _) (fz_b rfl)
 ·(refine go ?_)
  refine DW.callS rfl gM gSL rfl (za8 (subF key n) b.length h2 _) ?_
  (refine go ?_)
  refine DW.callS rfl gM gSL rfl (zdn b (flowF (subF key n) b.length) (z7a _ _) h2 _) ?_
  (refine go ?_)
  refine WW.ret (PureQ.finD ?_)
  have hy:gcmT key n head b=tg:=by
   have h3:(gcmT key n head b==tg)=true:=by rw [← z6i];exact hz
   simpa using h3
  rw [zum h1 h2 hy]
  exact Fz.tup2 (z8k rfl) (fz_b rfl)
end Go.Proofs.YthblcmnhiccnhaaGreat


namespace Go.Proofs.YthblcmnhiccnhaaGreat
open Go Go.Abs

attribute [local irreducible] encF
theorem zhl (s m:Pr)(h:AHeap):AE Tryz.prog 176 [.agg (encP s),.agg (encP m)] h (.agg (encP (stepF s m))) h:=by
 refine AE.pureW zh6 (by simp) ?_
 unfold za4;dsimp only [qQ,qR,qM,qG]
 (refine go ?_)
 refine WL.call rfl gM gSL (z1c m s _) ?_
 (refine go ?_)
 refine WW.ret (PureQ.finD ?_)
 exact zd rfl (flatP (stepF s m))
def sumS6 (s:Pr)(r:Bs):Pr:=stepF s (pairF r)
theorem zis (p:Bs):z2s p=(rowsF (padF p)).foldl sumS6 (7640891576956012808,13503953896175478587):=rfl
theorem zrb (p:Bs):(padF p).length % 16=0∧(padF p).length≤p.length+24∧(padF p).length=p.length+1+(24 - (p.length+1) % 16) % 16+8:=by
 have:(padF p).length=p.length+1+(24 - (p.length+1) % 16) % 16+8:=by simp [padF];omega
 omega
attribute [local irreducible] stepF pairF
end Go.Proofs.YthblcmnhiccnhaaGreat


namespace Go.Abs
open Go

def FW:Option Nat→Fence
 | none => Fence.wide
 | some l => Fence.wide.inRound l
theorem FW.fn {ro:Option Nat}{f:FuncId}:(FW ro).fn f:=by cases ro <;> trivial
theorem FW.depth {ro:Option Nat}{p:Prop}:(FW ro).depth.isSome=true→p:=by cases ro <;> simp [FW,Fence.wide,Fence.inRound]
section
variable {P:Program}{N:Nat}{e:Env}{h:AHeap}{m:Inj}{w:World}
theorem zl9 {ro:Option Nat}{n:Nat}{f:FuncId}{args:Array Value}{R:Ending→World→Prop}(hc:Calls P f args w R):CallsIn (FW ro) n P f args w R:=by
 cases ro with
 | none => exact callsIn_wide.2 hc
 | some l => exact CallsIn.inRound l (callsIn_wide.2 hc)
theorem znl {ro:Option Nat}{n:Nat}{row:String}{args:Array Value}{R:Value→World→Prop}(hc:Rows P row args w R):RowsIn (FW ro) n P row args w R:=by
 intro c cs _
 obtain ⟨v,w',r,s⟩:=hc c cs
 refine ⟨v,w',r,?_⟩
 cases ro with
 | none => exact stepsIn_wide.2 s
 | some l => exact stepsIn_wide.2 s
theorem zjr {ops:Array Oper}{o:Oper}{c:CI}(hc:compI P N ops o=c)(hb:c.i≠.bad):∀ d,o.op≠.defer d:=by
 intro d hd
 apply hb
 have hr:rawI P N o = .bad:=by
  unfold rawI
  have h1:zb P N o=none:=by simp [zb,hd]
  have h2:z7 P N o=none:=by simp [z7,hd]
  simp [h1,h2]
 subst hc
 unfold compI
 split
 ·split
  ·simp [hr]
  ·split
   ·split
    ·simp [hr]
    ·rfl
   ·rfl
 ·rfl
theorem zek {ro:Option Nat}{n:Nat}{ops:Array Oper}{Q Q':Exit→Go.Act→World→Prop}(hq:∀ ex a w,Q ex a w→Q' ex a w)(hl:¬ LetsOut Q):∀ (idx:List Nat),(∀ i∈idx,∀ o,ops[i]? = some o→∀ d,o.op≠.defer d) →
    ∀ (a:Go.Act) (w:World),wpOps P ops Q idx a w→wpOpsIn (FW ro) n P ops Q' idx a w
  | [], _, a, w, hw => hq _ _ _ hw
  | i :: idx, hd, a, w, hw => by
    have ih:=zek (ro:=ro) (n:=n) hq hl idx fun j hj=>hd j (by simp [hj])
    simp only [wpOps] at hw
    simp only [wpOpsIn]
    cases ho:ops[i]? with
    | none => simp only [ho] at hw; exact ih _ _ hw
    | some o =>
      simp only [ho] at hw ⊢
      by_cases hwant:Region.wanted o (yielded ops a.tmps)=true
      · rw [if_pos hwant] at hw ⊢
        rcases hw with hw | ⟨_,hx⟩
        · refine ⟨fun _ _=>FW.fn,?_⟩
          rw [Oper.semAt_eq _ _ _ (hd i (by simp) o ho)]
          unfold Oper.wp at hw
          generalize (execOp a.eval o).run P w=r at hw ⊢
          cases r with
          | ok nx w' =>
            cases nx <;> simp only [Oper.upon,Oper.uponIn] at hw ⊢ <;> first
              | exact ih _ _ hw
              | exact ⟨FW.depth, zl9 (Calls.mono hw fun ex w'' he => by
                  cases ex with
                  | returned v => exact ih _ _ he
                  | panicked ch => exact hq _ _ _ he
                  | outgrown => exact absurd he hl)⟩
              | exact ⟨FW.depth, znl (Rows.mono hw fun _ _ he => ih _ _ he)⟩
          | halt x w' => cases x <;> simp only [Oper.upon, Oper.uponIn] at hw ⊢ <;> exact hq _ _ _ hw
        · exact absurd hx hl
      · rw [if_neg hwant] at hw ⊢
        exact ⟨fun _ _=>FW.fn,ih _ _ hw⟩

theorem z7d {id l N0 d:Nat}{st:LoopState}{es:List (Nat×AV)}{fn:FuncId}{ps:Array Tmp}{asg bdy:Code}(hr:HR m h w)(hg:h.get id=some (.loop l st N0 es fn ps asg bdy d))(st':LoopState) :
  ∃ T:Array Value,w.heap[l]? = some (.loop ⟨st,none,fn,T,ps,asg,bdy,d⟩)∧T.size=N0∧(∀ (s:Nat) (v:AV),(s,v)∈es→VR m h w v (T.getD s undef)) ∧
   HR m (h.set id (some (.loop l st' N0 es fn ps asg bdy d))) (w.putObj l (.loop ⟨st',none,fn,T,ps,asg,bdy,d⟩))∧Step m h w m (h.set id (some (.loop l st' N0 es fn ps asg bdy d))) (w.putObj l (.loop ⟨st',none,fn,T,ps,asg,bdy,d⟩)):=by
 obtain ⟨q1,T,q2,q3,q4⟩:=hr.obj _ _ hg
 have hlt:l < w.heap.size:=(Array.getElem?_eq_some_iff.1 q2).1
 have wu:WUpd w (w.putObj l (.loop ⟨st',none,fn,T,ps,asg,bdy,d⟩)) l:=⟨rfl,rfl,rfl,World.putObj_size,fun k hk=>World.putObj_heap_other hk,fun cc T' fz hc=>by rw [q2] at hc;cases hc⟩
 have hcm:Compat (.loop l st N0 es fn ps asg bdy d) (.loop l st' N0 es fn ps asg bdy d):=⟨rfl,rfl,rfl,rfl,rfl,rfl,rfl,rfl⟩
 have stp:=z2b hr hg q1 hcm wu
 exact ⟨T,q2,q3,q4,hr.set hg q1 hcm wu ⟨q1,T,World.putObj_heap_same hlt,q3,fun s v hi=>(q4 s v hi).step stp⟩,stp⟩

def RW (P:Program)(l N:Nat)(c:CC)(Q:Exit→Env→AHeap→Prop)(e:Env)(h:AHeap):Prop :=
 ∀ code,compC P N code=c→∀ (n:Nat) (m:Inj) (w:World) (a:Go.Act),HR m h w→ER N m h w e a→code.wpIn (FW (some l)) n P (PA N Q m h w) a w
def Ins.isBad:Ins→Bool
 | .bad => true
 | _ => false
theorem noOut {K:Env→AHeap→Prop}:¬ LetsOut (PA N (fun ex e h=>ex = .normal∧K e h) m h w):=by
 rintro ⟨a,w0,m',e',h',_,_,_,hq,_⟩
 cases hq
theorem zla {ops:Array Oper}{l:List CI}(hl:compR P N ops=l)(hb:l.all (fun c => !c.i.isBad)=true):∀ i∈List.range ops.size,∀ o,ops[i]? = some o→∀ d,o.op≠.defer d:=by
 intro i _ o ho
 refine zjr (P:=P) (N:=N) (ops:=ops) rfl fun hbad => ?_
 have hm:compI P N ops o∈l:=by
  rw [← hl,compR]
  refine List.mem_map.2 ⟨o,?_,rfl⟩
  exact Array.mem_toList_iff.2 (Array.mem_of_getElem? ho)
 have:=List.all_eq_true.1 hb _ hm
 rw [hbad] at this
 cases this
theorem compR_range {ops:Array Oper}:(List.range ops.size).map (fun i=>compI P N ops (ops.getD i default))=compR P N ops:=by
 simp only [compR]
 apply List.ext_getElem
 ·simp
 ·intro i h1 h2
  simp at h1 h2
  simp [h1]
theorem RW.reg {lr:Nat}{l:List CI}{K:Env→AHeap→Prop}(hb:l.all (fun c => !c.i.isBad)=true)(hw:WL P N l (fun ex e h=>ex = .normal∧K e h) e h):RW P lr N (.reg l) (fun ex e h=>ex = .normal∧K e h) e h:=by
 intro code hc n m w a hr he
 cases code <;> simp only [compC] at hc <;> try (cases hc;done)
 ·rename_i id ops d
  split at hc
  ·cases hc
  ·rename_i hd
   injection hc with hc
   have hd':d=false:=by simpa using hd
   subst hd'
   exact wpIn_region (zek (fun _ _ _ h=>h) noOut _ (zla hc hb) a w (hw.out ops (List.range ops.size) (fun i hi=>by simpa using hi) (compR_range.trans hc) m w a hr he))
 ·split at hc <;> cases hc
 ·split at hc <;> cases hc
theorem RW.seq {lr:Nat}{x y:CC}{Q:Exit→Env→AHeap→Prop}(hw:RW P lr N x (fun ex e h=>ex = .normal∧RW P lr N y Q e h) e h):RW P lr N (.seq x y) Q e h:=by
 intro code hc n m w a hr he
 cases code <;> simp only [compC] at hc <;> try (cases hc;done)
 ·split at hc <;> cases hc
 ·rename_i cx cy
  cases hc
  refine wpIn_seq (wpIn_mono (hw cx rfl n m w a hr he) fun ex a' w' hp => ?_)
  obtain ⟨m',e',h',h1,h2,h3,rfl,h4⟩:=hp
  exact wpIn_mono (h4 cy rfl n m' w' a' h1 h2) fun _ _ _ hp=>PA.from h3 hp
 ·split at hc <;> cases hc
 ·split at hc <;> cases hc
theorem RW.block {lr id:Nat}{x:CC}{Q:Exit→Env→AHeap→Prop}(hw:RW P lr N x (fun ex e h=>ex = .normal∧Q .normal e h) e h):RW P lr N (.block id x) Q e h:=by
 intro code hc n m w a hr he
 cases code <;> simp only [compC] at hc <;> try (cases hc;done)
 ·split at hc <;> cases hc
 ·split at hc <;> cases hc
 ·cases hc
  refine wpIn_block (wpIn_mono (hw _ rfl n m w a hr he) fun ex a' w' hp => ?_)
  obtain ⟨m',e',h',h1,h2,h3,rfl,h4⟩:=hp
  exact ⟨m',e',h',h1,h2,h3,h4⟩
 ·split at hc <;> cases hc
def opt (es:List (Nat×AV)):Env:=es.map fun sv=>(sv.1,some sv.2)
theorem zpx {s:Nat}{v:AV}:∀ {es:List (Nat×AV)},lk s (opt es)=some v→(s,v)∈es
 | [], hl => by simp [opt, z1o] at hl
 | sv :: es, hl => by
  simp only [opt,List.map_cons,z6] at hl
  split at hl
  ·rename_i e;subst e;cases hl;exact List.mem_cons_self ..
  ·exact List.mem_cons_of_mem _ (zpx hl)

theorem zrc {o:Oper}{a:Go.Act}{x y:Opd}{v0:AV}{l rid N0 d p n:Nat}{es:List (Nat×AV)}{fn:FuncId}{asg bdy:Code}{cA cB:CC}{K:AHeap→Prop}{next:Go.Act→World→Prop}{Q:Exit→Go.Act→World→Prop}
  (hr:HR m h w) (he:ER N m h w e a) (hco:zb P N o=some (.callv x [y])) (hx:ev e x=some (.func (.yield l) [] [])) (hy:ev e y=some v0)
  (hg:h.get rid=some (.loop l .ready N0 es fn #[p] asg bdy d)) (hp:p < N0) (hcA:compC P N0 asg=cA) (hcB:compC P N0 bdy=cB)
  (hA:RW P l N0 cA (fun ex e1 h1=>ex = .normal∧(h1.get rid=some (.loop l .ready N0 es fn #[p] asg bdy d)∧RW P l N0 cB (fun ex e2 h2=>ex = .normal∧(h2.get rid=some (.loop l .busy N0 es fn #[p] asg bdy d)∧K (h2.set rid (some (.loop l .ready N0 es fn #[p] asg bdy d))))) e1 (h1.set rid (some (.loop l .busy N0 es fn #[p] asg bdy d))))) ((p,some v0)::opt es) h)
  (hK:∀ m' h' w',HR m' h' w'→Step m h w m' h' w'→K h'→next (a.put o.dst (.bool true)) w'):o.wpIn Fence.wide n P a w next Q:=by
 refine ⟨fun _ _=>trivial,?_⟩
 obtain ⟨c,yy,hop,hcal,hyy,hxs⟩:=z5c hco
 have hnd:∀ d,o.op≠.defer d:=fun d hd=>by rw [hop] at hd;cases hd
 rw [Oper.semAt_eq _ _ _ hnd]
 obtain ⟨hl1,hl2⟩:=he.evalL hxs (show evL e [y]=some [v0] by simp [evL,hy])
 have hfv:=he.eval hyy hx
 generalize hcx:a.eval (.tmp yy)=cx at hfv
 obtain ⟨T,hT,hTs,hTv,_,_⟩:=z7d hr hg .ready
 cases hfv with
 | func _ _ _ cs ds q1 q2 q3 q4 =>
  have hc0:cs=#[]:=Array.size_eq_zero_iff.1 (by simpa using q1.symm)
  have hd0:ds=#[]:=Array.size_eq_zero_iff.1 (by simpa using q2.symm)
  subst hc0 hd0
  have hsz:c.args.size=1:=by simpa using hl1.symm
  obtain ⟨y0,hy0⟩:∃ y0,c.args=#[y0]:=Array.size_eq_one_iff.1 hsz
  have hv0:VR m h w v0 (a.eval y0):=by
   have:=hl2 0 v0 rfl
   simpa [hy0] using this
  have hrun:(execOp a.eval o).run P w = .ok (.round l fn (T.setIfInBounds p (a.eval y0)) asg bdy) w:=by
   have hyl:=run_yield (P:=P) (args:=#[a.eval y0]) hT (by simp)
   have hz:((#[p].zip #[a.eval y0]).foldl (fun tmps (t,a)=>tmps.setIfInBounds t a) T)=T.setIfInBounds p (a.eval y0):=by simp
   rw [hz] at hyl
   simp [execOp,hop,resolve,hcal,hcx,Deferred.ofValue,invoke,hy0]
   exact hyl
  rw [hrun]
  refine ⟨fun hh=>by simp [Fence.wide] at hh,?_⟩
  refine roundIn_of_wpIn trivial ?_
  have he0:ER N0 m h w ((p,some v0)::opt es) { tmps:=T.setIfInBounds p (a.eval y0),defers:=[] }:=by
   have h1:ER N0 m h w (opt es) { tmps:=T,defers:=[] }:=⟨hTs,rfl,fun s v hs=>hTv s v (zpx hs)⟩
   exact h1.put hp hv0
  refine wpIn_mono (hA asg hcA (n - 1) m w _ hr he0) fun ex a1 w1 hp1 => ?_
  obtain ⟨m1,e1,h1,hr1,he1,st1,rfl,hg1,hB⟩:=hp1
  obtain ⟨T1,hT1,_,_,hr2,st2⟩:=z7d hr1 hg1 .busy
  refine ⟨_,run_beginRound hT1 rfl,?_⟩
  refine wpIn_mono (hB bdy hcB (n - 1) m1 _ a1 hr2 (he1.step st2)) fun ex a2 w2 hp2 => ?_
  obtain ⟨m3,e3,h3,hr3,he3,st3,rfl,hg3,hK3⟩:=hp2
  obtain ⟨T3,hT3,_,_,hr4,st4⟩:=z7d hr3 hg3 .ready
  refine ⟨_,_,run_endRound none hT3,?_⟩
  exact hK m3 _ _ hr4 (((st1.trans st2).trans st3).trans st4) hK3

theorem zby {ro:Option Nat}{n:Nat}{ops:Array Oper}{Q Q':Exit→Go.Act→World→Prop}{idx2:List Nat}(hq:∀ ex a w,Q ex a w→ex = .normal∧wpOpsIn (FW ro) n P ops Q' idx2 a w)(hl:¬ LetsOut Q):∀ (idx:List Nat),(∀ i∈idx,∀ o,ops[i]? = some o→∀ d,o.op≠.defer d) →
    ∀ (a:Go.Act) (w:World),wpOps P ops Q idx a w→wpOpsIn (FW ro) n P ops Q' (idx++idx2) a w
  | [], _, a, w, hw => (hq _ _ _ hw).2
  | i :: idx, hd, a, w, hw => by
    have ih:=zby (ro:=ro) (n:=n) hq hl idx fun j hj=>hd j (by simp [hj])
    simp only [wpOps] at hw
    simp only [List.cons_append,wpOpsIn]
    cases ho:ops[i]? with
    | none => simp only [ho] at hw; exact ih _ _ hw
    | some o =>
      simp only [ho] at hw ⊢
      by_cases hwant:Region.wanted o (yielded ops a.tmps)=true
      · rw [if_pos hwant] at hw ⊢
        rcases hw with hw | ⟨_,hx⟩
        · refine ⟨fun _ _=>FW.fn,?_⟩
          rw [Oper.semAt_eq _ _ _ (hd i (by simp) o ho)]
          unfold Oper.wp at hw
          generalize (execOp a.eval o).run P w=r at hw ⊢
          cases r with
          | ok nx w' =>
            cases nx <;> simp only [Oper.upon,Oper.uponIn] at hw ⊢ <;> first
              | exact ih _ _ hw
              | exact ⟨FW.depth, zl9 (Calls.mono hw fun ex w'' he => by
                  cases ex with
                  | returned v => exact ih _ _ he
                  | panicked ch => exact absurd (hq _ _ _ he).1 (by simp)
                  | outgrown => exact absurd he hl)⟩
              | exact ⟨FW.depth, znl (Rows.mono hw fun _ _ he => ih _ _ he)⟩
          | halt x w' => cases x <;> simp only [Oper.upon, Oper.uponIn] at hw ⊢ <;> first | exact absurd (hq _ _ _ hw).1 (by simp) | exact hw
        · exact absurd hx hl
      · rw [if_neg hwant] at hw ⊢
        exact ⟨fun _ _=>FW.fn,ih _ _ hw⟩
structure YO (P:Program)(N:Nat)(x y:Opd)(k:AHeap→Prop)(e:Env)(h:AHeap):Prop where
 ok:∃ (rid l N0 d p:Nat) (es:List (Nat×AV)) (fn:FuncId) (asg bdy:Code) (v0:AV),ev e x=some (.func (.yield l) [] [])∧ev e y=some v0∧h.get rid=some (.loop l .ready N0 es fn #[p] asg bdy d)∧p < N0 ∧
  RW P l N0 (compC P N0 asg) (fun ex e1 h1=>ex = .normal∧(h1.get rid=some (.loop l .ready N0 es fn #[p] asg bdy d)∧RW P l N0 (compC P N0 bdy) (fun ex e2 h2=>ex = .normal∧(h2.get rid=some (.loop l .busy N0 es fn #[p] asg bdy d)∧k (h2.set rid (some (.loop l .ready N0 es fn #[p] asg bdy d))))) e1 (h1.set rid (some (.loop l .busy N0 es fn #[p] asg bdy d))))) ((p,some v0)::opt es) h
theorem AW.regY {l1 l2:List CI}{d:Nat}{x y:Opd}{Q:Exit→Env→AHeap→Prop}(hb:(l1++⟨some d,.callv x [y],none⟩::l2).all (fun c => !c.i.isBad)=true)
  (hw:WL P N l1 (fun ex e1 h1=>ex = .normal∧YO P N x y (fun h2=>WL P N l2 (fun ex e h=>ex = .normal∧Q .normal e h) ((d,some (.bool true))::e1) h2) e1 h1) e h):AW P N (.reg (l1++⟨some d,.callv x [y],none⟩::l2)) Q e h:=by
 intro code hc m w a hr he
 cases code <;> simp only [compC] at hc <;> try (cases hc;done)
 ·rename_i id ops dr
  split at hc
  ·cases hc
  ·rename_i hd
   injection hc with hc
   have hd':dr=false:=by simpa using hd
   subst hd'
   refine (wpIn_wide (n:=0)).1 (wpIn_region ?_)
   have hlen:ops.size=l1.length+(l2.length+1):=by
    have:=congrArg List.length hc
    simpa [compR] using this
   have hnd:=zla hc hb
   have hrange:List.range ops.size=List.range l1.length++(l1.length::(List.range l2.length).map (fun i=>l1.length+1+i)):=by
    rw [hlen,List.range_add,List.range_succ_eq_map]
    simp only [List.map_cons,Nat.add_zero,List.map_map]
    congr 2
    refine List.map_congr_left fun i _ => ?_
    simp only [Function.comp_apply];omega
   have hcomp:∀ i (hi:i < ops.size),compI P N ops ops[i]=(l1++⟨some d,.callv x [y],none⟩::l2)[i]'(by rw [← hc];simpa [compR] using hi):=fun i hi=>by
    simp only [← hc,compR];simp
   have hgd:∀ i (hi:i < ops.size),ops.getD i default=ops[i]:=fun i hi=>by simp [hi]
   have hpre:wpOps P ops (PA N (fun ex e1 h1=>ex = .normal∧YO P N x y (fun h2=>WL P N l2 (fun ex e h=>ex = .normal∧Q .normal e h) ((d,some (.bool true))::e1) h2) e1 h1) m h w) (List.range l1.length) a w:=by
    refine hw.out ops (List.range l1.length) (fun i hi=>by have:=List.mem_range.1 hi;omega) ?_ m w a hr he
    refine List.ext_getElem (by simp) fun i h1 h2 => ?_
    simp only [List.length_map,List.length_range] at h1
    simp only [List.getElem_map,List.getElem_range]
    rw [hgd i (by omega),hcomp i (by omega),List.getElem_append_left (by omega)]
   rw [hrange]
   refine zby (ro:=none) (n:=0) (fun ex a1 w1 hp => ?_) noOut (List.range l1.length) (fun i hi=>hnd i (by have:=List.mem_range.1 hi;exact List.mem_range.2 (by omega))) a w hpre
   obtain ⟨m1,e1,h1,hr1,he1,st1,rfl,hY⟩:=hp
   refine ⟨rfl,?_⟩
   obtain ⟨rid,l,N0,dd,p,es,fn,asg,bdy,v0,y1,y2,y3,y4,y5⟩:=hY.ok
   have hk:l1.length < ops.size:=by omega
   have ho:ops[l1.length]? = some ops[l1.length]:=Array.getElem?_eq_getElem hk
   have hci:=hcomp l1.length hk
   rw [List.getElem_append_right (Nat.le_refl _)] at hci
   simp only [Nat.sub_self,List.getElem_cons_zero] at hci
   simp only [wpOpsIn,ho]
   rcases zx hci with ⟨hb1,_⟩ | ⟨hd1,hdst,hcmp,hgd1⟩
   ·cases hb1
   ·obtain ⟨w1',_⟩:=zl he1 hgd1
    rw [w1' rfl,if_pos rfl]
    refine zrc hr1 he1 (hcmp rfl) y1 y2 y3 y4 rfl rfl y5 fun m2 h2 w2 hr2 st2 hK2 => ?_
    have hdd:some d=ops[l1.length].dst:=hd1
    have he2:ER N m2 h2 w2 ((d,some (.bool true))::e1) (a1.put ops[l1.length].dst (.bool true)):=by
     rw [← hdd]
     exact (he1.step st2).put (hdst d hdd.symm) (.bool true)
    refine zek (ro:=none) (n:=0) (fun ex a3 w3 hp3 => ?_) (noOut (m:=m2) (h:=h2) (w:=w2)) _ (fun i hi=>hnd i ?_) _ w2 (hK2.out ops _ (fun i hi => ?_) ?_ m2 w2 _ hr2 he2)
    ·obtain ⟨m3,e3,h3,hr3,he3,st3,rfl,hq3⟩:=hp3
     exact ⟨m3,e3,h3,hr3,he3,(st1.trans st2).trans st3,hq3⟩
    ·obtain ⟨j,hj,rfl⟩:=List.mem_map.1 hi
     have:=List.mem_range.1 hj
     exact List.mem_range.2 (by omega)
    ·obtain ⟨j,hj,rfl⟩:=List.mem_map.1 hi
     have:=List.mem_range.1 hj
     omega
    ·refine List.ext_getElem (by simp) fun i h1 h2 => ?_
     simp only [List.length_map,List.length_range] at h1
     simp only [List.getElem_map,List.getElem_range]
     rw [hgd _ (by omega),hcomp _ (by omega),List.getElem_append_right (by omega)]
     simp only [show l1.length+1+i - l1.length=i+1 by omega,List.getElem_cons_succ]
 ·split at hc <;> cases hc
 ·split at hc <;> cases hc
theorem WW.regY {l1 l2:List CI}{d:Nat}{x y:Opd}{Q:Exit→Env→AHeap→Prop}(hb:(l1++⟨some d,.callv x [y],none⟩::l2).all (fun c => !c.i.isBad)=true)
  (hw:WL P N l1 (fun ex e1 h1=>ex = .normal∧YO P N x y (fun h2=>WL P N l2 (fun ex e h=>ex = .normal∧Q .normal e h) ((d,some (.bool true))::e1) h2) e1 h1) e h):WW P N (.reg (l1++⟨some d,.callv x [y],none⟩::l2)) Q e h:=⟨AW.regY hb hw⟩
end
end Go.Abs


namespace Go.Abs
open Go

def mk (r:Nat):Deferred:={ target := .collected r,args:=#[] }
def PMd (N:Nat)(Q:Exit→Env→AHeap→Prop)(did r:Nat)(m:Inj)(h:AHeap)(w:World):Exit→Go.Act→World→Prop :=
 fun ex a' w'=>∃ (m':Inj) (e':Env) (h':AHeap),HR m' h' w'∧ER N m' h' w' e' { a' with defers:=[] }∧a'.defers=[mk r]∧Step m h w m' h' w'∧h'.get did=some (.dfr r (some []))∧Q ex e' h'
def PMk (N:Nat)(Q:Nat→Exit→Env→AHeap→Prop)(m:Inj)(h:AHeap)(w:World):Exit→Go.Act→World→Prop :=
 fun ex a' w'=>∃ (r did:Nat),¬ h.used did∧PMd N (Q did) did r m h w ex a' w'
def AMk (P:Program)(N:Nat)(c:CC)(Q:Nat→Exit→Env→AHeap→Prop)(e:Env)(h:AHeap):Prop :=
 ∀ code,compC P N code=c→∀ m w a,HR m h w→ER N m h w e a→code.wp P (PMk N Q m h w) a w
def AMM (P:Program)(N:Nat)(c:CC)(Q:Exit→Env→AHeap→Prop)(did r:Nat)(e:Env)(h:AHeap):Prop :=
 ∀ code,compC P N code=c→∀ m w a,HR m h w→ER N m h w e { a with defers:=[] }→a.defers=[mk r]→code.wp P (PMd N Q did r m h w) a w
section
variable {P:Program}{N:Nat}{e:Env}{h:AHeap}{m:Inj}{w:World}{Q:Nat→Exit→Env→AHeap→Prop}{K:Exit→Env→AHeap→Prop}
theorem PMd.from {m₁:Inj}{h₁:AHeap}{w₁:World}{did r:Nat}(s:Step m h w m₁ h₁ w₁){ex:Exit}{a:Go.Act}{w':World}(hp:PMd N K did r m₁ h₁ w₁ ex a w'):PMd N K did r m h w ex a w':=by
 obtain ⟨m',e',h',h1,h2,h3,h4,h5,h6⟩:=hp
 exact ⟨m',e',h',h1,h2,h3,s.trans h4,h5,h6⟩
theorem AMk.seq1 {x y:CC}(hw:WW P N x (fun ex e h=>ex = .normal∧AMk P N y Q e h) e h):AMk P N (.seq x y) Q e h:=by
 intro code hc m w a hr he
 cases code <;> simp only [compC] at hc <;> try (cases hc;done)
 ·split at hc <;> cases hc
 ·rename_i cx cy
  cases hc
  refine wp_seq (wp_mono (hw.out cx rfl m w a hr he) fun ex a' w' hp => ?_)
  obtain ⟨m',e',h',h1,h2,h3,rfl,h4⟩:=hp
  refine wp_mono (h4 cy rfl m' w' a' h1 h2) fun _ _ _ hp => ?_
  obtain ⟨r,did,hu,hp⟩:=hp
  exact ⟨r,did,fun hh=>hu (h3.used did hh),hp.from h3⟩
 ·split at hc <;> cases hc
 ·split at hc <;> cases hc
theorem AMk.seq2 {x y:CC}(hw:AMk P N x (fun did ex e h1=>ex = .normal∧∀ r,h1.get did=some (.dfr r (some []))→AMM P N y (Q did) did r e h1) e h):AMk P N (.seq x y) Q e h:=by
 intro code hc m w a hr he
 cases code <;> simp only [compC] at hc <;> try (cases hc;done)
 ·split at hc <;> cases hc
 ·rename_i cx cy
  cases hc
  refine wp_seq (wp_mono (hw cx rfl m w a hr he) fun ex a' w' hp => ?_)
  obtain ⟨r,did,hu,m',e',h',h1,h2,h3,h4,h5,rfl,h6⟩:=hp
  exact wp_mono (h6 r h5 cy rfl m' w' a' h1 h2 h3) fun _ _ _ hp=>⟨r,did,hu,hp.from h4⟩
 ·split at hc <;> cases hc
 ·split at hc <;> cases hc
theorem AMk.block {id:Nat}{x:CC}(hw:AMk P N x (fun did ex e h=>ex = .normal∧Q did .normal e h) e h):AMk P N (.block id x) Q e h:=by
 intro code hc m w a hr he
 cases code <;> simp only [compC] at hc <;> try (cases hc;done)
 ·split at hc <;> cases hc
 ·split at hc <;> cases hc
 ·cases hc
  refine wp_block (wp_mono (hw _ rfl m w a hr he) fun ex a' w' hp => ?_)
  obtain ⟨r,did,hu,m',e',h',h1,h2,h3,h4,h5,rfl,h6⟩:=hp
  exact ⟨r,did,hu,m',e',h',h1,h2,h3,h4,h5,h6⟩
 ·split at hc <;> cases hc
theorem AMM.seq {x y:CC}{did r:Nat}(hw:AMM P N x (fun ex e h=>ex = .normal∧(h.get did=some (.dfr r (some []))→AMM P N y K did r e h)) did r e h):AMM P N (.seq x y) K did r e h:=by
 intro code hc m w a hr he hd
 cases code <;> simp only [compC] at hc <;> try (cases hc;done)
 ·split at hc <;> cases hc
 ·rename_i cx cy
  cases hc
  refine wp_seq (wp_mono (hw cx rfl m w a hr he hd) fun ex a' w' hp => ?_)
  obtain ⟨m',e',h',h1,h2,h3,h4,h5,rfl,h6⟩:=hp
  exact wp_mono (h6 h5 cy rfl m' w' a' h1 h2 h3) fun _ _ _ hp=>hp.from h4
 ·split at hc <;> cases hc
 ·split at hc <;> cases hc
theorem AMM.ret {did r:Nat}(hg:h.get did=some (.dfr r (some [])))(hq:K .ret e h):AMM P N .ret K did r e h:=by
 intro code hc m w a hr he hd
 cases code <;> simp only [compC] at hc <;> try (cases hc;done)
 ·split at hc <;> cases hc
 ·split at hc <;> cases hc
 ·split at hc <;> cases hc
 ·exact wp_ret ⟨m,e,h,hr,he,hd,Step.refl _ _ _,hg,hq⟩
theorem zit {ops:Array Oper}{K:Exit→Go.Act→World→Prop}(hl:¬ LetsOut K)(ds:List Deferred):∀ (idx:List Nat) (a:Go.Act) (w:World),wpOps P ops K idx a w →
    wpOps P ops (fun ex a' w'=>∃ a0,a'={ a0 with defers:=a0.defers++ds }∧K ex a0 w') idx { a with defers:=a.defers++ds } w
  | [], a, w, hw => ⟨a, rfl, hw⟩
  | i :: idx, a, w, hw => by
    have ih:=zit (ops:=ops) (K:=K) hl ds idx
    have ihp:∀ (a:Go.Act) (d:Option Tmp) (v:Value) (w:World),wpOps P ops K idx (a.put d v) w→wpOps P ops (fun ex a' w'=>∃ a0,a'={ a0 with defers:=a0.defers++ds }∧K ex a0 w') idx (({ a with defers:=a.defers++ds }:Go.Act).put d v) w:=fun a d v w hx=>by
      have:=ih _ _ hx
      cases d <;> exact this
    have hev:({ a with defers:=a.defers++ds }:Go.Act).eval=a.eval:=funext fun x=>by cases x <;> rfl
    simp only [wpOps] at hw ⊢
    cases ho:ops[i]? with
    | none => simp only [ho] at hw; exact ih _ _ hw
    | some o =>
      simp only [ho] at hw ⊢
      by_cases hwant:Region.wanted o (yielded ops a.tmps)=true
      · rw [if_pos hwant] at hw ⊢
        rcases hw with hw | ⟨_,hx⟩
        · left
          unfold Oper.wp at hw ⊢
          rw [hev]
          generalize (execOp a.eval o).run P w=r at hw ⊢
          cases r with
          | ok nx w' =>
            cases nx <;> simp only [Oper.upon] at hw ⊢ <;> first
              | exact ihp _ _ _ _ hw
              | exact ihp { a with defers := _ :: a.defers } _ _ _ hw
              | exact Calls.mono hw fun ex w'' he => by
                  cases ex with
                  | returned v => exact ihp _ _ _ _ he
                  | panicked ch => exact ⟨a, rfl, he⟩
                  | outgrown => exact absurd he hl
              | exact Rows.mono hw fun _ _ he => ihp _ _ _ _ he
              | exact hw
          | halt x w' => cases x <;> simp only [Oper.upon] at hw ⊢ <;> first | exact ⟨a, rfl, hw⟩ | exact hw
        · exact absurd hx hl
      · rw [if_neg hwant] at hw ⊢
        exact ihp _ _ _ _ hw
theorem AMM.reg {l:List CI}{did r:Nat}(hw:WL P N l (fun ex e h'=>ex = .normal∧(h'.get did=some (.dfr r (some []))∧K .normal e h')) e h):AMM P N (.reg l) K did r e h:=by
 intro code hc m w a hr he hd
 cases code <;> simp only [compC] at hc <;> try (cases hc;done)
 ·rename_i id ops dr
  split at hc
  ·cases hc
  ·rename_i hdr
   injection hc with hc
   have hd':dr=false:=by simpa using hdr
   subst hd'
   have hx:=zit noOut [mk r] _ _ _ (hw.out ops (List.range ops.size) (fun i hi=>by simpa using hi) (compR_range.trans hc) m w { a with defers:=[] } hr he)
   have ha:({ ({ a with defers:=[] }:Go.Act) with defers:=({ a with defers:=[] }:Go.Act).defers++[mk r] }:Go.Act)=a:=by
    cases a;simp only at hd;subst hd;rfl
   rw [ha] at hx
   refine wp_region (z15 (fun ex a1 w1 hp => ?_) _ _ _ hx)
   obtain ⟨a0,rfl,m1,e1,h1,hr1,he1,st1,rfl,hg1,hq⟩:=hp
   refine ⟨m1,e1,h1,hr1,⟨he1.size,rfl,he1.val⟩,?_,st1,hg1,hq⟩
   show a0.defers++[mk r]=[mk r]
   rw [he1.defers];rfl
 ·split at hc <;> cases hc
 ·split at hc <;> cases hc
theorem AMk.rangeF {f p:Nat}{g:Opd}{us ts:List AV}{cA cB:CC}{es:List (Nat×AV)}(hg:ev e g=some (.func (.func f) us ts))(hbd:z2j P f=true)(hes:∀ s v,(s,v)∈es→lk s e=some v)
  (hac:∀ (l r:Nat) (fn:FuncId) (asg bdy:Code),compC P N asg=cA→compC P N bdy=cB→AC P f (us++[.func (.yield l) [] []]++ts) ((h.put h.next (.dfr r (some []))).put (h.next+1) (.loop l .ready N es fn #[p] asg bdy r))
   (fun _ h'=>h'.get h.next=some (.dfr r (some []))∧h'.get (h.next+1)=some (.loop l .ready N es fn #[p] asg bdy r)∧Q h.next .normal e (h'.set (h.next+1) none))):AMk P N (.rangeF g [p] cA cB) Q e h:=by
 intro code hc m w a hr he
 cases code <;> simp only [compC] at hc <;> try (cases hc;done)
 ·split at hc <;> cases hc
 ·split at hc <;> cases hc
 ·rename_i gq ps asg bdy
  split at hc
  ·rename_i g' hgq
   injection hc with e1 e2 e3 e4
   subst e1 e3 e4
   have hps:ps=#[p]:=by rw [← Array.toArray_toList (xs:=ps),e2]
   subst hps
   refine (wpIn_wide (n:=0)).1 (wpIn_rangeFunc fun fn _ => ?_)
   have hfv:=he.eval hgq hg
   have hf1:=z11 hr
   have hr1:HR (upd m h.next (some (w.heap.size,0))) (h.put h.next (.dfr w.heap.size (some []))) (w.alloc (.deferred (some []))):=hr.put hf1 ⟨by simp [upd],World.alloc_heap_new _ _⟩
   have st1:=z4j hr hf1 (.dfr w.heap.size (some [])) (.deferred (some [])) 0
   have hn1:(h.put h.next (.dfr w.heap.size (some []))).next=h.next+1:=z4m _ _
   have hf2:¬ (h.put h.next (.dfr w.heap.size (some []))).used (h.next+1):=fun hu=>by have:=hu.1;omega
   have hsz1:(w.alloc (.deferred (some []))).heap.size=w.heap.size+1:=World.size_alloc ..
   have st2:=z4j hr1 hf2 (.loop (w.heap.size+1) .ready N es fn #[p] asg bdy w.heap.size) (.loop ⟨.ready,none,fn,a.tmps,#[p],asg,bdy,w.heap.size⟩) 0
   have hr2:=hr1.put (t:=0) (x := .loop (w.heap.size+1) .ready N es fn #[p] asg bdy w.heap.size) (o := .loop ⟨.ready,none,fn,a.tmps,#[p],asg,bdy,w.heap.size⟩) hf2
    ⟨by simp [upd],a.tmps,by rw [← hsz1];exact World.alloc_heap_new _ _,he.size,fun s v hs=>(he.val s v (hes s v hs)).step (st1.trans st2)⟩
   have he2:=he.step (st1.trans st2)
   generalize hcx:a.eval gq=cx at hfv
   cases hfv with
   | func _ _ _ cs ds q1 q2 q3 q4 =>
    have hfv2:VR _ _ _ (.func (.func f) us ts) (.func (.func f) cs ds):=(VR.func (.func f) us ts cs ds q1 q2 q3 q4).step (st1.trans st2)
    obtain ⟨W,hW⟩:∃ W,(w.alloc (.deferred (some []))).alloc (.loop ⟨.ready,none,fn,a.tmps,#[p],asg,bdy,w.heap.size⟩)=W:=⟨_,rfl⟩
    obtain ⟨d,hd1,hd2⟩:∃ d:Deferred,(resolve a.eval (rangeCall gq (w.heap.size+1)) 0).run P W = .ok d W∧(invoke d.target d.args).run P W = .ok (.enter f (cs++#[.func (.yield (w.heap.size+1)) #[] #[]]++ds)) W:=by
     have hce:a.eval (.const (.func (.yield (w.heap.size+1)) #[] #[])) = .func (.yield (w.heap.size+1)) #[] #[]:=rfl
     refine ⟨{ target := .fn (.func f) ds,args:=cs++#[.func (.yield (w.heap.size+1)) #[] #[]] },?_,?_⟩
     ·simp [resolve,rangeCall,hcx,hce,Deferred.ofValue]
     ·simp [invoke,z1b hbd]
    refine ⟨w.heap.size+1,[mk w.heap.size],W,d,W,f,cs++#[.func (.yield (w.heap.size+1)) #[] #[]]++ds,W,?_,hd1,fun _ _=>trivial,hd2,fun hh=>by simp [Fence.wide] at hh,?_⟩
    ·rw [← hW];exact run_enterLoop_outer fn a.tmps #[p] asg bdy
    ·refine callsIn_wide.2 ?_
     subst hW
     refine (hac (w.heap.size+1) w.heap.size fn asg bdy rfl rfl _ _ _ hr2 (by simp [q1,q2];omega) (fun j v hj => ?_)).mono fun ex w3 hx => ?_
     ·have q3':=fun i v hi=>(q3 i v hi).step (st1.trans st2)
      have q4':=fun i v hi=>(q4 i v hi).step (st1.trans st2)
      rw [List.append_assoc] at hj
      simp only [Array.getD_eq_getD_getElem?]
      by_cases j1:j < us.length
      ·rw [List.getElem?_append_left j1] at hj
       have:=q3' j v hj
       rw [Array.append_assoc,Array.getElem?_append_left (by omega)]
       simpa [Array.getD_eq_getD_getElem?] using this
      ·rw [List.getElem?_append_right (by omega)] at hj
       rw [Array.append_assoc,Array.getElem?_append_right (by omega),← q1]
       by_cases j2:j - us.length < 1
       ·rw [List.getElem?_append_left (by simpa using j2)] at hj
        have h0:j - us.length=0:=by omega
        rw [h0] at hj ⊢
        cases hj
        rw [Array.getElem?_append_left (by simp)]
        exact .func _ [] [] #[] #[] rfl rfl (by simp) (by simp)
       ·rw [List.getElem?_append_right (by simp;omega)] at hj
        have:=q4' _ v hj
        rw [Array.getElem?_append_right (by simp;omega)]
        simpa [Array.getD_eq_getD_getElem?] using this
     ·obtain ⟨v,m3,r3,h3,rfl,hr3,_,st3,hg3,hl3,hq3⟩:=hx
      obtain ⟨T3,hT3,_,_,hr4,st4⟩:=z7d hr3 hl3 .exhausted
      have hr5:=hr4.del (h.next+1)
      have st5:Step _ _ _ _ _ _:=z2a (m:=m3) (h:=h3.set (h.next+1) (some (.loop (w.heap.size+1) .exhausted N es fn #[p] asg bdy w.heap.size))) (w:=w3.putObj (w.heap.size+1) (.loop ⟨.exhausted,none,fn,T3,#[p],asg,bdy,w.heap.size⟩)) (h.next+1)
      refine ⟨none,_,run_endLoop hT3 (by simp),?_⟩
      rw [zng] at hr5 st5
      have stA:=(((st1.trans st2).trans st3).trans st4).trans st5
      refine ⟨w.heap.size,h.next,fun hu=>absurd hu.1 (Nat.lt_irrefl _),m3,e,_,hr5,?_,?_,stA,?_,hq3⟩
      ·have:=he.step stA
       exact ⟨this.size,rfl,this.val⟩
      ·show [mk w.heap.size]++a.defers=_
       rw [he.defers];rfl
      ·rw [zc,if_neg (by omega)];exact hg3
  ·cases hc

theorem zrd {did r:Nat}{o:Option (List Deferred)}(hr:HR m h w)(hg:h.get did=some (.dfr r o))(o':Option (List Deferred)) :
  w.heap[r]? = some (.deferred o)∧HR m (h.set did (some (.dfr r o'))) (w.putObj r (.deferred o'))∧Step m h w m (h.set did (some (.dfr r o'))) (w.putObj r (.deferred o')):=by
 obtain ⟨q1,q2⟩:=hr.obj _ _ hg
 have hlt:r < w.heap.size:=(Array.getElem?_eq_some_iff.1 q2).1
 have wu:WUpd w (w.putObj r (.deferred o')) r:=⟨rfl,rfl,rfl,World.putObj_size,fun k hk=>World.putObj_heap_other hk,fun cc T' fz hc=>by rw [q2] at hc;cases hc⟩
 have hcm:Compat (.dfr r o) (.dfr r o'):=rfl
 exact ⟨q2,hr.set hg q1 hcm wu ⟨q1,World.putObj_heap_same hlt⟩,z2b hr hg q1 hcm wu⟩
theorem AC.introM {f:Nat}{cc:CC}{rcs:List RC}{vs:List AV}{R:AV→AHeap→Prop}(hfn:FnIs P f N cc rcs)(hn:vs.length≤N)
  (hw:AMk P N cc (fun did ex e h1=>¬ h.used did→(ex = .ret∨ex = .normal)∧∃ rs,resA (h1.set did none).get e rcs=some rs∧R (fin rs) (h1.set did none)) (argE 0 vs) h):AC P f vs h R:=by
 obtain ⟨fn,code,h1,h2,h3,h4,h5⟩:=hfn
 intro m w cargs hr hl hv
 refine (callsIn_wide (n:=0)).1 (callsIn_of_wp_marks h1 h2 trivial ((wpIn_wide (n:=0)).2 (wp_mono (hw code h4 m w _ hr ⟨by simp [h3,← hl];omega,rfl,fun i v hi => ?_⟩) fun ex a' w' hp => ?_)))
 ·rw [zh0] at hi
  simp at hi
  have hlt:i < cargs.size:=by rw [← hl];exact (List.getElem?_eq_some_iff.1 hi).1
  have:=hv i v hi
  simpa [Array.getD_eq_getD_getElem?,Array.getElem?_append_left hlt] using this
 ·obtain ⟨r,did,hu,m',e',h',g1,g2,g3,g4,g5,hq⟩:=hp
  obtain ⟨hex,rs,hrs,hR⟩:=hq hu
  obtain ⟨hdf,hr2,st2⟩:=zrd g1 g5 none
  have hr3:=hr2.del did
  have st3:Step _ _ _ _ _ _:=z2a (m:=m') (h:=h'.set did (some (.dfr r none))) (w:=w'.putObj r (.deferred none)) did
  rw [zng] at hr3 st3
  have stA:=st2.trans st3
  have he3:=g2.step stA
  obtain ⟨v,hrun,hvr⟩:=zf7 hr3 he3 h5 hrs
  have key:LeavesInM Fence.wide 0 P fn a'.tmps (fun ex w'=>∃ v m' r h',ex = .returned v∧HR m' h' w'∧VR m' h' w' r v∧Step m h w m' h' w'∧R r h') a'.defers .returning w':=by
   rw [g3]
   refine ⟨by simp,.inl ⟨r,_,rfl,run_takeDeferred hdf,?_⟩⟩
   exact ⟨v,hrun,v,m',fin rs,_,rfl,hr3,hvr,g4.trans stA,hR⟩
  rcases hex with rfl | rfl
  ·exact key
  ·exact key
theorem AE.pureM {f:Nat}{cc:CC}{rcs:List RC}{vs:List AV}{r:AV}(hfn:FnIs P f N cc rcs)(hn:vs.length≤N)
  (hw:AMk P N cc (fun did ex e h1=>¬ h.used did→PureQ h rcs r ex e (h1.set did none)) (argE 0 vs) h):AE P f vs h r h:=by
 have hac:AC P f vs h (fun r1 h1=>Keeps h h1∧Fz h h1 r1 r):=by
  refine AC.introM hfn hn fun code hc m w a hr he=>wp_mono (hw code hc m w a hr he) fun ex a' w' hp => ?_
  obtain ⟨r0,did,hu,m',e',h',g1,g2,g3,g4,g5,hq⟩:=hp
  refine ⟨r0,did,hu,m',e',h',g1,g2,g3,g4,g5,fun hu=>⟨(hq hu).ex,?_⟩⟩
  obtain ⟨_,hk,rs,hrs,hfz⟩:=hq hu
  exact ⟨rs,hrs,hk,hfz⟩
 intro m w cargs hr hl hv
 refine (hac m w cargs hr hl hv).mono fun ex w' ⟨v,m',r1,h1,e1,g1,g2,g3,hk,hz⟩ => ?_
 have hs:∀ id x,h.get id=some x→h1.get id=some x:=fun id x hg=>(hk.2 id (hr.live id x hg)).trans hg
 exact ⟨v,m',r,h,e1,zh2 hr g1 hs,hz.vr g1 hs hr.live g2,zb4 g3 hr hs,rfl,rfl⟩
theorem XOK.slc3I {sz:Nat}{x mx y z:Opd}{k k2 k':IntKind}{c:List (List AV)}{l q:Nat}{a0 b0 d0:Int}(hx:ev e x=some (.imm sz c))(hl:ev e z=some (.int k a0))(hh:ev e y=some (.int k2 b0))(hm:ev e mx=some (.int k' d0))(ha:a0=l)(hb:b0=q)(hd:d0=q)(hlq:l < q)(hq:q≤c.length):XOK P N (.slc3 sz x (some z) (some y) mx) e h (some (.imm sz ((c.take q).drop l))) .none:=by
 subst ha hb hd
 intro o hc e2 hs m w act hr he
 obtain ⟨t,xo,lo',hi',mo,el,i,hop,hu1,hi,h1,h2,h3,h4,rfl⟩:=znf hc
 cases lo' with
 | none => exact h3.elim
 | some lo =>
  cases hi' with
  | none => exact h4.elim
  | some ho =>
   have hx2:=(z5 fun s h=>hs s (by simp [z10,h])).trans hx
   have hl2:=(z5 fun s h=>hs s (by simp [z10,z4y,h])).trans hl
   have hh2:=(z5 fun s h=>hs s (by simp [z10,z4y,h])).trans hh
   have hm2:=(z5 fun s h=>hs s (by simp [z10,h])).trans hm
   have hv:=he.eval h1 hx2
   have b0:=zm (he.eval h3 hl2)
   have b1:=zm (he.eval h4 hh2)
   have b2:=zm (he.eval h2 hm2)
   generalize hcx:act.eval xo=cx at hv
   cases hv with
   | imm0 => simp at hq; omega
   | imm1 => simp at hq; omega
   | imm _ _ b o' cap F hic hlen hsc hrr hcap =>
    have hbd:(Instr.sliceBounds true c.length cap (some (.int k (l:Int))) (some (.int k2 (q:Int))) (some (.int k' (q:Int)))).run P w = .ok (l,q,q) w:=by
     have q1:q≤cap:=by omega
     have q2:l≤q:=by omega
     simp [Instr.sliceBounds,Instr.sliceBound,asIntOf,q1,q2]
    have hrun:(Instr.sliceAt t (.slice (some ⟨b,o',none⟩) c.length cap) (some (.int k (l:Int))) (some (.int k2 (q:Int))) (some (.int k' (q:Int)))).run P w = .ok (.slice (some ⟨b,o'+l*i.size,none⟩) (q - l) (q - l)) w:=by
     have q3:q≠l:=by omega
     simp [Instr.sliceAt,run_underlying hu1,Instr.slice,hbd,zt hi,q3,Addr.add_lit]
    refine OpOK.pure hr (cv := .slice (some ⟨b,o'+l*i.size,none⟩) (q - l) (q - l)) ?_ (zgv hic hlen hsc hrr (by omega) hq _ (Nat.le_refl _))
    simp only [execOp,hop,hcx,b0,b1,b2,Option.map_some,Sem.run_bind,hrun,Result.andThen_ok,Sem.run_pure]
theorem FX.slc3I {d:Option Nat}{g:Option (Nat×Bool)}{sz:Nat}{x mx y z:Opd}{k k2 k':IntKind}{c:List (List AV)}{l q:Nat}{a0 b0 d0:Int}(hx:ev e x=some (.imm sz c))(hl:ev e z=some (.int k a0))(hh:ev e y=some (.int k2 b0))(hm:ev e mx=some (.int k' d0))(ha:a0=l)(hb:b0=q)(hd:d0=q)(hlq:l < q)(hq:q≤c.length)(hg:met e g) :
  FX P N ⟨d,.raw (.slc3 sz x (some z) (some y) mx),g⟩ e h (some (.imm sz ((c.take q).drop l))) h:=FX.raw (XOK.slc3I hx hl hh hm ha hb hd hlq hq) hg
end
end Go.Abs


namespace Go.Proofs.YthblcmnhiccnhaaGreat
open Go Go.Abs

theorem zg1 {h:AHeap}{nx:Nat}(hn:h.next=nx)(c:List (List AV)):AE Tryz.prog 174 [.imm 1 c,.int .i64 16] h (.func (.func 237) [] [.ptr nx 0 0,.ptr (nx+1) 0 0]) ((h.put nx (.mem 1 [[.imm 1 c]])).put (nx+1) (.mem 1 [[.int .i64 16]])):=by
 subst hn
 refine AC.introW z6h (by simp) ?_
 unfold z2v;dsimp only [qQ,qR,qM,qG]
 (refine go ?_)
 exact WW.ret ⟨.inl rfl,_,gRES,rfl,rfl⟩
def cA9:CC := .reg [⟨some 6,.mov (.t 31),none⟩]
def cB9:CC := .block 3 (.seq (.reg [⟨some 33,.mov (.t 6),none⟩,⟨some 34,.call 175 [.t 33],none⟩,⟨some 32,.mov (.t 34),none⟩,⟨some 35,.ext 0 (.t 32),none⟩,⟨some 36,.ext 1 (.t 32),none⟩,⟨some 7,.alloc [.int .u64 0,.int .u64 0],none⟩,⟨none,.store 2 (.t 7) (.t 35),none⟩,⟨some 8,.mov (.t 36),none⟩]) (.reg [⟨some 37,.load 2 true (.t 5),none⟩,⟨some 38,.load 2 true (.t 7),none⟩,⟨some 39,.call 176 [.t 37,.t 38],none⟩,⟨none,.store 2 (.t 5) (.t 39),none⟩]))
attribute [local irreducible] stepF pairF
theorem zre {h:AHeap}{l r rid did n1 n2 sc:Nat}{fn:FuncId}{asg bdy:Code}{c:Bs}{s0:Pr}(hc16:c.length % 16=0)(hc:c.length≤2000000)
  (h1:h.get n1=some (.mem 1 [[.imm 1 (c.map encB)]])) (h2:h.get n2=some (.mem 1 [[.int .i64 16]])) (h3:h.get did=some (.dfr r (some []))) (h4:h.get rid=some (.loop l .ready 41 [(5,.ptr sc 0 0)] fn #[31] asg bdy r)) (h5:h.get sc=some (.mem 2 [encP s0]))
  (hA:compC Tryz.prog 41 asg=cA9) (hB:compC Tryz.prog 41 bdy=cB9) :
  AC Tryz.prog 237 [.func (.yield l) [] [],.ptr n1 0 0,.ptr n2 0 0] h (fun _ h'=>h'.get did=some (.dfr r (some []))∧h'.get rid=some (.loop l .ready 41 [(5,.ptr sc 0 0)] fn #[31] asg bdy r)∧h'.get sc=some (.mem 2 [encP ((rowsF c).foldl sumS6 s0)])∧KeepsB [sc,rid] h h'):=by
 refine AC.wf fun hwf => ?_
 have w1:=hwf _ _ h1
 have w2:=hwf _ _ h2
 have w3:=hwf _ _ h3
 have w4:=hwf _ _ h4
 have w5:=hwf _ _ h5
 have d1:n1≠sc:=fun e=>by subst e;rw [h1] at h5;cases h5
 have d2:n2≠sc:=fun e=>by subst e;rw [h2] at h5;cases h5
 have d3:did≠sc:=fun e=>by subst e;rw [h3] at h5;cases h5
 have d4:rid≠sc:=fun e=>by subst e;rw [h4] at h5;cases h5
 have d5:n1≠rid:=fun e=>by subst e;rw [h1] at h4;cases h4
 have d6:n2≠rid:=fun e=>by subst e;rw [h2] at h4;cases h4
 have d7:did≠rid:=fun e=>by subst e;rw [h3] at h4;cases h4
 refine AC.introW z5d (by simp) ?_
 unfold z2g;dsimp only [qQ,qR,qM,qG]
 (refine go ?_)
 refine WW.loopE (fun (s:RowS)=>[(0,some (.func (.yield l) [] [])),(1,some (.ptr n1 0 0)),(2,some (.ptr n2 0 0)),(4,some (.int .i64 s.i))])
  (fun s h'=>(h'.get n1=some (.mem 1 [[.imm 1 (c.map encB)]])∧h'.get n2=some (.mem 1 [[.int .i64 16]])∧h'.get did=some (.dfr r (some []))∧h'.get rid=some (.loop l .ready 41 [(5,.ptr sc 0 0)] fn #[31] asg bdy r))∧h'.get sc=some (.mem 2 [encP s.o])∧h.next≤h'.next∧KeepsB [sc,rid] h h'∧s.i % 16=0∧s.i≤c.length∧(rowsF c).foldl sumS6 s0=(rowsF (c.drop s.i)).foldl sumS6 s.o) (fun s=>c.length - s.i) ⟨0,s0⟩ gSUB ⟨⟨h1,h2,h3,h4⟩,h5,Nat.le_refl _,KeepsB.refl,rfl,Nat.zero_le _,by simp⟩ ?_
 rintro ⟨i,o⟩ h' ⟨⟨a1,a2,a3,a4⟩,a5,a6,a7,a8,a9,a10⟩
 simp only at a1 a2 a3 a4 a5 a6 a7 a8 a9 a10 ⊢
 (refine go ?_)
 (refine WW.ifB rfl (fun hz1 => ?_) (fun hz1 => ?_))
 ·have h16:(c.drop i).length ≥ 16:=by simp;omega
  have hne:c.drop i≠[]:=fun e=>by rw [e] at h16;simp at h16
  (repeat first | refine WW.seq ?_ | refine WW.reg ?_ | refine WL.nil ?_ | refine WW.skip ?_ | refine WW.block ?_ | refine thenN ?_ | refine blkN ?_)
  refine WW.dreg0 [] (by decide +kernel) ?_
  (repeat first | refine DW.go ?_ | refine DW.goWP ?_ | refine DW.goF ?_ | refine DW.endL ?_ | refine thenN ?_ | refine blkN ?_)
  have em:(if (((((c.map encB).take (c.map encB).length).drop i).length:Nat):Int) < 16 then (((((c.map encB).take (c.map encB).length).drop i).length:Nat):Int) else 16)=16:=if_neg (by simp at h16 ⊢;omega)
  rw [em]
  refine WW.seq ?_
  refine WW.regY (l1:=[⟨some 19,.mov (.t 0),none⟩,⟨some 20,.load 1 false (.t 1),none⟩,⟨some 21,.mov (.t 4),none⟩,⟨some 22,.mov (.t 4),none⟩,⟨some 23,.mov (.t 5),none⟩,⟨some 24,.bin .add (.t 22) (.t 23),none⟩,⟨some 25,.mov (.t 4),none⟩,⟨some 26,.mov (.t 5),none⟩,⟨some 27,.bin .add (.t 25) (.t 26),none⟩,⟨some 28,.raw (Ex.slc3 1 (.t 20) (some (.t 21)) (some (.t 24)) (.t 27)),none⟩]) (l2:=[⟨some 30,.not (.t 29),none⟩]) rfl ?_
  (refine go ?_)
  refine WL.fx1 (FX.slc3I (l:=i) (q:=i+16) rfl rfl rfl rfl rfl rfl rfl (by omega) (by simp at h16 ⊢;omega) gM) ?_
  rw [zt7]
  refine WL.nil ⟨rfl,⟨rid,l,41,r,31,[(5,.ptr sc 0 0)],fn,asg,bdy,.imm 1 (((c.drop i).take 16).map encB),rfl,rfl,a4,by decide,?_⟩⟩
  rw [hA,hB]
  refine RW.reg rfl ?_
  (refine go ?_)
  refine ⟨rfl,⟨a4,?_⟩⟩
  refine RW.block (RW.seq (RW.reg rfl ?_))
  (refine go ?_)
  refine WL.call rfl gM gSL (z2o _ (by rw [List.length_take];omega) _) ?_
  (refine go ?_)
  refine ⟨rfl,RW.reg rfl ?_⟩
  (refine go ?_)
  refine WL.call rfl gM gSL (zhl o (pairF ((c.drop i).take 16)) _) ?_
  (refine go ?_)
  refine ⟨rfl,rfl,gH,?_⟩
  (refine go ?_)
  refine ⟨rfl,?_⟩
  (refine go ?_)
  refine ⟨⟨i+16,sumS6 o ((c.drop i).take 16)⟩,gSUB,⟨⟨gH,gH,gH,gH⟩,gH,gLE,gKB,by simp;omega,by simp at h16 ⊢;omega,?_⟩,by simp at h16 ⊢;omega⟩
  rw [a10,zfr hne,List.drop_drop];rfl
 ·have hi:i=c.length:=by omega
  (refine go ?_)
  refine ⟨.inr rfl,_,gRES,a3,a4,?_,a7⟩
  rw [a10,hi,List.drop_length,z7b]
  exact a5
theorem AC.used {P:Program}{f:Nat}{vs:List AV}{h:AHeap}{R:AV→AHeap→Prop}(hac:AC P f vs h R):AC P f vs h (fun r h'=>R r h'∧(∀ id,h.used id→h'.used id)∧∀ id x,h'.get id=some x→h'.used id):=fun m w cargs hr hl hv =>
 (hac m w cargs hr hl hv).mono fun ex w' ⟨v,m',r,h',e1,g1,g2,g3,hR⟩=>⟨v,m',r,h',e1,g1,g2,g3,hR,g3.used,g1.live⟩
theorem AMk.named {P:Program}{N:Nat}{c:CC}{Q:Nat→Exit→Env→AHeap→Prop}{e:Env}{h:AHeap}(F:AHeap→Prop)(hf:F h)(k:∀ h5,F h5→AMk P N c Q e h5):AMk P N c Q e h:=k h hf
theorem zd8 (l:List Bs)(hl:l.length≤1000000)(hf:l.flatten.length≤100000000)(h:AHeap):AC Tryz.prog 172 [.imm 1 (l.map encR)] h
  (fun r h'=>∃ T,r = .app T 0 1 (l.flatten.map encB)∧h.next≤T∧h'.get T=some (.tail 0 l.flatten.length)∧Keeps h h'):=by
 refine AC.introW z2i (by simp) ?_
 unfold z1h;dsimp only [qQ,qR,qM,qG]
 (refine go ?_)
 refine WW.loopE (fun (i:Nat)=>[(0,some (.imm 1 (l.map encR))),(3,some (.int .i64 (l.take i).flatten.length)),(9,some (.imm 1 (l.map encR))),(10,some (.int .i64 l.length)),(11,some (.int .i64 i))])
  (fun i h'=>h=h'∧i≤l.length) (fun i=>l.length - i) 0 gSUB ⟨rfl,by omega⟩ ?_
 rintro i _ ⟨rfl,g2⟩
 (refine go ?_)
 (refine WW.ifB rfl (fun hz1 => ?_) (fun hz1 => ?_))
 ·have e1:(l.take (i+1)).flatten.length=(l.take i).flatten.length+l[i].length:=by rw [z79 l (by omega)];simp
  have e2:=z37 l (i+1)
  (refine go ?_)
  refine ⟨i+1,(by repeat first | exact subE.nil _ | (apply subE.cons;focus (first | exact rfl | (simp [z6,e1];done) | (simp [z6,e1];omega)))),⟨rfl,by omega⟩,by omega⟩
 have hi:i=l.length:=by omega
 subst hi
 rw [List.take_length]
 (refine go ?_)
 refine WL.callA rfl gM gSL (z78 _ hf _) ?_
 rintro _ h1 ⟨T,rfl,q1,q2,q3⟩
 (refine go ?_)
 refine WW.loopE (fun (i:Nat)=>[(6,some (.app T 0 1 ((l.take i).flatten.map encB))),(25,some (.imm 1 (l.map encR))),(26,some (.int .i64 l.length)),(27,some (.int .i64 i))])
  (fun i h'=>h'.get T=some (.tail 0 (l.take i).flatten.length)∧Keeps h h'∧i≤l.length) (fun i=>l.length - i) 0 gSUB ⟨by simpa using q2,q3,by omega⟩ ?_
 rintro i h2 ⟨g1,g2,g3⟩
 (refine go ?_)
 (refine WW.ifB rfl (fun hz3 => ?_) (fun hz3 => ?_))
 ·have e1:=z79 l (i:=i) (by omega)
  have e2:=z37 l (i+1)
  have e3:(l.take (i+1)).flatten.length=(l.take i).flatten.length+l[i].length:=by rw [e1];simp
  (refine go ?_)
  refine ⟨i+1,(by repeat first | exact subE.nil _ | (apply subE.cons;focus (first | exact rfl | (simp [z6,e1];done) | (simp [z6,e1];omega)))),⟨?_,gK,by omega⟩,by omega⟩
  rw [za,e3]
 ·have hi:i=l.length:=by omega
  subst hi
  rw [List.take_length] at g1
  (refine go ?_)
  exact WW.ret ⟨.inl rfl,_,gRES,T,by rw [List.take_length];rfl,q1,g1,g2⟩
theorem zjs (rows:List Bs)(hr1:rows.length≤1000000)(hr2:rows.flatten.length≤1000000)(h:AHeap):AE Tryz.prog 115 [.imm 1 (rows.map encR)] h (.agg (encP (z2s rows.flatten))) h:=by
 refine AE.pureM zj8 (by simp) ?_
 unfold zb9;dsimp only [qQ,qR,qM,qG]
 refine AMk.seq1 ?_
 (refine go ?_)
 refine ⟨rfl,AMk.seq1 ?_⟩
 (refine go ?_)
 refine WL.callA rfl gM gSL (AC.used (zd8 rows hr1 (by omega) _)) ?_
 rintro _ h1 ⟨⟨T,rfl,q1,q2,q3⟩,q4,q9⟩
 have q10:=(q9 T _ q2).1
 generalize rows.flatten=p at *
 have q0:h1.get h.next=some (.mem 2 [encP (0,0)]):=(q3.2 h.next z2).trans get_put_same
 have q5:h.next+1≤T:=by rw [z4m] at q1;exact q1
 have q6:h.next+1≤h1.next:=by have:=q3.1;rw [z4m] at this;exact this
 have q7:∀ id,h.used id∨id=h.next→h1.used id:=fun id hu=>q4 id (hu.elim zw fun e=>by subst e;exact z2)
 have q8:Keeps h h1:=⟨by omega,fun id hu=>(q3.2 id (zw hu)).trans (z3 (fun e=>by subst e;exact absurd hu.1 (Nat.lt_irrefl _)) rfl)⟩
 clear q1 q3 q4 q9
 (refine go ?_)
 refine ⟨rfl,AMk.seq1 ?_⟩
 (refine go ?_)
 refine ⟨rfl,AMk.seq1 ?_⟩
 rw [show p.map encB++[[AV.int IntKind.u8 128]]=(p++[128]++List.replicate 0 0).map encB by simp [encB]]
 have e4:IntKind.i64.wrap (((List.map encB (p++[128]++List.replicate 0 0)).length:Int) - 1)=(p.length:Int):=by
  have:(List.map encB (p++[128]++List.replicate 0 0)).length=p.length+1:=by simp
  rw [this,z1z (And.intro (by omega) (by omega))];omega
 (refine go ?_)
 rw [e4]
 refine WW.loopE (fun (k:Nat)=>[(2,some (.ptr h.next 0 0)),(3,some (.app T 0 1 ((p++[128]++List.replicate k 0).map encB))),(4,some (.int .i64 p.length))])
  (fun k h'=>h'.get h.next=some (.mem 2 [encP (0,0)])∧h'.get T=some (.tail 0 (p.length+1+k))∧T < h'.next∧Keeps h h'∧(∀ id,h.used id∨id=h.next→h'.used id)∧k≤(24 - (p.length+1) % 16) % 16) (fun k=>(24 - (p.length+1) % 16) % 16 - k) 0 gSUB ⟨gH,(by repeat first | exact zi (by first | rfl | exact List.length_map _ | (simp;done) | (simp;omega)) | exact get_set_tl (by first | rfl | exact List.length_map _ | (simp;done) | (simp;omega)) | assumption | with_reducible apply z3 (by omega) | with_reducible apply z1 (by omega)),q10,gK,q7,by omega⟩ ?_
 rintro k h' ⟨g1,g2,g3,g4,g5,g6⟩
 have hl:(p++[128]++List.replicate k 0).length=p.length+1+k:=by simp;omega
 (repeat first | refine WW.seq ?_ | refine WW.reg ?_ | refine WL.nil ?_ | refine WW.skip ?_ | refine WW.block ?_ | refine thenN ?_ | refine blkN ?_);iterate 2 (refine WL.go ?_)
 rw [hl]
 (refine go ?_)
 (refine WW.ifB rfl (fun hz1 => ?_) (fun hz1 => ?_))
 ·(refine go ?_)
  rw [show [[AV.int IntKind.u8 0]]=[(0:UInt8)].map encB from rfl,zcm,List.append_assoc,← List.replicate_succ']
  refine ⟨k+1,gSUB,⟨gH,(by repeat first | exact zi (by first | rfl | exact List.length_map _ | (simp;done) | (simp;omega)) | exact get_set_tl (by first | rfl | exact List.length_map _ | (simp;done) | (simp;omega)) | assumption | with_reducible apply z3 (by omega) | with_reducible apply z1 (by omega)),g3,gK,g5,by omega⟩,by omega⟩
 have hk:k=(24 - (p.length+1) % 16) % 16:=by omega
 obtain ⟨p1,p2,p3⟩:=zrb p
 have hb:=putB_lenS (p.length:Nat)
 have e3:p++[128]++List.replicate k 0++putB (p.length:Nat) 8=padF p:=by rw [hk];rfl
 have hd:=zis p
 (refine go ?_)
 refine ⟨rfl,AMk.seq1 ?_⟩
 (refine go ?_)
 refine WL.call rfl gM gSL (zu (p.length:Nat) 8 _ (by decide)) ?_
 (refine go ?_)
 rw [zcm,show Int.toNat 8=8 from rfl,e3]
 generalize padF p=c at *
 refine ⟨rfl,AMk.seq1 ?_⟩
 (refine go ?_)
 refine ⟨rfl,AMk.seq2 (AMk.seq1 ?_)⟩
 (refine go ?_)
 refine WL.call rfl gM gSL (zg1 (nx:=h'.next+1) gN _) ?_
 (refine go ?_)
 refine ⟨rfl,AMk.block ?_⟩
 refine AMk.named (fun h5=>h5.next=h'.next+3∧h5.get h'.next=some (.mem 2 [encP (7640891576956012808,13503953896175478587)])∧h5.get (h'.next+1)=some (.mem 1 [[.imm 1 (c.map encB)]])∧h5.get (h'.next+2)=some (.mem 1 [[.int .i64 16]])∧h5.get h.next=some (.mem 2 [encP (0,0)])∧Keeps h h5∧∀ id,h.used id∨id=h.next→h5.used id)
  ⟨gN,gH,gH,gH,gH,gK,fun id hu=>zw (zw (zkf.2 (zw (zkf.2 (g5 id hu)))))⟩ ?_
 rintro h5 ⟨c1,c2,c3,c4,c5,c6,c7⟩
 have g7:h.next < h'.next:=by omega
 refine AMk.rangeF (es:=[(5,.ptr h'.next 0 0)]) rfl (by kernel_rfl) (fun s v hs => ?_) fun l r fn asg bdy hA hB=>AC.mono (zre (sc:=h'.next) (n1:=h'.next+1) (n2:=h'.next+2) (did:=h5.next) (rid:=h5.next+1) (c:=c) p1 (by omega) gH gH gH gH gH hA hB) ?_
 ·rcases List.mem_singleton.1 hs with ⟨rfl,rfl⟩
  rfl
 rintro _ h6 ⟨b1,b2,b3,b4⟩
 have b5:h6.get h.next=some (.mem 2 [encP (0,0)]):=(b4.2 h.next (zw (zw (c7 h.next (.inr rfl)))) (by simp;omega)).trans gH
 have b6:Keeps h h6:=by
  refine ⟨?_,fun id hu=>(b4.2 id (zw (zw (c7 id (.inl hu)))) (by have:=hu.1;simp;omega)).trans ?_⟩
  ·have h0:=b4.1
   have h1:=c6.1
   rw [z2k (z4m _ _)] at h0
   omega
  ·have:=hu.1
   have:=c6.1
   rw [z3 (by omega) rfl,z3 (by omega) rfl]
   exact c6.2 id hu
 rw [← hd] at b3
 refine ⟨b1,b2,rfl,rfl,fun r2 hg2=>AMM.seq (AMM.reg ?_)⟩
 (refine go ?_)
 refine ⟨rfl,gH,rfl,fun hg3=>AMM.ret hg3 fun _=>PureQ.finD ?_⟩
 exact zd rfl (flatP _)
end Go.Proofs.YthblcmnhiccnhaaGreat


namespace Go.Abs
open Go

section
variable {P:Program}{N:Nat}{e:Env}{h:AHeap}{l:List CI}{es:List (List Nat)}

def FXR (P:Program)(N:Nat)(c:CI)(e:Env)(h:AHeap)(R:Option AV→AHeap→Prop):Prop :=
 ∀ (ops:Array Oper) (i:Nat) (o:Oper),ops[i]? = some o→compI P N ops o=c→∀ (m:Inj) (w:World) (a:Act) (K:Act→World→Prop) (Q:Exit→Act→World→Prop),
  HR m h w→ER N m h w e a→(∀ m' w' a' r h',R r h'→HR m' h' w'→ER N m' h' w' (putR c.d r e) a'→Step m h w m' h' w'→K a' w')→wpOp P ops Q i K a w
theorem FXR.of {c:CI}{r:Option AV}{h':AHeap}{R:Option AV→AHeap→Prop}(hx:FX P N c e h r h')(hR:R r h'):FXR P N c e h R :=
 fun ops i o ho hc m w a K Q hr he hk=>hx ops i o ho hc e (fun _ _=>rfl) m w a K Q hr he fun m' w' a' h1 h2 h3=>hk m' w' a' r h' hR h1 h2 h3
theorem FXR.call {d:Option Nat}{f:Nat}{xs:List Opd}{g:Option (Nat×Bool)}{us vs:List AV}{R':AV→AHeap→Prop}{R:Option AV→AHeap→Prop}(hv:evL e xs=some us)(hg:met e g)(hs:SubL us vs)(hac:AC P f vs h R')(hR:∀ r h',R' r h'→R (some r) h'):FXR P N ⟨d,.call f xs,g⟩ e h R:=by
 intro ops i o ho hc m w a K Q hr he hk
 rcases zx hc with ⟨hb1,hb2⟩ | ⟨hd,hdst,hcomp,hgd⟩
 ·simp at hb1
 ·obtain ⟨w1,w2⟩:=zl he hgd
  have hw:Region.wanted o (yielded ops a.tmps)=true:=by
   cases g with
   | none => exact w1 rfl
   | some sb =>
    obtain ⟨s,b⟩:=sb
    rw [w2 s b b rfl hg];simp
  simp only [wpOp,ho]
  rw [if_pos hw]
  left
  have hco:=hcomp rfl
  obtain ⟨c,hop,hcal,hfn,hxs⟩:=z3p hco
  obtain ⟨hl1,hl2⟩:=he.evalL hxs hv
  have hrun:(execOp a.eval o).run P w = .ok (.enter f (c.args.map a.eval)) w:=by
   simp [execOp,hop,resolve,hcal,Act.eval,Deferred.ofValue,invoke,z1b hfn]
  refine z3g hrun hr (by simpa using hl1) (fun j v hj=>by
   have:=hl2 j v hj
   simpa [Array.getD_eq_getD_getElem?,List.getD_eq_getElem?_getD] using this) (hac.sub hs) fun v w' m' r1 h1 g1 g2 g3 g4 => ?_
  refine hk m' w' _ (some r1) h1 (hR r1 h1 g4) g1 ?_ g3
  have hd':d=o.dst:=hd
  show ER N m' h1 w' (putR d (some r1) e) _
  rw [hd']
  exact (he.step g3).putR hdst g2
theorem AW.dregI {Q:Exit→Env→AHeap→Prop}(hm:P.follows .mixedOrders=true)(Inv:(Nat→Bool)→Env→AHeap→Prop)(hlen:es.length=l.length)(hback:∀ j,j < l.length→∀ k∈es.getD j [],k < j)(h0:Inv (fun _=>false) e h)
  (hstep:∀ (D:Nat→Bool) (e1:Env) (h1:AHeap) (i:Nat),i < l.length→D i=false→(∀ k∈es.getD i [],D k=true)→(∀ j,D j=true→∀ k∈es.getD j [],D k=true)→(∀ id x,h1.get id=some x→h1.used id)→Inv D e1 h1 →
   FXR P N (l.getD i default) e1 h1 (fun r h2=>(∀ id,h1.used id→h2.used id)→Inv (fun j=>if j=i then true else D j) (putR (l.getD i default).d r e1) h2))
  (hfin:∀ D e1 h1,(∀ j,j < l.length→D j=true)→Inv D e1 h1→Q .normal e1 h1):AW P N (.dreg l es) Q e h:=by
 intro code hcode m w a hr he
 cases code <;> simp only [compC] at hcode <;> try (cases hcode;done)
 ·rename_i id ops dr
  split at hcode
  ·rename_i hdr
   subst hdr
   injection hcode with hl hes
   refine wp_region_any hm ?_
   have hn:ops.size=l.length:=by rw [← hl];simp [compR]
   have hes':∀ j (hj:j < ops.size),es.getD j []=((ops[j]).after.toList.filter (Region.binds .any)).map (·.on):=fun j hj=>by
    rw [← hes];simp [zf5,List.getD_eq_getElem?_getD,hj]
   have hci:∀ j (hj:j < ops.size),compI P N ops (ops[j])=l.getD j default:=fun j hj=>by
    rw [← hl];simp [compR,List.getD_eq_getElem?_getD,hj]
   suffices H:∀ (fuel:Nat) (listed:Array Bool) (U:List Nat) (m1:Inj) (e1:Env) (h1:AHeap) (w1:World) (a1:Act),listed.size=l.length→U.length≤fuel→U.Nodup→(∀ j,j < l.length→(listed.getD j false=false ↔ j∈U)) →
     (∀ j,listed.getD j false=true→∀ k∈es.getD j [],listed.getD k false=true) →
     HR m1 h1 w1→ER N m1 h1 w1 e1 a1→Step m h w m1 h1 w1→Inv (fun j=>listed.getD j false) e1 h1→wpAny P .any ops (PA N Q m h w) fuel listed a1 w1 by
    have st:=step_drew (m:=m) (h:=h) (w:=w)
    refine H ops.size (Array.replicate ops.size false) (List.range l.length) m e h { w with drawn:=w.drawn+1 } a (by simp [hn]) (by simp [hn]) List.nodup_range (fun j hj=>by simp [List.getD,hn,hj]) (fun j hj => ?_) hr.drew (he.step st) st ?_
    ·rw [z26] at hj;cases hj
    ·have:(fun j=>(Array.replicate ops.size false).getD j false)=fun _=>false:=funext fun j=>z26 _ _
     rw [this];exact h0
   intro fuel
   have fin:∀ (listed:Array Bool) (m1:Inj) (e1:Env) (h1:AHeap) (w1:World) (a1:Act),listed.size=l.length→Region.ready .any ops listed=[] →
     HR m1 h1 w1→ER N m1 h1 w1 e1 a1→Step m h w m1 h1 w1→Inv (fun j=>listed.getD j false) e1 h1→PA N Q m h w .normal a1 w1:=fun listed m1 e1 h1 w1 a1 hsz hrd g1 g2 g3 g4=>by
    have hall:∀ j,j < l.length→listed.getD j false=true:=fun j=>by
     induction j using Nat.strongRecOn with
     | ind j ih =>
      intro hj
      cases hx:listed.getD j false
      ·have:j∈Region.ready .any ops listed:=mem_ready.2 ⟨by simpa [Array.getD_eq_getD_getElem?,hsz,hj] using hx,ops[j]'(by omega),by simp [hn,hj],fun ed hed hb => ?_⟩
       ·rw [hrd] at this;cases this
       ·have hk:ed.on∈es.getD j []:=by
         rw [hes' j (by omega)]
         exact List.mem_map.2 ⟨ed,List.mem_filter.2 ⟨by simpa using hed,hb⟩,rfl⟩
        have:=hback j hj _ hk
        exact ih _ this (by omega)
      ·rfl
    exact ⟨m1,e1,h1,g1,g2,g3,hfin _ _ _ hall g4⟩
   induction fuel with
   | zero =>
    intro listed U m1 e1 h1 w1 a1 hsz hU hnd hmem hcl g1 g2 g3 g4
    have hU0:U=[]:=List.length_eq_zero_iff.1 (by omega)
    subst hU0
    have hrd:Region.ready .any ops listed=[]:=List.eq_nil_iff_forall_not_mem.2 fun j hj=>by
     obtain ⟨x0,o,x1,_⟩:=mem_ready.1 hj
     have hj':j < l.length:=by rw [← hn];exact (Array.getElem?_eq_some_iff.1 x1).1
     have:=(hmem j hj').1 (by simpa [Array.getD_eq_getD_getElem?,hsz,hj'] using x0)
     cases this
    exact ⟨hrd,fin listed m1 e1 h1 w1 a1 hsz hrd g1 g2 g3 g4⟩
   | succ fuel ih =>
    intro listed U m1 e1 h1 w1 a1 hsz hU hnd hmem hcl g1 g2 g3 g4
    refine ⟨fun hrd=>fin listed m1 e1 h1 w1 a1 hsz hrd g1 g2 g3 g4,fun i hi => ?_⟩
    obtain ⟨x0,o,x1,x2⟩:=mem_ready.1 hi
    have hi':i < l.length:=by rw [← hn];exact (Array.getElem?_eq_some_iff.1 x1).1
    have hio:i < ops.size:=by omega
    have ho:ops[i]=o:=(Array.getElem?_eq_some_iff.1 x1).2
    have hDi:listed.getD i false=false:=by simpa [Array.getD_eq_getD_getElem?,hsz,hi'] using x0
    have hpre:∀ k∈es.getD i [],listed.getD k false=true:=fun k hk=>by
     rw [hes' i hio,ho] at hk
     obtain ⟨ed,hed,rfl⟩:=List.mem_map.1 hk
     obtain ⟨he1,he2⟩:=List.mem_filter.1 hed
     exact x2 ed (by simpa using he1) he2
    have hnew:∀ k,(listed.setIfInBounds i true).getD k false=if k=i then true else listed.getD k false:=fun k=>by
     by_cases hk:k=i
     ·subst hk
      simp [Array.getD_eq_getD_getElem?,hsz,hi']
     ·rw [if_neg hk];exact getD_set_ne false (Ne.symm hk)
    have hDn:(fun k=>(listed.setIfInBounds i true).getD k false)=fun k=>if k=i then true else listed.getD k false:=funext hnew
    refine hstep _ e1 h1 i hi' hDi hpre hcl g1.live g4 ops i o x1 (by rw [← ho,hci i hio]) m1 w1 a1 _ _ g1 g2 fun m2 w2 a2 r h2 hR r1 r2 r3 => ?_
    refine ih (listed.setIfInBounds i true) (U.erase i) m2 _ h2 w2 a2 (by simp [hsz]) ?_ (hnd.erase i) (fun j hj => ?_) (fun j hj => ?_) r1 r2 (g3.trans r3) ?_
    ·rw [List.length_erase_of_mem ((hmem i hi').1 hDi)];omega
    ·rw [hnew,hnd.mem_erase_iff]
     by_cases hji:j=i
     ·simp [hji]
     ·simp [hji,← hmem j hj]
    ·intro k hk
     rw [hnew] at hj ⊢
     by_cases hki:k=i
     ·simp [hki]
     ·rw [if_neg hki]
      by_cases hji:j=i
      ·subst hji;exact hpre k hk
      ·rw [if_neg hji] at hj;exact hcl j hj k hk
    ·rw [hDn];exact hR r3.used
  ·cases hcode
 ·split at hcode <;> cases hcode
 ·split at hcode <;> cases hcode
theorem WW.dregI {Q:Exit→Env→AHeap→Prop}[MO P](Inv:(Nat→Bool)→Env→AHeap→Prop)(hc:(es.length==l.length&&(List.range l.length).all fun j=>(es.getD j []).all (fun k=>decide (k < j)))=true)(h0:Inv (fun _=>false) e h)
  (hstep:∀ (D:Nat→Bool) (e1:Env) (h1:AHeap) (i:Nat),i < l.length→D i=false→(∀ k∈es.getD i [],D k=true)→(∀ j,D j=true→∀ k∈es.getD j [],D k=true)→(∀ id x,h1.get id=some x→h1.used id)→Inv D e1 h1 →
   FXR P N (l.getD i default) e1 h1 (fun r h2=>(∀ id,h1.used id→h2.used id)→Inv (fun j=>if j=i then true else D j) (putR (l.getD i default).d r e1) h2))
  (hfin:∀ D e1 h1,(∀ j,j < l.length→D j=true)→Inv D e1 h1→Q .normal e1 h1):WW P N (.dreg l es) Q e h:=by
 simp only [Bool.and_eq_true,beq_iff_eq,List.all_eq_true,List.mem_range,decide_eq_true_eq] at hc
 exact ⟨AW.dregI MO.mo Inv hc.1 hc.2 h0 hstep hfin⟩
theorem FXR.stp {c:CI}{e':Env}{h':AHeap}{R:Option AV→AHeap→Prop}(hs:Stp c e h e' h')(hR:∀ r,e'=putR c.d r e→R r h'):FXR P N c e h R:=by
 obtain ⟨r,he,hx,_⟩:=FX.of_stp (P:=P) (N:=N) hs
 exact FXR.of hx (hR r he)
theorem AC.spareC {f:Nat}{vs:List AV}{R:AV→AHeap→Prop}(hac:AC P f vs h R):AC P f vs h (fun r' h'=>∃ h1,R r' h1∧h'=(h1.put h1.next (.tail 0 0)).set h1.next none):=fun m w cargs hr hl hv =>
 (hac m w cargs hr hl hv).mono fun ex w' ⟨v,m',r',h',e1,g1,g2,g3,hR⟩=>by
  have f1:=z11 g1
  have s1:=z3f g1 f1
  have q1:=g1.putv f1
  have s2:=z2a (m:=upd m' h'.next none) (h:=h'.put h'.next (.tail 0 0)) (w:=w') h'.next
  exact ⟨v,_,_,_,e1,q1.del _,(g2.step s1).step s2,(g3.trans s1).trans s2,_,hR,rfl⟩
end
end Go.Abs


namespace Go.Proofs.YthblcmnhiccnhaaGreat
open Go Go.Abs

abbrev Wr:=Int×Bs
abbrev encO (x:Wr):List AV:=[.int .i64 x.1,.imm 1 (x.2.map encB)]
structure PwS where
 gone:Bool
 fuse:Bool
 left:Int
 steps:Int
def PwS.row (p:PwS):List AV:=[.bool p.gone,.bool p.fuse,.int .i64 p.left,.int .i64 p.steps]
def PwS.can (p:PwS):Bool := !p.gone && !(p.fuse&&p.left==0)
def PwS.spend (p:PwS):PwS:=if p.gone then p else if p.fuse&&p.left==0 then { p with gone:=true } else { p with left:=if p.fuse then p.left - 1 else p.left,steps:=p.steps+1 }
structure PwS.Ok (p:PwS)(k:Nat):Prop where
 l0:p.fuse=true→0≤p.left
 l1 : -9223372036854775808≤p.left∧p.left≤9223372036854775807
 s0:0≤p.steps
 s1:p.steps≤k
theorem PwS.Ok.spend {p:PwS}{k:Nat}(h:p.Ok k):p.spend.Ok (k+1):=by
 obtain ⟨h1,h2,h3,h4⟩:=h
 unfold PwS.spend
 split
 ·exact ⟨h1,h2,h3,by omega⟩
 ·split
  ·exact ⟨h1,h2,h3,by show p.steps≤_;omega⟩
  ·rename_i hf
   refine ⟨fun e => ?_,?_,by show 0≤p.steps+1;omega,by show p.steps+1≤_;omega⟩
   ·have e':p.fuse=true:=e
    have:=h1 e'
    simp only [e',Bool.true_and,beq_iff_eq] at hf
    show 0≤(if p.fuse then p.left - 1 else p.left)
    rw [if_pos e'];omega
   ·show -9223372036854775808≤(if p.fuse then p.left - 1 else p.left)∧(if p.fuse then p.left - 1 else p.left)≤9223372036854775807
    by_cases e:p.fuse=true
    ·have:=h1 e;rw [if_pos e];omega
    ·rw [if_neg e];omega
structure SdS where
 lasts:Bs
 waits:List Wr
 trace:List Wr
 gen:Nat
def layO (b:Bs)(x:Wr):Bs:=b.take x.1.toNat++x.2.take (min x.2.length (b.length - x.1.toNat))++b.drop (x.1.toNat+min x.2.length (b.length - x.1.toNat))
theorem z9q (b:Bs)(x:Wr)(h:x.1.toNat≤b.length):(layO b x).length=b.length:=by
 simp only [layO,List.length_append,List.length_take,List.length_drop];omega
def SdS.snap (s:SdS):Bs:=s.waits.foldl layO s.lasts
def inB (n:Nat)(off k:Int):Bool:=decide (0≤off)&&decide (0≤k)&&decide (off≤n)&&decide (k≤n - off)
structure SdS.Ok (s:SdS)(n k:Nat):Prop where
 len:s.lasts.length=n
 w:∀ x∈s.waits,0≤x.1∧x.1+x.2.length≤n
 kw:s.waits.length≤k
 kt:s.trace.length≤k
structure DkS where
 lasts:List Bs
 waits:List Wr
 trace:List Wr
 refuses:Bool
 gen:Nat
structure CtS where
 value:Int
 boots:Int
 at':Int
def CtS.row (c:CtS):List AV:=[.int .u64 c.value,.int .u64 c.boots,.int .u64 c.at']
structure KsS where
 seed:Int
 epochs:List Int
def encE (e:Int):List AV:=[.int .u32 e]
end Go.Proofs.YthblcmnhiccnhaaGreat


set_option maxRecDepth 100000
namespace Go.Proofs.YthblcmnhiccnhaaGreat
open Go Go.Abs

def zdt:CC := .seq (.reg [qM 0 (.c .nilp)]) (.seq (.reg [qQ 1 (.build [.bool false,.bool false,.int .i64 0,.int .i64 0] []),qQ 2 (.box 4 (.t 1)),qM 0 (.t 2)]) .ret)
theorem zlb:FnIs Tryz.prog 63 3 zdt [.t 0]:=⟨Tryz.f63,_,Tryz.func63,rfl,rfl,by kernel_rfl,by kernel_rfl⟩

def z4f:CC := .seq (.reg [qM 2 (.c (.bool false))]) (.seq (.seq (.reg [qM 3 (.t 0),qQ 4 (.call 71 [.t 3]),qQ 5 (.not (.t 4))]) (.cond (.t 5) (.seq (.reg [qM 2 (.c (.bool false))]) .ret) .skip)) (.seq (.seq (.reg [qM 6 (.t 0),qQ 7 (.nilck (.t 6)),qQ 8 (.faddr 1 (.t 7)),qQ 9 (.load 1 false (.t 8)),qM 10 (.t 9),qG 11 (.mov (.t 0)) 10 true,qG 12 (.nilck (.t 11)) 10 true,qG 13 (.faddr 2 (.t 12)) 10 true,qG 14 (.load 1 false (.t 13)) 10 true,qG 15 (.bin .eql (.t 14) (.c (.int .i64 0))) 10 true,qQ 16 (.pick (.t 10) (.t 15) (.c (.bool false)))]) (.cond (.t 16) (.seq (.reg [qM 17 (.t 0),qQ 18 (.nilck (.t 17)),qQ 19 (.faddr 0 (.t 18)),qR (.store 1 (.t 19) (.c (.bool true)))]) (.seq (.reg [qM 2 (.c (.bool false))]) .ret)) .skip)) (.seq (.seq (.reg [qM 20 (.t 0),qQ 21 (.nilck (.t 20)),qQ 22 (.faddr 1 (.t 21)),qQ 23 (.load 1 false (.t 22))]) (.cond (.t 23) (.reg [qM 24 (.t 0),qQ 25 (.nilck (.t 24)),qQ 26 (.faddr 2 (.t 25)),qQ 27 (.load 1 false (.t 26)),qQ 28 (.bin .sub (.t 27) (.c (.int .i64 1))),qQ 29 (.nilck (.t 24)),qQ 30 (.faddr 2 (.t 29)),qR (.store 1 (.t 30) (.t 28))]) .skip)) (.seq (.reg [qM 31 (.t 0),qQ 32 (.nilck (.t 31)),qQ 33 (.faddr 3 (.t 32)),qQ 34 (.load 1 false (.t 33)),qQ 35 (.bin .add (.t 34) (.c (.int .i64 1))),qQ 36 (.nilck (.t 31)),qQ 37 (.faddr 3 (.t 36)),qR (.store 1 (.t 37) (.t 35))]) (.seq (.reg [qM 2 (.c (.bool true))]) .ret)))))
theorem z9r:FnIs Tryz.prog 90 38 z4f [.t 2]:=⟨Tryz.f90,_,Tryz.func90,rfl,rfl,by kernel_rfl,by kernel_rfl⟩

def z6p:CC := .seq (.reg [qM 2 (.c (.bool false))]) (.seq (.reg [qM 3 (.t 0),qQ 4 (.eqv .p true (.t 3) (.c .nilp)),qM 5 (.t 4),qG 6 (.mov (.t 0)) 5 true,qG 7 (.nilck (.t 6)) 5 true,qG 8 (.faddr 0 (.t 7)) 5 true,qG 9 (.load 1 false (.t 8)) 5 true,qG 10 (.not (.t 9)) 5 true,qQ 11 (.pick (.t 5) (.t 10) (.c (.bool false))),qM 2 (.t 11)]) .ret)
theorem zd9:FnIs Tryz.prog 71 12 z6p [.t 2]:=⟨Tryz.f71,_,Tryz.func71,rfl,rfl,by kernel_rfl,by kernel_rfl⟩

def z4g:CC := .seq (.reg [qM 2 (.c (.int .i64 0))]) (.seq (.seq (.reg [qM 3 (.t 0),qQ 4 (.eqv .p false (.t 3) (.c .nilp))]) (.cond (.t 4) (.seq (.reg [qM 2 (.c (.int .i64 0))]) .ret) .skip)) (.seq (.reg [qM 5 (.t 0),qQ 6 (.nilck (.t 5)),qQ 7 (.faddr 3 (.t 6)),qQ 8 (.load 1 false (.t 7)),qM 2 (.t 8)]) .ret))
theorem z9s:FnIs Tryz.prog 43 9 z4g [.t 2]:=⟨Tryz.f43,_,Tryz.func43,rfl,rfl,by kernel_rfl,by kernel_rfl⟩

def ziu:CC := .seq (.reg [qM 4 (.c .nilp)]) (.seq (.seq (.reg [qM 5 (.t 0),qQ 6 (.bin .lss (.t 5) (.c (.int .i64 0))),qM 7 (.t 6),qG 8 (.mov (.t 0)) 7 false,qG 9 (.bin .gtr (.t 8) (.c (.int .i64 65536))) 7 false,qQ 10 (.pick (.t 7) (.c (.bool true)) (.t 9))]) (.cond (.t 10) (.seq (.reg [qM 4 (.c .nilp)]) .ret) .skip)) (.seq (.reg [qM 11 (.t 1),qM 12 (.t 0),qQ 13 (.mksl 1 [.int .u8 0] 1 (.t 12) (.t 12)),qQ 14 (.build [.nilp,.nils,.nils,.nils] [(0,1,.t 11),(1,1,.t 13)]),qQ 15 (.box 4 (.t 14)),qM 4 (.t 15)]) .ret))
theorem zoo:FnIs Tryz.prog 66 16 ziu [.t 4]:=⟨Tryz.f66,_,Tryz.func66,rfl,rfl,by kernel_rfl,by kernel_rfl⟩

def z8n:CC := .seq (.reg [qM 2 (.c (.int .i64 0))]) (.seq (.seq (.reg [qM 3 (.t 0),qQ 4 (.eqv .p false (.t 3) (.c .nilp))]) (.cond (.t 4) (.seq (.reg [qM 2 (.c (.int .i64 0))]) .ret) .skip)) (.seq (.reg [qM 5 (.t 0),qQ 6 (.nilck (.t 5)),qQ 7 (.faddr 1 (.t 6)),qQ 8 (.load 1 false (.t 7)),qQ 9 (.len (.t 8)),qM 2 (.t 9)]) .ret))
theorem zg2:FnIs Tryz.prog 140 10 z8n [.t 2]:=⟨Tryz.f140,_,Tryz.func140,rfl,rfl,by kernel_rfl,by kernel_rfl⟩

def zbz:CC := .seq (.reg [qM 6 (.c (.bool false))]) (.seq (.reg [qM 7 (.t 0),qQ 8 (.eqv .p true (.t 7) (.c .nilp)),qM 9 (.t 8),qG 10 (.mov (.t 1)) 9 true,qG 11 (.bin .geq (.t 10) (.c (.int .i64 0))) 9 true,qQ 12 (.pick (.t 9) (.t 11) (.c (.bool false))),qM 13 (.t 12),qG 14 (.mov (.t 2)) 13 true,qG 15 (.bin .geq (.t 14) (.c (.int .i64 0))) 13 true,qQ 16 (.pick (.t 13) (.t 15) (.c (.bool false))),qM 17 (.t 16),qG 18 (.mov (.t 1)) 17 true,qG 19 (.mov (.t 0)) 17 true,qG 20 (.call 140 [.t 19]) 17 true,qG 21 (.bin .leq (.t 18) (.t 20)) 17 true,qQ 22 (.pick (.t 17) (.t 21) (.c (.bool false))),qM 23 (.t 22),qG 24 (.mov (.t 2)) 23 true,qG 25 (.mov (.t 0)) 23 true,qG 26 (.call 140 [.t 25]) 23 true,qG 27 (.mov (.t 1)) 23 true,qG 28 (.bin .sub (.t 26) (.t 27)) 23 true,qG 29 (.bin .leq (.t 24) (.t 28)) 23 true,qQ 30 (.pick (.t 23) (.t 29) (.c (.bool false))),qM 6 (.t 30)]) .ret)
theorem zjt:FnIs Tryz.prog 91 31 zbz [.t 6]:=⟨Tryz.f91,_,Tryz.func91,rfl,rfl,by kernel_rfl,by kernel_rfl⟩

def zc0:CC := .seq (.reg [qQ 1 (.box 2 (.t 0)),qQ 2 (.alloc [.int .i64 0,.nils])]) (.seq (.dreg [qQ 3 (.faddr 0 (.t 1)),qQ 4 (.load 1 false (.t 3)),qQ 5 (.faddr 1 (.t 1)),qQ 6 (.load 1 false (.t 5)),qQ 7 (.call 87 [.t 6]),qQ 8 (.build [.int .i64 0,.nils] [(0,1,.t 4),(1,1,.t 7)]),qR (.store 2 (.t 2) (.t 8))] [[],[0],[],[2],[3],[1,4],[5,4,0,1,2,3,4,5]]) .ret)
theorem zju:FnIs Tryz.prog 107 9 zc0 [.cell 2 2 true]:=⟨Tryz.f107,_,Tryz.func107,rfl,rfl,by kernel_rfl,by kernel_rfl⟩

def z7e:CC := .seq (.reg [qM 6 (.c (.bool false))]) (.seq (.seq (.reg [qM 8 (.t 0),qM 9 (.t 1),qM 10 (.t 2),qQ 11 (.len (.t 10)),qQ 12 (.call 91 [.t 8,.t 9,.t 11]),qQ 13 (.not (.t 12)),qM 14 (.t 13),qG 15 (.mov (.t 0)) 14 false,qG 16 (.nilck (.t 15)) 14 false,qG 17 (.faddr 0 (.t 16)) 14 false,qG 18 (.load 1 false (.t 17)) 14 false,qG 19 (.call 90 [.t 18]) 14 false,qG 20 (.not (.t 19)) 14 false,qQ 21 (.pick (.t 14) (.c (.bool true)) (.t 20))]) (.cond (.t 21) (.seq (.reg [qM 6 (.c (.bool false))]) .ret) .skip)) (.seq (.reg [qM 22 (.t 1),qM 23 (.t 2),qQ 24 (.build [.int .i64 0,.nils] [(0,1,.t 22),(1,1,.t 23)]),qQ 7 (.alloc [.int .i64 0,.nils]),qR (.store 2 (.t 7) (.t 24))]) (.seq (.dreg [qM 25 (.t 0),qM 26 (.t 0),qQ 27 (.nilck (.t 26)),qQ 28 (.faddr 2 (.t 27)),qQ 29 (.load 1 false (.t 28)),qQ 30 (.load 2 true (.t 7)),qQ 31 (.call 107 [.t 30]),qQ 32 (.bsl 2 [.t 31]),qQ 33 (.app 2 32 (.t 29) (.t 32)),qQ 34 (.nilck (.t 25)),qQ 35 (.faddr 2 (.t 34)),qR (.store 1 (.t 35) (.t 33))] [[],[],[1],[2],[3],[],[5],[6],[4,7,6],[0,0,1,2,3,4,5,6,7,8],[9,0,1,2,3,4,5,6,7,8],[10,8,8,0,1,2,3,4,5,6,7,8]]) (.seq (.dreg [qM 36 (.t 0),qM 37 (.t 0),qQ 38 (.nilck (.t 37)),qQ 39 (.faddr 3 (.t 38)),qQ 40 (.load 1 false (.t 39)),qQ 41 (.load 2 true (.t 7)),qQ 42 (.call 107 [.t 41]),qQ 43 (.bsl 2 [.t 42]),qQ 44 (.app 2 32 (.t 40) (.t 43)),qQ 45 (.nilck (.t 36)),qQ 46 (.faddr 3 (.t 45)),qR (.store 1 (.t 46) (.t 44))] [[],[],[1],[2],[3],[],[5],[6],[4,7,6],[0,0,1,2,3,4,5,6,7,8],[9,0,1,2,3,4,5,6,7,8],[10,8,8,0,1,2,3,4,5,6,7,8]]) (.seq (.reg [qM 6 (.c (.bool true))]) .ret)))))
theorem zel:FnIs Tryz.prog 202 47 z7e [.t 6]:=⟨Tryz.f202,_,Tryz.func202,rfl,rfl,by kernel_rfl,by kernel_rfl⟩

def z5q:CC := .seq (.seq (.reg [qM 6 (.t 0),qQ 7 (.nilck (.t 6)),qQ 8 (.faddr 2 (.t 7)),qQ 9 (.load 1 false (.t 8)),qQ 10 (.len (.t 9)),qM 11 (.c (.int .i64 0))]) (.block 0 (.loop (.seq (.reg [qQ 12 (.bin .lss (.t 11) (.t 10))]) (.seq (.cond (.t 12) .skip (.exit 0)) (.seq (.block 1 (.seq (.reg [qM 13 (.t 11),qQ 14 (.iaddr 2 (.t 9) (.t 11)),qQ 15 (.load 2 true (.t 14)),qQ 5 (.alloc [.int .i64 0,.nils]),qM 4 (.t 13),qR (.store 2 (.t 5) (.t 15))]) (.seq (.reg [qM 16 (.t 1),qM 17 (.t 4),qQ 18 (.callv (.t 16) [.t 17])]) (.cond (.t 18) (.dreg [qM 19 (.t 0),qQ 20 (.nilck (.t 19)),qQ 21 (.faddr 1 (.t 20)),qQ 22 (.load 1 false (.t 21)),qQ 23 (.faddr 0 (.t 5)),qQ 24 (.load 1 false (.t 23)),qQ 25 (.slc 1 (.t 22) (some (.t 24)) none),qQ 26 (.faddr 1 (.t 5)),qQ 27 (.load 1 false (.t 26)),qQ 28 (.cpy 1 (.t 25) (.t 27))] [[],[0],[1],[2],[],[4],[3,5],[],[7],[6,8]]) .skip)))) (.reg [qQ 29 (.bin .add (.t 11) (.c (.int .i64 1))),qM 11 (.t 29)]))))))) (.reg [qM 30 (.t 0),qQ 31 (.nilck (.t 30)),qQ 32 (.faddr 2 (.t 31)),qR (.store 1 (.t 32) (.c .nils))])
theorem zc1:FnIs Tryz.prog 92 33 z5q []:=⟨Tryz.f92,_,Tryz.func92,rfl,rfl,by kernel_rfl,by kernel_rfl⟩

def ziv:CC := .seq (.reg [qM 2 (.c (.bool false))]) (.seq (.reg [qM 2 (.c (.bool true))]) .ret)
theorem zop:FnIs Tryz.prog 93 3 ziv [.t 2]:=⟨Tryz.f93,_,Tryz.func93,rfl,rfl,by kernel_rfl,by kernel_rfl⟩

def z5r:CC := .seq (.reg [qM 2 (.c (.bool false))]) (.seq (.seq (.reg [qM 3 (.t 0),qQ 4 (.eqv .p false (.t 3) (.c .nilp)),qM 5 (.t 4),qG 6 (.mov (.t 0)) 5 false,qG 7 (.nilck (.t 6)) 5 false,qG 8 (.faddr 0 (.t 7)) 5 false,qG 9 (.load 1 false (.t 8)) 5 false,qG 10 (.call 90 [.t 9]) 5 false,qG 11 (.not (.t 10)) 5 false,qQ 12 (.pick (.t 5) (.c (.bool true)) (.t 11))]) (.cond (.t 12) (.seq (.reg [qM 2 (.c (.bool false))]) .ret) .skip)) (.seq (.reg [qM 13 (.t 0),qQ 14 (.call 92 [.t 13,.c (.func (.func 93) [] [])])]) (.seq (.reg [qM 15 (.t 0),qM 16 (.t 0),qQ 17 (.nilck (.t 16)),qQ 18 (.faddr 3 (.t 17)),qQ 19 (.load 1 false (.t 18)),qQ 20 (.build [.int .i64 0,.nils] [(0,1,.c (.int .i64 (-1)))]),qQ 21 (.bsl 2 [.t 20]),qQ 22 (.app 2 32 (.t 19) (.t 21)),qQ 23 (.nilck (.t 15)),qQ 24 (.faddr 3 (.t 23)),qR (.store 1 (.t 24) (.t 22))]) (.seq (.reg [qM 2 (.c (.bool true))]) .ret))))
theorem zc2:FnIs Tryz.prog 254 25 z5r [.t 2]:=⟨Tryz.f254,_,Tryz.func254,rfl,rfl,by kernel_rfl,by kernel_rfl⟩

def z8o:CC := .seq (.reg [qM 6 (.c .nils),qM 7 (.c (.bool false))]) (.seq (.seq (.reg [qM 8 (.t 0),qM 9 (.t 1),qM 10 (.t 2),qQ 11 (.call 91 [.t 8,.t 9,.t 10]),qQ 12 (.not (.t 11)),qM 13 (.t 12),qG 14 (.mov (.t 0)) 13 false,qG 15 (.nilck (.t 14)) 13 false,qG 16 (.faddr 0 (.t 15)) 13 false,qG 17 (.load 1 false (.t 16)) 13 false,qG 18 (.call 71 [.t 17]) 13 false,qG 19 (.not (.t 18)) 13 false,qQ 20 (.pick (.t 13) (.c (.bool true)) (.t 19))]) (.cond (.t 20) (.seq (.reg [qM 6 (.c .nils),qM 7 (.c (.bool false))]) .ret) .skip)) (.seq (.reg [qM 21 (.t 0),qQ 22 (.call 37 [.t 21]),qM 23 (.t 1),qM 24 (.t 1),qM 25 (.t 2),qQ 26 (.bin .add (.t 24) (.t 25)),qQ 27 (.slc 1 (.t 22) (some (.t 23)) (some (.t 26))),qM 6 (.t 27),qM 7 (.c (.bool true))]) .ret))
theorem zg3:FnIs Tryz.prog 182 28 z8o [.t 6,.t 7]:=⟨Tryz.f182,_,Tryz.func182,rfl,rfl,by kernel_rfl,by kernel_rfl⟩

def z8p:CC := .seq (.reg [qM 2 (.c .nils)]) (.seq (.seq (.reg [qM 6 (.t 0),qQ 7 (.eqv .p false (.t 6) (.c .nilp))]) (.cond (.t 7) (.seq (.reg [qM 2 (.c .nils)]) .ret) .skip)) (.seq (.reg [qM 8 (.t 0),qQ 9 (.nilck (.t 8)),qQ 10 (.faddr 1 (.t 9)),qQ 11 (.load 1 false (.t 10)),qQ 12 (.call 87 [.t 11]),qM 3 (.t 12)]) (.seq (.seq (.reg [qM 13 (.t 0),qQ 14 (.nilck (.t 13)),qQ 15 (.faddr 2 (.t 14)),qQ 16 (.load 1 false (.t 15)),qQ 17 (.len (.t 16)),qM 18 (.c (.int .i64 0))]) (.block 0 (.loop (.seq (.reg [qQ 19 (.bin .lss (.t 18) (.t 17))]) (.seq (.cond (.t 19) .skip (.exit 0)) (.seq (.block 1 (.seq (.reg [qQ 20 (.iaddr 2 (.t 16) (.t 18)),qQ 21 (.load 2 true (.t 20)),qQ 5 (.alloc [.int .i64 0,.nils]),qR (.store 2 (.t 5) (.t 21))]) (.dreg [qM 22 (.t 3),qQ 23 (.faddr 0 (.t 5)),qQ 24 (.load 1 false (.t 23)),qQ 25 (.slc 1 (.t 22) (some (.t 24)) none),qQ 26 (.faddr 1 (.t 5)),qQ 27 (.load 1 false (.t 26)),qQ 28 (.cpy 1 (.t 25) (.t 27))] [[],[],[1],[0,2],[],[4],[3,5]]))) (.reg [qQ 29 (.bin .add (.t 18) (.c (.int .i64 1))),qM 18 (.t 29)]))))))) (.seq (.reg [qM 30 (.t 3),qM 2 (.t 30)]) .ret))))
theorem zg4:FnIs Tryz.prog 37 31 z8p [.t 2]:=⟨Tryz.f37,_,Tryz.func37,rfl,rfl,by kernel_rfl,by kernel_rfl⟩

def zg5:CC := .seq (.reg [qM 2 (.c .nilp)]) (.seq (.reg [qM 5 (.t 0),qQ 6 (.build [.nilp,.nils,.nils,.nils,.nils,.nils,.nils,.nils,.nils,.nils,.nils,.nils,.nils,.nils,.nils,.nils,.nils,.nils,.nils,.nils,.nils,.nils,.nils,.nils,.nils,.nils,.nils,.nils,.nils,.nils,.nils,.nils,.nils,.nils,.nils,.bool false] [(0,1,.t 5)]),qQ 7 (.box 36 (.t 6)),qM 3 (.t 7)]) (.seq (.seq (.reg [qM 8 (.c (.int .i64 0))]) (.block 0 (.loop (.seq (.reg [qQ 9 (.bin .lss (.t 8) (.c (.int .i64 32)))]) (.seq (.cond (.t 9) .skip (.exit 0)) (.seq (.block 1 (.seq (.reg [qM 10 (.t 8),qM 4 (.t 10)]) (.dreg [qM 11 (.t 3),qM 12 (.t 4),qQ 13 (.mksl 1 [.int .u8 0] 1 (.c (.int .i64 32)) (.c (.int .i64 32))),qQ 14 (.nilck (.t 11)),qQ 15 (.faddr 1 (.t 14)),qQ 16 (.iaddrA 32 1 (.t 15) (.t 12)),qR (.store 1 (.t 16) (.t 13))] [[],[],[],[0],[3],[4,1,0,1,2],[5,2,0,1,2]]))) (.reg [qQ 17 (.bin .add (.t 8) (.c (.int .i64 1))),qM 8 (.t 17)]))))))) (.seq (.reg [qM 18 (.t 3),qM 2 (.t 18)]) .ret)))
theorem zmt:FnIs Tryz.prog 68 19 zg5 [.t 2]:=⟨Tryz.f68,_,Tryz.func68,rfl,rfl,by kernel_rfl,by kernel_rfl⟩

def z8q:CC := .seq (.reg [qM 4 (.c (.bool false))]) (.seq (.reg [qM 5 (.t 0),qQ 6 (.eqv .p true (.t 5) (.c .nilp)),qM 7 (.t 6),qG 8 (.mov (.t 1)) 7 true,qG 9 (.bin .geq (.t 8) (.c (.int .i64 0))) 7 true,qQ 10 (.pick (.t 7) (.t 9) (.c (.bool false))),qM 11 (.t 10),qG 12 (.mov (.t 1)) 11 true,qG 13 (.bin .lss (.t 12) (.c (.int .i64 32))) 11 true,qQ 14 (.pick (.t 11) (.t 13) (.c (.bool false))),qM 4 (.t 14)]) .ret)
theorem zg6:FnIs Tryz.prog 86 15 z8q [.t 4]:=⟨Tryz.f86,_,Tryz.func86,rfl,rfl,by kernel_rfl,by kernel_rfl⟩

def z5s:CC := .seq (.reg [qM 6 (.c (.bool false))]) (.seq (.seq (.reg [qM 7 (.t 0),qM 8 (.t 1),qQ 9 (.call 86 [.t 7,.t 8]),qQ 10 (.not (.t 9)),qM 11 (.t 10),qG 12 (.mov (.t 2)) 11 false,qG 13 (.len (.t 12)) 11 false,qG 14 (.bin .neq (.t 13) (.c (.int .i64 32))) 11 false,qQ 15 (.pick (.t 11) (.c (.bool true)) (.t 14)),qM 16 (.t 15),qG 17 (.mov (.t 0)) 16 false,qG 18 (.nilck (.t 17)) 16 false,qG 19 (.faddr 35 (.t 18)) 16 false,qG 20 (.load 1 false (.t 19)) 16 false,qQ 21 (.pick (.t 16) (.c (.bool true)) (.t 20)),qM 22 (.t 21),qG 23 (.mov (.t 0)) 22 false,qG 24 (.nilck (.t 23)) 22 false,qG 25 (.faddr 0 (.t 24)) 22 false,qG 26 (.load 1 false (.t 25)) 22 false,qG 27 (.call 90 [.t 26]) 22 false,qG 28 (.not (.t 27)) 22 false,qQ 29 (.pick (.t 22) (.c (.bool true)) (.t 28))]) (.cond (.t 29) (.seq (.reg [qM 6 (.c (.bool false))]) .ret) .skip)) (.seq (.dreg [qM 30 (.t 0),qM 31 (.t 0),qQ 32 (.nilck (.t 31)),qQ 33 (.faddr 33 (.t 32)),qQ 34 (.load 1 false (.t 33)),qM 35 (.t 1),qM 36 (.t 2),qQ 37 (.call 87 [.t 36]),qQ 38 (.build [.int .i64 0,.nils] [(0,1,.t 35),(1,1,.t 37)]),qQ 39 (.bsl 2 [.t 38]),qQ 40 (.app 2 32 (.t 34) (.t 39)),qQ 41 (.nilck (.t 30)),qQ 42 (.faddr 33 (.t 41)),qR (.store 1 (.t 42) (.t 40))] [[],[],[1],[2],[3],[],[],[6],[5,7],[8],[4,9,7],[0,0,1,2,3,4,5,6,7,8,9,10],[11,0,1,2,3,4,5,6,7,8,9,10],[12,10,10,0,1,2,3,4,5,6,7,8,9,10]]) (.seq (.dreg [qM 43 (.t 0),qM 44 (.t 0),qQ 45 (.nilck (.t 44)),qQ 46 (.faddr 34 (.t 45)),qQ 47 (.load 1 false (.t 46)),qM 48 (.t 1),qM 49 (.t 2),qQ 50 (.call 87 [.t 49]),qQ 51 (.build [.int .i64 0,.nils] [(0,1,.t 48),(1,1,.t 50)]),qQ 52 (.bsl 2 [.t 51]),qQ 53 (.app 2 32 (.t 47) (.t 52)),qQ 54 (.nilck (.t 43)),qQ 55 (.faddr 34 (.t 54)),qR (.store 1 (.t 55) (.t 53))] [[],[],[1],[2],[3],[],[],[6],[5,7],[8],[4,9,7],[0,0,1,2,3,4,5,6,7,8,9,10],[11,0,1,2,3,4,5,6,7,8,9,10],[12,10,10,0,1,2,3,4,5,6,7,8,9,10]]) (.seq (.reg [qM 6 (.c (.bool true))]) .ret))))
theorem zc3:FnIs Tryz.prog 35 56 z5s [.t 6]:=⟨Tryz.f35,_,Tryz.func35,rfl,rfl,by kernel_rfl,by kernel_rfl⟩

def z6q:CC := .seq (.reg [qM 4 (.c .nils),qM 5 (.c (.bool false))]) (.seq (.seq (.reg [qM 9 (.t 0),qM 10 (.t 1),qQ 11 (.call 86 [.t 9,.t 10]),qQ 12 (.not (.t 11)),qM 13 (.t 12),qG 14 (.mov (.t 0)) 13 false,qG 15 (.nilck (.t 14)) 13 false,qG 16 (.faddr 0 (.t 15)) 13 false,qG 17 (.load 1 false (.t 16)) 13 false,qG 18 (.call 71 [.t 17]) 13 false,qG 19 (.not (.t 18)) 13 false,qQ 20 (.pick (.t 13) (.c (.bool true)) (.t 19))]) (.cond (.t 20) (.seq (.reg [qM 4 (.c .nils),qM 5 (.c (.bool false))]) .ret) .skip)) (.seq (.reg [qM 21 (.t 0),qM 22 (.t 1),qQ 23 (.nilck (.t 21)),qQ 24 (.faddr 1 (.t 23)),qQ 25 (.iaddrA 32 1 (.t 24) (.t 22)),qQ 26 (.load 1 false (.t 25)),qM 6 (.t 26)]) (.seq (.seq (.reg [qM 27 (.t 0),qQ 28 (.nilck (.t 27)),qQ 29 (.faddr 33 (.t 28)),qQ 30 (.load 1 false (.t 29)),qQ 31 (.len (.t 30)),qM 32 (.c (.int .i64 0))]) (.block 0 (.loop (.seq (.reg [qQ 33 (.bin .lss (.t 32) (.t 31))]) (.seq (.cond (.t 33) .skip (.exit 0)) (.seq (.block 1 (.seq (.reg [qQ 34 (.iaddr 2 (.t 30) (.t 32)),qQ 35 (.load 2 true (.t 34)),qQ 8 (.alloc [.int .i64 0,.nils]),qR (.store 2 (.t 8) (.t 35))]) (.seq (.reg [qQ 36 (.faddr 0 (.t 8)),qQ 37 (.load 1 false (.t 36)),qM 38 (.t 1),qQ 39 (.bin .eql (.t 37) (.t 38))]) (.cond (.t 39) (.reg [qQ 40 (.faddr 1 (.t 8)),qQ 41 (.load 1 false (.t 40)),qM 6 (.t 41)]) .skip)))) (.reg [qQ 42 (.bin .add (.t 32) (.c (.int .i64 1))),qM 32 (.t 42)]))))))) (.seq (.reg [qM 43 (.t 6),qQ 44 (.call 87 [.t 43]),qM 4 (.t 44),qM 5 (.c (.bool true))]) .ret))))
theorem zda:FnIs Tryz.prog 32 45 z6q [.t 4,.t 5]:=⟨Tryz.f32,_,Tryz.func32,rfl,rfl,by kernel_rfl,by kernel_rfl⟩

def zdu:CC := .seq (.reg [qM 2 (.c .nilp)]) (.seq (.reg [qM 3 (.t 0),qQ 4 (.build [.nilp,.int .u64 0,.int .u64 0,.int .u64 0] [(0,1,.t 3)]),qQ 5 (.box 4 (.t 4)),qM 2 (.t 5)]) .ret)
theorem zlc:FnIs Tryz.prog 69 6 zdu [.t 2]:=⟨Tryz.f69,_,Tryz.func69,rfl,rfl,by kernel_rfl,by kernel_rfl⟩

def z3k:CC := .seq (.reg [qM 2 (.c (.int .u64 0))]) (.seq (.seq (.reg [qM 3 (.t 0),qQ 4 (.eqv .p false (.t 3) (.c .nilp))]) (.cond (.t 4) (.seq (.reg [qM 2 (.c (.int .u64 0))]) .ret) .skip)) (.seq (.reg [qM 5 (.t 0),qQ 6 (.nilck (.t 5)),qQ 7 (.faddr 1 (.t 6)),qQ 8 (.load 1 false (.t 7)),qM 2 (.t 8)]) .ret))
theorem z7w:FnIs Tryz.prog 48 9 z3k [.t 2]:=⟨Tryz.f48,_,Tryz.func48,rfl,rfl,by kernel_rfl,by kernel_rfl⟩

def z41:CC := .seq (.reg [qM 2 (.c (.bool false))]) (.seq (.seq (.reg [qM 3 (.t 0),qQ 4 (.eqv .p false (.t 3) (.c .nilp)),qM 5 (.t 4),qG 6 (.mov (.t 0)) 5 false,qG 7 (.nilck (.t 6)) 5 false,qG 8 (.faddr 0 (.t 7)) 5 false,qG 9 (.load 1 false (.t 8)) 5 false,qG 10 (.call 90 [.t 9]) 5 false,qG 11 (.not (.t 10)) 5 false,qQ 12 (.pick (.t 5) (.c (.bool true)) (.t 11))]) (.cond (.t 12) (.seq (.reg [qM 2 (.c (.bool false))]) .ret) .skip)) (.seq (.reg [qM 13 (.t 0),qQ 14 (.nilck (.t 13)),qQ 15 (.faddr 1 (.t 14)),qQ 16 (.load 1 false (.t 15)),qQ 17 (.bin .add (.t 16) (.c (.int .u64 1))),qQ 18 (.nilck (.t 13)),qQ 19 (.faddr 1 (.t 18)),qR (.store 1 (.t 19) (.t 17))]) (.seq (.reg [qM 20 (.t 0),qM 21 (.t 0),qQ 22 (.nilck (.t 21)),qQ 23 (.faddr 2 (.t 22)),qQ 24 (.load 1 false (.t 23)),qQ 25 (.nilck (.t 20)),qQ 26 (.faddr 3 (.t 25)),qR (.store 1 (.t 26) (.t 24))]) (.seq (.reg [qM 2 (.c (.bool true))]) .ret))))
theorem z8r:FnIs Tryz.prog 256 27 z41 [.t 2]:=⟨Tryz.f256,_,Tryz.func256,rfl,rfl,by kernel_rfl,by kernel_rfl⟩

def z56:CC := .seq (.reg [qM 2 (.c (.int .u64 0))]) (.seq (.seq (.reg [qM 3 (.t 0),qQ 4 (.eqv .p false (.t 3) (.c .nilp))]) (.cond (.t 4) (.seq (.reg [qM 2 (.c (.int .u64 0))]) .ret) .skip)) (.seq (.reg [qM 5 (.t 0),qQ 6 (.nilck (.t 5)),qQ 7 (.faddr 3 (.t 6)),qQ 8 (.load 1 false (.t 7)),qM 2 (.t 8)]) .ret))
theorem zax:FnIs Tryz.prog 243 9 z56 [.t 2]:=⟨Tryz.f243,_,Tryz.func243,rfl,rfl,by kernel_rfl,by kernel_rfl⟩

def z3l:CC := .seq (.reg [qM 2 (.c (.int .u64 0))]) (.seq (.seq (.reg [qM 3 (.t 0),qQ 4 (.eqv .p false (.t 3) (.c .nilp))]) (.cond (.t 4) (.seq (.reg [qM 2 (.c (.int .u64 0))]) .ret) .skip)) (.seq (.reg [qM 5 (.t 0),qQ 6 (.nilck (.t 5)),qQ 7 (.faddr 2 (.t 6)),qQ 8 (.load 1 false (.t 7)),qM 2 (.t 8)]) .ret))
theorem z7x:FnIs Tryz.prog 75 9 z3l [.t 2]:=⟨Tryz.f75,_,Tryz.func75,rfl,rfl,by kernel_rfl,by kernel_rfl⟩

def z42:CC := .seq (.reg [qM 2 (.c (.bool false))]) (.seq (.seq (.reg [qM 3 (.t 0),qQ 4 (.eqv .p false (.t 3) (.c .nilp)),qM 5 (.t 4),qG 6 (.mov (.t 0)) 5 false,qG 7 (.nilck (.t 6)) 5 false,qG 8 (.faddr 0 (.t 7)) 5 false,qG 9 (.load 1 false (.t 8)) 5 false,qG 10 (.call 90 [.t 9]) 5 false,qG 11 (.not (.t 10)) 5 false,qQ 12 (.pick (.t 5) (.c (.bool true)) (.t 11))]) (.cond (.t 12) (.seq (.reg [qM 2 (.c (.bool false))]) .ret) .skip)) (.seq (.reg [qM 13 (.t 0),qQ 14 (.nilck (.t 13)),qQ 15 (.faddr 2 (.t 14)),qQ 16 (.load 1 false (.t 15)),qQ 17 (.bin .add (.t 16) (.c (.int .u64 1))),qQ 18 (.nilck (.t 13)),qQ 19 (.faddr 2 (.t 18)),qR (.store 1 (.t 19) (.t 17))]) (.seq (.reg [qM 2 (.c (.bool true))]) .ret)))
theorem z8s:FnIs Tryz.prog 72 20 z42 [.t 2]:=⟨Tryz.f72,_,Tryz.func72,rfl,rfl,by kernel_rfl,by kernel_rfl⟩

def zg7:CC := .seq (.reg [qM 4 (.c .nilp)]) (.seq (.reg [qM 5 (.t 1),qM 6 (.t 0),qQ 7 (.bsl 1 [.c (.int .u32 1)]),qQ 8 (.build [.nilp,.int .u64 0,.nils] [(0,1,.t 5),(1,1,.t 6),(2,1,.t 7)]),qQ 9 (.box 3 (.t 8)),qM 4 (.t 9)]) .ret)
theorem zmu:FnIs Tryz.prog 70 10 zg7 [.t 4]:=⟨Tryz.f70,_,Tryz.func70,rfl,rfl,by kernel_rfl,by kernel_rfl⟩

def ziw:CC := .seq (.reg [qQ 4 (.alloc [.int .u64 0,.int .u64 0])]) (.seq (.reg [qM 5 (.t 0),qM 6 (.t 0),qQ 7 (.build [.int .u64 0,.int .u64 0] [(0,1,.t 5),(1,1,.t 6)]),qM 8 (.t 1),qQ 9 (.conv .u64 (.t 8)),qQ 10 (.build [.int .u64 0,.int .u64 0] [(0,1,.c (.int .u64 0)),(1,1,.t 9)]),qQ 11 (.call 165 [.t 7,.t 10]),qR (.store 2 (.t 4) (.t 11))]) .ret)
theorem zoq:FnIs Tryz.prog 110 12 ziw [.cell 4 2 true]:=⟨Tryz.f110,_,Tryz.func110,rfl,rfl,by kernel_rfl,by kernel_rfl⟩

def z4h:CC := .seq (.reg [qM 2 (.c (.int .u32 0))]) (.seq (.seq (.reg [qM 3 (.t 0),qQ 4 (.eqv .p false (.t 3) (.c .nilp))]) (.cond (.t 4) (.seq (.reg [qM 2 (.c (.int .u32 0))]) .ret) .skip)) (.seq (.dreg [qM 5 (.t 0),qQ 6 (.nilck (.t 5)),qQ 7 (.faddr 2 (.t 6)),qQ 8 (.load 1 false (.t 7)),qM 9 (.t 0),qQ 10 (.nilck (.t 9)),qQ 11 (.faddr 2 (.t 10)),qQ 12 (.load 1 false (.t 11)),qQ 13 (.len (.t 12)),qQ 14 (.bin .sub (.t 13) (.c (.int .i64 1))),qQ 15 (.iaddr 1 (.t 8) (.t 14)),qQ 16 (.load 1 false (.t 15)),qM 2 (.t 16)] [[],[0],[1],[2],[],[4],[5],[6],[7],[8],[3,9],[10],[11,0,1,2,3,4,5,6,7,8,9,10,11]]) .ret))
theorem z9t:FnIs Tryz.prog 30 17 z4h [.t 2]:=⟨Tryz.f30,_,Tryz.func30,rfl,rfl,by kernel_rfl,by kernel_rfl⟩

def z7f:CC := .seq (.reg [qQ 4 (.alloc [.int .u64 0,.int .u64 0]),qM 5 (.c (.bool false))]) (.seq (.seq (.reg [qM 6 (.t 0),qQ 7 (.call 34 [.t 6]),qM 8 (.t 1),qQ 9 (.call 109 [.t 7,.t 8]),qQ 10 (.not (.t 9))]) (.cond (.t 10) (.seq (.reg [qQ 11 (.build [.int .u64 0,.int .u64 0] []),qR (.store 2 (.t 4) (.t 11)),qM 5 (.c (.bool false))]) .ret) .skip)) (.seq (.reg [qM 12 (.t 0),qQ 13 (.nilck (.t 12)),qQ 14 (.faddr 1 (.t 13)),qQ 15 (.load 1 false (.t 14)),qM 16 (.t 1),qQ 17 (.call 110 [.t 15,.t 16]),qR (.store 2 (.t 4) (.t 17)),qM 5 (.c (.bool true))]) .ret))
theorem zem:FnIs Tryz.prog 58 18 z7f [.cell 4 2 true,.t 5]:=⟨Tryz.f58,_,Tryz.func58,rfl,rfl,by kernel_rfl,by kernel_rfl⟩

def z7g:CC := .seq (.reg [qM 2 (.c (.bool false))]) (.seq (.seq (.reg [qM 3 (.t 0),qQ 4 (.eqv .p false (.t 3) (.c .nilp)),qM 5 (.t 4),qG 6 (.mov (.t 0)) 5 false,qG 7 (.nilck (.t 6)) 5 false,qG 8 (.faddr 0 (.t 7)) 5 false,qG 9 (.load 1 false (.t 8)) 5 false,qG 10 (.call 90 [.t 9]) 5 false,qG 11 (.not (.t 10)) 5 false,qQ 12 (.pick (.t 5) (.c (.bool true)) (.t 11))]) (.cond (.t 12) (.seq (.reg [qM 2 (.c (.bool false))]) .ret) .skip)) (.seq (.dreg [qM 13 (.t 0),qM 14 (.t 0),qQ 15 (.nilck (.t 14)),qQ 16 (.faddr 2 (.t 15)),qQ 17 (.load 1 false (.t 16)),qM 18 (.t 0),qQ 19 (.call 30 [.t 18]),qQ 20 (.bin .add (.t 19) (.c (.int .u32 1))),qQ 21 (.bsl 1 [.t 20]),qQ 22 (.app 1 4 (.t 17) (.t 21)),qQ 23 (.nilck (.t 13)),qQ 24 (.faddr 2 (.t 23)),qR (.store 1 (.t 24) (.t 22))] [[],[],[1],[2],[3],[],[5],[6],[7],[4,8,6],[0,0,1,2,3,4,5,6,7,8,9],[10,0,1,2,3,4,5,6,7,8,9],[11,9,9,0,1,2,3,4,5,6,7,8,9]]) (.seq (.reg [qM 2 (.c (.bool true))]) .ret)))
theorem zen:FnIs Tryz.prog 139 25 z7g [.t 2]:=⟨Tryz.f139,_,Tryz.func139,rfl,rfl,by kernel_rfl,by kernel_rfl⟩

def z5t:CC := .seq (.reg [qQ 3 (.box 1 (.t 1)),qM 4 (.c (.bool false))]) (.seq (.seq (.reg [qM 6 (.t 0),qQ 7 (.eqv .p false (.t 6) (.c .nilp)),qM 8 (.t 7),qG 9 (.mov (.t 0)) 8 false,qG 10 (.nilck (.t 9)) 8 false,qG 11 (.faddr 0 (.t 10)) 8 false,qG 12 (.load 1 false (.t 11)) 8 false,qG 13 (.call 90 [.t 12]) 8 false,qG 14 (.not (.t 13)) 8 false,qQ 15 (.pick (.t 8) (.c (.bool true)) (.t 14))]) (.cond (.t 15) (.seq (.reg [qM 4 (.c (.bool false))]) .ret) .skip)) (.seq (.reg [qM 16 (.t 0),qQ 17 (.call 30 [.t 16]),qQ 5 (.alloc [.int .u32 0]),qR (.store 1 (.t 5) (.t 17))]) (.seq (.reg [qM 18 (.t 0),qM 19 (.t 0),qQ 20 (.nilck (.t 19)),qQ 21 (.faddr 2 (.t 20)),qQ 22 (.load 1 false (.t 21)),qQ 23 (.mkf (.func 251) [] [.t 3,.t 5]),qQ 24 (.call 250 [.t 22,.t 23]),qQ 25 (.nilck (.t 18)),qQ 26 (.faddr 2 (.t 25)),qR (.store 1 (.t 26) (.t 24))]) (.seq (.reg [qM 4 (.c (.bool true))]) .ret))))
theorem zc4:FnIs Tryz.prog 193 27 z5t [.t 4]:=⟨Tryz.f193,_,Tryz.func193,rfl,rfl,by kernel_rfl,by kernel_rfl⟩

def z4i:CC := .seq (.reg [qM 4 (.c (.bool false))]) (.seq (.reg [qM 5 (.t 0),qQ 6 (.load 1 false (.t 1)),qQ 7 (.bin .lss (.t 5) (.t 6)),qM 8 (.t 7),qG 9 (.mov (.t 0)) 8 true,qG 10 (.load 1 false (.t 2)) 8 true,qG 11 (.bin .neq (.t 9) (.t 10)) 8 true,qQ 12 (.pick (.t 8) (.t 11) (.c (.bool false))),qM 4 (.t 12)]) .ret)
theorem z9u:FnIs Tryz.prog 251 13 z4i [.t 4]:=⟨Tryz.f251,_,Tryz.func251,rfl,rfl,by kernel_rfl,by kernel_rfl⟩

def z57:CC := .seq (.reg [qM 2 (.c .nils)]) (.seq (.seq (.reg [qM 3 (.t 0),qQ 4 (.eqv .p false (.t 3) (.c .nilp))]) (.cond (.t 4) (.seq (.reg [qM 2 (.c .nils)]) .ret) .skip)) (.seq (.reg [qM 5 (.t 0),qQ 6 (.nilck (.t 5)),qQ 7 (.faddr 2 (.t 6)),qQ 8 (.load 1 false (.t 7)),qQ 9 (.call 89 [.t 8]),qM 2 (.t 9)]) .ret))
theorem zay:FnIs Tryz.prog 34 10 z57 [.t 2]:=⟨Tryz.f34,_,Tryz.func34,rfl,rfl,by kernel_rfl,by kernel_rfl⟩

def z1j:CC := .seq (.reg [qM 4 (.c .nils)]) (.seq (.reg [qM 8 (.t 0),qM 9 (.t 1),qQ 10 (.call 282 [.t 8,.t 9]),qM 5 (.t 10)]) (.seq (.seq (.reg [qM 11 (.t 5),qQ 12 (.bin .eql (.t 11) (.c (.int .i64 (-1))))]) (.cond (.t 12) (.seq (.reg [qM 13 (.t 0),qM 4 (.t 13)]) .ret) .skip)) (.seq (.seq (.reg [qM 14 (.t 5),qQ 15 (.bin .add (.t 14) (.c (.int .i64 1))),qM 6 (.t 15)]) (.block 0 (.loop (.seq (.seq (.reg [qM 16 (.t 6),qM 17 (.t 0),qQ 18 (.len (.t 17)),qQ 19 (.bin .lss (.t 16) (.t 18))]) (.cond (.t 19) .skip (.exit 0))) (.seq (.block 1 (.seq (.reg [qM 22 (.t 0),qM 23 (.t 6),qQ 24 (.iaddr 1 (.t 22) (.t 23)),qQ 25 (.load 1 false (.t 24)),qM 7 (.t 25)]) (.seq (.reg [qM 26 (.t 1),qM 27 (.t 7),qQ 28 (.callv (.t 26) [.t 27]),qQ 29 (.not (.t 28))]) (.cond (.t 29) (.seq (.reg [qM 30 (.t 0),qM 31 (.t 5),qM 32 (.t 7),qQ 33 (.iaddr 1 (.t 30) (.t 31)),qR (.store 1 (.t 33) (.t 32))]) (.reg [qM 34 (.t 5),qQ 35 (.bin .add (.t 34) (.c (.int .i64 1))),qM 5 (.t 35)])) .skip)))) (.reg [qM 20 (.t 6),qQ 21 (.bin .add (.t 20) (.c (.int .i64 1))),qM 6 (.t 21)])))))) (.seq (.reg [qM 36 (.t 0),qM 37 (.t 5),qQ 38 (.slc 1 (.t 36) (some (.t 37)) none),qR (.raw (Ex.clr 1 [.int .u32 0] (.t 38)))]) (.seq (.reg [qM 39 (.t 0),qM 40 (.t 5),qQ 41 (.slc 1 (.t 39) none (some (.t 40))),qM 4 (.t 41)]) .ret)))))
theorem z35:FnIs Tryz.prog 250 42 z1j [.t 4]:=⟨Tryz.f250,_,Tryz.func250,rfl,rfl,by kernel_rfl,by kernel_rfl⟩

def z1q:CC := .seq (.reg [qM 4 (.c (.bool false))]) (.seq (.reg [qM 5 (.t 0),qM 6 (.t 1),qQ 7 (.call 164 [.t 5,.t 6]),qQ 8 (.bin .geq (.t 7) (.c (.int .i64 0))),qM 4 (.t 8)]) .ret)
theorem z3m:FnIs Tryz.prog 109 9 z1q [.t 4]:=⟨Tryz.f109,_,Tryz.func109,rfl,rfl,by kernel_rfl,by kernel_rfl⟩

def z1m:CC := .seq (.reg [qM 4 (.c (.int .i64 0))]) (.seq (.seq (.reg [qM 6 (.t 0),qQ 7 (.len (.t 6)),qM 8 (.c (.int .i64 0))]) (.block 0 (.loop (.seq (.reg [qQ 9 (.bin .lss (.t 8) (.t 7))]) (.seq (.cond (.t 9) .skip (.exit 0)) (.seq (.block 1 (.seq (.reg [qM 10 (.t 8),qM 5 (.t 10)]) (.seq (.reg [qM 11 (.t 1),qM 12 (.t 0),qM 13 (.t 5),qQ 14 (.iaddr 1 (.t 12) (.t 13)),qQ 15 (.load 1 false (.t 14)),qQ 16 (.callv (.t 11) [.t 15])]) (.cond (.t 16) (.seq (.reg [qM 17 (.t 5),qM 4 (.t 17)]) .ret) .skip)))) (.reg [qQ 18 (.bin .add (.t 8) (.c (.int .i64 1))),qM 8 (.t 18)]))))))) (.seq (.reg [qM 4 (.c (.int .i64 (-1)))]) .ret))
theorem z3c:FnIs Tryz.prog 282 19 z1m [.t 4]:=⟨Tryz.f282,_,Tryz.func282,rfl,rfl,by kernel_rfl,by kernel_rfl⟩

def z28:CC := .seq (.reg [qM 4 (.c (.int .i64 0))]) (.seq (.seq (.reg [qM 6 (.t 0),qQ 7 (.len (.t 6)),qM 8 (.c (.int .i64 0))]) (.block 0 (.loop (.seq (.reg [qQ 9 (.bin .lss (.t 8) (.t 7))]) (.seq (.cond (.t 9) .skip (.exit 0)) (.seq (.block 1 (.seq (.reg [qM 10 (.t 8),qM 5 (.t 10)]) (.seq (.reg [qM 11 (.t 1),qM 12 (.t 0),qM 13 (.t 5),qQ 14 (.iaddr 1 (.t 12) (.t 13)),qQ 15 (.load 1 false (.t 14)),qQ 16 (.bin .eql (.t 11) (.t 15))]) (.cond (.t 16) (.seq (.reg [qM 17 (.t 5),qM 4 (.t 17)]) .ret) .skip)))) (.reg [qQ 18 (.bin .add (.t 8) (.c (.int .i64 1))),qM 8 (.t 18)]))))))) (.seq (.reg [qM 4 (.c (.int .i64 (-1)))]) .ret))
theorem z4q:FnIs Tryz.prog 164 19 z28 [.t 4]:=⟨Tryz.f164,_,Tryz.func164,rfl,rfl,by kernel_rfl,by kernel_rfl⟩

def z29:CC := .seq (.reg [qM 2 (.c .nils)]) (.seq (.seq (.reg [qM 3 (.t 0),qQ 4 (.isnil false (.t 3))]) (.cond (.t 4) (.seq (.reg [qM 2 (.c .nils)]) .ret) .skip)) (.seq (.reg [qQ 5 (.bsl0),qM 6 (.t 0),qQ 7 (.app 1 4 (.t 5) (.t 6)),qM 2 (.t 7)]) .ret))
theorem z4r:FnIs Tryz.prog 89 8 z29 [.t 2]:=⟨Tryz.f89,_,Tryz.func89,rfl,rfl,by kernel_rfl,by kernel_rfl⟩

end Go.Proofs.YthblcmnhiccnhaaGreat


namespace Go.Proofs.YthblcmnhiccnhaaGreat
open Go Go.Abs

theorem zcr {h k:AHeap}(h1:∀ i,h.get i=k.get i)(h2:h.next=k.next)(h3:∀ i,h.gap i=k.gap i):h=k:=by
 cases h;cases k
 simp only at h1 h2 h3
 rw [funext h1,h2,funext h3]
theorem zeo {h:AHeap}{s:Nat}{x:Option AObj}(hs:h.get s=x):h.set s x=h :=
  zcr (fun i=>by rw [zc];split;· rename_i e;rw [e,hs]
                 · rfl) rfl fun _=>rfl
theorem z58 {N:Nat→Prop}{n:Nat}{row:List AV}(h:∀ v∈row,AV.flat v=true):CloObj N (.mem n [row]):=by
 intro x hx v hv
 simp only [List.mem_singleton] at hx
 subst hx
 exact z13 (h v hv)
theorem PwS.flat (s:PwS):∀ v∈s.row,AV.flat v=true:=by simp [PwS.row,AV.flat]
theorem zt9 {h h1:AHeap}:Fz h h1 (Go.Abs.fin []) (.tup []) := .clo _ (.tup _ (by simp))
theorem z1x {h:AHeap}{p:Nat}{s:PwS}(hp:h.get p=some (.mem 4 [s.row])):AE Tryz.prog 71 [.ptr p 0 0] h (.bool (!s.gone)) h:=by
 refine AE.wf fun hwf => ?_
 have h0:=hwf _ _ hp
 refine AE.pureW zd9 (by simp) ?_
 unfold z6p;dsimp only [qQ,qR,qM,qG]
 simp only [PwS.row] at hp
 (refine go ?_)
 refine WW.ret (PureQ.finD ?_)
 exact fz_b rfl
theorem z8t {h:AHeap}{p:Nat}{s:PwS}(hp:h.get p=some (.mem 4 [s.row])):AE Tryz.prog 43 [.ptr p 0 0] h (.int .i64 s.steps) h:=by
 refine AE.wf fun hwf => ?_
 have h0:=hwf _ _ hp
 refine AE.pureW z9s (by simp) ?_
 unfold z4g;dsimp only [qQ,qR,qM,qG]
 simp only [PwS.row] at hp
 (refine go ?_)
 refine WW.ret (PureQ.finD ?_)
 exact .clo _ (.int _ _)
theorem z1a {h:AHeap}{p k:Nat}{s:PwS}(hp:h.get p=some (.mem 4 [s.row]))(hk:s.Ok k)(hkk:k≤1000000000):AE Tryz.prog 90 [.ptr p 0 0] h (.bool s.can) (h.set p (some (.mem 4 [s.spend.row]))):=by
 refine AE.wf fun hwf => ?_
 have h0:=hwf _ _ hp
 refine AE.effW z9r (by simp) (Ext.set Ext.refl (Nm.old hp) (z58 (PwS.flat _))) ?_
 unfold z4f;dsimp only [qQ,qR,qM,qG]
 have hp':=hp
 simp only [PwS.row] at hp'
 (refine go ?_)
 refine WL.call rfl gM gSL (z1x hp) ?_
 (refine go ?_)
 obtain ⟨k1,k2,k3,k4⟩:=hk
 cases hg:s.gone with
 | true =>
  rw [hg] at hp'
  (refine go ?_)
  refine WW.ret (EffQ.finD ?_ ?_)
  ·rw [PwS.spend,if_pos hg,zeo hp];exact Keeps.refl _
  ·exact fz_b (by simp [PwS.can,hg])
 | false =>
  rw [hg] at hp'
  (refine go ?_)
  cases hf:s.fuse with
  | true =>
   rw [hf] at hp'
   have k5:=k1 hf
   (refine go ?_)
   (refine WW.ifB rfl (fun hz1 => ?_) (fun hz1 => ?_))
   ·(refine go ?_)
    refine WW.ret (EffQ.finD ?_ ?_)
    ·rw [PwS.spend,if_neg (by simp [hg]),if_pos (by simp [hf,hz1])];refine ⟨gLE,fun id hu => ?_⟩;have hlt:id < AHeap.next h:=hu.1;simp only [zn,zc];(repeat' split) <;> first | rfl | omega | (simp [PwS.row,hf];done)
    ·exact fz_b (by simp [PwS.can,hg,hf,hz1])
   ·(refine go ?_)
    refine WW.ret (EffQ.finD ?_ ?_)
    ·rw [PwS.spend,if_neg (by simp [hg]),if_neg (by simp [hf,hz1]),if_pos hf];refine ⟨gLE,fun id hu => ?_⟩;have hlt:id < AHeap.next h:=hu.1;simp only [zn,zc];(repeat' split) <;> first | rfl | omega | (simp [PwS.row,hf,hg];done)
    ·exact fz_b (by simp [PwS.can,hg,hf,hz1])
  | false =>
   rw [hf] at hp'
   (refine go ?_)
   refine WW.ret (EffQ.finD ?_ ?_)
   ·rw [PwS.spend,if_neg (by simp [hg]),if_neg (by simp [hf]),if_neg (by simp [hf])];refine ⟨gLE,fun id hu => ?_⟩;have hlt:id < AHeap.next h:=hu.1;simp only [zn,zc];(repeat' split) <;> first | rfl | omega | (simp [PwS.row,hf,hg];done)
   ·exact fz_b (by simp [PwS.can,hg,hf])
end Go.Proofs.YthblcmnhiccnhaaGreat


namespace Go.Proofs.YthblcmnhiccnhaaGreat
open Go Go.Abs

theorem znm {N:Nat→Prop}{n p:Nat}{row:List AV}(hp:N p)(h:∀ v∈row,AV.flat v=true):CloObj N (.mem n [.ptr p 0 0::row]):=by
 intro x hx v hv
 simp only [List.mem_singleton] at hx
 subst hx
 rcases List.mem_cons.1 hv with rfl | hv
 ·exact .ptr _ _ _ hp
 ·exact z13 (h v hv)
theorem zld {h:AHeap}{nx:Nat}(hn:h.next=nx):AE Tryz.prog 63 [] h (.ptr nx 0 0) (h.put nx (.mem 4 [(⟨false,false,0,0⟩:PwS).row])):=by
 subst hn
 refine AC.introW zlb (by simp) ?_
 unfold zdt;dsimp only [qQ,qR,qM,qG]
 (refine go ?_)
 exact WW.ret ⟨.inl rfl,_,gRES,rfl,rfl⟩
def CtS.obj (p:Nat)(c:CtS):AObj := .mem 4 [.ptr p 0 0::c.row]
theorem CtS.flat (s:CtS):∀ v∈s.row,AV.flat v=true:=by simp [CtS.row,AV.flat]
structure CtS.Ok (c:CtS)(k:Nat):Prop where
 v:0≤c.value∧c.value≤k
 b:0≤c.boots∧c.boots≤k
 a:0≤c.at'∧c.at'≤k
def CtS.boot (c:CtS)(ok:Bool):CtS:=if ok then { c with boots:=c.boots+1 } else c
def CtS.bump (c:CtS)(ok:Bool):CtS:=if ok then { c with value:=c.value+1,at':=c.boots } else c
theorem CtS.Ok.boot {c:CtS}{k:Nat}(h:c.Ok k)(ok:Bool):(c.boot ok).Ok (k+1):=by
 obtain ⟨h1,h2,h3⟩:=h
 cases ok
 ·exact ⟨by show 0≤c.value∧c.value≤_;omega,by show 0≤c.boots∧c.boots≤_;omega,by show 0≤c.at'∧c.at'≤_;omega⟩
 ·exact ⟨by show 0≤c.value∧c.value≤_;omega,by show 0≤c.boots+1∧c.boots+1≤_;omega,by show 0≤c.at'∧c.at'≤_;omega⟩
theorem CtS.Ok.bump {c:CtS}{k:Nat}(h:c.Ok k)(ok:Bool):(c.bump ok).Ok (k+1):=by
 obtain ⟨h1,h2,h3⟩:=h
 cases ok
 ·exact ⟨by show 0≤c.value∧c.value≤_;omega,by show 0≤c.boots∧c.boots≤_;omega,by show 0≤c.at'∧c.at'≤_;omega⟩
 ·exact ⟨by show 0≤c.value+1∧c.value+1≤_;omega,by show 0≤c.boots∧c.boots≤_;omega,by show 0≤c.boots∧c.boots≤_;omega⟩
theorem zle {h:AHeap}{nx p:Nat}(hn:h.next=nx):AE Tryz.prog 69 [.ptr p 0 0] h (.ptr nx 0 0) (h.put nx (CtS.obj p ⟨0,0,0⟩)):=by
 subst hn
 refine AC.introW zlc (by simp) ?_
 unfold zdu;dsimp only [qQ,qR,qM,qG]
 (refine go ?_)
 exact WW.ret ⟨.inl rfl,_,gRES,rfl,rfl⟩
theorem z4s {h:AHeap}{p c:Nat}{s:CtS}(hc:h.get c=some (s.obj p)):AE Tryz.prog 48 [.ptr c 0 0] h (.int .u64 s.value) h:=by
 refine AE.wf fun hwf => ?_
 have h0:=hwf _ _ hc
 refine AE.pureW z7w (by simp) ?_
 unfold z3k;dsimp only [qQ,qR,qM,qG]
 simp only [CtS.obj,CtS.row] at hc
 (refine go ?_)
 refine WW.ret (PureQ.finD ?_)
 exact .clo _ (.int _ _)
theorem zhm {h:AHeap}{p c:Nat}{s:CtS}(hc:h.get c=some (s.obj p)):AE Tryz.prog 75 [.ptr c 0 0] h (.int .u64 s.boots) h:=by
 refine AE.wf fun hwf => ?_
 have h0:=hwf _ _ hc
 refine AE.pureW z7x (by simp) ?_
 unfold z3l;dsimp only [qQ,qR,qM,qG]
 simp only [CtS.obj,CtS.row] at hc
 (refine go ?_)
 refine WW.ret (PureQ.finD ?_)
 exact .clo _ (.int _ _)
theorem zmv {h:AHeap}{p c:Nat}{s:CtS}(hc:h.get c=some (s.obj p)):AE Tryz.prog 243 [.ptr c 0 0] h (.int .u64 s.at') h:=by
 refine AE.wf fun hwf => ?_
 have h0:=hwf _ _ hc
 refine AE.pureW zax (by simp) ?_
 unfold z56;dsimp only [qQ,qR,qM,qG]
 simp only [CtS.obj,CtS.row] at hc
 (refine go ?_)
 refine WW.ret (PureQ.finD ?_)
 exact .clo _ (.int _ _)
theorem zpy {h:AHeap}{p c:Nat}{x y:AObj}{s s':PwS}(hp:h.get p=some (.mem 4 [s.row]))(hc:h.get c=some x)(hy:CloObj (Nm h (h.set p (some (.mem 4 [s'.row])))) y):Ext h ((h.set p (some (.mem 4 [s'.row]))).set c (some y)) :=
 Ext.set (Ext.set Ext.refl (Nm.old hp) (z58 (PwS.flat _))) (Nm.old hc) hy
theorem zjv {h:AHeap}{p c k:Nat}{w:PwS}{s:CtS}(hp:h.get p=some (.mem 4 [w.row]))(hc:h.get c=some (s.obj p))(hw:w.Ok k)(hs:s.Ok k)(hk:k≤1000000000) :
  AE Tryz.prog 72 [.ptr c 0 0] h (.bool w.can) ((h.set p (some (.mem 4 [w.spend.row]))).set c (some ((s.boot w.can).obj p))):=by
 refine AE.wf fun hwf => ?_
 have h0:=hwf _ _ hc
 have h1:=hwf _ _ hp
 have hne:p≠c:=by rintro rfl;rw [hp] at hc;simp [CtS.obj,PwS.row,CtS.row] at hc
 refine AE.effW z8s (by simp) (zpy hp hc (znm (Nm.old hp) (CtS.flat _))) ?_
 unfold z42;dsimp only [qQ,qR,qM,qG]
 have hc':=hc
 simp only [CtS.obj,CtS.row] at hc'
 (refine go ?_)
 refine WL.call rfl gM gSL (z1a hp hw hk) ?_
 obtain ⟨b1,b2,b3⟩:=hs
 cases hcan:w.can with
 | false =>
  (refine go ?_)
  refine WW.ret (EffQ.finD ?_ ?_)
  ·rw [CtS.boot,if_neg (by simp),zeo (x:=some (s.obj p)) (z1 (Ne.symm hne) hc)];exact Keeps.refl _
  ·exact fz_b rfl
 | true =>
  (refine go ?_)
  refine WW.ret (EffQ.finD ?_ ?_)
  ·rw [CtS.boot,if_pos rfl];refine ⟨gLE,fun id hu => ?_⟩;have hlt:id < AHeap.next h:=hu.1;simp only [zn,zc];(repeat' split) <;> first | rfl | omega | (simp [CtS.obj,CtS.row];done)
  ·exact fz_b rfl
theorem zjw {h:AHeap}{p c k:Nat}{w:PwS}{s:CtS}(hp:h.get p=some (.mem 4 [w.row]))(hc:h.get c=some (s.obj p))(hw:w.Ok k)(hs:s.Ok k)(hk:k≤1000000000) :
  AE Tryz.prog 256 [.ptr c 0 0] h (.bool w.can) ((h.set p (some (.mem 4 [w.spend.row]))).set c (some ((s.bump w.can).obj p))):=by
 refine AE.wf fun hwf => ?_
 have h0:=hwf _ _ hc
 have h1:=hwf _ _ hp
 have hne:p≠c:=by rintro rfl;rw [hp] at hc;simp [CtS.obj,PwS.row,CtS.row] at hc
 refine AE.effW z8r (by simp) (zpy hp hc (znm (Nm.old hp) (CtS.flat _))) ?_
 unfold z41;dsimp only [qQ,qR,qM,qG]
 have hc':=hc
 simp only [CtS.obj,CtS.row] at hc'
 (refine go ?_)
 refine WL.call rfl gM gSL (z1a hp hw hk) ?_
 obtain ⟨b1,b2,b3⟩:=hs
 cases hcan:w.can with
 | false =>
  (refine go ?_)
  refine WW.ret (EffQ.finD ?_ ?_)
  ·rw [CtS.bump,if_neg (by simp),zeo (x:=some (s.obj p)) (z1 (Ne.symm hne) hc)];exact Keeps.refl _
  ·exact fz_b rfl
 | true =>
  (refine go ?_)
  refine WW.ret (EffQ.finD ?_ ?_)
  ·rw [CtS.bump,if_pos rfl];refine ⟨gLE,fun id hu => ?_⟩;have hlt:id < AHeap.next h:=hu.1;simp only [zn,zc];(repeat' split) <;> first | rfl | omega | (simp [CtS.obj,CtS.row];done)
  ·exact fz_b rfl
end Go.Proofs.YthblcmnhiccnhaaGreat


namespace Go.Proofs.YthblcmnhiccnhaaGreat
open Go Go.Abs

structure SdN where
 p:Nat
 s:Nat
 B:Nat
 w:Nat
 t:Nat
def SdS.obj (n:SdN)(x:SdS):AObj := .mem 4 [[.ptr n.p 0 0,.ref n.B 0 x.lasts.length,.app n.w x.gen 2 (x.waits.map encO),.app n.t 0 2 (x.trace.map encO)]]
structure SdAt (h:AHeap)(n:SdN)(w:PwS)(x:SdS):Prop where
 pw:h.get n.p=some (.mem 4 [w.row])
 ob:h.get n.s=some (x.obj n)
 bl:h.get n.B=some (.mem 1 (x.lasts.map encB))
 wt:h.get n.w=some (.tail x.gen x.waits.length)
 tr:h.get n.t=some (.tail 0 x.trace.length)
 ne:n.w≠n.t
theorem zta {h:AHeap}{p s B w t:Nat}{pw:PwS}{x:SdS}(h1:h.get p=some (.mem 4 [pw.row]))(h2:h.get s=some (.mem 4 [[.ptr p 0 0,.ref B 0 x.lasts.length,.app w x.gen 2 (x.waits.map encO),.app t 0 2 (x.trace.map encO)]]))(h3:h.get B=some (.mem 1 (x.lasts.map encB)))(h4:h.get w=some (.tail x.gen x.waits.length))(h5:h.get t=some (.tail 0 x.trace.length))(h6:w≠t):SdAt h ⟨p,s,B,w,t⟩ pw x:=⟨h1,h2,h3,h4,h5,h6⟩
structure SdNe (h:AHeap)(n:SdN):Prop where
 a1:n.p < h.next
 a2:n.s < h.next
 a3:n.B < h.next
 a4:n.w < h.next
 a5:n.t < h.next
 b1:n.p≠n.s
 b2:n.p≠n.B
 b3:n.p≠n.w
 b4:n.p≠n.t
 b5:n.s≠n.B
 b6:n.s≠n.w
 b7:n.s≠n.t
 b8:n.B≠n.w
 b9:n.B≠n.t
 bx:n.w≠n.t
theorem z6r {h h1:AHeap}{b b':Bs}(e:b=b'):Fz h h1 (.imm 1 (b.map encB)) (.imm 1 (b'.map encB)):=by
 subst e
 exact .clo _ (.imm _ _ fun y hy u hu=>by
  obtain ⟨c,_,rfl⟩:=List.mem_map.1 hy
  exact z13 (by simp only [encB,List.mem_singleton] at hu;subst hu;rfl))
theorem SdAt.nes {h:AHeap}{n:SdN}{w:PwS}{x:SdS}(hd:SdAt h n w x)(hwf:∀ id y,h.get id=some y→id < h.next):SdNe h n:=by
 obtain ⟨q1,q2,q3,q4,q5,q6⟩:=hd
 have key:∀ {i j:Nat} {y z:AObj},h.get i=some y→h.get j=some z→y≠z→i≠j:=fun hi hj hne e=>by
  subst e;rw [hi] at hj;exact hne (Option.some.inj hj)
 refine ⟨hwf _ _ q1,hwf _ _ q2,hwf _ _ q3,hwf _ _ q4,hwf _ _ q5,key q1 q2 ?_,key q1 q3 ?_,key q1 q4 ?_,key q1 q5 ?_,key q2 q3 ?_,key q2 q4 ?_,key q2 q5 ?_,key q3 q4 ?_,key q3 q5 ?_,q6⟩ <;> simp [SdS.obj,PwS.row]
def sdPut (n:SdN)(w:PwS)(x:SdS)(h:AHeap):AHeap:=((((h.set n.p (some (.mem 4 [w.row]))).set n.B (some (.mem 1 (x.lasts.map encB)))).set n.w (some (.tail x.gen x.waits.length))).set n.t (some (.tail 0 x.trace.length))).set n.s (some (x.obj n))
theorem zlf (x:Wr):∀ v∈encO x,∀ N,Clo N v:=by
 intro v hv N
 simp only [encO,List.mem_cons,List.not_mem_nil,or_false] at hv
 rcases hv with rfl | rfl
 ·exact .int _ _
 ·exact .imm _ _ fun y hy u hu=>by
   obtain ⟨c,_,rfl⟩:=List.mem_map.1 hy
   exact z13 (by simp only [encB,List.mem_singleton] at hu;subst hu;rfl)
theorem zcs {N:Nat→Prop}{l:List Wr}:∀ c∈l.map encO,∀ v∈c,Clo N v:=fun c hc v hv=>by
 obtain ⟨x,_,rfl⟩:=List.mem_map.1 hc
 exact zlf x v hv N
theorem zlg {h:AHeap}{n:SdN}{w:PwS}{x:SdS}(hd:SdAt h n w x)(w':PwS)(x':SdS):Ext h (sdPut n w' x' h):=by
 obtain ⟨q1,q2,q3,q4,q5,q6⟩:=hd
 refine Ext.set (Ext.set (x := .tail _ _) (Ext.set (x := .tail _ _) (Ext.set (Ext.set Ext.refl (Nm.old q1) (z58 (PwS.flat _))) (Nm.old q3) ?_) (Nm.old q4) trivial) (Nm.old q5) trivial) (Nm.old q2) ?_
 ·intro y hy v hv
  obtain ⟨c,_,rfl⟩:=List.mem_map.1 hy
  exact z13 (by simp only [encB,List.mem_singleton] at hv;subst hv;rfl)
 ·intro y hy v hv
  simp only [List.mem_singleton] at hy
  subst hy
  simp only [List.mem_cons,List.not_mem_nil,or_false] at hv
  rcases hv with rfl | rfl | rfl | rfl
  ·exact .ptr _ _ _ (Nm.old q1)
  ·exact .ref _ _ _ (Nm.old q3)
  ·exact .app _ _ _ _ (Nm.old q4) zcs
  ·exact .app _ _ _ _ (Nm.old q5) zcs
theorem SdAt.put {h:AHeap}{n:SdN}(hn:SdNe h n)(w':PwS)(x':SdS):SdAt (sdPut n w' x' h) n w' x':=by
 obtain ⟨a1,a2,a3,a4,a5,b1,b2,b3,b4,b5,b6,b7,b8,b9,bx⟩:=hn
 unfold sdPut
 exact ⟨gH,gH,gH,gH,gH,bx⟩
theorem zix {h:AHeap}{n:SdN}{w':PwS}{x':SdS}{id:Nat}(h1:id≠n.p)(h2:id≠n.s)(h3:id≠n.B)(h4:id≠n.w)(h5:id≠n.t):(sdPut n w' x' h).get id=h.get id :=
 z1 h2 (z1 h5 (z1 h4 (z1 h3 (z1 h1 rfl))))
theorem z4t {h h1:AHeap}{n:SdN}{w':PwS}{x':SdS}(hk:KeepsB [n.p,n.s,n.B,n.w,n.t] h h1)(hd:SdAt h1 n w' x'):Keeps (sdPut n w' x' h) h1:=by
 refine ⟨hk.1,fun id hu => ?_⟩
 simp only [sdPut,zc]
 split
 ·rename_i e;rw [e,hd.ob]
 ·split
  ·rename_i e;rw [e,hd.tr]
  ·split
   ·rename_i e;rw [e,hd.wt]
   ·split
    ·rename_i e;rw [e,hd.bl]
    ·split
     ·rename_i e;rw [e,hd.pw]
     ·rename_i e1 e2 e3 e4 e5
      exact hk.2 id hu (by simp [e1,e2,e3,e4,e5])
theorem zdv {h:AHeap}{n:SdN}{x:SdS}(hd:h.get n.s=some (x.obj n)):AE Tryz.prog 140 [.ptr n.s 0 0] h (.int .i64 x.lasts.length) h:=by
 refine AE.wf fun hwf => ?_
 have h0:=hwf _ _ hd
 refine AE.pureW zg2 (by simp) ?_
 unfold z8n;dsimp only [qQ,qR,qM,qG]
 simp only [SdS.obj] at hd
 (refine go ?_)
 refine WW.ret (PureQ.finD ?_)
 exact clo_i rfl
theorem ziy {h:AHeap}{n:SdN}{x:SdS}(hd:h.get n.s=some (x.obj n))(hl:x.lasts.length≤1000000)(off k:Int)(hk:k≤9223372036854775807):AE Tryz.prog 91 [.ptr n.s 0 0,.int .i64 off,.int .i64 k] h (.bool (inB x.lasts.length off k)) h:=by
 refine AE.wf fun hwf => ?_
 have h0:=hwf _ _ hd
 refine AE.pureW zjt (by simp) ?_
 unfold zbz;dsimp only [qQ,qR,qM,qG]
 (refine go ?_)
 (apply WL.andB;exact rfl;exact rfl;exact rfl;exact BP.of;intro hz1)
 ·(repeat first | (apply GW.goS;exact Stp.auto) | apply GW.nil | exact rfl)
 (refine go ?_)
 (apply WL.andB;exact rfl;exact rfl;exact rfl;exact BP.of;intro hz2)
 ·(repeat first | (apply GW.goS;exact Stp.auto) | apply GW.nil | exact rfl)
  refine GW.call rfl gM gSL (zdv hd) ?_
  (repeat first | (apply GW.goS;exact Stp.auto) | apply GW.nil | exact rfl)
 (refine go ?_)
 (apply WL.andB;exact rfl;exact rfl;exact rfl;exact BP.of;intro hz3)
 ·simp only [Bool.and_eq_true,decide_eq_true_eq,ge_iff_le] at hz3
  (repeat first | (apply GW.goS;exact Stp.auto) | apply GW.nil | exact rfl)
  refine GW.call rfl gM gSL (zdv hd) ?_
  (repeat first | (apply GW.goS;exact Stp.auto) | apply GW.nil | exact rfl)
 (refine go ?_)
 refine WW.ret (PureQ.finD ?_)
 exact fz_b rfl
theorem zab (x:Wr)(hx:x.2.length≤1000000)(h:AHeap):AE Tryz.prog 107 [.agg (encO x)] h (.agg (encO x)) h:=by
 refine AE.pureW zju (by simp) ?_
 unfold zc0;dsimp only [qQ,qR,qM,qG]
 (repeat first | refine WL.go ?_ | refine WW.seq ?_ | refine WW.reg ?_ | refine WL.nil ?_ | refine WW.skip ?_ | refine WW.block ?_ | refine WW.exit ?_ | refine WW.condT rfl ?_ | refine WW.condF rfl ?_ | refine WL.gox ?_ | refine thenN ?_ | refine blkN ?_)
 refine WW.dregX [6] [] [h.next+1] gN (by decide +kernel) ?_
 (refine go ?_)
 refine DW.callS rfl gM gSL rfl (zp x.2 hx _) ?_
 (refine go ?_)
 refine WW.ret (PureQ.finD ?_)
 exact .clo _ (.agg _ fun v hv=>zlf x v hv _)
def SdS.write (x:SdS)(o:Wr)(ok:Bool):SdS:=if ok then { x with waits:=x.waits++[o],trace:=x.trace++[o] } else x
theorem z43 {h:AHeap}{n:SdN}{w:PwS}{x:SdS}{k:Nat}(hd:SdAt h n w x)(hw:w.Ok k)(hk:k≤1000000000)(hl:x.lasts.length≤1000000)(h1:x.waits.length≤1000000)(h2:x.trace.length≤1000000)(off:Int)(b:Bs)(hb:b.length≤1000000) :
  AE Tryz.prog 202 [.ptr n.s 0 0,.int .i64 off,.imm 1 (b.map encB)] h (.bool (inB x.lasts.length off b.length&&w.can))
   (sdPut n (if inB x.lasts.length off b.length then w.spend else w) (x.write (off,b) (inB x.lasts.length off b.length&&w.can)) h):=by
 refine AE.wf fun hwf => ?_
 obtain ⟨a1,a2,a3,a4,a5,b1,b2,b3,b4,b5,b6,b7,b8,b9,bx⟩:=hd.nes hwf
 have hd':=hd
 obtain ⟨q1,q2,q3,q4,q5,q6⟩:=hd
 refine AE.effW zel (by simp) (zlg hd' _ _) ?_
 unfold z7e;dsimp only [qQ,qR,qM,qG]
 (refine go ?_)
 refine WL.call rfl gM gSL (ziy q2 hl off b.length (by omega)) ?_
 have q2':=q2
 simp only [SdS.obj] at q2'
 cases hin:inB x.lasts.length off b.length with
 | false =>
  (refine go ?_)
  refine WW.ret (EffQ.finD ?_ ?_)
  ·exact z4t KeepsB.refl (by rw [if_neg (by simp),Bool.false_and,SdS.write,if_neg (by simp)];exact hd')
  ·exact fz_b rfl
 | true =>
  (refine go ?_)
  refine WL.call rfl gM gSL (z1a q1 hw hk) ?_
  cases hcan:w.can with
  | false =>
   (refine go ?_)
   refine WW.ret (EffQ.finD ?_ ?_)
   ·refine z4t gKB ?_
    rw [if_pos rfl,Bool.and_false,SdS.write,if_neg (by simp)]
    exact ⟨gH,gH,gH,gH,gH,bx⟩
   ·exact fz_b rfl
  | true =>
   (repeat first | refine WL.go ?_ | refine WW.seq ?_ | refine WW.reg ?_ | refine WL.nil ?_ | refine WW.skip ?_ | refine WW.block ?_ | refine WW.exit ?_ | refine WW.condT rfl ?_ | refine WW.condF rfl ?_ | refine WL.gox ?_ | refine thenN ?_ | refine blkN ?_)
   refine WW.dregX [8,11] [] [n.w,n.s] gN (by decide +kernel) ?_
   (refine go ?_)
   refine DW.callS rfl gM gSL rfl (zab (off,b) hb _) ?_
   (refine go ?_)
   refine DW.callS rfl gM gSL rfl (zab (off,b) hb _) ?_
   (refine go ?_)
   refine WW.ret (EffQ.finD ?_ ?_)
   ·refine z4t gKB ?_
    rw [if_pos rfl,Bool.and_self,SdS.write,if_pos rfl]
    have ho:SdS.obj n { x with waits:=x.waits++[(off,b)],trace:=x.trace++[(off,b)] } = .mem 4 [[.ptr n.p 0 0,.ref n.B 0 x.lasts.length,.app n.w x.gen 2 (x.waits.map encO++[encO (off,b)]),.app n.t 0 2 (x.trace.map encO++[encO (off,b)])]]:=by simp [SdS.obj]
    have e1:(x.waits++[(off,b)]).length=x.waits.length+1:=by simp
    have e2:(x.trace++[(off,b)]).length=x.trace.length+1:=by simp
    refine ⟨gH,?_,gH,?_,?_,bx⟩
    ·rw [ho];exact gH
    ·simp only [e1];exact gH
    ·simp only [e2];exact gH
   ·exact fz_b rfl
end Go.Proofs.YthblcmnhiccnhaaGreat


namespace Go.Proofs.YthblcmnhiccnhaaGreat
open Go Go.Abs

structure DkN where
 p:Nat
 d:Nat
 w:Nat
 t:Nat
def encBl (b:Bs):AV := .imm 1 (b.map encB)
def dkRow (p w t:Nat)(x:DkS):List AV := .ptr p 0 0::(x.lasts.map encBl++[.app w x.gen 2 (x.waits.map encO),.app t 0 2 (x.trace.map encO),.bool x.refuses])
structure DkAt (h:AHeap)(n:DkN)(w:PwS)(x:DkS):Prop where
 pw:h.get n.p=some (.mem 4 [w.row])
 ob:h.get n.d=some (.mem 36 [dkRow n.p n.w n.t x])
 wt:h.get n.w=some (.tail x.gen x.waits.length)
 tr:h.get n.t=some (.tail 0 x.trace.length)
 ne:n.w≠n.t
 ll:x.lasts.length=32
theorem ztb {h:AHeap}{p d w t:Nat}{pw:PwS}{x:DkS}(h1:h.get p=some (.mem 4 [pw.row]))(h2:h.get d=some (.mem 36 [dkRow p w t x]))(h4:h.get w=some (.tail x.gen x.waits.length))(h5:h.get t=some (.tail 0 x.trace.length))(h6:w≠t)(hl:x.lasts.length=32):DkAt h ⟨p,d,w,t⟩ pw x:=⟨h1,h2,h4,h5,h6,hl⟩
theorem zpz {a z u:AV}{i:Nat}{r:List AV}:putC (a::(List.replicate i z++u::r)) (1+i) [z]=a::(List.replicate (i+1) z++r):=by
 have h1:List.take (i+1) (a::(List.replicate i z++u::r))=a::List.replicate i z:=by
  rw [List.take_succ_cons,List.take_left' (by simp)]
 have h2:List.drop (i+1+1) (a::(List.replicate i z++u::r))=r:=by
  rw [List.drop_succ_cons,show List.replicate i z++u::r=(List.replicate i z++[u])++r by simp,List.drop_left' (by simp)]
 rw [putC,Nat.add_comm 1 i,h1,List.length_singleton,h2,List.replicate_succ']
 simp
theorem z4u {h:AHeap}{n:Nat}{x y:AObj}:(h.put n x).set n (some y)=h.put n y :=
 zcr (fun i=>by simp only [zn,zc];split <;> rfl) rfl fun _=>rfl
def zBl:AV := .imm 1 (List.replicate 32 [.int .u8 0])
def dk0:DkS:=⟨List.replicate 32 (List.replicate 32 0),[],[],false,0⟩
def dkNew (p nx:Nat)(h:AHeap):AHeap:=((h.put nx (.mem 36 [dkRow p (nx+1) (nx+2) dk0])).put (nx+1) (.tail 0 0)).put (nx+2) (.tail 0 0)
set_option maxHeartbeats 1000000 in
theorem zmw {h:AHeap}{p nx:Nat}(hn:h.next=nx)(hp:p < nx):AE Tryz.prog 68 [.ptr p 0 0] h (.ptr nx 0 0) (dkNew p nx h):=by
 subst hn
 refine AC.introW zmt (by simp) ?_
 unfold zg5;dsimp only [qQ,qR,qM,qG]
 (refine go ?_)
 refine WW.loopE (fun (i:Nat)=>[(3,some (.ptr h.next 0 0)),(8,some (.int .i64 i))])
  (fun i h'=>h'=h.put h.next (.mem 36 [.ptr p 0 0::(List.replicate i zBl++(List.replicate (32 - i) .nils++[.nils,.nils,.bool false]))])∧i≤32) (fun i=>32 - i) 0 gSUB ⟨rfl,by omega⟩ ?_
 rintro i h' ⟨rfl,c1⟩
 (refine go ?_)
 (refine WW.ifB rfl (fun hz1 => ?_) (fun hz1 => ?_))
 ·have hi:i < 32:=by omega
  (repeat first | refine WW.seq ?_ | refine WW.reg ?_ | refine WL.nil ?_ | refine WW.skip ?_ | refine WW.block ?_ | refine thenN ?_ | refine blkN ?_);iterate 2 (refine WL.go ?_)
  (repeat first | refine WL.go ?_ | refine WW.seq ?_ | refine WW.reg ?_ | refine WL.nil ?_ | refine WW.skip ?_ | refine WW.block ?_ | refine WW.exit ?_ | refine WW.condT rfl ?_ | refine WW.condF rfl ?_ | refine WL.gox ?_ | refine thenN ?_ | refine blkN ?_)
  refine WW.dregX [6] [2] [h.next] gN (by decide +kernel) ?_
  iterate 2 (refine DW.go ?_)
  refine DW.fxF (fun h2 _=>FX.mkslI (n:=32) rfl rfl rfl rfl (by decide) gM) rfl (fun _ _ _=>rfl) ?_
  iterate 3 (refine DW.go ?_)
  have hr:List.replicate (32 - i) AV.nils=AV.nils::List.replicate (32 - (i+1)) AV.nils:=by
   rw [show 32 - i=(32 - (i+1))+1 by omega,List.replicate_succ]
  rw [hr]
  refine DW.goW (hs:=Stp.store1N (cs := .ptr p 0 0::(List.replicate (i+1) zBl++(List.replicate (32 - (i+1)) .nils++[.nils,.nils,.bool false]))) rfl rfl gH rfl (by simp;omega) rfl (by
   show putC _ (0+1+i*1) [zBl]=_
   rw [show 0+1+i*1=1+i by omega,List.cons_append]
   exact zpz) gM) ?_ (fun hp=>PhiW.setW (by simp) hp)
  refine DW.endL ?_
  rw [z4u]
  (refine go ?_)
  exact ⟨i+1,gSUB,⟨rfl,by omega⟩,by omega⟩
 ·have hi:i=32:=by omega
  subst hi
  (refine go ?_)
  refine WW.cvt (Cvt.adoptM 2 (id:=h.next) (i:=0) (j:=33) gH rfl rfl gN) ?_
  refine WW.cvt (Cvt.adoptM 2 (id:=h.next) (i:=0) (j:=34) gH rfl rfl gN) ?_
  refine WW.ret ⟨.inl rfl,_,gRES,rfl,zcr (fun i => ?_) ?_ fun i=>rfl⟩
  ·have ho:dkRow p (h.next+1) (h.next+2) dk0=((AV.ptr p 0 0::(List.replicate 32 zBl++(List.replicate (32 - 32) .nils++[.nils,.nils,.bool false]))).set 33 (.app (h.next+1) 0 2 [])).set 34 (.app (h.next+1+1) 0 2 []):=rfl
   unfold dkNew
   rw [ho]
   simp only [zn,zc]
   (repeat' split) <;> first | rfl | omega
  ·unfold dkNew;exact (gN:_=h.next+1+1+1).trans (gN:_=h.next+1+1+1).symm
end Go.Proofs.YthblcmnhiccnhaaGreat


namespace Go.Proofs.YthblcmnhiccnhaaGreat
open Go Go.Abs

structure Lf where
 k:Int
 d:Bool
 lba:Int
 e:Int
 sl:Int
 n:Int
 tg:Pr
 deriving DecidableEq
def lf0:Lf:=⟨0,false,0,0,0,0,(0,0)⟩
def encL (x:Lf):List AV:=[.int .i64 x.k,.bool x.d,.int .i64 x.lba,.int .u32 x.e,.int .u32 x.sl,.int .u64 x.n,.int .u64 x.tg.1,.int .u64 x.tg.2]
structure Lf.Wf (x:Lf):Prop where
 k : -9223372036854775808≤x.k∧x.k≤9223372036854775807
 lba : -9223372036854775808≤x.lba∧x.lba≤9223372036854775807
 e:0≤x.e∧x.e < 4294967296
 sl:0≤x.sl∧x.sl < 4294967296
 n:0≤x.n∧x.n < 18446744073709551616
 t1:0≤x.tg.1∧x.tg.1 < 18446744073709551616
 t2:0≤x.tg.2∧x.tg.2 < 18446744073709551616
def lbaOk (n:Int):Bool:=decide (0≤n)&&decide (n < 32)
def zq (x:Lf)(i:Int):Bool :=
 if i < 0∨16≤i then false
 else if x.k=0 then decide (x=lf0)
 else if x.k=2 then lbaOk x.lba&&decide (x={ lf0 with k:=2,d:=true,lba:=x.lba })
 else if x.k=1 then lbaOk x.lba&&decide (x.sl=i)&&decide (0 < x.e)
 else false
theorem zq0 (x y:Lf):(x.k==y.k&&(x.d==y.d&&(x.lba==y.lba&&(x.e==y.e&&(x.sl==y.sl&&(x.n==y.n&&(x.tg.1==y.tg.1&&(x.tg.2==y.tg.2&&true))))))))=decide (x=y):=by
 obtain ⟨a1,a2,a3,a4,a5,a6,a7,a8⟩:=x
 obtain ⟨b1,b2,b3,b4,b5,b6,b7,b8⟩:=y
 rw [Bool.eq_iff_iff]
 simp only [Bool.and_eq_true,beq_iff_eq,decide_eq_true_eq,and_true,Lf.mk.injEq,Prod.mk.injEq]
theorem zac (n:Int)(h:AHeap):AE Tryz.prog 166 [.int .i64 n] h (.bool (lbaOk n)) h:=by
 refine AE.pureW zjn (by simp) ?_
 unfold zbu;dsimp only [qQ,qR,qM,qG]
 (refine go ?_)
 (apply WL.andB;exact rfl;exact rfl;exact rfl;exact BP.of;intro hz1)
 ·(repeat first | (apply GW.goS;exact Stp.auto) | apply GW.nil | exact rfl)
 (refine go ?_)
 refine WW.ret (PureQ.finD ?_)
 exact fz_b (by simp [lbaOk])
theorem zor (x:Lf)(i:Int)(h:AHeap):AE Tryz.prog 112 [.agg (encL x),.int .i64 i] h (.bool (zq x i)) h:=by
 refine AE.pureW zom (by simp) ?_
 unfold zin;dsimp only [qQ,qR,qM,qG]
 (refine go ?_)
 (apply WL.orB;exact rfl;exact rfl;exact rfl;exact BP.of;intro hz1)
 ·(repeat first | (apply GW.goS;exact Stp.auto) | apply GW.nil | exact rfl)
 (refine go ?_)
 (refine WW.ifB rfl (fun hz2 => ?_) (fun hz2 => ?_))
 ·(refine go ?_)
  refine WW.ret (PureQ.finD ?_)
  exact fz_b (by simp at hz2;rw [zq,if_pos (by omega)])
 have hi:0≤i∧i < 16:=by simp at hz2;omega
 have e0:zq x i=if x.k=0 then decide (x=lf0)
  else if x.k=2 then lbaOk x.lba&&decide (x={ lf0 with k:=2,d:=true,lba:=x.lba })
  else if x.k=1 then lbaOk x.lba&&decide (x.sl=i)&&decide (0 < x.e) else false:=by rw [zq,if_neg (by omega)]
 (refine go ?_)
 (refine WW.ifB rfl (fun hz3 => ?_) (fun hz3 => ?_))
 ·(refine go ?_)
  refine WW.ret (PureQ.finD ?_)
  exact fz_b (by rw [e0,if_pos hz3];exact zq0 x lf0)
 (refine go ?_)
 (refine WW.ifB rfl (fun hz4 => ?_) (fun hz4 => ?_))
 ·(refine go ?_)
  refine WL.call rfl gM gSL (zac x.lba _) ?_
  (refine go ?_)
  cases hl:lbaOk x.lba with
  | false =>
   (refine go ?_)
   refine WW.ret (PureQ.finD ?_)
   exact fz_b (by rw [e0,if_neg hz3,if_pos hz4,hl];rfl)
  | true =>
   (refine go ?_)
   refine WW.ret (PureQ.finD ?_)
   exact fz_b (by rw [e0,if_neg hz3,if_pos hz4,hl,Bool.true_and];exact zq0 x { lf0 with k:=2,d:=true,lba:=x.lba })
 (refine go ?_)
 (refine WW.ifB rfl (fun hz5 => ?_) (fun hz5 => ?_))
 ·(refine go ?_)
  refine WL.call rfl gM gSL (zac x.lba _) ?_
  (refine go ?_)
  cases hl:lbaOk x.lba with
  | false =>
   (refine go ?_)
   refine WW.ret (PureQ.finD ?_)
   exact fz_b (by rw [e0,if_neg hz3,if_neg hz4,if_pos hz5,hl];rfl)
  | true =>
   (refine go ?_)
   (refine WL.spB rfl (fun hz6 => ?_) (fun hz6 => ?_))
   ·(refine go ?_)
    refine WW.ret (PureQ.finD ?_)
    refine fz_b ?_
    rw [e0,if_neg hz3,if_neg hz4,if_pos hz5,hl,decide_eq_true (show x.sl=i from hz6)]
    simp
   ·(refine go ?_)
    refine WW.ret (PureQ.finD ?_)
    refine fz_b ?_
    rw [e0,if_neg hz3,if_neg hz4,if_pos hz5,hl,decide_eq_false (show ¬ x.sl=i from hz6)]
    rfl
 (refine go ?_)
 refine WW.ret (PureQ.finD ?_)
 exact fz_b (by rw [e0,if_neg hz3,if_neg hz4,if_neg hz5])
def leafB (x:Lf):Bs:=putB x.k 1++(putB (if x.d then 1 else 0) 1++(putB x.lba 2++(putB x.e 4++(putB x.n 8++pairB x.tg))))
theorem z7h (x:Lf):(leafB x).length=32:=by
 simp only [leafB,List.length_append,pairB,z27 _ 1 (by decide),z27 _ 2 (by decide),z27 _ 4 (by decide),z27 _ 8 (by decide)]
theorem zdw (x:Lf)(hx:x.Wf)(i:Int)(h:AHeap):AE Tryz.prog 248 [.agg (encL x),.int .i64 i] h (.tup [.imm 1 ((if zq x i then leafB x else []).map encB),.bool (zq x i)]) h:=by
 obtain ⟨x1,x2,x3,x4,x5,x6,x7⟩:=hx
 refine AE.pureW zmn (by simp) ?_
 unfold zft;dsimp only [qQ,qR,qM,qG]
 (refine go ?_)
 refine WL.call rfl gM gSL (zor x i _) ?_
 cases hl:zq x i with
 | false =>
  (refine go ?_)
  refine WW.ret (PureQ.finD ?_)
  exact Fz.tup2 (.nil _) (fz_b rfl)
 | true =>
  have hk:0≤x.k∧x.k < 256∧0≤x.lba∧x.lba < 65536:=by
   rw [zq] at hl
   split at hl
   ·cases hl
   ·split at hl
    ·have:=of_decide_eq_true hl;subst this;simp [lf0]
    ·split at hl
     ·simp [lbaOk] at hl;omega
     ·split at hl
      ·simp [lbaOk] at hl;omega
      ·cases hl
  (refine go ?_)
  refine WW.thenI (fun e' h'=>subE [(2,some (.ptr h.next 0 0)),(6,some (.int .u64 (if x.d then 1 else 0)))] e'∧h'=h.put h.next (.mem 8 [encL x])) ?_ ?_
  ·cases hd:x.d
   ·(refine go ?_)
    exact ⟨rfl,gSUB,by simp only [encL,hd]⟩
   ·(refine go ?_)
    exact ⟨rfl,gSUB,by simp only [encL,hd]⟩
  rintro e7 _ ⟨hs7,rfl⟩
  refine WW.cvt (Cvt.sub hs7) ?_
  (repeat first | refine WL.go ?_ | refine WW.seq ?_ | refine WW.reg ?_ | refine WL.nil ?_ | refine WW.skip ?_ | refine WW.block ?_ | refine WW.exit ?_ | refine WW.condT rfl ?_ | refine WW.condF rfl ?_ | refine WL.gox ?_ | refine thenN ?_ | refine blkN ?_)
  refine WW.dregX [] [] [] gN (by decide +kernel) ?_
  (refine go ?_)
  refine DW.callS rfl gM gSL rfl (zu x.k 1 _ (by decide)) ?_
  (refine go ?_)
  refine DW.callS rfl gM gSL rfl (zu (if x.d then 1 else 0) 1 _ (by decide)) ?_
  (refine go ?_)
  refine DW.callS rfl gM gSL rfl (zu x.lba 2 _ (by decide)) ?_
  (refine go ?_)
  refine DW.callS rfl gM gSL rfl (zu x.e 4 _ (by decide)) ?_
  (refine go ?_)
  refine DW.callS rfl gM gSL rfl (zu x.n 8 _ (by decide)) ?_
  (refine go ?_)
  refine DW.callS rfl gM gSL rfl (z1e x.tg _) ?_
  (refine go ?_)
  have hfl:([putB x.k 1,putB (if x.d then 1 else 0) 1,putB x.lba 2,putB x.e 4,putB x.n 8,pairB x.tg]:List Bs).flatten=leafB x:=by simp [leafB]
  refine DW.callS rfl gM gSL rfl (z2c [putB x.k 1,putB (if x.d then 1 else 0) 1,putB x.lba 2,putB x.e 4,putB x.n 8,pairB x.tg] (by simp) (by rw [hfl,z7h];decide) _) ?_
  (refine go ?_)
  refine WW.ret (PureQ.finD ?_)
  exact Fz.tup2 (z6r (by rw [hfl];rfl)) (fz_b rfl)
def leafD (b:Bs)(i:Int):Lf:=⟨getB (b.take 1),getB ((b.drop 1).take 1)==1,getB ((b.drop 2).take 2),getB ((b.drop 4).take 4),if getB (b.take 1)=1 then i else 0,getB ((b.drop 8).take 8),pairF ((b.drop 16).take 16)⟩
theorem z2t (b:Bs)(k:Nat)(hb:b.length≤k)(hk:k≤8):0≤getB b∧getB b < ((256 ^ k:Nat):Int):=by
 obtain ⟨h1,h2⟩:=z1i b b.length rfl (by omega)
 have:256 ^ b.length≤256 ^ k:=Nat.pow_le_pow_right (by decide) hb
 omega
theorem zlh (b:Bs)(i:Int)(hi:0≤i∧i < 4294967296):(leafD b i).Wf:=by
 have r0:0≤getB (b.take 1)∧getB (b.take 1) < 256:=z2t _ 1 (by simp;omega) (by decide)
 have r2:0≤getB ((b.drop 2).take 2)∧getB ((b.drop 2).take 2) < 65536:=z2t _ 2 (by simp;omega) (by decide)
 have r4:0≤getB ((b.drop 4).take 4)∧getB ((b.drop 4).take 4) < 4294967296:=z2t _ 4 (by simp;omega) (by decide)
 have r8:0≤getB ((b.drop 8).take 8)∧getB ((b.drop 8).take 8) < 18446744073709551616:=z2t _ 8 (by simp;omega) (by decide)
 have r16:0≤getB ((((b.drop 16).take 16)).take 8)∧getB ((((b.drop 16).take 16)).take 8) < 18446744073709551616:=z2t _ 8 (by simp;omega) (by decide)
 have r24:0≤getB ((((b.drop 16).take 16)).drop 8)∧getB ((((b.drop 16).take 16)).drop 8) < 18446744073709551616:=z2t _ 8 (by simp;omega) (by decide)
 refine ⟨⟨?_,?_⟩,⟨?_,?_⟩,r4,?_,r8,r16,r24⟩
 ·show _≤getB (b.take 1);omega
 ·show getB (b.take 1)≤_;omega
 ·show _≤getB ((b.drop 2).take 2);omega
 ·show getB ((b.drop 2).take 2)≤_;omega
 ·show 0≤(if getB (b.take 1)=1 then i else 0)∧(if getB (b.take 1)=1 then i else 0) < _
  split <;> omega
def leafG (b:Bs)(i:Int):Bool:=decide (b.length=32)&&zq (leafD b i) i&&(leafB (leafD b i)==b)
def z6s (v:Nat→Int):Nat→List AV
 | 0 => [.int .u64 0, .int .u64 0, .int .u64 0, .int .u64 0, .int .u64 0]
 | 1 => [.int .u64 (v 0), .int .u64 0, .int .u64 0, .int .u64 0, .int .u64 0]
 | 2 => [.int .u64 (v 0), .int .u64 (v 1), .int .u64 0, .int .u64 0, .int .u64 0]
 | 3 => [.int .u64 (v 0), .int .u64 (v 1), .int .u64 (v 2), .int .u64 0, .int .u64 0]
 | 4 => [.int .u64 (v 0), .int .u64 (v 1), .int .u64 (v 2), .int .u64 (v 3), .int .u64 0]
 | _ => [.int .u64 (v 0), .int .u64 (v 1), .int .u64 (v 2), .int .u64 (v 3), .int .u64 (v 4)]
theorem zmx (b:Bs)(hb:b.length≤100000)(i:Int)(hi:0≤i∧i < 4294967296)(h:AHeap):AE Tryz.prog 188 [.imm 1 (b.map encB),.int .i64 i] h (.tup [.agg (encL (if leafG b i then leafD b i else lf0)),.bool (leafG b i)]) h:=by
 refine AE.pureW zmm (by simp) ?_
 unfold zfs;dsimp only [qQ,qR,qM,qG]
 (refine go ?_)
 refine WL.call rfl gM gSL (z7v b hb [1,1,2,4,8,16] (by simp) (by simp) _) ?_
 by_cases hl:b.length=32
 rotate_left
 ·have hl':¬ b.length=([1,1,2,4,8,16]:List Nat).sum:=hl
  have hg:leafG b i=false:=by simp [leafG,hl]
  rw [decide_eq_false hl',hg]
  (refine go ?_)
  refine WW.ret (PureQ.finD ?_)
  exact Fz.tup2 (zd rfl (by simp [AV.flat,lf0])) (fz_b rfl)
 have hl':b.length=([1,1,2,4,8,16]:List Nat).sum:=hl
 rw [decide_eq_true hl',if_pos hl']
 simp only [cutL,List.drop_drop,Nat.reduceAdd]
 (refine go ?_)
 refine WW.loopE (fun (j:Nat)=>[(0,some (.imm 1 (b.map encB))),(1,some (.int .i64 i)),(4,some (.ptr h.next 0 0)),(6,some (.imm 1 ([b.take 1,(b.drop 1).take 1,(b.drop 2).take 2,(b.drop 4).take 4,(b.drop 8).take 8,(b.drop 16).take 16].map encR))),(8,some (.ptr (h.next+1) 0 0)),(9,some (.ptr (h.next+2) 0 0)),(21,some (.int .i64 j))])
  (fun j h'=>h'=((h.put h.next (.mem 8 [encL lf0])).put (h.next+1) (.mem 8 [encL lf0])).put (h.next+2) (.mem 5 [z6s (fun j=>getB (([b.take 1,(b.drop 1).take 1,(b.drop 2).take 2,(b.drop 4).take 4,(b.drop 8).take 8]:List Bs).getD j [])) j])∧j≤5) (fun j=>5 - j) 0 gSUB ⟨rfl,by omega⟩ ?_
 rintro j _ ⟨rfl,g2⟩
 (refine go ?_)
 (refine WW.ifB rfl (fun hz1 => ?_) (fun hz1 => ?_))
 ·have hj:j=0∨j=1∨j=2∨j=3∨j=4:=by omega
  rcases hj with rfl | rfl | rfl | rfl | rfl
  ·simp only [z6s,List.getD_cons_zero,List.getD_cons_succ]
   (refine go ?_)
   refine WL.call rfl gM gSL (z14 (b.take 1) (by simp;omega) _) ?_
   (refine go ?_)
   exact ⟨1,gSUB,⟨z4u,by omega⟩,by omega⟩
  ·simp only [z6s,List.getD_cons_zero,List.getD_cons_succ]
   (refine go ?_)
   refine WL.call rfl gM gSL (z14 ((b.drop 1).take 1) (by simp;omega) _) ?_
   (refine go ?_)
   exact ⟨2,gSUB,⟨z4u,by omega⟩,by omega⟩
  ·simp only [z6s,List.getD_cons_zero,List.getD_cons_succ]
   (refine go ?_)
   refine WL.call rfl gM gSL (z14 ((b.drop 2).take 2) (by simp;omega) _) ?_
   (refine go ?_)
   exact ⟨3,gSUB,⟨z4u,by omega⟩,by omega⟩
  ·simp only [z6s,List.getD_cons_zero,List.getD_cons_succ]
   (refine go ?_)
   refine WL.call rfl gM gSL (z14 ((b.drop 4).take 4) (by simp;omega) _) ?_
   (refine go ?_)
   exact ⟨4,gSUB,⟨z4u,by omega⟩,by omega⟩
  ·simp only [z6s,List.getD_cons_zero,List.getD_cons_succ]
   (refine go ?_)
   refine WL.call rfl gM gSL (z14 ((b.drop 8).take 8) (by simp;omega) _) ?_
   (refine go ?_)
   exact ⟨5,gSUB,⟨z4u,by omega⟩,by omega⟩
 ·have hj:j=5:=by omega
  subst hj
  have r0:0≤getB (b.take 1)∧getB (b.take 1) < 256:=z1i _ 1 (by simp;omega) (by decide)
  have r2:0≤getB ((b.drop 2).take 2)∧getB ((b.drop 2).take 2) < 65536:=z1i _ 2 (by simp;omega) (by decide)
  have r4:0≤getB ((b.drop 4).take 4)∧getB ((b.drop 4).take 4) < 4294967296:=z1i _ 4 (by simp;omega) (by decide)
  have r8:0≤getB ((b.drop 8).take 8)∧getB ((b.drop 8).take 8) < 18446744073709551616:=z1i _ 8 (by simp;omega) (by decide)
  simp only [z6s,List.getD_cons_zero,List.getD_cons_succ]
  have hst:∀ x:Lf,encL x=[.int .i64 x.k,.bool x.d,.int .i64 x.lba,.int .u32 x.e,.int .u32 x.sl,.int .u64 x.n,.int .u64 x.tg.1,.int .u64 x.tg.2]:=fun _=>rfl
  rw [show encL lf0=[.int .i64 0,.bool false,.int .i64 0,.int .u32 0,.int .u32 0,.int .u64 0,.int .u64 0,.int .u64 0] from rfl]
  (repeat first | refine WL.go ?_ | refine WW.seq ?_ | refine WW.reg ?_ | refine WL.nil ?_ | refine WW.skip ?_ | refine WW.block ?_ | refine WW.exit ?_ | refine WW.condT rfl ?_ | refine WW.condF rfl ?_ | refine WL.gox ?_ | refine thenN ?_ | refine blkN ?_)
  refine WW.dregX [10,12,14] [1,4,7] [h.next+1] gN (by decide +kernel) ?_
  (repeat first | refine DW.go ?_ | refine DW.goWP ?_ | refine DW.goF ?_ | refine DW.endL ?_ | refine thenN ?_ | refine blkN ?_)
  refine WW.named (fun F=>F.get h.next=some (.mem 8 [[.int .i64 0,.bool false,.int .i64 0,.int .u32 0,.int .u32 0,.int .u64 0,.int .u64 0,.int .u64 0]])∧F.get (h.next+1)=some (.mem 8 [[.int .i64 (getB (b.take 1)),.bool (getB ((b.drop 1).take 1)==1),.int .i64 (getB ((b.drop 2).take 2)),.int .u32 0,.int .u32 0,.int .u64 0,.int .u64 0,.int .u64 0]])∧F.get (h.next+2)=some (.mem 5 [[.int .u64 (getB (b.take 1)),.int .u64 (getB ((b.drop 1).take 1)),.int .u64 (getB ((b.drop 2).take 2)),.int .u64 (getB ((b.drop 4).take 4)),.int .u64 (getB ((b.drop 8).take 8))]])∧F.next=h.next+3∧Keeps h F)
   ⟨gH,gH,gH,(gN:_=h.next+1+1+1),gK⟩ ?_
  rintro F ⟨f0,f1,f2,f3,f4⟩
  (refine go ?_)
  refine WW.thenI (fun e' F'=>subE [(0,some (.imm 1 (b.map encB))),(1,some (.int .i64 i)),(4,some (.ptr h.next 0 0)),(6,some (.imm 1 ([b.take 1,(b.drop 1).take 1,(b.drop 2).take 2,(b.drop 4).take 4,(b.drop 8).take 8,(b.drop 16).take 16].map encR))),(8,some (.ptr (h.next+1) 0 0)),(9,some (.ptr (h.next+2) 0 0))] e' ∧
   F'.get h.next=some (.mem 8 [[.int .i64 0,.bool false,.int .i64 0,.int .u32 0,.int .u32 0,.int .u64 0,.int .u64 0,.int .u64 0]])∧F'.get (h.next+1)=some (.mem 8 [[.int .i64 (getB (b.take 1)),.bool (getB ((b.drop 1).take 1)==1),.int .i64 (getB ((b.drop 2).take 2)),.int .u32 0,.int .u32 (if getB (b.take 1)=1 then i else 0),.int .u64 0,.int .u64 0,.int .u64 0]])∧F'.get (h.next+2)=some (.mem 5 [[.int .u64 (getB (b.take 1)),.int .u64 (getB ((b.drop 1).take 1)),.int .u64 (getB ((b.drop 2).take 2)),.int .u64 (getB ((b.drop 4).take 4)),.int .u64 (getB ((b.drop 8).take 8))]])∧F'.next=h.next+3∧Keeps h F') ?_ ?_
  ·(refine WW.ifB rfl (fun hz2 => ?_) (fun hz2 => ?_))
   ·rw [if_pos hz2]
    (refine go ?_)
    exact ⟨rfl,gSUB,gH,gH,gH,(gN:_=h.next+3),gK⟩
   ·rw [if_neg hz2]
    (refine go ?_)
    exact ⟨rfl,gSUB,gH,gH,gH,(gN:_=h.next+3),gK⟩
  clear f0 f1 f2 f3 f4
  rintro e7 F2 ⟨hs7,f0,f1,f2,f3,f4⟩
  refine WW.cvt (Cvt.sub hs7) ?_
  (repeat first | refine WL.go ?_ | refine WW.seq ?_ | refine WW.reg ?_ | refine WL.nil ?_ | refine WW.skip ?_ | refine WW.block ?_ | refine WW.exit ?_ | refine WW.condT rfl ?_ | refine WW.condF rfl ?_ | refine WL.gox ?_ | refine thenN ?_ | refine blkN ?_)
  refine WW.dregX [7,10] [1,4] [h.next+1] gN (by decide +kernel) ?_
  (repeat first | refine DW.go ?_ | refine DW.goWP ?_ | refine DW.goF ?_ | refine DW.endL ?_ | refine thenN ?_ | refine blkN ?_)
  (refine go ?_)
  refine WL.call rfl gM gSL (z2o _ (by simp;omega) _) ?_
  (refine go ?_)
  have hput:=zdw (leafD b i) (zlh b i hi) i
  refine WL.call rfl gM gSL (hput _) ?_
  have hg:leafG b i=(zq (leafD b i) i&&(leafB (leafD b i)==b)):=by rw [leafG,decide_eq_true hl,Bool.true_and]
  cases hIs:zq (leafD b i) i with
  | false =>
   rw [hIs,Bool.false_and] at hg
   rw [hg]
   (refine go ?_)
   refine WW.ret (PureQ.finD ?_)
   exact Fz.tup2 (zd rfl (by simp [AV.flat,encL])) (fz_b rfl)
  | true =>
   rw [hIs,Bool.true_and] at hg
   rw [hg]
   simp only [if_true]
   (refine go ?_)
   refine WL.call rfl gM gSL (z4p (leafB (leafD b i)) b _) ?_
   cases he:leafB (leafD b i)==b with
   | false =>
    (refine go ?_)
    refine WW.ret (PureQ.finD ?_)
    exact Fz.tup2 (zd rfl (by simp [AV.flat,encL])) (fz_b rfl)
   | true =>
    (refine go ?_)
    refine WW.ret (PureQ.finD ?_)
    exact Fz.tup2 (zd rfl (by simp [AV.flat,encL])) (fz_b rfl)
end Go.Proofs.YthblcmnhiccnhaaGreat


namespace Go.Proofs.YthblcmnhiccnhaaGreat
open Go Go.Abs

def ofK (seed e:Int):Pr:=encF (seed,seed) (0,e)
def KsS.obj (p te:Nat)(k:KsS):AObj := .mem 3 [[.ptr p 0 0,.int .u64 k.seed,.ref te 0 k.epochs.length]]
def KsS.cur (k:KsS):Int:=k.epochs.getLastD 0
structure KsAt (h:AHeap)(p k te:Nat)(s:KsS):Prop where
 ob:h.get k=some (s.obj p te)
 tl:h.get te=some (.mem 1 (s.epochs.map encE))
 ne:s.epochs≠[]
 sm:s.epochs.length≤1000000
theorem zli (e:Int):∀ v∈encE e,AV.flat v=true:=by simp [encE,AV.flat]
theorem zmy {h:AHeap}{nx p:Nat}(hn:h.next=nx)(seed:Int):AE Tryz.prog 70 [.int .u64 seed,.ptr p 0 0] h (.ptr (nx+1) 0 0) ((h.put nx (.mem 1 [[.int .u32 1]])).put (nx+1) ((⟨seed,[1]⟩:KsS).obj p nx)):=by
 subst hn
 refine AC.introW zmu (by simp) ?_
 unfold zg7;dsimp only [qQ,qR,qM,qG]
 (repeat first | refine WW.seq ?_ | refine WW.reg ?_ | refine WL.nil ?_ | refine WW.skip ?_ | refine WW.block ?_ | refine thenN ?_ | refine blkN ?_);iterate 1 (refine WL.go ?_)
 (repeat first | refine WW.seq ?_ | refine WW.reg ?_ | refine WL.nil ?_ | refine WW.skip ?_ | refine WW.block ?_ | refine thenN ?_ | refine blkN ?_);iterate 2 (refine WL.go ?_)
 refine WL.fx1 (FX.bslN (nx:=h.next) rfl rfl rfl rfl gM) ?_
 (refine go ?_)
 exact WW.ret ⟨.inl rfl,_,gRES,rfl,rfl⟩
theorem z1r {h:AHeap}{p k te:Nat}{s:KsS}(hk:KsAt h p k te s):AE Tryz.prog 30 [.ptr k 0 0] h (.int .u32 s.cur) h:=by
 obtain ⟨q1,q2,q3,q4⟩:=hk
 refine AE.wf fun hwf => ?_
 have h0:=hwf _ _ q1
 have hl:0 < s.epochs.length:=List.length_pos_iff.2 q3
 refine AE.pureW z9t (by simp) ?_
 unfold z4h;dsimp only [qQ,qR,qM,qG]
 simp only [KsS.obj] at q1
 (repeat first | refine WL.go ?_ | refine WW.seq ?_ | refine WW.reg ?_ | refine WL.nil ?_ | refine WW.skip ?_ | refine WW.block ?_ | refine WW.exit ?_ | refine WW.condT rfl ?_ | refine WW.condF rfl ?_ | refine WL.gox ?_ | refine thenN ?_ | refine blkN ?_)
 refine WW.dregX [] [] [] gN (by decide +kernel) ?_
 (refine go ?_)
 refine WW.ret (PureQ.finD ?_)
 refine clo_i ?_
 rw [KsS.cur,List.getLastD_eq_getLast?,List.getLast?_eq_getElem?,List.getElem?_eq_getElem (by omega)]
 simp only [Option.getD_some]
 congr 1
 omega
theorem zep {h:AHeap}{te:Nat}(l:List Int)(hl:l.length≤1000000)(hne:l≠[])(ht:h.get te=some (.mem 1 (l.map encE))):AE Tryz.prog 89 [.ref te 0 l.length] h (.imm 1 (l.map encE)) h:=by
 refine AE.wf fun hwf => ?_
 have h0:=hwf _ _ ht
 refine AE.pureW z4r (by simp) ?_
 unfold z29;dsimp only [qQ,qR,qM,qG]
 (repeat first | refine WW.seq ?_ | refine WW.reg ?_ | refine WL.nil ?_ | refine WW.skip ?_ | refine WW.block ?_ | refine thenN ?_ | refine blkN ?_);iterate 1 (refine WL.go ?_)
 (repeat first | refine WW.seq ?_ | refine WW.reg ?_ | refine WL.nil ?_ | refine WW.skip ?_ | refine WW.block ?_ | refine thenN ?_ | refine blkN ?_);iterate 1 (refine WL.go ?_)
 refine WL.go (hs:=Stp.isnil (t:=false) rfl rfl gM) ?_
 (repeat first | refine WW.seq ?_ | refine WW.reg ?_ | refine WL.nil ?_ | refine WW.skip ?_ | refine WW.block ?_ | refine thenN ?_ | refine blkN ?_)
 refine WW.condF rfl ?_
 (refine go ?_)
 refine WW.ret (PureQ.finD ?_)
 rw [List.drop_zero,List.take_of_length_le (by simp)]
 exact z83 rfl (z2m zli)
theorem zc5 (l:List Int)(hl:l.length≤1000000)(v:Int)(h:AHeap):AE Tryz.prog 109 [.imm 1 (l.map encE),.int .u32 v] h (.bool (decide (v∈l))) h:=by
 have hix:AE Tryz.prog 164 [.imm 1 (l.map encE),.int .u32 v] h (.int .i64 (if v∈l then (l.idxOf v:Int) else -1)) h:=by
  refine AE.pureW z4q (by simp) ?_
  unfold z28;dsimp only [qQ,qR,qM,qG]
  (refine go ?_)
  refine WW.loopE (fun (i:Nat)=>[(0,some (.imm 1 (l.map encE))),(1,some (.int .u32 v)),(7,some (.int .i64 l.length)),(8,some (.int .i64 i))])
   (fun i h'=>h'=h∧i≤l.length∧v ∉ l.take i) (fun i=>l.length - i) 0 gSUB ⟨rfl,Nat.zero_le _,by simp⟩ ?_
  rintro i h' ⟨rfl,c1,c2⟩
  (refine go ?_)
  (refine WW.ifB rfl (fun hz1 => ?_) (fun hz1 => ?_))
  ·have hi:i < l.length:=by omega
   (refine go ?_)
   (refine WW.ifB rfl (fun hz2 => ?_) (fun hz2 => ?_))
   ·(refine go ?_)
    refine WW.ret (PureQ.finD ?_)
    refine clo_i ?_
    have hm:v∈l:=by rw [hz2];exact List.getElem_mem hi
    rw [if_pos hm]
    have h1:l=l.take i++v::l.drop (i+1):=by
     conv=>lhs;rw [← List.take_append_drop i l,List.drop_eq_getElem_cons hi,← hz2]
    have h2:l.idxOf v=i:=by
     rw [h1,List.idxOf_append,if_neg c2]
     simp;omega
    rw [h2]
   ·(refine go ?_)
    refine ⟨i+1,gSUB,⟨rfl,by omega,?_⟩,by omega⟩
    rw [List.take_succ_eq_append_getElem hi,List.mem_append,List.mem_singleton]
    rintro (h3 | h3)
    ·exact c2 h3
    ·exact hz2 h3
  ·(refine go ?_)
   refine WW.ret (PureQ.finD ?_)
   refine clo_i ?_
   rw [List.take_of_length_le (by omega)] at c2
   rw [if_neg c2]
 refine AE.pureW z3m (by simp) ?_
 unfold z1q;dsimp only [qQ,qR,qM,qG]
 (refine go ?_)
 refine WL.call rfl gM gSL (hix) ?_
 (refine go ?_)
 refine WW.ret (PureQ.finD ?_)
 refine fz_b ?_
 split <;> simp_all <;> omega
theorem z8u {h:AHeap}{p k te:Nat}{s:KsS}(hk:KsAt h p k te s):AE Tryz.prog 34 [.ptr k 0 0] h (.imm 1 (s.epochs.map encE)) h:=by
 obtain ⟨q1,q2,q3,q4⟩:=hk
 refine AE.wf fun hwf => ?_
 have h0:=hwf _ _ q1
 refine AE.pureW zay (by simp) ?_
 unfold z57;dsimp only [qQ,qR,qM,qG]
 simp only [KsS.obj] at q1
 (refine go ?_)
 refine WL.call rfl gM gSL (zep s.epochs q4 q3 q2) ?_
 (refine go ?_)
 refine WW.ret (PureQ.finD ?_)
 exact .clo _ (.imm _ _ fun x hx v hv=>by
  obtain ⟨i,_,rfl⟩:=List.mem_map.1 hx
  exact z13 (zli i v hv))
theorem zos (seed e:Int)(he:0≤e∧e < 4294967296)(h:AHeap):AE Tryz.prog 110 [.int .u64 seed,.int .u32 e] h (.agg (encP (ofK seed e))) h:=by
 refine AE.pureW zoq (by simp) ?_
 unfold ziw;dsimp only [qQ,qR,qM,qG]
 (refine go ?_)
 refine WL.call rfl gM gSL (z1c (seed,seed) (0,e) _) ?_
 (refine go ?_)
 refine WW.ret (PureQ.finD ?_)
 exact zd rfl (flatP _)
theorem z7y {h:AHeap}{p k te:Nat}{s:KsS}(hk:KsAt h p k te s)(e:Int)(he:0≤e∧e < 4294967296):AE Tryz.prog 58 [.ptr k 0 0,.int .u32 e] h (.tup [.agg (encP (if e∈s.epochs then ofK s.seed e else (0,0))),.bool (decide (e∈s.epochs))]) h:=by
 have hk':=hk
 obtain ⟨q1,q2,q3,q4⟩:=hk
 refine AE.wf fun hwf => ?_
 have h0:=hwf _ _ q1
 have h1:=hwf _ _ q2
 refine AE.pureW zem (by simp) ?_
 unfold z7f;dsimp only [qQ,qR,qM,qG]
 simp only [KsS.obj] at q1
 (refine go ?_)
 refine WL.call rfl gM gSL (z8u ⟨(z3 (by omega) hk'.ob),(z3 (by omega) q2),q3,q4⟩) ?_
 (refine go ?_)
 refine WL.call rfl gM gSL (zc5 s.epochs q4 e _) ?_
 (refine go ?_)
 (refine WW.ifB rfl (fun hz1 => ?_) (fun hz1 => ?_))
 ·(refine go ?_)
  refine WW.ret (PureQ.finD ?_)
  exact Fz.tup2 (zd (by simp [hz1,encP,putC,AV.cs]) (by simp [putC,AV.cs,AV.flat,encP])) (fz_b (by simp [hz1]))
 ·have hm:e∈s.epochs:=by simpa using hz1
  (refine go ?_)
  refine WL.call rfl gM gSL (zos s.seed e he _) ?_
  (refine go ?_)
  refine WW.ret (PureQ.finD ?_)
  exact Fz.tup2 (zd (by simp [hm,encP,putC,AV.cs]) (by simp [putC,AV.cs,AV.flat,encP])) (fz_b (by simp [hm]))
def KsS.add (k:KsS)(ok:Bool):KsS:=if ok then { k with epochs:=k.epochs++[k.cur+1] } else k
end Go.Proofs.YthblcmnhiccnhaaGreat


namespace Go.Proofs.YthblcmnhiccnhaaGreat
open Go Go.Abs


def isG (n:Int):Bool:=n==4 || n==8 || n==16



theorem z5x (n:Int)(h:AHeap):AE Tryz.prog 62 [.int .i64 n] h (.bool (isG n)) h:=by
 refine AE.pureW zoh (by simp) ?_
 unfold zii;dsimp only [qQ,qR,qM,qG]
 (refine go ?_)
 (refine WL.spB rfl (fun hz => ?_) (fun hz => ?_)) <;> (refine go ?_)
 ·refine WW.ret (PureQ.finD ?_)
  exact fz_b (by simp [isG,hz])
 (refine WL.spB rfl (fun hz8 => ?_) (fun hz8 => ?_)) <;> (refine go ?_)
 all_goals
  refine WW.ret (PureQ.finD ?_)
  exact fz_b (by simp [isG,hz,hz8])

theorem zc6 (p:Pr):∀ v∈encP p,AV.flat v=true:=by simp [encP,AV.flat]

end Go.Proofs.YthblcmnhiccnhaaGreat


namespace Go.Proofs.YthblcmnhiccnhaaGreat
open Go Go.Abs

theorem z8 {n:Int}(h:isG n=true):n=4∨n=8∨n=16:=by simp [isG] at h;omega
def sizeG (n:Int):Int:=if isG n then n*160+120 else 0
def recG (n i:Int):Int:=if isG n&&decide (0≤i)&&decide (i < 2) then n*160+i*60 else -1
theorem z1n (n i m:Int)(h:AHeap):AE Tryz.prog 180 [.agg [.int .i64 n],.int .i64 i,.int .i64 m] h (.bool (isG n&&decide (0≤i)&&decide (i < m))) h:=by
 refine AE.pureW zbr (by simp) ?_
 unfold z5o;dsimp only [qQ,qR,qM,qG]
 (refine go ?_)
 refine WL.call rfl gM gSL (z5x n _) ?_
 (refine go ?_)
 (apply WL.andB;exact rfl;exact rfl;exact rfl;exact BP.of;intro hz1)
 ·(repeat first | (apply GW.goS;exact Stp.auto) | apply GW.nil | exact rfl)
 (refine go ?_)
 (apply WL.andB;exact rfl;exact rfl;exact rfl;exact BP.of;intro hz2)
 ·(repeat first | (apply GW.goS;exact Stp.auto) | apply GW.nil | exact rfl)
 (refine go ?_)
 refine WW.ret (PureQ.finD ?_)
 exact fz_b (by simp)
theorem zc7 (n:Int)(hn:isG n=true)(h:AHeap):AE Tryz.prog 181 [.agg [.int .i64 n]] h (.int .i64 (n*64)) h:=by
 have:=z8 hn
 refine AE.pureW zd4 (by simp) ?_
 unfold z6l;dsimp only [qQ,qR,qM,qG]
 (refine go ?_)
 refine WW.ret (PureQ.finD ?_)
 exact clo_i rfl
theorem zdx (n i:Int)(h:AHeap):AE Tryz.prog 122 [.agg [.int .i64 n],.int .i64 i] h (.int .i64 (recG n i)) h:=by
 refine AE.pureW zei (by simp) ?_
 unfold z7c;dsimp only [qQ,qR,qM,qG]
 (refine go ?_)
 refine WL.call rfl gM gSL (z1n n i 2 _) ?_
 cases hc:(isG n&&decide (0≤i)&&decide (i < 2)) with
 | false =>
  (refine go ?_)
  refine WW.ret (PureQ.finD ?_)
  exact clo_i (by rw [recG,hc];rfl)
 | true =>
  have hb:isG n=true∧0≤i∧i < 2:=by simpa [and_assoc] using hc
  obtain ⟨hg,i0,i1⟩:=hb
  have:=z8 hg
  (repeat first | refine WL.go ?_ | refine WW.seq ?_ | refine WW.reg ?_ | refine WL.nil ?_ | refine WW.skip ?_ | refine WW.block ?_ | refine WW.exit ?_ | refine WW.condT rfl ?_ | refine WW.condF rfl ?_ | refine WL.gox ?_ | refine thenN ?_ | refine blkN ?_)
  refine WW.dregX [] [] [] gN (by decide +kernel) ?_
  (refine go ?_)
  refine DW.callS rfl gM gSL rfl (zc7 n hg _) ?_
  (refine go ?_)
  refine WW.ret (PureQ.finD ?_)
  exact clo_i (by rw [recG,hc,if_pos rfl];omega)
theorem zlj (n:Int)(h:AHeap):AE Tryz.prog 67 [.agg [.int .i64 n]] h (.int .i64 (sizeG n)) h:=by
 refine AE.pureW zd7 (by simp) ?_
 unfold z6o;dsimp only [qQ,qR,qM,qG]
 (refine go ?_)
 refine WL.call rfl gM gSL (z5x n _) ?_
 cases hg:isG n with
 | false =>
  (refine go ?_)
  refine WW.ret (PureQ.finD ?_)
  exact clo_i (by rw [sizeG,hg];rfl)
 | true =>
  have:=z8 hg
  have hr:recG n 1=n*160+60:=by rw [recG,hg];simp
  (refine go ?_)
  refine WL.call rfl gM gSL (zdx n 1 _) ?_
  rw [hr]
  (refine go ?_)
  refine WW.ret (PureQ.finD ?_)
  exact clo_i (by rw [sizeG,hg,if_pos rfl];omega)
end Go.Proofs.YthblcmnhiccnhaaGreat


namespace Go.Proofs.YthblcmnhiccnhaaGreat
open Go Go.Abs

structure Rt where
 c:Int
 e:Int
 n:Int
 g:Pr
 deriving DecidableEq
def rt0:Rt:=⟨0,0,0,(0,0)⟩
def encRt (r:Rt):List AV:=[.int .u64 r.c,.int .u32 r.e,.int .i64 r.n,.int .u64 r.g.1,.int .u64 r.g.2]
structure Rt.Wf (r:Rt):Prop where
 c:0≤r.c∧r.c < 18446744073709551616
 e:0≤r.e∧r.e < 4294967296
 g1:0≤r.g.1∧r.g.1 < 18446744073709551616
 g2:0≤r.g.2∧r.g.2 < 18446744073709551616
def rootB (r:Rt):Bs:=putB r.c 8++(putB r.e 4++(putB r.n 4++pairB r.g))
theorem z7i (r:Rt):(rootB r).length=32:=by
 simp only [rootB,List.length_append,pairB,z27 _ 4 (by decide),z27 _ 8 (by decide)]
theorem z7j (n:Int)(h:AHeap):AE Tryz.prog 280 [.int .i64 n] h (.bool (isG n)) h:=by
 refine AE.pureW zfx (by simp) ?_
 unfold z8m;dsimp only [qQ,qR,qM,qG]
 (refine go ?_)
 (apply WL.orB;exact rfl;exact rfl;exact rfl;exact BP.of;intro hz1)
 ·(repeat first | (apply GW.goS;exact Stp.auto) | apply GW.nil | exact rfl)
 (refine go ?_)
 (apply WL.orB;exact rfl;exact rfl;exact rfl;exact BP.of;intro hz2)
 ·(repeat first | (apply GW.goS;exact Stp.auto) | apply GW.nil | exact rfl)
 (refine go ?_)
 refine WW.ret (PureQ.finD ?_)
 exact fz_b rfl
theorem zdy (r:Rt)(hr:r.Wf)(h:AHeap):AE Tryz.prog 285 [.agg (encRt r)] h (.tup [.imm 1 ((if isG r.n then rootB r else []).map encB),.bool (isG r.n)]) h:=by
 obtain ⟨x1,x2,x3,x4⟩:=hr
 refine AE.pureW zmp (by simp) ?_
 unfold zfw;dsimp only [qQ,qR,qM,qG]
 (refine go ?_)
 refine WL.call rfl gM gSL (z7j r.n _) ?_
 cases hl:isG r.n with
 | false =>
  (refine go ?_)
  refine WW.ret (PureQ.finD ?_)
  exact Fz.tup2 (.nil _) (fz_b rfl)
 | true =>
  have hg:=z8 hl
  (repeat first | refine WL.go ?_ | refine WW.seq ?_ | refine WW.reg ?_ | refine WL.nil ?_ | refine WW.skip ?_ | refine WW.block ?_ | refine WW.exit ?_ | refine WW.condT rfl ?_ | refine WW.condF rfl ?_ | refine WL.gox ?_ | refine thenN ?_ | refine blkN ?_)
  refine WW.dregX [] [] [] gN (by decide +kernel) ?_
  (refine go ?_)
  refine DW.callS rfl gM gSL rfl (zu r.c 8 _ (by decide)) ?_
  (refine go ?_)
  refine DW.callS rfl gM gSL rfl (zu r.e 4 _ (by decide)) ?_
  (refine go ?_)
  refine DW.callS rfl gM gSL rfl (zu r.n 4 _ (by decide)) ?_
  (refine go ?_)
  refine DW.callS rfl gM gSL rfl (z1e r.g _) ?_
  (refine go ?_)
  have hfl:([putB r.c 8,putB r.e 4,putB r.n 4,pairB r.g]:List Bs).flatten=rootB r:=by simp [rootB]
  refine DW.callS rfl gM gSL rfl (z2c [putB r.c 8,putB r.e 4,putB r.n 4,pairB r.g] (by simp) (by rw [hfl,z7i];decide) _) ?_
  (refine go ?_)
  refine WW.ret (PureQ.finD ?_)
  exact Fz.tup2 (z6r (by rw [hfl];rfl)) (fz_b rfl)
def rootD (b:Bs):Rt:=⟨getB (b.take 8),getB ((b.drop 8).take 4),getB ((b.drop 12).take 4),pairF ((b.drop 16).take 16)⟩
def rootG (b:Bs):Bool:=decide (b.length=32)&&isG (getB ((b.drop 12).take 4))
theorem zmz (b:Bs)(hb:b.length≤100000)(h:AHeap):AE Tryz.prog 244 [.imm 1 (b.map encB)] h (.tup [.agg (encRt (if rootG b then rootD b else rt0)),.bool (rootG b)]) h:=by
 refine AE.pureW zmo (by simp) ?_
 unfold zfv;dsimp only [qQ,qR,qM,qG]
 (refine go ?_)
 refine WL.call rfl gM gSL (z7v b hb [8,4,4,16] (by simp) (by simp) _) ?_
 by_cases hl:b.length=32
 rotate_left
 ·have hl':¬ b.length=([8,4,4,16]:List Nat).sum:=hl
  have hg:rootG b=false:=by simp [rootG,hl]
  rw [decide_eq_false hl',hg]
  (refine go ?_)
  refine WW.ret (PureQ.finD ?_)
  exact Fz.tup2 (zd rfl (by simp [AV.flat])) (fz_b rfl)
 have hl':b.length=([8,4,4,16]:List Nat).sum:=hl
 rw [decide_eq_true hl',if_pos hl']
 simp only [cutL,List.drop_drop,Nat.reduceAdd]
 have r0:0≤getB (b.take 8)∧getB (b.take 8) < 18446744073709551616:=z1i _ 8 (by simp;omega) (by decide)
 have r1:0≤getB ((b.drop 8).take 4)∧getB ((b.drop 8).take 4) < 4294967296:=z1i _ 4 (by simp;omega) (by decide)
 have r2:0≤getB ((b.drop 12).take 4)∧getB ((b.drop 12).take 4) < 4294967296:=z1i _ 4 (by simp;omega) (by decide)
 (refine go ?_)
 refine WL.call rfl gM gSL (z14 (b.take 8) (by simp;omega) _) ?_
 (refine go ?_)
 refine WL.call rfl gM gSL (z14 ((b.drop 8).take 4) (by simp;omega) _) ?_
 (refine go ?_)
 refine WL.call rfl gM gSL (z14 ((b.drop 12).take 4) (by simp;omega) _) ?_
 (refine go ?_)
 refine WL.call rfl gM gSL (z2o ((b.drop 16).take 16) (by simp;omega) _) ?_
 (refine go ?_)
 refine WL.call rfl gM gSL (z7j (getB ((b.drop 12).take 4)) _) ?_
 have hg:rootG b=isG (getB ((b.drop 12).take 4)):=by rw [rootG,decide_eq_true hl,Bool.true_and]
 rw [hg]
 cases hIs:isG (getB ((b.drop 12).take 4)) with
 | false =>
  (refine go ?_)
  refine WW.ret (PureQ.finD ?_)
  exact Fz.tup2 (zd rfl (by simp [AV.flat])) (fz_b rfl)
 | true =>
  (refine go ?_)
  refine WW.ret (PureQ.finD ?_)
  exact Fz.tup2 (zd rfl (by simp [AV.flat,encP])) (fz_b rfl)
def recB (e v:Int)(b:Bs)(tg:Pr):Bs:=putB e 4++(putB v 8++(b++pairB tg))
theorem zeq (e v:Int)(b:Bs)(tg:Pr)(hb:b.length=32):(recB e v b tg).length=60:=by
 simp only [recB,List.length_append,pairB,z27 _ 4 (by decide),z27 _ 8 (by decide),hb]
theorem zhn (e v:Int)(he:0≤e∧e < 4294967296)(hv:0≤v∧v < 18446744073709551616)(b:Bs)(hb:b.length=32)(tg:Pr)(h:AHeap) :
  AE Tryz.prog 286 [.agg (encN (e,65535,v)),.agg (encS b tg)] h (.tup [.imm 1 ((recB e v b tg).map encB),.bool true]) h:=by
 refine AE.pureW zhk (by simp) ?_
 unfold zaa;dsimp only [qQ,qR,qM,qG]
 (refine go ?_)
 (apply WL.orB;exact rfl;exact rfl;exact rfl;exact BP.of;intro hz1)
 ·(repeat first | (apply GW.goS;exact Stp.auto) | apply GW.nil | exact rfl)
 (refine go ?_)
 (refine WW.ifB rfl (fun hz2 => ?_) (fun hz2 => ?_))
 ·exfalso;simp [hb] at hz2
 (repeat first | refine WL.go ?_ | refine WW.seq ?_ | refine WW.reg ?_ | refine WL.nil ?_ | refine WW.skip ?_ | refine WW.block ?_ | refine WW.exit ?_ | refine WW.condT rfl ?_ | refine WW.condF rfl ?_ | refine WL.gox ?_ | refine thenN ?_ | refine blkN ?_)
 refine WW.dregX [] [] [] gN (by decide +kernel) ?_
 (refine go ?_)
 refine DW.callS rfl gM gSL rfl (zu e 4 _ (by decide)) ?_
 (refine go ?_)
 refine DW.callS rfl gM gSL rfl (zu v 8 _ (by decide)) ?_
 (refine go ?_)
 refine DW.callS rfl gM gSL rfl (z1e tg _) ?_
 (refine go ?_)
 have hfl:([putB e 4,putB v 8,b,pairB tg]:List Bs).flatten=recB e v b tg:=by simp [recB]
 refine DW.callS rfl gM gSL rfl (z2c [putB e 4,putB v 8,b,pairB tg] (by simp) (by rw [hfl,zeq _ _ _ _ hb];decide) _) ?_
 (refine go ?_)
 refine WW.ret (PureQ.finD ?_)
 exact Fz.tup2 (z6r (by rw [hfl])) (fz_b rfl)
structure Rec where
 e:Int
 v:Int
 b:Bs
 tg:Pr
def recD (r:Bs):Rec:=⟨getB (r.take 4),getB ((r.drop 4).take 8),(r.drop 12).take 32,pairF ((r.drop 44).take 16)⟩
theorem zho (r:Bs)(hr:r.length=60)(h:AHeap):AE Tryz.prog 241 [.imm 1 (r.map encB)] h
  (.tup [.agg (encN ((recD r).e,65535,(recD r).v)),.agg (encS (recD r).b (recD r).tg),.bool true]) h:=by
 refine AE.pureW zhj (by simp) ?_
 unfold za9;dsimp only [qQ,qR,qM,qG]
 (refine go ?_)
 refine WL.call rfl gM gSL (z7v r (by omega) [4,8,32,16] (by simp) (by simp) _) ?_
 have hl':r.length=([4,8,32,16]:List Nat).sum:=hr
 rw [decide_eq_true hl',if_pos hl']
 simp only [cutL,List.drop_drop,Nat.reduceAdd]
 have r0:0≤getB (r.take 4)∧getB (r.take 4) < 4294967296:=z1i _ 4 (by simp;omega) (by decide)
 (refine go ?_)
 refine WL.call rfl gM gSL (z14 (r.take 4) (by simp;omega) _) ?_
 (refine go ?_)
 refine WL.call rfl gM gSL (z14 ((r.drop 4).take 8) (by simp;omega) _) ?_
 (refine go ?_)
 refine WL.call rfl gM gSL (z2o ((r.drop 44).take 16) (by simp;omega) _) ?_
 (refine go ?_)
 (repeat first | refine WL.go ?_ | refine WW.seq ?_ | refine WW.reg ?_ | refine WL.nil ?_ | refine WW.skip ?_ | refine WW.block ?_ | refine WW.exit ?_ | refine WW.condT rfl ?_ | refine WW.condF rfl ?_ | refine WL.gox ?_ | refine thenN ?_ | refine blkN ?_)
 refine WW.dregX [9,10] [5,6,7] [h.next,h.next+1] gN (by decide +kernel) ?_
 (repeat first | refine DW.go ?_ | refine DW.goWP ?_ | refine DW.goF ?_ | refine DW.endL ?_ | refine thenN ?_ | refine blkN ?_)
 (refine go ?_)
 refine WW.ret (PureQ.finD ?_)
 exact Fz.tup3 (zd rfl (by simp [AV.flat])) (.clo _ (.agg _ (z9m _ _))) (fz_b rfl)
end Go.Proofs.YthblcmnhiccnhaaGreat


namespace Go.Proofs.YthblcmnhiccnhaaGreat
open Go Go.Abs

def mkO (boot:Int)(k:Nat):AObj := .mem 2 [[.int .u64 boot,.int .i64 k]]
theorem zlk {h:AHeap}{nx:Nat}(hn:h.next=nx)(boot:Int)(hb:0≤boot∧boot < 4294967296):AE Tryz.prog 74 [.int .u64 boot] h (.tup [.ptr nx 0 0,.int .i64 0]) (h.put nx (mkO boot 0)):=by
 subst hn
 refine AC.introW zl7 (by simp) ?_
 unfold zds;dsimp only [qQ,qR,qM,qG]
 (refine go ?_)
 (refine WW.ifB rfl (fun hz1 => ?_) (fun hz1 => ?_))
 ·exfalso;omega
 (refine go ?_)
 exact WW.ret ⟨.inl rfl,_,gRES,rfl,rfl⟩
theorem z5g {h:AHeap}{m:Nat}{boot:Int}{k:Nat}(hm:h.get m=some (mkO boot k))(hk:k≤100):AE Tryz.prog 134 [.ptr m 0 0] h (.int .i64 (100 - k)) h:=by
 refine AE.wf fun hwf => ?_
 have h0:=hwf _ _ hm
 refine AE.pureW zaw (by simp) ?_
 unfold z55;dsimp only [qQ,qR,qM,qG]
 simp only [mkO] at hm
 (refine go ?_)
 refine WW.ret (PureQ.finD ?_)
 exact fz_i rfl
theorem zad {h:AHeap}{m:Nat}{boot:Int}{k:Nat}(hm:h.get m=some (mkO boot k))(hb:0≤boot∧boot < 4294967296)(hk:k < 100)(e slot:Int)(hs:0≤slot∧slot≤65535) :
  AE Tryz.prog 200 [.ptr m 0 0,.int .u32 e,.int .i64 slot] h (.tup [.agg (encN (e,slot,boot*4294967296+((k+1:Nat):Int))),.int .i64 0]) (h.set m (some (mkO boot (k+1)))):=by
 refine AE.wf fun hwf => ?_
 have h0:=hwf _ _ hm
 refine AE.effW z4e (by simp) ?_ ?_
 ·exact Ext.set Ext.refl (Nm.old hm) (z58 (by simp [AV.flat]))
 unfold z2p;dsimp only [qQ,qR,qM,qG]
 have hm':=hm
 simp only [mkO] at hm'
 (refine go ?_)
 (apply WL.orB;exact rfl;exact rfl;exact rfl;exact BP.of;intro hz1)
 ·(repeat first | (apply GW.goS;exact Stp.auto) | apply GW.nil | exact rfl)
 (refine go ?_)
 (refine WW.ifB rfl (fun hz2 => ?_) (fun hz2 => ?_))
 ·exfalso;simp at hz2;omega
 (refine go ?_)
 refine WL.call rfl gM gSL (z5g (z3 (by omega) hm) (by omega)) ?_
 (refine go ?_)
 (refine WW.ifB rfl (fun hz3 => ?_) (fun hz3 => ?_))
 ·exfalso;omega
 (refine go ?_)
 have hx:IntKind.u64.wrap (IntKind.u64.wrap (boot*2 ^ min (Int.toNat 32) IntKind.u64.bits)+((k+1:Nat):Int))=boot*4294967296+((k+1:Nat):Int):=by
  rw [show min (Int.toNat 32) IntKind.u64.bits=32 by decide,z1z (k := .u64) (n:=boot*2 ^ 32) (by constructor <;> omega),z1z (by constructor <;> omega)];rfl
 refine WW.ret (EffQ.finD ?_ ?_)
 ·refine ⟨gLE,fun id hu => ?_⟩;have hlt:id < AHeap.next h:=hu.1;simp only [zn,zc];(repeat' split) <;> first | rfl | omega | (simp [mkO];done)
 ·exact Fz.tup2 (zd (by rw [hx];rfl) (by simp [AV.flat])) (fz_i rfl)
theorem zae {h:AHeap}{m:Nat}{boot:Int}(hm:h.get m=some (mkO boot 100))(e slot:Int)(hs:0≤slot∧slot≤65535) :
  AE Tryz.prog 200 [.ptr m 0 0,.int .u32 e,.int .i64 slot] h (.tup [.agg (encN (0,0,0)),.int .i64 6]) h:=by
 refine AE.wf fun hwf => ?_
 have h0:=hwf _ _ hm
 refine AE.pureW z4e (by simp) ?_
 unfold z2p;dsimp only [qQ,qR,qM,qG]
 (refine go ?_)
 (apply WL.orB;exact rfl;exact rfl;exact rfl;exact BP.of;intro hz1)
 ·(repeat first | (apply GW.goS;exact Stp.auto) | apply GW.nil | exact rfl)
 (refine go ?_)
 (refine WW.ifB rfl (fun hz2 => ?_) (fun hz2 => ?_))
 ·exfalso;simp at hz2;omega
 (refine go ?_)
 refine WL.call rfl gM gSL (z5g (z3 (by omega) hm) (by omega)) ?_
 (refine go ?_)
 refine WW.ret (PureQ.finD ?_)
 exact Fz.tup2 (zd rfl (by simp [AV.flat])) (fz_i rfl)
theorem zjx (e s v:Int)(hv:0≤v∧v < 18446744073709551616)(h:AHeap):AE Tryz.prog 242 [.agg (encN (e,s,v))] h (.int .u64 (v / 4294967296)) h:=by
 refine AE.pureW zjp (by simp) ?_
 unfold zbx;dsimp only [qQ,qR,qM,qG]
 (refine go ?_)
 refine WW.ret (PureQ.finD ?_)
 refine fz_i ?_
 rw [show min (Int.toNat 32) IntKind.u64.bits=32 by decide,Int.fdiv_eq_ediv_of_nonneg _ (by decide)];rfl
end Go.Proofs.YthblcmnhiccnhaaGreat


namespace Go.Abs
open Go
section
variable {P:Program}{N:Nat}{e:Env}{h:AHeap}{Φ:AHeap→Prop}{ws fs:List Nat}{K:Env→AHeap→Prop}{l:List CI}{j:Nat}
end
theorem DA.callP {P:Program}{N j:Nat}{e:Env}{h:AHeap}{al ws rs fs:List Nat}{K:Env→AHeap→Prop}{l:List CI}{n0:Nat}{d:Option Nat}{f n:Nat}{W:List Nat}{h0:AHeap}{xs:List Opd}{g:Option (Nat×Bool)}{vs us:List AV}{r:AV}(hv:evL e xs=some us)(hg:met e g)(hs:SubL us vs)(hf:fs.contains j=false)(hw:ws.contains j=true)(ha:al.contains j=false)
  (hac:∀ h2,Sim n0 al.length h h2→AE P f vs h2 r h2) (k:DA P N (PhiW n W h0) n0 al ws rs fs K (j+1) l (putR d (some r) e) h):DA P N (PhiW n W h0) n0 al ws rs fs K j (⟨d,.call f xs,g⟩::l) e h:=by
 refine .fx [] (fun _=>FX.call hg hv ((hac h Sim.refl).sub hs)) (fun hy=>by simp [free0] at hy) (fun hy=>by rw [hw] at hy;cases hy) (fun hy=>by rw [ha] at hy;cases hy) (fun _ h2 h3=>FX.call hg hv ((hac h2 h3).sub hs)) (fun _=>⟨by simp,fun _ u hu=>by simp at hu⟩) (fun _ hp=>hp) (fun hy=>by rw [hf] at hy;cases hy) k
section
variable {P:Program}{f:Nat}{vs:List AV}{h h' h1 h2:AHeap}
end
end Go.Abs


