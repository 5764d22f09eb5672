/- The statement CacheArgs: whatever the input, the law returns true, and its arguments read as they did. -/
import Derived.Test.YthblcmnhiccnhaaGreatRows
import Derived.WalkKit
import Derived.ProofKit
import Derived.OpenShut
import Derived.ShutString
import Derived.ChangeOld
import Derived.Below
import Derived.Test.YthblcmnhiccnhaaGreatQCacheArgs7
set_option linter.all false
namespace Go.Proofs.YthblcmnhiccnhaaGreat.cacheArgsDone
open Go.ChangeShapes Go.WideShapes Go.ChangeAt Go.RowKit

theorem own:ownKnob Tryz.prog.godebug=Option.none:=by kernel_rfl
theorem laidOut:laidOutB Tryz.prog=true:=by kernel_rfl

set_option maxRecDepth 100000 in
theorem lifted (os:Os)(started:os.Started)(H:Type)(enc:TypeId×Value→H) :
  ReturnsInHanded {} Tryz.checked os 11 .any (Rows.cacheArgsSpec.pre6 enc Tryz.prog Tryz.f11 Rows.cacheArgsRow.domain false) (Rows.cacheArgsSpec.post enc Tryz.prog Tryz.f11 false true false false):=by
 refine returnsInHanded_of_change (C:=Tryz.checked) own started (by kernel_rfl) Tryz.func11
  (ChangeSpec.witness6 (enc:=enc) (C:=Tryz.checked) false ⟨#[],#[.agg #[.int .i64 0,.int .i64 0,.slice none 0 0]],[]⟩ 8 (by kernel_rfl) (by kernel_rfl) (by kernel_rfl) (by kernel_rfl)) ?_
 intro W base args ds gs before hval0 hW hcnd _
 have hval:∀ (j:Nat) t v,Tryz.f11.params[j]? = some t→args[j]? = some v→Value.okWide Tryz.prog W .any base t v:=hval0
 have hW':=hW
 obtain ⟨p,q,hA0,hV,rfl,hfz,hnd⟩:=hW
 have hA:DataW.TrodAll enc Tryz.prog W 0 (fun _=>true) true Tryz.f11.params.toList args.toList ds p:=hA0
 rw [Tryz.params11] at hA hval
 obtain ⟨v0,vs0,d0,ds0,p0,q0,hargs,rfl,rfl,h0,r0⟩:=trodAll_cons hA
 obtain ⟨rfl,rfl,rfl⟩:=trodAll_nil r0
 obtain rfl:args=#[v0]:=by cases args;simp_all
 obtain ⟨rfl,rfl⟩:=trodVars_none hV
 have lt0:∀ x∈p0,x.block < W.heap.size:=by obtain ⟨m,hm⟩:=h0;exact DataW.trod_lt m _ _ _ hm
 obtain ⟨c0,ty0,vr0⟩:=Abs.rd_arg (d:=8) (row:=[.i .i64,.i .i64,.sl [.i .u8]]) (by kernel_rfl) h0 (hval 0 33 v0 rfl rfl)
 simp only [Tryz.underlying33] at vr0
 clear hA0 hval0
 refine (Abs.law_calls (zk9 c0 ty0) rfl (by
  rintro (_ | i) v hi
  ·cases hi;exact vr0
  ·simp at hi)).mono fun e W' ⟨he,bel⟩ => ?_
 subst he
 exact ⟨_,rfl,_,_,_,[],_,[],hW',trodAll_mk1 (shut_bool Tryz.underlying4 _),(trodAll_cons_mk (Below.trod laidOut (by kernel_rfl) (of_decide_eq_true (by kernel_rfl)) h0 bel lt0) trodAll_mk0),rfl,bel.frame _,fun h=>nomatch h⟩

theorem named:Tryz.pinned.checked.prog.funcNamed Rows.cacheArgsRow.func=some 11:=by kernel_rfl
theorem closed:Go.joinedFacts Tryz.pinned.checked.prog 11 Tryz.f11 Rows.cacheArgsSpec Rows.cacheArgsRow=true:=by kernel_rfl
theorem over:Rows.cacheArgsRow.holds Tryz.pinned (OpenSpec.ofChange Rows.cacheArgsSpec) :=
 OpenClaim.holds_of_wide 11 Tryz.f11 rfl rfl rfl rfl rfl rfl rfl ⟨rfl,rfl,rfl,rfl,rfl⟩ rfl rfl rfl rfl rfl named Tryz.func11 closed
  (of_decide_eq_true (by kernel_rfl)) (by unfold Func.isWrapper;first | (rw [if_pos (by decide +kernel)];kernel_rfl) | (rw [if_neg (by decide +kernel)];exact ⟨rfl,rfl⟩))
  (fun os started H enc _=>lifted os started H enc)

theorem proved:Rows.CacheArgsSaid:=over
end Go.Proofs.YthblcmnhiccnhaaGreat.cacheArgsDone

