/- The statement PlayCrash: whatever the input, the law returns true, and its arguments read as they did. -/
import Derived.Test.YthblcmnhiccnhaaGreatRows
import Derived.WalkKit
import Derived.ProofKit
import Derived.OpenShut
import Derived.ShutString
import Derived.ChangeOld
import Derived.Below
import Derived.Test.YthblcmnhiccnhaaGreatQPlayCrash7
set_option linter.all false
namespace Go.Proofs.YthblcmnhiccnhaaGreat.playCrashDone
open Go.ChangeShapes Go.WideShapes Go.ChangeAt Go.RowKit

theorem own : ownKnob Tryz.prog.godebug = Option.none := by kernel_rfl
theorem laidOut : laidOutB Tryz.prog = true := by kernel_rfl

set_option maxRecDepth 100000 in
theorem lifted (os : Os) (started : os.Started) (H : Type) (enc : TypeId × Value → H) :
  ReturnsInHanded {} Tryz.checked os 3 .any (Rows.playCrashSpec.pre6 enc Tryz.prog Tryz.f3 Rows.playCrashRow.domain false) (Rows.playCrashSpec.post enc Tryz.prog Tryz.f3 false true false false) := by
 refine returnsInHanded_of_change (C := Tryz.checked) own started (by kernel_rfl) Tryz.func3
  (ChangeSpec.witness6 (enc := enc) (C := Tryz.checked) false ⟨#[], #[.int .i64 0, .int .u8 0, .int .i64 0, .slice none 0 0], []⟩ 8 (by kernel_rfl) (by kernel_rfl) (by kernel_rfl) (by kernel_rfl)) ?_
 intro W base args ds gs before hval0 hW hcnd _
 have hval : ∀ (j : Nat) t v, Tryz.f3.params[j]? = some t → args[j]? = some v → Value.okWide Tryz.prog W .any base t v := hval0
 have hW' := hW
 obtain ⟨p, q, hA0, hV, rfl, hfz, hnd⟩ := hW
 have hA : DataW.TrodAll enc Tryz.prog W 0 (fun _ => true) true Tryz.f3.params.toList args.toList ds p := hA0
 rw [Tryz.params3] at hA hval
 obtain ⟨v0, vs0, d0, ds0, p0, q0, hargs, rfl, rfl, h0, r0⟩ := trodAll_cons hA
 obtain ⟨v1, vs1, d1, ds1, p1, q1, rfl, rfl, rfl, h1, r1⟩ := trodAll_cons r0
 obtain ⟨v2, vs2, d2, ds2, p2, q2, rfl, rfl, rfl, h2, r2⟩ := trodAll_cons r1
 obtain ⟨v3, vs3, d3, ds3, p3, q3, rfl, rfl, rfl, h3, r3⟩ := trodAll_cons r2
 obtain ⟨rfl, rfl, rfl⟩ := trodAll_nil r3
 obtain rfl : args = #[v0, v1, v2, v3] := by cases args; simp_all
 obtain ⟨rfl, rfl⟩ := trodVars_none hV
 have lt0 : ∀ x ∈ p0, x.block < W.heap.size := by obtain ⟨m, hm⟩ := h0; exact DataW.trod_lt m _ _ _ hm
 obtain ⟨c0, ty0, vr0⟩ := Abs.zux (d := 8) (row := [.i .i64]) (by kernel_rfl) h0 (hval 0 3 v0 rfl rfl)
 simp only [Tryz.underlying3] at vr0
 have lt1 : ∀ x ∈ p1, x.block < W.heap.size := by obtain ⟨m, hm⟩ := h1; exact DataW.trod_lt m _ _ _ hm
 obtain ⟨c1, ty1, vr1⟩ := Abs.zux (d := 8) (row := [.i .u8]) (by kernel_rfl) h1 (hval 1 5 v1 rfl rfl)
 simp only [Tryz.underlying5] at vr1
 have lt2 : ∀ x ∈ p2, x.block < W.heap.size := by obtain ⟨m, hm⟩ := h2; exact DataW.trod_lt m _ _ _ hm
 obtain ⟨c2, ty2, vr2⟩ := Abs.zux (d := 8) (row := [.i .i64]) (by kernel_rfl) h2 (hval 2 3 v2 rfl rfl)
 simp only [Tryz.underlying3] at vr2
 have lt3 : ∀ x ∈ p3, x.block < W.heap.size := by obtain ⟨m, hm⟩ := h3; exact DataW.trod_lt m _ _ _ hm
 obtain ⟨c3, ty3, vr3⟩ := Abs.zux (d := 8) (row := [.sl [.b]]) (by kernel_rfl) h3 (hval 3 22 v3 rfl rfl)
 simp only [Tryz.underlying22] at vr3
 clear hA0 hval0
 refine (Abs.zuw (zju c0 ty0 c1 ty1 c2 ty2 c3 ty3) rfl (by
  rintro (_ | _ | _ | _ | i) v hi
  ·cases hi; exact vr0
  ·cases hi; exact vr1
  ·cases hi; exact vr2
  ·cases hi; exact vr3
  ·simp at hi)).mono fun e W' ⟨he, bel⟩ => ?_
 subst he
 exact ⟨_, rfl, _, _, _, [], _, [], hW', trodAll_mk1 (shut_bool Tryz.underlying4 _), (trodAll_cons_mk (Below.trod laidOut (by kernel_rfl) (of_decide_eq_true (by kernel_rfl)) h0 bel lt0) (trodAll_cons_mk (Below.trod laidOut (by kernel_rfl) (of_decide_eq_true (by kernel_rfl)) h1 bel lt1) (trodAll_cons_mk (Below.trod laidOut (by kernel_rfl) (of_decide_eq_true (by kernel_rfl)) h2 bel lt2) (trodAll_cons_mk (Below.trod laidOut (by kernel_rfl) (of_decide_eq_true (by kernel_rfl)) h3 bel lt3) trodAll_mk0)))), rfl, bel.frame _, fun h => nomatch h⟩

theorem named : Tryz.pinned.checked.prog.funcNamed Rows.playCrashRow.func = some 3 := by kernel_rfl
theorem closed : Go.joinedFacts Tryz.pinned.checked.prog 3 Tryz.f3 Rows.playCrashSpec Rows.playCrashRow = true := by kernel_rfl
theorem over : Rows.playCrashRow.holds Tryz.pinned (OpenSpec.ofChange Rows.playCrashSpec) :=
 OpenClaim.holds_of_wide 3 Tryz.f3 rfl rfl rfl rfl rfl rfl rfl ⟨rfl, rfl, rfl, rfl, rfl⟩ rfl rfl rfl rfl rfl named Tryz.func3 closed
  (of_decide_eq_true (by kernel_rfl)) (by unfold Func.isWrapper; first | (rw [if_pos (by decide +kernel)]; kernel_rfl) | (rw [if_neg (by decide +kernel)]; exact ⟨rfl, rfl⟩))
  (fun os started H enc _ => lifted os started H enc)

theorem proved : Rows.PlayCrashSaid := over
end Go.Proofs.YthblcmnhiccnhaaGreat.playCrashDone

