/- What the statement's proof needs, part 5. -/
import Derived.Test.YthblcmnhiccnhaaGreatQPlayCrash4
set_option linter.all false
namespace Go.Proofs.YthblcmnhiccnhaaGreat
open Go Go.Abs

structure zq4 (f : Nat) : Prop where
 ok : z2d Tryz.prog f = true
def z1f (K : Nat → Bool) : Nat → List Wr → Bs → Bs
 | _, [], b => b
 | i, x :: r, b => z1f K (i + 1) r (if K i then layO b x else b)
theorem z5s (K : Nat → Bool) (n : Nat) : ∀ (l : List Wr) (i : Nat) (b : Bs), (∀ x ∈ l, 0 ≤ x.1 ∧ x.1 + x.2.length ≤ n) → b.length = n → (z1f K i l b).length = n
 | [], _, _, _, hb => hb
 | x :: r, i, b, hw, hb => by
  rw [z1f]
  refine z5s K n r (i + 1) _ (fun y hy => hw y (by simp [hy])) ?_
  split
  ·rw [z2b _ _ (by have := hw x (by simp); omega), hb]
  ·exact hb
def SdS.settle (x : SdS) (K : Nat → Bool) : SdS := { x with lasts := z1f K 0 x.waits x.lasts, waits := [], gen := x.gen + 1 }
theorem znj (b : Bs) (o : Int) (d : Bs) : List.take o.toNat (b.map encB) ++ List.take (min (d.map encB).length (b.length - o.toNat)) (d.map encB) ++ List.drop (o.toNat + min (d.map encB).length (b.length - o.toNat)) (b.map encB) = (layO b (o, d)).map encB := by
 simp [layO, List.map_take, List.map_drop]
set_option maxHeartbeats 1000000 in
theorem z8a {h : AHeap} {n : SdN} {w : PwS} {x : SdS} (hd : SdAt h n w x) (hl : x.lasts.length ≤ 1000000) (h1 : x.waits.length ≤ 1000000) (hw : ∀ o ∈ x.waits, 0 ≤ o.1 ∧ o.1 + o.2.length ≤ x.lasts.length) (K : Nat → Bool) {f : Nat} {us ts : List AV} (hb : zq4 f)
  (hK : ∀ h2, KeepsB [n.B] h h2 → ∀ i : Nat, i < x.waits.length → AE Tryz.prog f (us ++ [.int .i64 i] ++ ts) h2 (.bool (K i)) h2) :
  AE Tryz.prog 92 [.ptr n.s 0 0, .func (.func f) us ts] h (.tup []) (sdPut n w (x.settle K) h) := by
 refine AE.wfU fun hwu => ?_
 obtain ⟨a1, a2, a3, a4, a5, b1, b2, b3, b4, b5, b6, b7, b8, b9, bx⟩ := hd.nes fun id y hy => (hwu id y hy).1
 have hd' := hd
 obtain ⟨q1, q2, q3, q4, q5, q6⟩ := hd
 refine AE.effW zbc (by simp) (zfl hd' _ _) ?_
 unfold z5l; dsimp only [qQ, qR, qM, qG]
 have q2' := q2
 simp only [SdS.obj] at q2'
 (refine go ?_)
 refine WW.loopE (fun (s : Nat × Bs) => [(0, some (.ptr n.s 0 0)), (1, some (.func (.func f) us ts)), (9, some (.app n.w x.gen 2 (x.waits.map encO))), (10, some (.int .i64 x.waits.length)), (11, some (.int .i64 s.1))])
  (fun s h' => h'.get n.B = some (.mem 1 (s.2.map encB)) ∧ KeepsB [n.B] h h' ∧ s.2.length = x.lasts.length ∧ s.1 ≤ x.waits.length ∧ z1f K s.1 (x.waits.drop s.1) s.2 = z1f K 0 x.waits x.lasts)
  (fun s => x.waits.length - s.1) (0, x.lasts) gSUB ⟨gH, KeepsB.refl, rfl, Nat.zero_le _, rfl⟩ ?_
 rintro ⟨i, b⟩ h' ⟨g1, g2, g3, g4, g5⟩
 dsimp only at g1 g2 g3 g4 g5 ⊢
 have gn := g2.1
 obtain ⟨nx, hnx⟩ : ∃ nx, h'.next = nx := ⟨_, rfl⟩
 have p2 := (g2.2 n.s (hwu _ _ q2) (by simpa using b5)).trans q2'
 (refine go ?_)
 (refine WW.ifB rfl (fun hz1 => ?_) (fun hz1 => ?_))
 ·have hi : i < x.waits.length := by omega
  have hwi := hw x.waits[i] (List.getElem_mem hi)
  (repeat first | refine WW.seq ?_ | refine WW.reg ?_ | refine WL.nil ?_ | refine WW.skip ?_ | refine WW.block ?_ | refine thenN ?_ | refine blkN ?_); iterate 6 (refine WL.go ?_)
  (repeat first | refine WW.seq ?_ | refine WW.reg ?_ | refine WL.nil ?_ | refine WW.skip ?_ | refine WW.block ?_ | refine thenN ?_ | refine blkN ?_); iterate 2 (refine WL.go ?_)
  refine WL.fx1 (FX.callv rfl rfl gM hb.ok (hK _ gKB i hi)) ?_
  cases hKi : K i with
  | true =>
   (repeat first | refine WL.go ?_ | refine WW.seq ?_ | refine WW.reg ?_ | refine WL.nil ?_ | refine WW.skip ?_ | refine WW.block ?_ | refine WW.exit ?_ | refine WW.condT rfl ?_ | refine WW.condF rfl ?_ | refine WL.gox ?_ | refine thenN ?_ | refine blkN ?_)
   refine WW.dregX [9] [] [n.B] gN (by decide +kernel) ?_
   (refine go ?_)
   have hm : List.take (0 + x.waits[i].1.toNat) (b.map encB) ++ List.take (min (x.waits[i].2.map encB).length (x.lasts.length - x.waits[i].1.toNat)) (x.waits[i].2.map encB) ++ List.drop (0 + x.waits[i].1.toNat + min (x.waits[i].2.map encB).length (x.lasts.length - x.waits[i].1.toNat)) (b.map encB) = (layO b x.waits[i]).map encB := by
    rw [Nat.zero_add, ← g3]; exact znj b x.waits[i].1 x.waits[i].2
   refine ⟨(i + 1, layO b x.waits[i]), gSUB, ⟨?_, gKB, by dsimp only; rw [z2b _ _ (by omega), g3], by dsimp only; omega, ?_⟩, by dsimp only; omega⟩
   ·dsimp only
    rw [← hm]; exact gH
   ·rw [← g5, List.drop_eq_getElem_cons hi, z1f, hKi]; rfl
  | false =>
   (refine go ?_)
   refine ⟨(i + 1, b), gSUB, ⟨gH, gKB, g3, by dsimp only; omega, ?_⟩, by dsimp only; omega⟩
   rw [← g5, List.drop_eq_getElem_cons hi, z1f, hKi]; rfl
 ·have hi : i = x.waits.length := by omega
  have p4 := (g2.2 n.w (hwu _ _ q4) (by simpa using Ne.symm b8)).trans q4
  subst hi
  simp only [List.drop_length, z1f] at g5
  refine WW.exit ?_
  (repeat first | refine WW.seq ?_ | refine WW.reg ?_ | refine WL.nil ?_ | refine WW.skip ?_ | refine WW.block ?_ | refine thenN ?_ | refine blkN ?_); iterate 4 (refine WL.go ?_)
  refine WL.cvt (Cvt.anewM 2 (id := n.s) (i := 0) (j := 2) (t := n.w) (g := x.gen) (n := x.waits.length) gH gH rfl rfl) ?_
  (refine go ?_)
  have p1 := (g2.2 n.p (hwu _ _ q1) (by simpa using b2)).trans q1
  have p5 := (g2.2 n.t (hwu _ _ q5) (by simpa using Ne.symm b9)).trans q5
  have gk : KeepsB [n.p, n.s, n.B, n.w, n.t] h h' := ⟨g2.1, fun id hu hn => g2.2 id hu (by simp at hn ⊢; exact hn.2.2.1)⟩
  have hlen := z5s K x.lasts.length x.waits 0 x.lasts hw rfl
  subst g5
  refine EffQ.fin (.inr rfl) ?_ gRES ?_
  ·refine z3h gKB ⟨gH, ?_, gH, gH, gH, bx⟩
   have ho : (x.settle K).obj n = .mem 4 [[.ptr n.p 0 0, .ref n.B 0 x.lasts.length, .app n.w (x.gen + 1) 2 [], .app n.t 0 2 (x.trace.map encO)]] := by simp [SdS.obj, SdS.settle, hlen]
   rw [ho]
   exact gH
  ·exact zc4
theorem zop (i : Int) (h : AHeap) : AE Tryz.prog 93 [.int .i64 i] h (.bool true) h := by
 refine AE.pureW zol (by simp) ?_
 unfold zi7; dsimp only [qQ, qR, qM, qG]
 (refine go ?_)
 refine WW.ret (PureQ.finD ?_)
 exact fz_b rfl
def SdS.barrier (x : SdS) (ok : Bool) : SdS := if ok then { x.settle (fun _ => true) with trace := x.trace ++ [(-1, [])] } else x
theorem zh2 {h : AHeap} {n : SdN} {w : PwS} {x : SdS} {k : Nat} (hd : SdAt h n w x) (hwk : w.Ok k) (hk : k ≤ 1000000000) (hl : x.lasts.length ≤ 1000000) (h1 : x.waits.length ≤ 1000000) (h2 : x.trace.length ≤ 1000000) (hw : ∀ o ∈ x.waits, 0 ≤ o.1 ∧ o.1 + o.2.length ≤ x.lasts.length) :
  AE Tryz.prog 254 [.ptr n.s 0 0] h (.bool w.can) (sdPut n w.spend (x.barrier w.can) h) := by
 refine AE.wf fun hwf => ?_
 have hns := hd.nes hwf
 obtain ⟨a1, a2, a3, a4, a5, b1, b2, b3, b4, b5, b6, b7, b8, b9, bx⟩ := id hns
 have hd' := hd
 obtain ⟨q1, q2, q3, q4, q5, q6⟩ := hd
 refine AE.effW zbd (by simp) (zfl hd' _ _) ?_
 unfold z5m; dsimp only [qQ, qR, qM, qG]
 have q2' := q2
 simp only [SdS.obj] at q2'
 (refine go ?_)
 refine WL.call rfl gM gSL (z30 q1 hwk hk) ?_
 cases hcan : w.can with
 | false =>
  (refine go ?_)
  refine WW.ret (EffQ.finD ?_ ?_)
  ·refine z3h gKB ?_
   rw [SdS.barrier, if_neg (by simp)]
   exact ⟨gH, gH, gH, gH, gH, bx⟩
  ·exact fz_b rfl
 | true =>
  (refine go ?_)
  have hs : SdAt (h.set n.p (some (.mem 4 [w.spend.row]))) n w.spend x := ⟨gH, gH, gH, gH, gH, bx⟩
  refine WL.call rfl gM gSL (z8a hs hl h1 hw (fun _ => true) ⟨by kernel_rfl⟩ (fun h2 _ i _ => zop i h2)) ?_
  refine WL.named (fun h5 => SdAt h5 n w.spend (x.settle fun _ => true) ∧ KeepsB [n.p, n.s, n.B, n.w, n.t] h h5) ⟨SdAt.put (h := h.set n.p (some (.mem 4 [w.spend.row]))) ⟨a1, a2, a3, a4, a5, b1, b2, b3, b4, b5, b6, b7, b8, b9, bx⟩ _ _, ?_⟩ ?_
  ·unfold sdPut; exact gKB
  rintro h5 ⟨⟨r1, r2, r3, r4, r5, _⟩, r6⟩
  have r7 := r6.1
  have r2' := r2
  simp only [SdS.obj, SdS.settle, List.map_nil] at r2'
  simp only [SdS.settle] at r3 r4 r5
  (repeat first | refine WW.seq ?_ | refine WW.reg ?_ | refine WL.nil ?_ | refine WW.skip ?_ | refine WW.block ?_ | refine thenN ?_ | refine blkN ?_); iterate 6 (refine WL.go ?_)
  refine WL.cvt (Cvt.sub1 (s := 20) (v := .agg (encO (-1, []))) rfl (SubV.agg (.cons (.refl _) (.cons .nil .nil)) (by simp [AV.scalar]))) ?_
  (refine go ?_)
  refine WW.ret (EffQ.finD ?_ ?_)
  ·have ho : (x.barrier true).obj n = .mem 4 [[.ptr n.p 0 0, .ref n.B 0 (z1f (fun _ => true) 0 x.waits x.lasts).length, .app n.w (x.gen + 1) 2 [], .app n.t 0 2 (x.trace.map encO ++ [encO (-1, [])])]] := by simp [SdS.obj, SdS.barrier, SdS.settle]
   have e2 : (x.trace ++ [((-1 : Int), ([] : Bs))]).length = x.trace.length + 1 := by simp
   refine z3h gKB ⟨gH, ?_, gH, gH, ?_, bx⟩
   ·rw [ho]; exact gH
   ·show _ = some (AObj.tail 0 (x.trace ++ [((-1 : Int), ([] : Bs))]).length)
    rw [e2]; exact gH
  ·exact fz_b rfl
theorem zfm {h : AHeap} {B nx : Nat} {l : Bs} (hn : h.next = nx) (hB : h.get B = some (.mem 1 (l.map encB))) (hne : l ≠ []) (hl : l.length ≤ 1000000) : AE Tryz.prog 87 [.ref B 0 l.length] h (.ref nx 0 l.length) (h.put nx (.mem 1 (l.map encB))) := by
 subst hn
 refine AE.wf fun hwf => ?_
 have h0 := hwf _ _ hB
 refine AC.introW z7v (by simp) ?_
 unfold z5c; dsimp only [qQ, qR, qM, qG]
 (repeat first | refine WW.seq ?_ | refine WW.reg ?_ | refine WL.nil ?_ | refine WW.skip ?_ | refine WW.block ?_ | refine thenN ?_ | refine blkN ?_); iterate 1 (refine WL.go ?_)
 (repeat first | refine WW.seq ?_ | refine WW.reg ?_ | refine WL.nil ?_ | refine WW.skip ?_ | refine WW.block ?_ | refine thenN ?_ | refine blkN ?_); iterate 1 (refine WL.go ?_)
 refine WL.go (hs := Stp.isnil (t := false) rfl rfl gM) ?_
 (repeat first | refine WW.seq ?_ | refine WW.reg ?_ | refine WL.nil ?_ | refine WW.skip ?_ | refine WW.block ?_ | refine thenN ?_ | refine blkN ?_)
 refine WW.condF rfl ?_
 (repeat first | refine WW.seq ?_ | refine WW.reg ?_ | refine WL.nil ?_ | refine WW.skip ?_ | refine WW.block ?_ | refine thenN ?_ | refine blkN ?_)
 (repeat first | refine WW.seq ?_ | refine WW.reg ?_ | refine WL.nil ?_ | refine WW.skip ?_ | refine WW.block ?_ | refine thenN ?_ | refine blkN ?_); iterate 2 (refine WL.go ?_)
 refine WL.fx1 (FX.appM (nm := h.next) (c := l.map encB) (fun hu => Nat.lt_irrefl _ hu.1) rfl rfl (by rw [z5v hB, List.drop_zero, List.take_of_length_le (by simp)]) (by simpa using hne) (by simp; omega) gM) ?_
 rw [List.length_map]
 (refine go ?_)
 exact WW.ret ⟨.inl rfl, _, gRES, rfl, rfl⟩
set_option maxHeartbeats 1000000 in
theorem zms {h : AHeap} {n : SdN} {w : PwS} {x : SdS} (hd : SdAt h n w x) (hl : x.lasts.length ≤ 1000000) (hl0 : x.lasts ≠ []) (h1 : x.waits.length ≤ 1000000) (hw : ∀ o ∈ x.waits, 0 ≤ o.1 ∧ o.1 + o.2.length ≤ x.lasts.length) :
  AE Tryz.prog 37 [.ptr n.s 0 0] h (.imm 1 (x.snap.map encB)) h := by
 refine AE.wf fun hwf => ?_
 obtain ⟨a1, a2, a3, a4, a5, b1, b2, b3, b4, b5, b6, b7, b8, b9, bx⟩ := hd.nes hwf
 obtain ⟨q1, q2, q3, q4, q5, q6⟩ := hd
 refine AE.pureW zfi (by simp) ?_
 unfold z85; dsimp only [qQ, qR, qM, qG]
 simp only [SdS.obj] at q2
 (refine go ?_)
 refine WL.call rfl gM gSL (zfm (nx := h.next) rfl q3 hl0 hl) ?_
 (refine go ?_)
 refine WW.loopE (fun (s : Nat × Bs) => [(3, some (.ref h.next 0 x.lasts.length)), (16, some (.app n.w x.gen 2 (x.waits.map encO))), (17, some (.int .i64 x.waits.length)), (18, some (.int .i64 s.1))])
  (fun s h' => h'.get h.next = some (.mem 1 (s.2.map encB)) ∧ Keeps h h' ∧ h.next + 1 ≤ h'.next ∧ s.2.length = x.lasts.length ∧ s.1 ≤ x.waits.length ∧ (x.waits.drop s.1).foldl layO s.2 = x.snap)
  (fun s => x.waits.length - s.1) (0, x.lasts) gSUB ⟨gH, gK, (leN gN (by omega)), rfl, Nat.zero_le _, rfl⟩ ?_
 rintro ⟨i, b⟩ h' ⟨g1, g2, g3, g4, g5, g6⟩
 dsimp only at g1 g2 g3 g4 g5 g6 ⊢
 obtain ⟨nx, hnx⟩ : ∃ nx, h'.next = nx := ⟨_, rfl⟩
 (refine go ?_)
 (refine WW.ifB rfl (fun hz1 => ?_) (fun hz1 => ?_))
 ·have hi : i < x.waits.length := by omega
  have hwi := hw x.waits[i] (List.getElem_mem hi)
  (repeat first | refine WW.seq ?_ | refine WW.reg ?_ | refine WL.nil ?_ | refine WW.skip ?_ | refine WW.block ?_ | refine thenN ?_ | refine blkN ?_); iterate 4 (refine WL.go ?_)
  (repeat first | refine WL.go ?_ | refine WW.seq ?_ | refine WW.reg ?_ | refine WL.nil ?_ | refine WW.skip ?_ | refine WW.block ?_ | refine WW.exit ?_ | refine WW.condT rfl ?_ | refine WW.condF rfl ?_ | refine WL.gox ?_ | refine thenN ?_ | refine blkN ?_)
  refine WW.dregX [6] [] [h.next] gN (by decide +kernel) ?_
  (refine go ?_)
  have hm : List.take (0 + x.waits[i].1.toNat) (b.map encB) ++ List.take (min (x.waits[i].2.map encB).length (x.lasts.length - x.waits[i].1.toNat)) (x.waits[i].2.map encB) ++ List.drop (0 + x.waits[i].1.toNat + min (x.waits[i].2.map encB).length (x.lasts.length - x.waits[i].1.toNat)) (b.map encB) = (layO b x.waits[i]).map encB := by
   rw [Nat.zero_add, ← g4]; exact znj b x.waits[i].1 x.waits[i].2
  refine ⟨(i + 1, layO b x.waits[i]), gSUB, ⟨?_, gK, (leN gN (by omega)), by dsimp only; rw [z2b _ _ (by omega), g4], by dsimp only; omega, ?_⟩, by dsimp only; omega⟩
  ·dsimp only
   rw [← hm]; exact gH
  ·rw [← g6, List.drop_eq_getElem_cons hi, List.foldl_cons]
 ·have hi : i = x.waits.length := by omega
  subst hi
  simp only [List.drop_length, List.foldl_nil] at g6
  (refine go ?_)
  rw [← g6]
  refine WW.ret (PureQ.finD ?_)
  exact zah gH (Nat.le_refl _) (by simp [g4]) rfl (flatB _)
theorem znk : ∀ (l : List Wr) (b : Bs) (n : Nat), b.length = n → (∀ o ∈ l, 0 ≤ o.1 ∧ o.1 + o.2.length ≤ n) → (l.foldl layO b).length = n
 | [], _, _, hb, _ => hb
 | o :: l, b, n, hb, hw => by
  rw [List.foldl_cons]
  exact znk l _ n (by rw [z2b _ _ (by have := hw o (by simp); omega), hb]) fun y hy => hw y (by simp [hy])
theorem zl4 {x : SdS} (hw : ∀ o ∈ x.waits, 0 ≤ o.1 ∧ o.1 + o.2.length ≤ x.lasts.length) : x.snap.length = x.lasts.length := znk _ _ _ rfl hw
theorem z7j {h : AHeap} {n : SdN} {w : PwS} {x : SdS} (hd : SdAt h n w x) (hl : x.lasts.length ≤ 1000000) (hl0 : x.lasts ≠ []) (h1 : x.waits.length ≤ 1000000) (hw : ∀ o ∈ x.waits, 0 ≤ o.1 ∧ o.1 + o.2.length ≤ x.lasts.length) (off k : Int) (hk : k ≤ 9223372036854775807) :
  AE Tryz.prog 182 [.ptr n.s 0 0, .int .i64 off, .int .i64 k] h (.tup [.imm 1 ((if inB x.lasts.length off k && !w.gone then (x.snap.drop off.toNat).take k.toNat else []).map encB), .bool (inB x.lasts.length off k && !w.gone)]) h := by
 have hd' := hd
 obtain ⟨q1, q2, q3, q4, q5, q6⟩ := hd
 refine AE.wf fun hwf => ?_
 have h0 := hwf _ _ q2
 refine AE.pureW zfh (by simp) ?_
 unfold z84; dsimp only [qQ, qR, qM, qG]
 (refine go ?_)
 refine WL.call rfl gM gSL (zia q2 hl off k hk) ?_
 have q2' := q2
 simp only [SdS.obj] at q2'
 cases hin : inB x.lasts.length off k with
 | false =>
  (refine go ?_)
  refine WW.ret (PureQ.finD ?_)
  exact Fz.tup2 (.nil _) (fz_b rfl)
 | true =>
  (refine go ?_)
  refine WL.call rfl gM gSL (z21 q1) ?_
  cases hg : w.gone with
  | true =>
   (refine go ?_)
   refine WW.ret (PureQ.finD ?_)
   exact Fz.tup2 (.nil _) (fz_b rfl)
  | false =>
   have hin' : 0 ≤ off ∧ 0 ≤ k ∧ off ≤ x.lasts.length ∧ k ≤ x.lasts.length - off := by simpa [inB, and_assoc] using hin
   have hsl : x.snap.length = x.lasts.length := zl4 hw
   (refine go ?_)
   refine WL.call rfl gM gSL (zms hd' hl hl0 h1 hw) ?_
   (refine go ?_)
   have he : List.drop off.toNat (List.take (off + k).toNat (x.snap.map encB)) = ((x.snap.drop off.toNat).take k.toNat).map encB := by
    rw [← List.map_take, ← List.map_drop, List.drop_take, show (off + k).toNat - off.toNat = k.toNat by omega]
   rw [he]
   refine WW.ret (PureQ.finD ?_)
   exact Fz.tup2 (z92 rfl) (fz_b rfl)
def keepF (keep : List Bool) (i : Nat) : Bool := keep.getD i false
def encBo (b : Bool) : List AV := [.bool b]
theorem zjh (keep : List Bool) {h : AHeap} {q : Nat} (hq : h.get q = some (.mem 1 [[.imm 1 (keep.map encBo)]])) (hl : keep.length ≤ 9223372036854775807) (i : Nat) : AE Tryz.prog 163 [.int .i64 i, .ptr q 0 0] h (.bool (keepF keep i)) h := by
 refine AE.wf fun hwf => ?_
 have h0 := hwf _ _ hq
 refine AE.pureW zbe (by simp) ?_
 unfold z5n; dsimp only [qQ, qR, qM, qG]
 (refine go ?_)
 (refine WL.spB rfl (fun hz1 => ?_) (fun hz1 => ?_))
 ·have hi : i < keep.length := by omega
  (refine go ?_)
  refine WW.ret (PureQ.finD ?_)
  exact fz_b (by simp [keepF, List.getD_eq_getElem?_getD, List.getElem?_eq_getElem hi])
 ·(refine go ?_)
  refine WW.ret (PureQ.finD ?_)
  exact fz_b (by simp [keepF, List.getD_eq_getElem?_getD, List.getElem?_eq_none (show keep.length ≤ i by omega)])
theorem zl5 {h : AHeap} {n : SdN} {w : PwS} {x : SdS} (hd : SdAt h n w x) (hl : x.lasts.length ≤ 1000000) (h1 : x.waits.length ≤ 1000000) (hw : ∀ o ∈ x.waits, 0 ≤ o.1 ∧ o.1 + o.2.length ≤ x.lasts.length) (keep : List Bool) (hkl : keep.length ≤ 9223372036854775807) :
  AE Tryz.prog 104 [.ptr n.s 0 0, .imm 1 (keep.map encBo)] h (.tup []) (sdPut n w (x.settle (keepF keep)) h) := by
 refine AE.wf fun hwf => ?_
 have hns := hd.nes hwf
 obtain ⟨a1, a2, a3, a4, a5, b1, b2, b3, b4, b5, b6, b7, b8, b9, bx⟩ := id hns
 have hd' := hd
 obtain ⟨q1, q2, q3, q4, q5, q6⟩ := hd
 refine AE.effW ze1 (by simp) (zfl hd' _ _) ?_
 unfold z70; dsimp only [qQ, qR, qM, qG]
 (refine go ?_)
 have hs : SdAt (h.put h.next (.mem 1 [[.imm 1 (keep.map encBo)]])) n w x := ⟨gH, gH, gH, gH, gH, bx⟩
 refine WL.call rfl gM gSL (z8a hs hl h1 hw (keepF keep) ⟨by kernel_rfl⟩ (fun h2 hk i _ => zjh keep ((hk.2 h.next (z3 (x := .mem 1 [[.imm 1 (keep.map encBo)]])) (by simp; omega)).trans get_put_same) hkl i)) ?_
 (refine go ?_)
 refine EffQ.fin (.inr rfl) ?_ gRES ?_
 ·refine z3h ?_ (SdAt.put (h := h.put h.next (.mem 1 [[.imm 1 (keep.map encBo)]])) (hns.mono gLE) _ _)
  unfold sdPut; exact gKB
 ·exact zc4
def sd0 (k : Nat) : SdS := ⟨List.replicate k 0, [], [], 0⟩
def sdNew (p nx k : Nat) (h : AHeap) : AHeap := (((h.put nx (.mem 1 ((sd0 k).lasts.map encB))).put (nx + 1) ((sd0 k).obj ⟨p, nx + 1, nx, nx + 2, nx + 3⟩)).put (nx + 2) (.tail 0 0)).put (nx + 3) (.tail 0 0)
theorem zoq {h : AHeap} {p nx : Nat} (hn : h.next = nx) (hp : p < nx) (k : Nat) (hk : k ≤ 65536) : AE Tryz.prog 66 [.int .i64 k, .ptr p 0 0] h (.ptr (nx + 1) 0 0) (sdNew p nx k h) := by
 subst hn
 refine AC.introW zok (by simp) ?_
 unfold zi6; dsimp only [qQ, qR, qM, qG]
 (refine go ?_)
 (refine WW.ifB rfl (fun hz1 => ?_) (fun hz1 => ?_))
 ·exfalso; omega
 (repeat first | refine WW.seq ?_ | refine WW.reg ?_ | refine WL.nil ?_ | refine WW.skip ?_ | refine WW.block ?_ | refine thenN ?_ | refine blkN ?_)
 (repeat first | refine WW.seq ?_ | refine WW.reg ?_ | refine WL.nil ?_ | refine WW.skip ?_ | refine WW.block ?_ | refine thenN ?_ | refine blkN ?_); iterate 2 (refine WL.go ?_)
 (repeat first | refine WW.seq ?_ | refine WW.reg ?_ | refine WL.nil ?_ | refine WW.skip ?_ | refine WW.block ?_ | refine thenN ?_ | refine blkN ?_); iterate 4 (refine WL.go ?_)
 have hz : List.replicate k [AV.int .u8 0] = (sd0 k).lasts.map encB := by show _ = (List.replicate k (0 : UInt8)).map encB; rw [List.map_replicate]; rfl
 rw [hz]
 refine WL.cvt (Cvt.adoptM 2 (id := h.next + 1) (i := 0) (j := 2) gH rfl rfl gN) ?_
 refine WL.cvt (Cvt.adoptM 2 (id := h.next + 1) (i := 0) (j := 3) gH rfl rfl gN) ?_
 (refine go ?_)
 refine WW.ret ⟨.inl rfl, _, gRES, rfl, zc3 (fun i => ?_) ?_ fun i => rfl⟩
 ·have ho : (sd0 k).obj ⟨p, h.next + 1, h.next, h.next + 2, h.next + 3⟩ = .mem 4 [[.ptr p 0 0, .ref h.next 0 k, .app (h.next + 2) 0 2 [], .app (h.next + 3) 0 2 []]] := by simp [SdS.obj, sd0]
  unfold sdNew
  rw [ho]
  simp only [zx, zd]
  (repeat' split) <;> first | rfl | omega
 ·unfold sdNew; exact (gN : _ = h.next + 1 + 1 + 1 + 1).trans (gN : _ = h.next + 1 + 1 + 1 + 1).symm
end Go.Proofs.YthblcmnhiccnhaaGreat


namespace Go.Proofs.YthblcmnhiccnhaaGreat
open Go Go.Abs

def reC : List AV := [.func (.func 113) [] [], .func (.func 114) [] [], .func (.func 115) [] [], .func (.func 116) [.nilp] [], .func (.func 117) [.nilp] []]
theorem zl6 {h : AHeap} {nx : Nat} (hn : h.next = nx) : AE Tryz.prog 64 [] h (.ptr nx 0 0) (h.put nx (.mem 5 [reC])) := by
 subst hn
 refine AC.introW zkj (by simp) ?_
 unfold zd1; dsimp only [qQ, qR, qM, qG]
 (refine go ?_)
 exact WW.ret ⟨.inl rfl, _, gRES, rfl, rfl⟩
theorem zl7 {h : AHeap} {l : Nat} (hl : h.get l = some (.mem 5 [reC])) (rows : List Bs) (hr1 : rows.length ≤ 1000000) (hr2 : rows.flatten.length ≤ 1000000) :
  AE Tryz.prog 281 [.ptr l 0 0, .imm 1 (rows.map encR)] h (.agg (encP (z2z rows.flatten))) h := by
 refine AE.wf fun hwf => ?_
 have h0 := hwf _ _ hl
 refine AE.pureW z65 (by simp) ?_
 unfold z3y; dsimp only [qQ, qR, qM, qG]
 simp only [reC] at hl
 (refine go ?_)
 refine WL.fx1 (FX.callv rfl rfl gM (by kernel_rfl) (zj9 rows hr1 hr2 _)) ?_
 generalize rows.flatten = p at *
 (refine go ?_)
 refine WW.ret (PureQ.finD ?_)
 exact ze rfl (flatP (z2z p))
theorem zji {h : AHeap} {l : Nat} (hl : h.get l = some (.mem 5 [reC])) (key : Pr) (n : Nn) (head data : Bs) (h1 : head.length ≤ 4000) (h2 : data.length ≤ 4000) :
  AE Tryz.prog 201 [.ptr l 0 0, .agg (encP key), .agg (encN n), .imm 1 (head.map encB), .imm 1 (data.map encB)] h (.tup [.agg (encS (gcmB key n data) (gcmT key n head (gcmB key n data))), .bool true]) h := by
 refine AE.wf fun hwf => ?_
 have h0 := hwf _ _ hl
 refine AE.pureW z5h (by simp) ?_
 unfold z3f; dsimp only [qQ, qR, qM, qG]
 simp only [reC] at hl
 (refine go ?_)
 refine DW.fxR (FX.callv rfl rfl gM (by kernel_rfl) (zmj key n head data h1 h2 _)) rfl rfl ?_
 (refine go ?_)
 refine WW.ret (PureQ.finD ?_)
 exact znc _ _
theorem zjj {h : AHeap} {l : Nat} (hl : h.get l = some (.mem 5 [reC])) (key : Pr) (n : Nn) (head b : Bs) (tg : Pr) (h1 : head.length ≤ 4000) (h2 : b.length ≤ 4000) :
  AE Tryz.prog 197 [.ptr l 0 0, .agg (encP key), .agg (encN n), .imm 1 (head.map encB), .agg (encS b tg)] h (.tup [.imm 1 (((gcmO key n head b tg).getD []).map encB), .bool (gcmO key n head b tg).isSome]) h := by
 refine AE.wf fun hwf => ?_
 have h0 := hwf _ _ hl
 refine AE.pureW z5i (by simp) ?_
 unfold z3g; dsimp only [qQ, qR, qM, qG]
 simp only [reC] at hl
 (refine go ?_)
 refine DW.fxR (FX.callv rfl rfl gM (by kernel_rfl) (zmk key n head b tg h1 h2 _)) rfl rfl ?_
 (refine go ?_)
 refine WW.ret (PureQ.finD ?_)
 exact Fz.tup2 (z80 rfl) (fz_b rfl)
end Go.Proofs.YthblcmnhiccnhaaGreat


namespace Go.Proofs.YthblcmnhiccnhaaGreat
open Go Go.Abs

theorem z9s {h : AHeap} {l o t s g : Nat} {L : List Iss} {S : List Bs} (hl : IdAt h l o t s g L S) (hL : L.length ≤ 1000000) (k : Pr) (n : Nn) (head data : Bs) (hh : head.length ≤ 4000) (hd : data.length ≤ 4000) :
  AE Tryz.prog 201 [.ptr l 0 0, .agg (encP k), .agg (encN n), .imm 1 (head.map encB), .imm 1 (data.map encB)] h
   (.tup [.agg (encS (newI (L.length + 1) k n head data).out (newI (L.length + 1) k n head data).tag), .bool true])
   ((h.set t (some (.tail g (L.length + 1)))).set o (some (.mem 2 [[.app t g 10 ((L ++ [newI (L.length + 1) k n head data]).map encI), .map s]]))) := by
 obtain ⟨q0, hO⟩ := hl
 obtain ⟨q1, q2, q3⟩ := id hO
 refine AE.wf fun hwf => ?_
 have h0 := hwf _ _ q0
 have ho := hwf _ _ q1
 have ht := hwf _ _ q2
 have hs := hwf _ _ q3
 have d1 : l ≠ o := fun e => by subst e; rw [q0] at q1; cases q1
 have d2 : l ≠ t := fun e => by subst e; rw [q0] at q2; cases q2
 have d3 : t ≠ o := fun e => by subst e; rw [q1] at q2; cases q2
 refine AE.effW z5h (by simp) ?_ ?_
 ·refine Ext.set (Ext.set (x := .tail _ _) Ext.refl (Nm.old q2) trivial) (Nm.old q1) ?_
  intro x hx v hv
  simp only [List.mem_singleton] at hx
  subst hx
  simp only [List.mem_cons, List.not_mem_nil, or_false] at hv
  rcases hv with rfl | rfl
  ·exact .app _ _ _ _ (Nm.old q2) fun x hx v hv => by
    obtain ⟨i, _, rfl⟩ := List.mem_map.1 hx
    exact zdt i v hv
  ·exact .map _ (Nm.old q3)
 unfold z3f; dsimp only [qQ, qR, qM, qG]
 simp only [idC] at q0
 (repeat first | refine WL.go ?_ | refine WW.seq ?_ | refine WW.reg ?_ | refine WL.nil ?_ | refine WW.skip ?_ | refine WW.block ?_ | refine WW.exit ?_ | refine WW.condT rfl ?_ | refine WW.condF rfl ?_ | refine WL.gox ?_ | refine thenN ?_ | refine blkN ?_)
 refine WW.dregX [8, 11] [] [t, o, h.next + 2] gN (by decide +kernel) ?_
 (refine go ?_)
 have hcon := zgq (h := ((h.put h.next (.mem 2 [encP k])).put (h.next + 1) (.mem 3 [encN n])).put (h.next + 2) (.mem 3 [[.nils, .int .u64 0, .int .u64 0]])) (z8w hO gE gE gE) hL k n head data hh hd
 refine DW.fx0 (FX.callv rfl rfl gM (by kernel_rfl) hcon) rfl rfl (fun hp => PhiW.setW (by simp) (PhiW.setW (by simp) hp)) rfl ?_
 (refine go ?_)
 generalize newI (L.length + 1) k n head data = x at *
 refine WW.ret (EffQ.finD ?_ ?_)
 ·refine ⟨gLE, fun id hu => ?_⟩; have hlt : id < AHeap.next h := hu.1; simp only [zx, zd]; (repeat' split) <;> first | rfl | omega | (simp []; done)
 ·refine .clo _ (.tup _ fun v hv => ?_)
  simp only [List.mem_cons, List.not_mem_nil, or_false] at hv
  rcases hv with rfl | rfl
  ·exact .agg _ (z8t x.out x.tag)
  ·exact .bool _
theorem z9t {h : AHeap} {l o t s g : Nat} {L : List Iss} {S : List Bs} (hl : IdAt h l o t s g L S) (hL : L.length ≤ 1000000) (hd : ∀ x ∈ L, x.data.length ≤ 1000000) (k : Pr) (n : Nn) (head b : Bs) (tg : Pr) :
  AE Tryz.prog 197 [.ptr l 0 0, .agg (encP k), .agg (encN n), .imm 1 (head.map encB), .agg (encS b tg)] h
   (.tup [.imm 1 (((openO L k n head b tg).getD []).map encB), .bool (openO L k n head b tg).isSome]) h := by
 obtain ⟨q0, hO⟩ := hl
 obtain ⟨q1, q2, q3⟩ := id hO
 refine AE.wf fun hwf => ?_
 have h0 := hwf _ _ q0
 have ho := hwf _ _ q1
 have ht := hwf _ _ q2
 have hs := hwf _ _ q3
 refine AE.pureW z5i (by simp) ?_
 unfold z3g; dsimp only [qQ, qR, qM, qG]
 simp only [idC] at q0
 (refine go ?_)
 refine DW.fxR (FX.callv rfl rfl gM (by kernel_rfl) (zgr (z8w hO gE gE gE) hL hd k n head b tg)) rfl rfl ?_
 (refine go ?_)
 refine WW.ret (PureQ.finD ?_)
 exact Fz.tup2 (z80 rfl) (fz_b rfl)
end Go.Proofs.YthblcmnhiccnhaaGreat


namespace Go.Proofs.YthblcmnhiccnhaaGreat
open Go Go.Abs

structure WS where
 n : Int
 pw : PwS
 sd : SdS
 dk : DkS
 ct : CtS
 ks : KsS
 L : List Iss
 S : List Bs
structure WN where
 p : Nat
 l : Nat
 o : Nat
 t : Nat
 q : Nat
 a : Nat
 B : Nat
 E : Nat
def wRow (n : WN) (k : Int) : List AV := [.int .i64 k, .ptr n.p 0 0, .ptr (n.a + 1) 0 0, .ptr (n.a + 4) 0 0, .ptr (n.a + 7) 0 0, .ptr (n.a + 9) 0 0, .ptr n.l 0 0]
structure LkAt (md : Bool) (h : AHeap) (l o t q : Nat) (L : List Iss) (S : List Bs) : Prop where
 id : md = true → IdAt h l o t q 0 L S
 re : md = false → h.get l = some (.mem 5 [reC])
structure WAt (md : Bool) (h : AHeap) (n : WN) (s : WS) : Prop where
 sd : SdAt h ⟨n.p, n.a + 1, n.B, n.a + 2, n.a + 3⟩ s.pw s.sd
 dk : DkAt h ⟨n.p, n.a + 4, n.a + 5, n.a + 6⟩ s.pw s.dk
 ct : h.get (n.a + 7) = some (s.ct.obj n.p)
 ks : KsAt h n.p (n.a + 9) n.E s.ks
 w : h.get (n.a + 10) = some (.mem 7 [wRow n s.n])
 lk : LkAt md h n.l n.o n.t n.q s.L s.S
 op : n.p < n.a
 ol : n.l < n.a
 oo : md = true → n.o < n.a ∧ n.t < n.a ∧ n.q < n.a
 nx : n.a + 11 ≤ h.next
 oB : (n.B = n.a ∨ n.a + 11 ≤ n.B) ∧ (n.E = n.a + 8 ∨ n.a + 11 ≤ n.E) ∧ n.B ≠ n.E
 nB : n.B < h.next ∧ n.E < h.next
def ws0 (k : Nat) (seed : Int) : WS := ⟨k, ⟨false, false, 0, 0⟩, sd0 (k * 160 + 120), dk0, ⟨0, 0, 0⟩, ⟨seed, [1]⟩, [], []⟩
theorem SdAt.same {h h' : AHeap} {n : SdN} {w : PwS} {x : SdS} (hd : SdAt h n w x) (h1 : h'.get n.p = h.get n.p) (h2 : h'.get n.s = h.get n.s) (h3 : h'.get n.B = h.get n.B) (h4 : h'.get n.w = h.get n.w) (h5 : h'.get n.t = h.get n.t) : SdAt h' n w x :=
 ⟨h1.trans hd.pw, h2.trans hd.ob, h3.trans hd.bl, h4.trans hd.wt, h5.trans hd.tr, hd.ne⟩
theorem DkAt.same {h h' : AHeap} {n : DkN} {w : PwS} {x : DkS} (hd : DkAt h n w x) (h1 : h'.get n.p = h.get n.p) (h2 : h'.get n.d = h.get n.d) (h4 : h'.get n.w = h.get n.w) (h5 : h'.get n.t = h.get n.t) : DkAt h' n w x :=
 ⟨h1.trans hd.pw, h2.trans hd.ob, h4.trans hd.wt, h5.trans hd.tr, hd.ne, hd.ll⟩
theorem KsAt.same {h h' : AHeap} {p k te : Nat} {s : KsS} (hd : KsAt h p k te s) (h2 : h'.get k = h.get k) (h3 : h'.get te = h.get te) : KsAt h' p k te s :=
 ⟨h2.trans hd.ob, h3.trans hd.tl, hd.ne, hd.sm⟩
theorem LkAt.same {md : Bool} {h h' : AHeap} {l o t q : Nat} {L : List Iss} {S : List Bs} (hd : LkAt md h l o t q L S) (h1 : h'.get l = h.get l) (h2 : md = true → h'.get o = h.get o ∧ h'.get t = h.get t ∧ h'.get q = h.get q) : LkAt md h' l o t q L S := by
 refine ⟨fun e => ?_, fun e => h1.trans (hd.re e)⟩
 obtain ⟨g1, g2, g3⟩ := h2 e
 obtain ⟨q0, q1, q2, q3⟩ := hd.id e
 exact ⟨h1.trans q0, ⟨g1.trans q1, g2.trans q2, g3.trans q3⟩⟩
theorem zrn {h : AHeap} {p nx k : Nat} {w : PwS} (hn : h.next = nx) (hp : p < nx) (hw : h.get p = some (.mem 4 [w.row])) : ∃ h1, sdNew p nx k h = h1 ∧ SdAt h1 ⟨p, nx + 1, nx, nx + 2, nx + 3⟩ w (sd0 k) ∧ h1.next = nx + 4 ∧ (∀ id, id < nx → h1.get id = h.get id) ∧ (∀ h0 : AHeap, Keeps h0 h → Keeps h0 h1) := by
 subst hn
 refine ⟨_, rfl, ?_, ?_, fun id hi => ?_, fun h0 k0 => ?_⟩
 ·unfold sdNew
  exact ztb gH gH gH gH gH (by omega)
 ·unfold sdNew; show AHeap.next _ = h.next + 1 + 1 + 1 + 1; exact gN
 ·unfold sdNew; exact gE
 ·have := k0.1
  unfold sdNew; exact gK
theorem zro {h : AHeap} {p nx : Nat} {w : PwS} (hn : h.next = nx) (hp : p < nx) (hw : h.get p = some (.mem 4 [w.row])) : ∃ h1, dkNew p nx h = h1 ∧ DkAt h1 ⟨p, nx, nx + 1, nx + 2⟩ w dk0 ∧ h1.next = nx + 3 ∧ (∀ id, id < nx → h1.get id = h.get id) ∧ (∀ h0 : AHeap, Keeps h0 h → Keeps h0 h1) := by
 subst hn
 refine ⟨_, rfl, ?_, ?_, fun id hi => ?_, fun h0 k0 => ?_⟩
 ·unfold dkNew
  exact ztc gH gH gH gH (by omega) (by simp [dk0])
 ·unfold dkNew; show AHeap.next _ = h.next + 1 + 1 + 1; exact gN
 ·unfold dkNew; exact gE
 ·have := k0.1
  unfold dkNew; exact gK
set_option maxHeartbeats 2000000 in
theorem zl8 (md : Bool) (k : Nat) (hk : isG k = true) (seed : Int) (h : AHeap) : AC Tryz.prog 22 [.int .i64 k, .int .u64 seed, .bool md] h
  (fun r h' => ∃ n : WN, r = .tup [.ptr (n.a + 10) 0 0, .int .i64 0] ∧ WAt md h' n (ws0 k seed) ∧ h.next ≤ n.p ∧ h.next ≤ n.l ∧ (md = true → h.next ≤ n.o ∧ h.next ≤ n.t ∧ h.next ≤ n.q) ∧ h.next ≤ h'.next ∧ ∀ h0 : AHeap, Keeps h0 h → Keeps h0 h') := by
 refine AC.introW zb2 (by simp) ?_
 unfold z7e; dsimp only [qQ, qR, qM, qG]
 (refine go ?_)
 refine WL.call rfl gM gSL (z42 k _) ?_
 rw [hk]
 (refine go ?_)
 refine WL.call rfl gM gSL (zkz rfl) ?_
 (refine go ?_)
 refine WL.call rfl gM gSL (zl6 (nx := h.next + 1 + 1) gN) ?_
 refine WL.go ?_
 refine WL.nil ?_
 refine thenN ?_
 have hkk := z2 hk
 have hsz : sizeG (k : Int) = ((k * 160 + 120 : Nat) : Int) := by rw [sizeG, if_pos hk]; omega
 rw [z4v]
 refine WW.seqM (fun e7 h7 => ∃ l o t q a, subE [(1, some (.int .u64 seed)), (8, some (.ptr (h.next + 1) 0 0)), (9, some (.ptr h.next 0 0)), (10, some (.ptr l 0 0))] e7 ∧
  h7.get h.next = some (.mem 4 [(⟨false, false, 0, 0⟩ : PwS).row]) ∧ h7.get (h.next + 1) = some (.mem 1 [[.int .i64 k]]) ∧ LkAt md h7 l o t q [] [] ∧ h7.next = a ∧ h.next + 2 ≤ l ∧ l < a ∧ (md = true → h.next + 2 ≤ o ∧ o < a ∧ h.next + 2 ≤ t ∧ t < a ∧ h.next + 2 ≤ q ∧ q < a) ∧ ∀ h0 : AHeap, Keeps h0 h → Keeps h0 h7) ?_ ?_
 ·cases md with
  | false =>
   (refine go ?_)
   refine ⟨rfl, h.next + 1 + 1, 0, 0, 0, h.next + 1 + 1 + 1, gSUB, gH, gH, ⟨nofun, fun _ => gH⟩, gN, by omega, by omega, nofun, fun h0 k0 => ?_⟩
   have := k0.1
   exact gK
  | true =>
   (refine go ?_)
   refine WL.call rfl gM gSL (zj1 (nx := h.next + 1 + 1 + 1) gN) ?_
   obtain ⟨h2, e2, o2, n2, m2, k2⟩ := zt4 (h := ((h.put h.next (.mem 4 [(⟨false, false, 0, 0⟩ : PwS).row])).put (h.next + 1) (.mem 1 [[.int .i64 k]])).put (h.next + 1 + 1) (.mem 5 [reC])) (nx := h.next + 1 + 1 + 1) gN
   rw [e2]
   clear e2
   have hx0 : Keeps h (((h.put h.next (.mem 4 [(⟨false, false, 0, 0⟩ : PwS).row])).put (h.next + 1) (.mem 1 [[.int .i64 k]])).put (h.next + 1 + 1) (.mem 5 [reC])) := gK
   (refine go ?_)
   refine ⟨rfl, _, _, _, _, _, gSUB, (m2 _ (by omega)).trans gH, (m2 _ (by omega)).trans gH, ⟨fun _ => o2, nofun⟩, n2, by omega, by omega, fun _ => ⟨by omega, by omega, by omega, by omega, by omega, by omega⟩, fun h0 k0 => k2 h0 ?_⟩
   have := k0.1
   exact gK
 ·rintro e7 h7 ⟨l, o, t, q, a, hs7, hp0, hg0, hlk, hn7, l1, l2, hid, hK⟩
  refine WW.cvt (Cvt.sub hs7) ?_
  have hKh := (hK h (Keeps.refl _)).1
  (repeat first | refine WL.go ?_ | refine WW.seq ?_ | refine WW.reg ?_ | refine WL.nil ?_ | refine WW.skip ?_ | refine WW.block ?_ | refine WW.exit ?_ | refine WW.condT rfl ?_ | refine WW.condF rfl ?_ | refine WL.gox ?_ | refine thenN ?_ | refine blkN ?_)
  refine WW.dregX [5, 7, 9, 12, 15] [0] [] gN (by decide +kernel) ?_
  (refine go ?_)
  refine DW.callS rfl gM gSL rfl (zl3 k _) ?_
  rw [hsz]
  (refine go ?_)
  refine DW.callSW rfl gM gSL rfl rfl (fun hp => by unfold sdNew; exact PhiW.put (by omega) (PhiW.put (by omega) (PhiW.put (by omega) (PhiW.put (by omega) hp)))) (zoq (nx := a) hn7 (by omega) (k * 160 + 120) (by omega)) ?_
  obtain ⟨h1, e1, d1, n1, m1, k1⟩ := zrn (k := k * 160 + 120) (nx := a) hn7 (by omega) hp0
  rw [e1]
  clear e1
  have hp1 := (m1 h.next (by omega)).trans hp0
  (refine go ?_)
  refine DW.callSW rfl gM gSL rfl rfl (fun hp => by unfold dkNew; exact PhiW.put (by omega) (PhiW.put (by omega) (PhiW.put (by omega) hp))) (zmo (nx := a + 4) n1 (by omega)) ?_
  obtain ⟨h2, e2, d2, n2, m2, k2⟩ := zro n1 (by omega) hp1
  rw [e2]
  clear e2
  (refine go ?_)
  refine DW.callSW rfl gM gSL rfl rfl (fun hp => by repeat first | exact hp | refine PhiW.put (by omega) ?_ | refine PhiW.setN (by omega) ?_ | refine PhiW.setW (by simp; done) ?_) (zl0 (nx := a + 4 + 3) gN (p := h.next)) ?_
  (refine go ?_)
  refine DW.callSW rfl gM gSL rfl rfl (fun hp => by repeat first | exact hp | refine PhiW.put (by omega) ?_ | refine PhiW.setN (by omega) ?_ | refine PhiW.setW (by simp; done) ?_) (zmq (nx := a + 4 + 3 + 1) gN seed) ?_
  (refine go ?_)
  refine WW.named (fun hF => (∀ id, id < a + 7 → hF.get id = h2.get id) ∧ hF.get (a + 7) = some (CtS.obj h.next ⟨0, 0, 0⟩) ∧ hF.get (a + 8) = some (.mem 1 [[.int .u32 1]]) ∧ hF.get (a + 9) = some ((⟨seed, [1]⟩ : KsS).obj h.next (a + 8)) ∧ hF.get (a + 10) = some (.mem 7 [[.int .i64 k, .ptr h.next 0 0, .ptr (a + 1) 0 0, .ptr (a + 4) 0 0, .ptr (a + 7) 0 0, .ptr (a + 9) 0 0, .ptr l 0 0]]) ∧ hF.next = a + 11 ∧ ∀ h0 : AHeap, Keeps h0 h → Keeps h0 hF)
   ⟨fun id hi => gE, gH, gH, gH, gH, ?_, fun h0 k0 => ?_⟩ ?_
  ·show AHeap.next _ = a + 4 + 3 + 1 + 1 + 1 + 1
   exact gN
  ·have k3 := k2 h0 (k1 h0 (hK h0 k0))
   have k4 := (hK h0 k0).1
   exact gK
  rintro hF ⟨f1, f2, f3, f4, f5, f6, f7⟩
  have f8 : ∀ id, id < a + 4 → hF.get id = h1.get id := fun id hi => (f1 id (by omega)).trans (m2 id hi)
  have f9 : ∀ id, id < a → hF.get id = h7.get id := fun id hi => (f8 id (by omega)).trans (m1 id hi)
  refine WW.ret ⟨.inl rfl, _, gRES, ⟨h.next, l, o, t, q, a, a, a + 8⟩, rfl, ⟨d1.same (f8 _ ?_) (f8 _ ?_) (f8 _ ?_) (f8 _ ?_) (f8 _ ?_), d2.same (f1 _ ?_) (f1 _ ?_) (f1 _ ?_) (f1 _ ?_), f2, ⟨f4, f3, by simp [ws0], by simp [ws0]⟩, f5, hlk.same (f9 _ l2) fun e => ⟨f9 _ (hid e).2.1, f9 _ (hid e).2.2.2.1, f9 _ (hid e).2.2.2.2.2⟩, ?_, l2, fun e => ⟨(hid e).2.1, (hid e).2.2.2.1, (hid e).2.2.2.2.2⟩, ?_, ⟨.inl rfl, .inl rfl, ?_⟩, ?_⟩, Nat.le_refl _, ?_, fun e => ⟨?_, ?_, ?_⟩, ?_, f7⟩
  all_goals (first | omega | (dsimp only; omega) | (have := hid e; omega) | (have := hid e; dsimp only; omega))
end Go.Proofs.YthblcmnhiccnhaaGreat


namespace Go.Proofs.YthblcmnhiccnhaaGreat
open Go Go.Abs

theorem zl9 (md : Bool) (k : Int) (hk : isG k = false) (seed : Int) (h : AHeap) : AE Tryz.prog 22 [.int .i64 k, .int .u64 seed, .bool md] h (.tup [.nilp, .int .i64 1]) h := by
 refine AE.pureW zb2 (by simp) ?_
 unfold z7e; dsimp only [qQ, qR, qM, qG]
 (refine go ?_)
 refine WL.call rfl gM gSL (z42 k _) ?_
 rw [hk]
 (refine go ?_)
 refine WW.ret (PureQ.finD ?_)
 exact .clo _ (.tup _ fun v hv => by
  simp only [List.mem_cons, List.not_mem_nil, or_false] at hv
  rcases hv with rfl | rfl
  ·exact .nilp
  ·exact .int _ _)
def WS.key (s : WS) : Pr := if s.ks.cur ∈ s.ks.epochs then ofK s.ks.seed s.ks.cur else (0, 0)
theorem z6e {md : Bool} {h : AHeap} {n : WN} {s : WS} (hw : WAt md h n s) (hc : 0 ≤ s.ks.cur ∧ s.ks.cur < 4294967296) : AE Tryz.prog 199 [.ptr (n.a + 10) 0 0] h (.tup [.int .u32 s.ks.cur, .agg (encP s.key)]) h := by
 have hn := hw.nx
 have hob := hw.w
 simp only [wRow] at hob
 refine AE.pureW zb3 (by simp) ?_
 have hnB := hw.nB
 unfold z5k; dsimp only [qQ, qR, qM, qG]
 (refine go ?_)
 refine WL.call rfl gM gSL (z72 (hw.ks.same gE gE)) ?_
 (refine go ?_)
 refine WL.call rfl gM gSL (z7i (hw.ks.same gE gE) s.ks.cur hc) ?_
 (refine go ?_)
 refine WW.ret (PureQ.finD ?_)
 exact Fz.tup2 (.clo _ (.int _ _)) (ze rfl (flatP _))
def sealP (md : Bool) (L : List Iss) (k : Pr) (n : Nn) (head data : Bs) : Bs × Pr := match md with
 | true => ((newI (L.length + 1) k n head data).out, (newI (L.length + 1) k n head data).tag)
 | false => (gcmB k n data, gcmT k n head (gcmB k n data))
def sealL (md : Bool) (L : List Iss) (k : Pr) (n : Nn) (head data : Bs) : List Iss := match md with
 | true => L ++ [newI (L.length + 1) k n head data]
 | false => L
theorem zq5 {c : List AV} (t : TypL [.b] c) : ∃ v : Bool, c = [.bool v] := by
 obtain ⟨v, vs, rfl, h1, h2⟩ := t.cons_inv
 obtain rfl := h2.nil_inv
 obtain ⟨x, rfl⟩ := h1.bool_inv
 exact ⟨x, rfl⟩
end Go.Proofs.YthblcmnhiccnhaaGreat


namespace Go.Proofs.YthblcmnhiccnhaaGreat
open Go Go.Abs

abbrev WN.sdN (n : WN) : SdN := ⟨n.p, n.a + 1, n.B, n.a + 2, n.a + 3⟩
abbrev WN.dkN (n : WN) : DkN := ⟨n.p, n.a + 4, n.a + 5, n.a + 6⟩
theorem WAt.nep {md : Bool} {h : AHeap} {n : WN} {s : WS} (hw : WAt md h n s) : n.l ≠ n.p ∧ (md = true → n.o ≠ n.p ∧ n.t ≠ n.p ∧ n.q ≠ n.p) := by
 have key : ∀ {i j : Nat} {y z : AObj}, h.get i = some y → h.get j = some z → y ≠ z → i ≠ j := fun hi hj hne e => by
  subst e; rw [hi] at hj; exact hne (Option.some.inj hj)
 have hp := hw.sd.pw
 refine ⟨?_, fun e => ?_⟩
 ·cases md with
  | true => exact key (hw.lk.id rfl).cells hp (by simp)
  | false => exact key (hw.lk.re rfl) hp (by simp)
 ·obtain ⟨q0, q1, q2, q3⟩ := hw.lk.id e
  exact ⟨key q1 hp (by simp), key q2 hp (by simp), key q3 hp (by simp)⟩
def WN.still (md : Bool) (n : WN) (id : Nat) : Prop := id = n.a + 10 ∨ id = n.l ∨ (md = true ∧ (id = n.o ∨ id = n.t ∨ id = n.q))
theorem WAt.re {md : Bool} {h h' : AHeap} {n : WN} {s s' : WS} (hw : WAt md h n s) (hn : s'.n = s.n) (hL : s'.L = s.L) (hS : s'.S = s.S) (hx : h.next ≤ h'.next) (sd : SdAt h' n.sdN s'.pw s'.sd) (dk : DkAt h' n.dkN s'.pw s'.dk) (ct : h'.get (n.a + 7) = some (s'.ct.obj n.p)) (ks : KsAt h' n.p (n.a + 9) n.E s'.ks) (fr : ∀ id, n.still md id → h'.get id = h.get id) : WAt md h' n s' := by
 refine ⟨sd, dk, ct, ks, (fr _ (.inl rfl)).trans (by rw [hn]; exact hw.w), ?_, hw.op, hw.ol, hw.oo, Nat.le_trans hw.nx hx, hw.oB, ⟨Nat.lt_of_lt_of_le hw.nB.1 hx, Nat.lt_of_lt_of_le hw.nB.2 hx⟩⟩
 rw [hL, hS]
 exact hw.lk.same (fr _ (.inr (.inl rfl))) fun e => ⟨fr _ (.inr (.inr ⟨e, .inl rfl⟩)), fr _ (.inr (.inr ⟨e, .inr (.inl rfl)⟩)), fr _ (.inr (.inr ⟨e, .inr (.inr rfl)⟩))⟩
theorem WAt.still {md : Bool} {h : AHeap} {n : WN} {s : WS} (hw : WAt md h n s) {id : Nat} (hi : n.still md id) : id ≠ n.p ∧ (id < n.a ∨ id = n.a + 10) := by
 have hp := hw.nep
 have h1 := hw.op
 have hoB := hw.oB
 have h2 := hw.ol
 rcases hi with rfl | rfl | ⟨e, rfl | rfl | rfl⟩
 ·omega
 ·omega
 ·have := hw.oo e; have := hp.2 e; omega
 ·have := hw.oo e; have := hp.2 e; omega
 ·have := hw.oo e; have := hp.2 e; omega
theorem WAt.sdNe {md : Bool} {h : AHeap} {n : WN} {s : WS} (hw : WAt md h n s) : SdNe h n.sdN := by
 have h1 := hw.op
 have hoB := hw.oB
 have h2 := hw.nx
 have h3 := hw.nB
 constructor <;> dsimp only <;> omega
theorem WAt.putSd {md : Bool} {h : AHeap} {n : WN} {s : WS} (hw : WAt md h n s) (w' : PwS) (x' : SdS) : WAt md (sdPut n.sdN w' x' h) n { s with pw := w', sd := x' } := by
 have h1 := hw.op
 have hoB := hw.oB
 have hd := hw.dk
 have hp := SdAt.put hw.sdNe w' x'
 have g : ∀ id, id ≠ n.p → (id ≠ n.B ∧ (id < n.a ∨ n.a + 4 ≤ id)) → (sdPut n.sdN w' x' h).get id = h.get id := fun id e1 e2 => zi9 (by dsimp only; omega) (by dsimp only; omega) (by dsimp only; omega) (by dsimp only; omega) (by dsimp only; omega)
 refine hw.re rfl rfl rfl (Nat.le_refl _) hp ⟨hp.pw, (g _ (by dsimp only; omega) (by dsimp only; omega)).trans hd.ob, (g _ (by dsimp only; omega) (by dsimp only; omega)).trans hd.wt, (g _ (by dsimp only; omega) (by dsimp only; omega)).trans hd.tr, hd.ne, hd.ll⟩ ((g _ (by omega) (by omega)).trans hw.ct) (hw.ks.same (g _ (by omega) (by omega)) (g _ (by omega) (by omega))) fun id hi => ?_
 have := hw.still hi
 exact g id this.1 (by omega)
theorem WAt.putPw {md : Bool} {h : AHeap} {n : WN} {s : WS} (hw : WAt md h n s) (w' : PwS) : WAt md (h.set n.p (some (.mem 4 [w'.row]))) n { s with pw := w' } := by
 have h1 := hw.op
 have hoB := hw.oB
 have hd := hw.dk
 have hs := hw.sd
 have g : ∀ id, id ≠ n.p → (h.set n.p (some (.mem 4 [w'.row]))).get id = h.get id := fun id e1 => z1 e1 rfl
 refine hw.re rfl rfl rfl (Nat.le_refl _) ⟨zb, (g _ (by dsimp only; omega)).trans hs.ob, (g _ (by dsimp only; omega)).trans hs.bl, (g _ (by dsimp only; omega)).trans hs.wt, (g _ (by dsimp only; omega)).trans hs.tr, hs.ne⟩ ⟨zb, (g _ (by dsimp only; omega)).trans hd.ob, (g _ (by dsimp only; omega)).trans hd.wt, (g _ (by dsimp only; omega)).trans hd.tr, hd.ne, hd.ll⟩ ((g _ (by omega)).trans hw.ct) (hw.ks.same (g _ (by omega)) (g _ (by omega))) fun id hi => ?_
 exact g id (hw.still hi).1
theorem WAt.putCt {md : Bool} {h : AHeap} {n : WN} {s : WS} (hw : WAt md h n s) (w' : PwS) (c' : CtS) : WAt md ((h.set n.p (some (.mem 4 [w'.row]))).set (n.a + 7) (some (c'.obj n.p))) n { s with pw := w', ct := c' } := by
 have h1 := hw.op
 have hoB := hw.oB
 have hd := hw.dk
 have hs := hw.sd
 have g : ∀ id, id ≠ n.p → id ≠ n.a + 7 → ((h.set n.p (some (.mem 4 [w'.row]))).set (n.a + 7) (some (c'.obj n.p))).get id = h.get id := fun id e1 e2 => z1 e2 (z1 e1 rfl)
 have gp : ((h.set n.p (some (.mem 4 [w'.row]))).set (n.a + 7) (some (c'.obj n.p))).get n.p = some (.mem 4 [w'.row]) := z1 (by omega) zb
 refine hw.re rfl rfl rfl (Nat.le_refl _) ⟨gp, (g _ (by dsimp only; omega) (by dsimp only; omega)).trans hs.ob, (g _ (by dsimp only; omega) (by dsimp only; omega)).trans hs.bl, (g _ (by dsimp only; omega) (by dsimp only; omega)).trans hs.wt, (g _ (by dsimp only; omega) (by dsimp only; omega)).trans hs.tr, hs.ne⟩ ⟨gp, (g _ (by dsimp only; omega) (by dsimp only; omega)).trans hd.ob, (g _ (by dsimp only; omega) (by dsimp only; omega)).trans hd.wt, (g _ (by dsimp only; omega) (by dsimp only; omega)).trans hd.tr, hd.ne, hd.ll⟩ zb (hw.ks.same (g _ (by omega) (by omega)) (g _ (by omega) (by omega))) fun id hi => ?_
 have := hw.still hi
 exact g id this.1 (by omega)
end Go.Proofs.YthblcmnhiccnhaaGreat


namespace Go.Proofs.YthblcmnhiccnhaaGreat
open Go Go.Abs

def z2t (K : Nat → Bool) : Nat → List Wr → List Bs → List Bs
 | _, [], b => b
 | i, o :: r, b => z2t K (i + 1) r (if K i then b.set o.1.toNat o.2 else b)
def DkS.crash (x : DkS) (K : Nat → Bool) : DkS := { x with lasts := z2t K 0 x.waits x.lasts, waits := [], gen := x.gen + 1 }
theorem zib (K : Nat → Bool) : ∀ (l : List Wr) (i : Nat) (b : List Bs), (z2t K i l b).length = b.length
 | [], _, _ => rfl
 | o :: r, i, b => by
  rw [z2t, zib K r]
  split <;> simp
set_option maxHeartbeats 1000000 in
theorem zjk {h : AHeap} {n : DkN} {w : PwS} {x : DkS} (hd : DkAt h n w x) (h1 : x.waits.length ≤ 1000000) (hw : ∀ o ∈ x.waits, 0 ≤ o.1 ∧ o.1 < 32) (keep : List Bool) (hkl : keep.length ≤ 9223372036854775807) :
  AE Tryz.prog 105 [.ptr n.d 0 0, .imm 1 (keep.map encBo)] h (.tup []) (dkPut n w (x.crash (keepF keep)) h) := by
 refine AE.wfU fun hwu => ?_
 have hns := hd.nes fun id y hy => (hwu id y hy).1
 obtain ⟨a1, a2, a4, a5, b1, b3, b4, b6, b7, bx⟩ := id hns
 have hd' := hd
 obtain ⟨q1, q2, q4, q5, q6, q7⟩ := hd
 have hm : (x.lasts.map encBl).length = 32 := by simpa using q7
 obtain ⟨r33, r34, r35⟩ := zni hm (.ptr n.p 0 0) (.app n.w x.gen 2 (x.waits.map encO)) (.app n.t 0 2 (x.trace.map encO)) (.bool x.refuses)
 refine AE.effW zbf (by simp) (zun hd' _ _) ?_
 unfold z5o; dsimp only [qQ, qR, qM, qG]
 (refine go ?_)
 refine WL.go (hs := Stp.load1 rfl q2 (zrl r33) gM) ?_
 (refine go ?_)
 refine WW.loopE (fun (s : Nat × List Bs) => [(0, some (.ptr n.d 0 0)), (1, some (.imm 1 (keep.map encBo))), (11, some (.app n.w x.gen 2 (x.waits.map encO))), (12, some (.int .i64 x.waits.length)), (13, some (.int .i64 s.1))])
  (fun s h' => h'.get n.d = some (.mem 36 [dkRow n.p n.w n.t { x with lasts := s.2 }]) ∧ KeepsB [n.d] h h' ∧ s.2.length = 32 ∧ s.1 ≤ x.waits.length ∧ z2t (keepF keep) s.1 (x.waits.drop s.1) s.2 = z2t (keepF keep) 0 x.waits x.lasts)
  (fun s => x.waits.length - s.1) (0, x.lasts) gSUB ⟨q2, KeepsB.refl, q7, Nat.zero_le _, rfl⟩ ?_
 rintro ⟨i, b⟩ h' ⟨g1, g2, g3, g4, g5⟩
 dsimp only at g1 g2 g3 g4 g5 ⊢
 have gn := g2.1
 obtain ⟨nx, hnx⟩ : ∃ nx, h'.next = nx := ⟨_, rfl⟩
 (refine go ?_)
 (refine WW.ifB rfl (fun hz1 => ?_) (fun hz1 => ?_))
 ·have hi : i < x.waits.length := by omega
  have hwi := hw x.waits[i] (List.getElem_mem hi)
  (repeat first | refine WW.seq ?_ | refine WW.reg ?_ | refine WL.nil ?_ | refine WW.skip ?_ | refine WW.block ?_ | refine thenN ?_ | refine blkN ?_); iterate 6 (refine WL.go ?_)
  (repeat first | refine WW.seq ?_ | refine WW.reg ?_ | refine WL.nil ?_ | refine WW.skip ?_ | refine WW.block ?_ | refine thenN ?_ | refine blkN ?_); iterate 5 (refine WL.go ?_)
  have hstep : ∀ b2, b2 = (if keepF keep i then b.set x.waits[i].1.toNat x.waits[i].2 else b) → z2t (keepF keep) (i + 1) (x.waits.drop (i + 1)) b2 = z2t (keepF keep) 0 x.waits x.lasts := fun b2 h2 => by
   rw [← g5, List.drop_eq_getElem_cons hi, z2t, h2]
  (refine WL.spB rfl (fun hz2 => ?_) (fun hz2 => ?_))
  ·have hik : i < keep.length := by omega
   have hKi : keepF keep i = keep[i] := by simp [keepF, List.getD_eq_getElem?_getD, List.getElem?_eq_getElem hik]
   (repeat first | refine WW.seq ?_ | refine WW.reg ?_ | refine WL.nil ?_ | refine WW.skip ?_ | refine WW.block ?_ | refine thenN ?_ | refine blkN ?_); iterate 5 (refine WL.go ?_)
   cases hk : keep[i] with
   | true =>
    rw [hk] at hKi
    (repeat first | refine WW.seq ?_ | refine WW.reg ?_ | refine WL.nil ?_ | refine WW.skip ?_ | refine WW.block ?_ | refine thenN ?_ | refine blkN ?_)
    refine WW.condT rfl ?_
    (repeat first | refine WW.seq ?_ | refine WW.reg ?_ | refine WL.nil ?_ | refine WW.skip ?_ | refine WW.block ?_ | refine thenN ?_ | refine blkN ?_)
    refine WW.dregX [8] [] [n.d] gN (by decide +kernel) ?_
    iterate 8 (refine DW.go ?_)
    have hmb : (b.map encBl).length = 32 := by simpa using g3
    refine DW.goW (hs := Stp.store1N (cs := .ptr n.p 0 0 :: ((b.map encBl).set x.waits[i].1.toNat (.imm 1 (x.waits[i].2.map encB)) ++ [.app n.w x.gen 2 (x.waits.map encO), .app n.t 0 2 (x.trace.map encO), .bool x.refuses])) rfl rfl gH rfl (by simp [dkRow, g3]; omega) rfl (by rw [show 0 + 1 + x.waits[i].1.toNat * 1 = 1 + x.waits[i].1.toNat by omega]; exact zrk hmb _ _ _ (by omega)) gM) ?_ (fun hp => PhiW.setW (by simp) hp)
    refine DW.endL ?_
    (refine go ?_)
    refine ⟨(i + 1, b.set x.waits[i].1.toNat x.waits[i].2), gSUB, ⟨?_, gKB, by dsimp only; rw [List.length_set, g3], by dsimp only; omega, hstep _ (by rw [hKi]; rfl)⟩, by dsimp only; omega⟩
    have ho : dkRow n.p n.w n.t { x with lasts := b.set x.waits[i].1.toNat x.waits[i].2 } = .ptr n.p 0 0 :: ((b.map encBl).set x.waits[i].1.toNat (.imm 1 (x.waits[i].2.map encB)) ++ [.app n.w x.gen 2 (x.waits.map encO), .app n.t 0 2 (x.trace.map encO), .bool x.refuses]) := by
     simp only [dkRow, List.map_set]; rfl
    dsimp only
    rw [ho]; exact gH
   | false =>
    rw [hk] at hKi
    (repeat first | refine WW.seq ?_ | refine WW.reg ?_ | refine WL.nil ?_ | refine WW.skip ?_ | refine WW.block ?_ | refine thenN ?_ | refine blkN ?_)
    refine WW.condF rfl ?_
    (refine go ?_)
    refine ⟨(i + 1, b), gSUB, ⟨gH, gKB, g3, by dsimp only; omega, hstep _ (by rw [hKi]; rfl)⟩, by dsimp only; omega⟩
  ·have hKi : keepF keep i = false := by simp [keepF, List.getD_eq_getElem?_getD, List.getElem?_eq_none (show keep.length ≤ i by omega)]
   (refine go ?_)
   refine ⟨(i + 1, b), gSUB, ⟨gH, gKB, g3, by dsimp only; omega, hstep _ (by rw [hKi]; rfl)⟩, by dsimp only; omega⟩
 ·have hi : i = x.waits.length := by omega
  subst hi
  simp only [List.drop_length, z2t] at g5
  refine WW.exit ?_
  (repeat first | refine WW.seq ?_ | refine WW.reg ?_ | refine WL.nil ?_ | refine WW.skip ?_ | refine WW.block ?_ | refine thenN ?_ | refine blkN ?_); iterate 3 (refine WL.go ?_)
  have hmb : (b.map encBl).length = 32 := by simpa using g3
  refine WL.go (hs := Stp.store1N (cs := .ptr n.p 0 0 :: (b.map encBl ++ [.nils, .app n.t 0 2 (x.trace.map encO), .bool x.refuses])) rfl rfl gH rfl (by simp [dkRow, g3]) rfl (znh hmb _ _ _ _ _).1 gM) ?_
  have p1 := (g2.2 n.p (hwu _ _ q1) (by simpa using b1)).trans q1
  have p4 := (g2.2 n.w (hwu _ _ q4) (by simpa using Ne.symm b6)).trans q4
  have p5 := (g2.2 n.t (hwu _ _ q5) (by simpa using Ne.symm b7)).trans q5
  have gk : KeepsB [n.p, n.d, n.w, n.t] h h' := ⟨g2.1, fun id hu hn => g2.2 id hu (by simp at hn ⊢; exact hn.2.1)⟩
  refine WL.cvt (Cvt.anewM 2 (id := n.d) (i := 0) (j := 33) (t := n.w) (g := x.gen) (n := x.waits.length) gH gH rfl (zni hmb _ _ _ _).1) ?_
  have hset : (AV.ptr n.p 0 0 :: (b.map encBl ++ [.nils, .app n.t 0 2 (x.trace.map encO), .bool x.refuses])).set 33 (.app n.w (x.gen + 1) 2 []) = .ptr n.p 0 0 :: (b.map encBl ++ [.app n.w (x.gen + 1) 2 [], .app n.t 0 2 (x.trace.map encO), .bool x.refuses]) := by
   rw [← zh1 (by simp [g3]), (znh hmb _ _ _ _ _).1]
  simp only [hset]
  (refine go ?_)
  subst g5
  refine EffQ.fin (.inr rfl) ?_ gRES ?_
  ·refine zrm gKB ⟨gH, ?_, gH, gH, bx, g3⟩
   have ho : dkRow n.p n.w n.t (x.crash (keepF keep)) = .ptr n.p 0 0 :: ((z2t (keepF keep) 0 x.waits x.lasts).map encBl ++ [.app n.w (x.gen + 1) 2 [], .app n.t 0 2 (x.trace.map encO), .bool x.refuses]) := rfl
   rw [ho]; exact gH
  ·exact zc4
theorem WAt.dkNe {md : Bool} {h : AHeap} {n : WN} {s : WS} (hw : WAt md h n s) : DkNe h n.dkN := by
 have h1 := hw.op
 have hoB := hw.oB
 have h2 := hw.nx
 constructor <;> dsimp only <;> omega
theorem WAt.putDk {md : Bool} {h : AHeap} {n : WN} {s : WS} (hw : WAt md h n s) (w' : PwS) (x' : DkS) (hl : x'.lasts.length = 32) : WAt md (dkPut n.dkN w' x' h) n { s with pw := w', dk := x' } := by
 have h1 := hw.op
 have hoB := hw.oB
 have hs := hw.sd
 have hp := DkAt.put hw.dkNe w' hl
 have g : ∀ id, id ≠ n.p → (id < n.a + 4 ∨ n.a + 7 ≤ id) → (dkPut n.dkN w' x' h).get id = h.get id := fun id e1 e2 => zq2 (by dsimp only; omega) (by dsimp only; omega) (by dsimp only; omega) (by dsimp only; omega)
 refine hw.re rfl rfl rfl (Nat.le_refl _) ⟨hp.pw, (g _ (by dsimp only; omega) (by dsimp only; omega)).trans hs.ob, (g _ (by dsimp only; omega) (by dsimp only; omega)).trans hs.bl, (g _ (by dsimp only; omega) (by dsimp only; omega)).trans hs.wt, (g _ (by dsimp only; omega) (by dsimp only; omega)).trans hs.tr, hs.ne⟩ hp ((g _ (by omega) (by omega)).trans hw.ct) (hw.ks.same (g _ (by omega) (by omega)) (g _ (by omega) (by omega))) fun id hi => ?_
 have := hw.still hi
 exact g id this.1 (by omega)
end Go.Proofs.YthblcmnhiccnhaaGreat


namespace Go.Proofs.YthblcmnhiccnhaaGreat
open Go Go.Abs

structure Kp (W : Nat → Prop) (h h1 : AHeap) : Prop where
 next : h.next ≤ h1.next
 us : ∀ id, h.used id → h1.used id
 get : ∀ id, h.used id → ¬ W id → h1.get id = h.get id
section
variable {W : Nat → Prop} {h h1 h2 : AHeap}
theorem Kp.refl : Kp W h h := ⟨Nat.le_refl _, fun _ h => h, fun _ _ _ => rfl⟩
theorem Kp.put (hk : Kp W h h1) {nm : Nat} (hn : h.next ≤ nm) (x : AObj) : Kp W h (h1.put nm x) :=
 ⟨z4w hk.next, fun id hu => z14 (hk.us id hu), fun id hu hw => by
  rw [zx, if_neg (by have := hu.1; omega)]
  exact hk.get id hu hw⟩
theorem Kp.setN (hk : Kp W h h1) {nm : Nat} (hn : h.next ≤ nm) (x : Option AObj) : Kp W h (h1.set nm x) :=
 ⟨hk.next, hk.us, fun id hu hw => by
  rw [zd, if_neg (by have := hu.1; omega)]
  exact hk.get id hu hw⟩
theorem Kp.setW (hk : Kp W h h1) {nm : Nat} (hn : W nm) (x : Option AObj) : Kp W h (h1.set nm x) :=
 ⟨hk.next, hk.us, fun id hu hw => by
  rw [zd, if_neg (fun e => hw (by rw [e]; exact hn))]
  exact hk.get id hu hw⟩
theorem Kp.keep (hk : Kp W h h1) (k : Nat) : Kp W h (h1.keep k) := ⟨Nat.le_trans hk.next (Nat.le_add_right _ _), fun id hu => zax (hk.us id hu), hk.get⟩
theorem Kp.trans (hk : Kp W h h1) (hk2 : Kp W h1 h2) : Kp W h h2 := ⟨Nat.le_trans hk.next hk2.next, fun id hu => hk2.us id (hk.us id hu), fun id hu hw => (hk2.get id (hk.us id hu) hw).trans (hk.get id hu hw)⟩
theorem Kp.trans2 {V : Nat → Prop} (hk : Kp V h h1) (hk2 : Kp W h1 h2) (hv : ∀ id, W id → V id ∨ h.next ≤ id) : Kp V h h2 := ⟨Nat.le_trans hk.next hk2.next, fun id hu => hk2.us id (hk.us id hu), fun id hu hw => (hk2.get id (hk.us id hu) fun e => (hv id e).elim hw fun e2 => by have := hu.1; omega).trans (hk.get id hu hw)⟩
theorem Kp.mono {V : Nat → Prop} (hk : Kp W h h1) (hv : ∀ id, h.used id → W id → V id) : Kp V h h1 := ⟨hk.next, hk.us, fun id hu hw => hk.get id hu fun e => hw (hv id hu e)⟩
theorem Kp.keeps (hk : Kp W h h1) (hv : ∀ id, W id → h.next ≤ id) : Keeps h h1 := ⟨hk.next, fun id hu => hk.get id hu fun e => by have := hv id e; have := hu.1; omega⟩
end
def WN.own (md : Bool) (n : WN) (id : Nat) : Prop := id = n.p ∨ ((n.a < id ∧ id < n.a + 8) ∨ id = n.a + 9 ∨ id = n.B ∨ id = n.E) ∨ (md = true ∧ (id = n.o ∨ id = n.t ∨ id = n.q))
def WN.all (md : Bool) (n : WN) (id : Nat) : Prop := id = n.p ∨ id = n.l ∨ ((n.a < id ∧ id < n.a + 8) ∨ id = n.a + 9 ∨ id = n.a + 10 ∨ id = n.B ∨ id = n.E) ∨ (md = true ∧ (id = n.o ∨ id = n.t ∨ id = n.q))
theorem WN.own_all {md : Bool} {n : WN} {id : Nat} (h : n.own md id) : n.all md id := by
 rcases h with h | h | h
 ·exact .inl h
 ·exact .inr (.inr (.inl (by omega)))
 ·exact .inr (.inr (.inr h))
theorem WAt.used {md : Bool} {h : AHeap} {n : WN} {s : WS} (hw : WAt md h n s) (hu : ∀ id x, h.get id = some x → h.used id) : ∀ id, n.all md id → h.used id := fun id hi => by
 have hs := hw.sd
 have hd := hw.dk
 have hk := hw.ks
 rcases hi with rfl | rfl | hi | ⟨hm, rfl | rfl | rfl⟩
 ·exact hu _ _ hs.pw
 ·cases md with
  | true => exact hu _ _ (hw.lk.id rfl).cells
  | false => exact hu _ _ (hw.lk.re rfl)
 ·have : id = n.B ∨ id = n.a + 1 ∨ id = n.a + 2 ∨ id = n.a + 3 ∨ id = n.a + 4 ∨ id = n.a + 5 ∨ id = n.a + 6 ∨ id = n.a + 7 ∨ id = n.E ∨ id = n.a + 9 ∨ id = n.a + 10 := by omega
  rcases this with rfl | rfl | rfl | rfl | rfl | rfl | rfl | rfl | rfl | rfl | rfl
  ·exact hu _ _ hs.bl
  ·exact hu _ _ hs.ob
  ·exact hu _ _ hs.wt
  ·exact hu _ _ hs.tr
  ·exact hu _ _ hd.ob
  ·exact hu _ _ hd.wt
  ·exact hu _ _ hd.tr
  ·exact hu _ _ hw.ct
  ·exact hu _ _ hk.tl
  ·exact hu _ _ hk.ob
  ·exact hu _ _ hw.w
 all_goals
  obtain ⟨q0, q1, q2, q3⟩ := hw.lk.id hm
  first | exact hu _ _ q1 | exact hu _ _ q2 | exact hu _ _ q3
theorem WAt.kp {W : Nat → Prop} {md : Bool} {h h' : AHeap} {n : WN} {s : WS} (hw : WAt md h n s) (hu : ∀ id, n.all md id → h.used id) (hk : Kp W h h') (hd : ∀ id, n.all md id → ¬ W id) : WAt md h' n s := by
 have g : ∀ id, n.all md id → h'.get id = h.get id := fun id hi => hk.get id (hu id hi) (hd id hi)
 have ga : ∀ i, 0 < i ∧ i < 11 ∧ i ≠ 8 → h'.get (n.a + i) = h.get (n.a + i) := fun i hi => g _ (.inr (.inr (.inl (by omega))))
 have gB : h'.get n.B = h.get n.B := g _ (.inr (.inr (.inl (by omega))))
 have gE : h'.get n.E = h.get n.E := g _ (.inr (.inr (.inl (by omega))))
 have g0 := g n.p (.inl rfl)
 refine ⟨hw.sd.same g0 (ga 1 (by omega)) gB (ga 2 (by omega)) (ga 3 (by omega)), hw.dk.same g0 (ga 4 (by omega)) (ga 5 (by omega)) (ga 6 (by omega)), (ga 7 (by omega)).trans hw.ct, hw.ks.same (ga 9 (by omega)) gE, (ga 10 (by omega)).trans hw.w, hw.lk.same (g _ (.inr (.inl rfl))) fun e => ⟨g _ (.inr (.inr (.inr ⟨e, .inl rfl⟩))), g _ (.inr (.inr (.inr ⟨e, .inr (.inl rfl)⟩))), g _ (.inr (.inr (.inr ⟨e, .inr (.inr rfl)⟩)))⟩, hw.op, hw.ol, hw.oo, Nat.le_trans hw.nx hk.next, hw.oB, ⟨Nat.lt_of_lt_of_le hw.nB.1 hk.next, Nat.lt_of_lt_of_le hw.nB.2 hk.next⟩⟩
theorem WAt.new {md : Bool} {h h' : AHeap} {n : WN} {s : WS} (hw : WAt md h n s) (hu : ∀ id, n.all md id → h.used id) (hk : Kp (fun _ => False) h h') : WAt md h' n s := hw.kp hu hk fun _ _ h => h
theorem kp_sd {md : Bool} {h : AHeap} (n : WN) (w : PwS) (x : SdS) : Kp (n.own md) h (sdPut n.sdN w x h) := by
 unfold sdPut
 refine Kp.setW (Kp.setW (Kp.setW (Kp.setW (Kp.setW Kp.refl (.inl rfl) _) (.inr (.inl ?_)) _) (.inr (.inl ?_)) _) (.inr (.inl ?_)) _) (.inr (.inl ?_)) _ <;> dsimp only <;> omega
theorem kp_dk {md : Bool} {h : AHeap} (n : WN) (w : PwS) (x : DkS) : Kp (n.own md) h (dkPut n.dkN w x h) := by
 unfold dkPut
 refine Kp.setW (Kp.setW (Kp.setW (Kp.setW Kp.refl (.inl rfl) _) (.inr (.inl ?_)) _) (.inr (.inl ?_)) _) (.inr (.inl ?_)) _ <;> dsimp only <;> omega
theorem kp_pw {md : Bool} {h : AHeap} (n : WN) (w : PwS) : Kp (n.own md) h (h.set n.p (some (.mem 4 [w.row]))) := Kp.setW Kp.refl (.inl rfl) _
theorem kp_ct {md : Bool} {h : AHeap} (n : WN) (w : PwS) (c : CtS) : Kp (n.own md) h ((h.set n.p (some (.mem 4 [w.row]))).set (n.a + 7) (some (c.obj n.p))) := Kp.setW (Kp.setW Kp.refl (.inl rfl) _) (.inr (.inl (by omega))) _
def WS.crash (s : WS) (K : Nat → Bool) : WS := { s with pw := { s.pw with gone := false, fuse := false }, sd := s.sd.settle K, dk := s.dk.crash K }
theorem zh3 {md : Bool} {h : AHeap} {n : WN} {s : WS} (hw : WAt md h n s) (hl : s.sd.lasts.length ≤ 1000000) (h1 : s.sd.waits.length ≤ 1000000) (h2 : ∀ o ∈ s.sd.waits, 0 ≤ o.1 ∧ o.1 + o.2.length ≤ s.sd.lasts.length) (h3 : s.dk.waits.length ≤ 1000000) (h4 : ∀ o ∈ s.dk.waits, 0 ≤ o.1 ∧ o.1 < 32) (keep : List Bool) (hkl : keep.length ≤ 9223372036854775807) :
  AC Tryz.prog 50 [.ptr (n.a + 10) 0 0, .imm 1 (keep.map encBo)] h (fun r h' => r = .tup [] ∧ WAt md h' n (s.crash (keepF keep)) ∧ Kp (n.own md) h h') := by
 refine AC.introW z8x (by simp) ?_
 unfold z4a; dsimp only [qQ, qR, qM, qG]
 have hob := hw.w
 simp only [wRow] at hob
 (refine go ?_)
 refine WL.call rfl gM gSL (zl5 hw.sd hl h1 h2 keep hkl) ?_
 have w1 := hw.putSd s.pw (s.sd.settle (keepF keep))
 have k1 := kp_sd (md := md) (h := h) n s.pw (s.sd.settle (keepF keep))
 refine WL.named (fun h5 => WAt md h5 n _ ∧ Kp (n.own md) h h5) ⟨w1, k1⟩ ?_
 clear w1 k1
 rintro h5 ⟨w1, k1⟩
 have hob1 := w1.w
 simp only [wRow] at hob1
 (refine go ?_)
 refine WL.call rfl gM gSL (zjk w1.dk h3 h4 keep hkl) ?_
 have w2 := w1.putDk s.pw (s.dk.crash (keepF keep)) ((zib _ _ _ _).trans w1.dk.ll)
 have k2 := k1.trans (kp_dk (md := md) (h := h5) n s.pw (s.dk.crash (keepF keep)))
 refine WL.named (fun h6 => WAt md h6 n _ ∧ Kp (n.own md) h h6) ⟨w2, k2⟩ ?_
 clear w2 k2
 rintro h6 ⟨w2, k2⟩
 have hob2 := w2.w
 simp only [wRow] at hob2
 (refine go ?_)
 refine WL.call rfl gM gSL (zjc w2.sd.pw) ?_
 (refine go ?_)
 exact ⟨.inr rfl, _, gRES, rfl, w2.putPw _, k2.trans (kp_pw n _)⟩
end Go.Proofs.YthblcmnhiccnhaaGreat


namespace Go.Proofs.YthblcmnhiccnhaaGreat
open Go Go.Abs

theorem z74 (p : Pr) : (pairB p).length = 16 := by simp [pairB]
def leafK (b : Bs) : Bs := 0 :: b
def nodeK (a b : Pr) : Bs := 1 :: (pairB a ++ pairB b)
def sumP (S : List Bs) (k : Bs) : Pr := (eees, (sumN S k : Int))
theorem zte (S : List Bs) (k : Bs) : (sumS S k).length ≤ S.length + 1 := by unfold sumS; split <;> simp
theorem zla {h k : AHeap} (h1 : ∀ i, h.get i = k.get i) (h2 : h.next = k.next) (h3 : ∀ i, h.gap i = k.gap i) : h = k := by
 cases h; cases k
 simp only at h1 h2 h3
 rw [funext h1, h2, funext h3]
theorem z94 {h : AHeap} {s : Nat} (hs : h.get s = none) : h.set s none = h :=
  zla (fun i => by rw [zd]; split; · rename_i e; rw [e, hs]
                   · rfl) rfl fun _ => rfl
def gP (md : Bool) (S : List Bs) (k : Bs) : Pr := match md with | true => sumP S k | false => z2z k
def gS (md : Bool) (S : List Bs) (k : Bs) : List Bs := match md with | true => sumS S k | false => S
def gO (md : Bool) (S : List Bs) : Option AObj := match md with | true => some (.map (encM S)) | false => none
theorem gS_le (md : Bool) (S : List Bs) (k : Bs) : (gS md S k).length ≤ S.length + 1 := by
 cases md
 ·exact Nat.le_succ _
 ·exact zte S k
structure GAt (md : Bool) (h : AHeap) (l s : Nat) (S : List Bs) : Prop where
 id : md = true → ∃ o t g L, IdAt h l o t s g L S
 re : md = false → h.get l = some (.mem 5 [reC])
 sm : h.get s = gO md S
 ls : s < h.next
 ll : l < h.next
theorem GAt.ne {md : Bool} {h : AHeap} {l s : Nat} {S : List Bs} (hl : GAt md h l s S) : l ≠ s := by
 rintro rfl
 cases md with
 | true => obtain ⟨o, t, g, L, q, q1⟩ := hl.id rfl; rw [q1.sums] at q; cases q
 | false => have := hl.re rfl; rw [hl.sm] at this; cases this
structure GLt (md : Bool) (h : AHeap) (l s : Nat) (S : List Bs) : Prop where
 a1 : l < h.next
 a2 : s < h.next
 a3 : h.get s = gO md S
 a4 : l ≠ s
theorem GAt.lt {md : Bool} {h : AHeap} {l s : Nat} {S : List Bs} (hl : GAt md h l s S) : GLt md h l s S := ⟨hl.ll, hl.ls, hl.sm, hl.ne⟩
theorem GAt.frame {md : Bool} {h h' : AHeap} {l s : Nat} {S S' : List Bs} (hl : GAt md h l s S) (hu : ∀ id x, h.get id = some x → h.used id) (hk : KeepsB [s] h h') (hs : h'.get s = gO md S') : GAt md h' l s S' := by
 refine ⟨fun e => ?_, fun e => ?_, hs, Nat.lt_of_lt_of_le hl.ls hk.1, Nat.lt_of_lt_of_le hl.ll hk.1⟩
 ·obtain ⟨o, t, g, L, q0, q1, q2, q3⟩ := hl.id e
  subst e
  have d1 : o ≠ s := by rintro rfl; rw [q1] at q3; cases q3
  have d2 : t ≠ s := by rintro rfl; rw [q2] at q3; cases q3
  exact ⟨o, t, g, L, (hk.2 l (hu _ _ q0) (by simpa using hl.ne)).trans q0, ⟨(hk.2 o (hu _ _ q1) (by simpa using d1)).trans q1, (hk.2 t (hu _ _ q2) (by simpa using d2)).trans q2, hs⟩⟩
 ·have q0 := hl.re e
  exact (hk.2 l (hu _ _ q0) (by simpa using hl.ne)).trans q0
theorem GAt.ext {md : Bool} {h : AHeap} {l s : Nat} {S : List Bs} (hl : GAt md h l s S) (_hu : ∀ id x, h.get id = some x → h.used id) (S' : List Bs) : Ext h (h.set s (gO md S')) := by
 cases md with
 | true => exact Ext.set (x := .map _) Ext.refl (Nm.old hl.sm) (zdu _)
 | false => rw [show gO false S' = none from rfl, z94 hl.sm]; exact Ext.refl
theorem zbk {md : Bool} {h : AHeap} {l s : Nat} {S : List Bs} (hl : GAt md h l s S) (hS : S.length ≤ 1000000) (rows : List Bs) (hr1 : rows.length ≤ 1000000) (hr2 : rows.flatten.length ≤ 1000000) :
  AE Tryz.prog 281 [.ptr l 0 0, .imm 1 (rows.map encR)] h (.agg (encP (gP md S rows.flatten))) (h.set s (gO md (gS md S rows.flatten))) := by
 cases md with
 | true =>
  obtain ⟨o, t, g, L, q⟩ := hl.id rfl
  exact zkq q hS rows hr1 hr2
 | false =>
  rw [show gO false (gS false S rows.flatten) = none from rfl, z94 hl.sm]
  exact zl7 (hl.re rfl) rows hr1 hr2
attribute [local irreducible] z2z
theorem zfn {md : Bool} {h : AHeap} {l s : Nat} {S : List Bs} (hl : GAt md h l s S) (hS : S.length ≤ 200000) (b : Bs) (hb : b.length ≤ 100000) :
  AE Tryz.prog 245 [.ptr l 0 0, .imm 1 (b.map encB)] h (.agg (encP (gP md S (leafK b)))) (h.set s (gO md (gS md S (leafK b)))) := by
 refine AE.wfU fun hwu => ?_
 obtain ⟨w1, w4, w5, w6⟩ := hl.lt
 refine AE.effW zf1 (by simp) (hl.ext hwu _) ?_
 unfold z7x; dsimp only [qQ, qR, qM, qG]
 (refine go ?_)
 have hcon := zbk (h := h.put h.next (.mem 2 [[.int .u64 0, .int .u64 0]])) (hl.frame hwu gKB gH) (by omega) [[0], b] (by simp) (by simp; omega)
 rw [show [[(0 : UInt8)], b].flatten = leafK b by simp [leafK]] at hcon
 refine WL.call rfl gM gSL (hcon) ?_
 (refine go ?_)
 refine WW.ret (EffQ.finD ?_ ?_)
 ·refine ⟨gLE, fun id hu => ?_⟩; have hlt : id < AHeap.next h := hu.1; simp only [zx, zd]; (repeat' split) <;> first | rfl | omega | (simp [putM]; done)
 ·exact .clo _ (.agg _ fun v hv => z16 (zbh (gP md S (leafK b)) v hv))

theorem zfo {md : Bool} {h : AHeap} {l s : Nat} {S : List Bs} (hl : GAt md h l s S) (hS : S.length ≤ 200000) (a b : Pr) :
  AE Tryz.prog 246 [.ptr l 0 0, .agg (encP a), .agg (encP b)] h (.agg (encP (gP md S (nodeK a b)))) (h.set s (gO md (gS md S (nodeK a b)))) := by
 refine AE.wfU fun hwu => ?_
 obtain ⟨w1, w4, w5, w6⟩ := hl.lt
 refine AE.effW zf2 (by simp) (hl.ext hwu _) ?_
 unfold z7y; dsimp only [qQ, qR, qM, qG]
 (repeat first | refine WL.go ?_ | refine WW.seq ?_ | refine WW.reg ?_ | refine WL.nil ?_ | refine WW.skip ?_ | refine WW.block ?_ | refine WW.exit ?_ | refine WW.condT rfl ?_ | refine WW.condF rfl ?_ | refine WL.gox ?_ | refine thenN ?_ | refine blkN ?_)
 refine WW.dregX [7, 8] [] [s, h.next + 2] gN (by decide +kernel) ?_
 (refine go ?_)
 refine DW.callS rfl gM gSL rfl (z1j a _) ?_
 (refine go ?_)
 refine DW.callS rfl gM gSL rfl (z1j b _) ?_
 (refine go ?_)
 have hcon := zbk (h := ((h.put h.next (.mem 2 [encP a])).put (h.next + 1) (.mem 2 [encP b])).put (h.next + 2) (.mem 2 [[.int .u64 0, .int .u64 0]])) (hl.frame hwu gKB gH) (by omega) [[1], pairB a, pairB b] (by simp) (by simp [z74])
 rw [show [[(1 : UInt8)], pairB a, pairB b].flatten = nodeK a b by simp [nodeK]] at hcon
 refine DW.callSW rfl gM gSL rfl rfl (fun hp => by repeat first | exact hp | refine PhiW.put (by omega) ?_ | refine PhiW.setN (by omega) ?_ | refine PhiW.setW (by simp; done) ?_) (hcon) ?_
 (refine go ?_)
 refine WW.ret (EffQ.finD ?_ ?_)
 ·refine ⟨gLE, fun id hu => ?_⟩; have hlt : id < AHeap.next h := hu.1; simp only [zx, zd]; (repeat' split) <;> first | rfl | omega | (simp [putM]; done)
 ·exact .clo _ (.agg _ fun v hv => z16 (zbh (gP md S (nodeK a b)) v hv))

def lfF (md : Bool) : List Bs → Nat → List Pr → List Bs → List Pr × List Bs
 | [], _, N, S => (N, S)
 | b :: r, k, N, S => lfF md r (k + 1) (N.set k (gP md S (leafK b))) (gS md S (leafK b))
def kidK (N : List Pr) (i : Nat) : Bs := nodeK (N.getD (2 * i) (0, 0)) (N.getD (2 * i + 1) (0, 0))
def upF (md : Bool) : Nat → List Pr → List Bs → List Pr × List Bs
 | 0, N, S => (N, S)
 | i + 1, N, S => upF md i (N.set (i + 1) (gP md S (kidK N (i + 1)))) (gS md S (kidK N (i + 1)))
def zq (md : Bool) (lv : List Bs) (S : List Bs) : List Pr × List Bs :=
 upF md (lv.length - 1) (lfF md lv lv.length (List.replicate (2 * lv.length) (0, 0)) S).1 (lfF md lv lv.length (List.replicate (2 * lv.length) (0, 0)) S).2
theorem z8b (md : Bool) : ∀ (lv : List Bs) (k : Nat) (N : List Pr) (S : List Bs), (lfF md lv k N S).1.length = N.length ∧ (lfF md lv k N S).2.length ≤ S.length + lv.length
 | [], _, _, _ => ⟨rfl, Nat.le_refl _⟩
 | b :: r, k, N, S => by
  have h1 := z8b md r (k + 1) (N.set k (gP md S (leafK b))) (gS md S (leafK b))
  have h2 := gS_le md S (leafK b)
  simp only [lfF, List.length_set, List.length_cons] at *
  omega
theorem z8c (md : Bool) : ∀ (i : Nat) (N : List Pr) (S : List Bs), (upF md i N S).1.length = N.length ∧ (upF md i N S).2.length ≤ S.length + i
 | 0, _, _ => ⟨rfl, Nat.le_refl _⟩
 | i + 1, N, S => by
  have h1 := z8c md i (N.set (i + 1) (gP md S (kidK N (i + 1)))) (gS md S (kidK N (i + 1)))
  have h2 := gS_le md S (kidK N (i + 1))
  simp only [upF, List.length_set] at *
  omega

theorem zq6 {h : AHeap} {nd s : Nat} {x y : AObj} {a b : Option AObj} (hs : s ≠ nd) : (((h.put nd x).set s a).set s b).set nd (some y) = (h.put nd y).set s b := by
 refine zla (fun i => ?_) rfl fun i => rfl
 simp only [zx, zd]
 by_cases h1 : i = nd
 ·subst h1; rw [if_pos rfl, if_neg (fun e => hs e.symm), if_pos rfl]
 ·rw [if_neg h1]
  by_cases h2 : i = s
  ·rw [if_pos h2, if_pos h2]
  ·rw [if_neg h2, if_neg h2, if_neg h2, if_neg h1, if_neg h1]
theorem zuo {h : AHeap} {nd s : Nat} {x : AObj} {y : Option AObj} (hs : s ≠ nd) (hg : h.get s = y) : h.put nd x = (h.put nd x).set s y := by
 refine zla (fun i => ?_) rfl fun i => rfl
 simp only [zx, zd]
 by_cases h2 : i = s
 ·subst h2; rw [if_neg hs, if_pos rfl, hg]
 ·rw [if_neg h2]
theorem ztf {n : Nat} : List.replicate n [AV.int .u64 0, .int .u64 0] = (List.replicate n ((0, 0) : Pr)).map encP := by
 rw [List.map_replicate]; rfl
theorem znl (N : List Pr) (k : Nat) (p : Pr) : (N.map encP).set k (encP p) = (N.set k p).map encP := by rw [List.map_set]

theorem z9u {md : Bool} {h : AHeap} {l s : Nat} {S : List Bs} (hl : GAt md h l s S) (hS : S.length ≤ 100000) (lv : List Bs) (hG : isG lv.length = true) (hb : ∀ b ∈ lv, b.length ≤ 100000) :
  AE Tryz.prog 187 [.ptr l 0 0, .imm 1 (lv.map encR)] h (.tup [.imm 2 ((zq md lv S).1.map encP), .bool true]) (h.set s (gO md (zq md lv S).2)) := by
 have hn : lv.length ≤ 16 ∧ 1 ≤ lv.length := by simp [isG] at hG; omega
 refine AE.wfU fun hwu => ?_
 obtain ⟨w1, w4, w5, w6⟩ := hl.lt
 refine AE.effW zix (by simp) (hl.ext hwu _) ?_
 unfold zat; dsimp only [qQ, qR, qM, qG]
 (refine go ?_)
 refine WL.call rfl gM gSL (z42 _ _) ?_
 rw [hG]
 (refine go ?_)
 have g0 : (h.put h.next (.mem 2 (List.replicate (2 * lv.length) [.int .u64 0, .int .u64 0]))) = (h.put h.next (.mem 2 ((List.replicate (2 * lv.length) ((0, 0) : Pr)).map encP))).set s (gO md S) := by
  rw [ztf]; exact zuo (by omega) hl.sm
 rw [g0]
 refine WW.loopE (fun (q : Nat × List Pr × List Bs) => [(0, some (.ptr l 0 0)), (6, some (.int .i64 lv.length)), (7, some (.ref h.next 0 (2 * lv.length))), (19, some (.imm 1 (lv.map encR))), (20, some (.int .i64 lv.length)), (21, some (.int .i64 q.1))])
  (fun q h' => h' = (h.put h.next (.mem 2 (q.2.1.map encP))).set s (gO md q.2.2) ∧ q.1 ≤ lv.length ∧ q.2.1.length = 2 * lv.length ∧ q.2.2.length ≤ S.length + q.1 ∧ lfF md (lv.drop q.1) (lv.length + q.1) q.2.1 q.2.2 = lfF md lv lv.length (List.replicate (2 * lv.length) (0, 0)) S) (fun q => lv.length - q.1) (0, List.replicate (2 * lv.length) (0, 0), S) gSUB
  ⟨rfl, Nat.zero_le _, by simp, by simp, by simp⟩ ?_
 rintro ⟨i, N, S1⟩ h' ⟨rfl, c1, c2, c3, c4⟩
 dsimp only at c1 c2 c3 c4 ⊢
 (refine go ?_)
 (refine WW.ifB rfl (fun hz1 => ?_) (fun hz1 => ?_))
 ·have hi : i < lv.length := by omega
  (refine go ?_)
  have hcon := zfn (h := (h.put h.next (.mem 2 (N.map encP))).set s (gO md S1)) (hl.frame hwu gKB gH) (by omega) lv[i] (hb _ (List.getElem_mem hi))
  refine WL.call rfl gM gSL (hcon) ?_
  (refine go ?_)
  refine ⟨(i + 1, N.set (lv.length + i) (gP md S1 (leafK lv[i])), gS md S1 (leafK lv[i])), gSUB, ⟨?_, by dsimp only; omega, by simpa using c2, ?_, ?_⟩, by dsimp only; omega⟩
  ·rw [Nat.zero_add, ← znl]; exact zq6 (by omega)
  ·have := gS_le md S1 (leafK lv[i]); dsimp only; omega
  ·rw [← c4, List.drop_eq_getElem_cons hi, lfF]; rfl
 ·have hi : i = lv.length := by omega
  subst hi
  simp only [List.drop_length, lfF] at c4
  (refine go ?_)
  refine WW.loopE (fun (q : Nat × List Pr × List Bs) => [(0, some (.ptr l 0 0)), (7, some (.ref h.next 0 (2 * lv.length))), (10, some (.int .i64 q.1))])
   (fun q h' => h' = (h.put h.next (.mem 2 (q.2.1.map encP))).set s (gO md q.2.2) ∧ q.1 < lv.length ∧ q.2.1.length = 2 * lv.length ∧ q.2.2.length + q.1 ≤ S.length + 2 * lv.length ∧ upF md q.1 q.2.1 q.2.2 = zq md lv S) (fun q => q.1) (lv.length - 1, N, S1) gSUB
   ⟨rfl, by dsimp only; omega, c2, by dsimp only; omega, by rw [zq, ← c4]⟩ ?_
  clear c1 c2 c3 c4
  rintro ⟨k, N2, S2⟩ h' ⟨rfl, c1, c2, c3, c4⟩
  dsimp only at c1 c2 c3 c4 ⊢
  (refine go ?_)
  (refine WW.ifB rfl (fun hz2 => ?_) (fun hz2 => ?_))
  ·have hk : 0 < k := by omega
   (repeat first | refine WL.go ?_ | refine WW.seq ?_ | refine WW.reg ?_ | refine WL.nil ?_ | refine WW.skip ?_ | refine WW.block ?_ | refine WW.exit ?_ | refine WW.condT rfl ?_ | refine WW.condF rfl ?_ | refine WL.gox ?_ | refine thenN ?_ | refine blkN ?_)
   refine WW.dregX [14, 16] [] [s, h.next] gN (by decide +kernel) ?_
   (refine go ?_)
   have hkid : kidK N2 k = nodeK (N2[0 + 2 * k]'(by omega)) (N2[0 + (2 * k + 1)]'(by omega)) := by
    simp only [kidK, Nat.zero_add, List.getD_eq_getElem?_getD]
    rw [List.getElem?_eq_getElem (by omega), List.getElem?_eq_getElem (by omega)]
    rfl
   have hcon := zfo (h := (h.put h.next (.mem 2 (N2.map encP))).set s (gO md S2)) (hl.frame hwu gKB gH) (by omega) (N2[0 + 2 * k]'(by omega)) (N2[0 + (2 * k + 1)]'(by omega))
   rw [← hkid] at hcon
   refine DW.callSW rfl gM gSL rfl rfl (fun hp => by repeat first | exact hp | refine PhiW.put (by omega) ?_ | refine PhiW.setN (by omega) ?_ | refine PhiW.setW (by simp; done) ?_) (hcon) ?_
   (refine go ?_)
   have hk1 : k = (k - 1) + 1 := by omega
   refine ⟨(k - 1, N2.set k (gP md S2 (kidK N2 k)), gS md S2 (kidK N2 k)), gSUB, ⟨?_, by dsimp only; omega, by simpa using c2, ?_, ?_⟩, by dsimp only; omega⟩
   ·rw [Nat.zero_add, ← znl]; exact zq6 (by omega)
   ·have := gS_le md S2 (kidK N2 k); dsimp only; omega
   ·rw [← c4]
    conv => rhs; rw [hk1]
    rw [upF, ← hk1]
  ·have hk : k = 0 := by omega
   subst hk
   simp only [upF] at c4
   (refine go ?_)
   rw [← c4]
   refine WW.ret (EffQ.finD ?_ ?_)
   ·refine ⟨gLE, fun id hu => ?_⟩; have hlt : id < AHeap.next h := hu.1; simp only [zx, zd]; (repeat' split) <;> first | rfl | omega | (simp [putM]; done)
   ·exact Fz.tup2 (zah gH (Nat.le_refl _) (by simp [c2]) rfl (z2p zbh)) (fz_b rfl)
end Go.Proofs.YthblcmnhiccnhaaGreat


namespace Go.Proofs.YthblcmnhiccnhaaGreat
open Go Go.Abs

def lfAt (n a i : Int) : Int := n * 32 + a * (n * 64) + i * 32
def ndAt (n a i : Int) : Int := n * 32 + a * (n * 64) + n * 32 + i * 16
theorem z6f (n a i : Int) (hn : isG n = true) (ha : 0 ≤ a ∧ a < 2) (hi : 0 ≤ i ∧ i < n) (h : AHeap) : AE Tryz.prog 186 [.agg [.int .i64 n], .int .i64 a, .int .i64 i] h (.int .i64 (lfAt n a i)) h := by
 have hg := z2 hn
 have ha' : a = 0 ∨ a = 1 := by omega
 have ha2 : 0 ≤ a * (n * 64) ∧ a * (n * 64) ≤ 1024 := by rcases ha' with rfl | rfl <;> omega
 refine AE.pureW zcg (by simp) ?_
 unfold z67; dsimp only [qQ, qR, qM, qG]
 (refine go ?_)
 refine WL.call rfl gM gSL (z1t n a 2 _) ?_
 rw [show (isG n && decide (0 ≤ a) && decide (a < 2)) = true by simp [hn, ha.1, ha.2]]
 (refine go ?_)
 refine WL.call rfl gM gSL (z1t n i n _) ?_
 rw [show (isG n && decide (0 ≤ i) && decide (i < n)) = true by simp [hn, hi.1, hi.2]]
 (repeat first | refine WL.go ?_ | refine WW.seq ?_ | refine WW.reg ?_ | refine WL.nil ?_ | refine WW.skip ?_ | refine WW.block ?_ | refine WW.exit ?_ | refine WW.condT rfl ?_ | refine WW.condF rfl ?_ | refine WL.gox ?_ | refine thenN ?_ | refine blkN ?_)
 refine WW.dregX [] [] [] gN (by decide +kernel) ?_
 (refine go ?_)
 refine DW.callS rfl gM gSL rfl (zbi n hn _) ?_
 (refine go ?_)
 refine WW.ret (PureQ.finD ?_)
 exact clo_i rfl
theorem zh4 (n a : Int) (hn : isG n = true) (ha : 0 ≤ a ∧ a < 2) (h : AHeap) : AE Tryz.prog 297 [.agg [.int .i64 n], .func (.func 186) [] [], .int .i64 a] h (.int .i64 (ndAt n a 0)) h := by
 have hg := z2 hn
 have ha' : a = 0 ∨ a = 1 := by omega
 have ha2 : 0 ≤ a * (n * 64) ∧ a * (n * 64) ≤ 1024 := by rcases ha' with rfl | rfl <;> omega
 refine AE.pureW za2 (by simp) ?_
 unfold z4z; dsimp only [qQ, qR, qM, qG]
 (refine go ?_)
 refine WL.fx1 (FX.callv rfl rfl gM (by kernel_rfl) (z6f n a (n - 1) hn ha (by omega) _)) ?_
 have : lfAt n a (n - 1) + 32 = ndAt n a 0 := by unfold lfAt ndAt; omega
 have hr : 0 ≤ lfAt n a (n - 1) ∧ lfAt n a (n - 1) ≤ 10000 := by unfold lfAt; omega
 generalize lfAt n a (n - 1) = X at *
 (refine go ?_)
 refine WW.ret (PureQ.finD ?_)
 exact clo_i (by omega)
theorem zlb (n a i : Int) (hn : isG n = true) (ha : 0 ≤ a ∧ a < 2) (hi : 0 ≤ i ∧ i < 2 * n) (h : AHeap) : AE Tryz.prog 284 [.agg [.int .i64 n], .int .i64 a, .int .i64 i] h (.int .i64 (ndAt n a i)) h := by
 have hg := z2 hn
 have ha' : a = 0 ∨ a = 1 := by omega
 have ha2 : 0 ≤ a * (n * 64) ∧ a * (n * 64) ≤ 1024 := by rcases ha' with rfl | rfl <;> omega
 refine AE.pureW zch (by simp) ?_
 unfold z68; dsimp only [qQ, qR, qM, qG]
 (refine go ?_)
 refine WL.call rfl gM gSL (z1t n a 2 _) ?_
 rw [show (isG n && decide (0 ≤ a) && decide (a < 2)) = true by simp [hn, ha.1, ha.2]]
 (refine go ?_)
 refine WL.call rfl gM gSL (z1t n i (2 * n) _) ?_
 rw [show (isG n && decide (0 ≤ i) && decide (i < 2 * n)) = true by simp [hn, hi.1, hi.2]]
 (refine go ?_)
 refine WL.call rfl gM gSL (zh4 n a hn ha _) ?_
 have hx : ndAt n a 0 + i * 16 = ndAt n a i := by unfold ndAt; omega
 have hr : 0 ≤ ndAt n a 0 ∧ ndAt n a 0 ≤ 10000 := by unfold ndAt; omega
 generalize ndAt n a 0 = X at *
 (refine go ?_)
 refine WW.ret (PureQ.finD ?_)
 exact clo_i hx
theorem zfp (p : Nat) (a : Int) (h : AHeap) : AE Tryz.prog 185 [.ptr p 0 0, .int .i64 a] h (.bool (decide (0 ≤ a) && decide (a < 2))) h := by
 refine AE.pureW zoh (by simp) ?_
 unfold zhz; dsimp only [qQ, qR, qM, qG]
 (refine go ?_)
 (apply WL.andB; exact rfl; exact rfl; exact rfl; exact BP.of; intro hz1)
 ·(repeat first | (apply GW.goS; exact Stp.auto) | apply GW.nil | exact rfl)
 (refine go ?_)
 refine WW.ret (PureQ.finD ?_)
 exact fz_b (by simp)

def WN.nm (md : Bool) (n : WN) (id : Nat) : Prop := n.all md id ∨ id = n.q
structure WG (md : Bool) (h : AHeap) (n : WN) (s : WS) : Prop where
 w : WAt md h n s
 us : ∀ id, n.nm md id → h.used id
 qn : md = false → h.get n.q = none
theorem WAt.same {md : Bool} {h h' : AHeap} {n : WN} {s : WS} (hw : WAt md h n s) (g : ∀ id, n.all md id → h'.get id = h.get id) (hx : h.next ≤ h'.next) : WAt md h' n s := by
 have ga : ∀ i, 0 < i ∧ i < 11 ∧ i ≠ 8 → h'.get (n.a + i) = h.get (n.a + i) := fun i hi => g _ (.inr (.inr (.inl (by omega))))
 have gB : h'.get n.B = h.get n.B := g _ (.inr (.inr (.inl (by omega))))
 have gE : h'.get n.E = h.get n.E := g _ (.inr (.inr (.inl (by omega))))
 have g0 := g n.p (.inl rfl)
 exact ⟨hw.sd.same g0 (ga 1 (by omega)) gB (ga 2 (by omega)) (ga 3 (by omega)), hw.dk.same g0 (ga 4 (by omega)) (ga 5 (by omega)) (ga 6 (by omega)), (ga 7 (by omega)).trans hw.ct, hw.ks.same (ga 9 (by omega)) gE, (ga 10 (by omega)).trans hw.w, hw.lk.same (g _ (.inr (.inl rfl))) fun e => ⟨g _ (.inr (.inr (.inr ⟨e, .inl rfl⟩))), g _ (.inr (.inr (.inr ⟨e, .inr (.inl rfl)⟩))), g _ (.inr (.inr (.inr ⟨e, .inr (.inr rfl)⟩)))⟩, hw.op, hw.ol, hw.oo, Nat.le_trans hw.nx hx, hw.oB, ⟨Nat.lt_of_lt_of_le hw.nB.1 hx, Nat.lt_of_lt_of_le hw.nB.2 hx⟩⟩
theorem WAt.lt {md : Bool} {h : AHeap} {n : WN} {s : WS} (hw : WAt md h n s) {id : Nat} (hi : n.all md id) : id < h.next := by
 have h1 := hw.op
 have h2 := hw.ol
 have h3 := hw.nx
 have h4 := hw.nB
 rcases hi with rfl | rfl | hi | ⟨e, hi⟩
 ·omega
 ·omega
 ·omega
 ·have := hw.oo e
  rcases hi with rfl | rfl | rfl <;> omega
theorem WAt.live {md : Bool} {h : AHeap} {n : WN} {s : WS} (hw : WAt md h n s) {id : Nat} (hi : n.all md id) : ∃ x, h.get id = some x := by
 have hs := hw.sd
 have hd := hw.dk
 have hk := hw.ks
 rcases hi with rfl | rfl | hi | ⟨hm, rfl | rfl | rfl⟩
 ·exact ⟨_, hs.pw⟩
 ·cases md with
  | true => exact ⟨_, (hw.lk.id rfl).cells⟩
  | false => exact ⟨_, hw.lk.re rfl⟩
 ·have : id = n.B ∨ id = n.a + 1 ∨ id = n.a + 2 ∨ id = n.a + 3 ∨ id = n.a + 4 ∨ id = n.a + 5 ∨ id = n.a + 6 ∨ id = n.a + 7 ∨ id = n.E ∨ id = n.a + 9 ∨ id = n.a + 10 := by omega
  rcases this with rfl | rfl | rfl | rfl | rfl | rfl | rfl | rfl | rfl | rfl | rfl
  ·exact ⟨_, hs.bl⟩
  ·exact ⟨_, hs.ob⟩
  ·exact ⟨_, hs.wt⟩
  ·exact ⟨_, hs.tr⟩
  ·exact ⟨_, hd.ob⟩
  ·exact ⟨_, hd.wt⟩
  ·exact ⟨_, hd.tr⟩
  ·exact ⟨_, hw.ct⟩
  ·exact ⟨_, hk.tl⟩
  ·exact ⟨_, hk.ob⟩
  ·exact ⟨_, hw.w⟩
 all_goals
  obtain ⟨q0, q1, q2, q3⟩ := hw.lk.id hm
  first | exact ⟨_, q1⟩ | exact ⟨_, q2⟩ | exact ⟨_, q3⟩
theorem WG.step {md : Bool} {h h' : AHeap} {n : WN} {s s' : WS} (hg : WG md h n s) (hw : WAt md h' n s') (hk : Kp (n.own md) h h') : WG md h' n s' :=
 ⟨hw, fun id hi => hk.us id (hg.us id hi), fun e => by
  rw [hk.get _ (hg.us _ (.inr rfl)) fun ho => ?_]
  ·exact hg.qn e
  ·obtain ⟨x, hx⟩ := hg.w.live (WN.own_all ho)
   rw [hg.qn e] at hx; cases hx⟩
theorem WG.kp {W : Nat → Prop} {md : Bool} {h h' : AHeap} {n : WN} {s : WS} (hg : WG md h n s) (hk : Kp W h h') (hd : ∀ id, n.nm md id → ¬ W id) : WG md h' n s :=
 ⟨hg.w.same (fun id hi => hk.get id (hg.us id (.inl hi)) (hd id (.inl hi))) hk.next, fun id hi => hk.us id (hg.us id hi), fun e => (hk.get _ (hg.us _ (.inr rfl)) (hd _ (.inr rfl))).trans (hg.qn e)⟩
theorem WG.new {md : Bool} {h h' : AHeap} {n : WN} {s : WS} (hg : WG md h n s) (hk : Kp (fun _ => False) h h') : WG md h' n s := hg.kp hk fun _ _ h => h
theorem WG.g {md : Bool} {h : AHeap} {n : WN} {s : WS} (hg : WG md h n s) : GAt md h n.l n.q s.S := by
 refine ⟨fun e => ⟨n.o, n.t, 0, s.L, hg.w.lk.id e⟩, fun e => hg.w.lk.re e, ?_, (hg.us _ (.inr rfl)).1, (hg.us _ (.inl (.inr (.inl rfl)))).1⟩
 cases md with
 | true => obtain ⟨q0, q1, q2, q3⟩ := hg.w.lk.id rfl; exact q3
 | false => exact hg.qn rfl
theorem kp_s {md : Bool} {h : AHeap} {n : WN} {s : WS} (hg : WG md h n s) (S' : List Bs) : Kp (n.own md) h (h.set n.q (gO md S')) := by
 cases md with
 | true => exact Kp.setW Kp.refl (.inr (.inr ⟨rfl, .inr (.inr rfl)⟩)) _
 | false =>
  show Kp _ h (h.set n.q none)
  rw [z94 (hg.qn rfl)]
  exact Kp.refl
theorem WG.putS {md : Bool} {h : AHeap} {n : WN} {s : WS} (hg : WG md h n s) (S' : List Bs) : WG md (h.set n.q (gO md S')) n { s with S := S' } := by
 refine hg.step ?_ (kp_s hg S')
 cases md with
 | false =>
  show WAt false (h.set n.q none) n _
  rw [z94 (hg.qn rfl)]
  have hw := hg.w
  exact ⟨hw.sd, hw.dk, hw.ct, hw.ks, hw.w, ⟨nofun, hw.lk.re⟩, hw.op, hw.ol, hw.oo, hw.nx, hw.oB, hw.nB⟩
 | true =>
  have hw := hg.w
  obtain ⟨q0, q1, q2, q3⟩ := hw.lk.id rfl
  have hne : ∀ {id : Nat} {x : AObj}, h.get id = some x → (∀ es, x ≠ .map es) → (h.set n.q (gO true S')).get id = some x := fun {id x} hx hm => by
   rw [zd, if_neg (fun e => ?_)]
   ·exact hx
   ·subst e; rw [q3] at hx; exact hm _ (Option.some.inj hx).symm
  have hs := hw.sd
  have hd := hw.dk
  have hk := hw.ks
  refine ⟨⟨hne hs.pw (by simp), hne hs.ob (by simp [SdS.obj]), hne hs.bl (by simp), hne hs.wt (by simp), hne hs.tr (by simp), hs.ne⟩, ⟨hne hd.pw (by simp), hne hd.ob (by simp), hne hd.wt (by simp), hne hd.tr (by simp), hd.ne, hd.ll⟩, hne hw.ct (by simp [CtS.obj]), ⟨hne hk.ob (by simp [KsS.obj]), hne hk.tl (by simp), hk.ne, hk.sm⟩, hne hw.w (by simp), ⟨fun _ => ⟨hne q0 (by simp), ⟨hne q1 (by simp), hne q2 (by simp), zb⟩⟩, nofun⟩, hw.op, hw.ol, hw.oo, hw.nx, hw.oB, hw.nB⟩
theorem zjl (md : Bool) (k : Nat) (hk : isG k = true) (seed : Int) (h : AHeap) : AC Tryz.prog 22 [.int .i64 k, .int .u64 seed, .bool md] h
  (fun r h' => ∃ n : WN, r = .tup [.ptr (n.a + 10) 0 0, .int .i64 0] ∧ WG md h' n (ws0 k seed) ∧ (∀ id, n.nm md id → h.next ≤ id) ∧ Kp (fun id => h.next ≤ id) h h') := by
 refine AC.mono (AC.used (AC.spareC (zl8 md k hk seed h))) ?_
 rintro r h' ⟨⟨h1, ⟨n, rfl, hw, np, nl, no, nn, kk⟩, rfl⟩, hus, hlv⟩
 replace kk := kk h (Keeps.refl _)
 have g : ∀ id, id < h1.next → ((h1.put h1.next (.tail 0 0)).set h1.next none).get id = h1.get id := fun id hi => z1 (by omega) (z4 (by omega) rfl)
 have hx : h1.next ≤ ((h1.put h1.next (.tail 0 0)).set h1.next none).next := z4x (z4w (x := .tail 0 0) (Nat.le_refl _))
 have hw2 : WAt md ((h1.put h1.next (.tail 0 0)).set h1.next none) n (ws0 k seed) := hw.same (fun id hi => g id (hw.lt hi)) hx
 have hall : ∀ id, n.all md id → h.next ≤ id := fun id hi => by
  have h1 := hw.op
  have hoB := hw.oB
  rcases hi with rfl | rfl | hi | ⟨e, rfl | rfl | rfl⟩
  ·exact np
  ·exact nl
  ·omega
  ·exact (no e).1
  ·exact (no e).2.1
  ·exact (no e).2.2
 have kp : Kp (fun id => h.next ≤ id) h ((h1.put h1.next (.tail 0 0)).set h1.next none) := ⟨Nat.le_trans nn hx, hus, fun id hu _ => (g id (Nat.lt_of_lt_of_le hu.1 nn)).trans (kk.2 id hu)⟩
 cases md with
 | true =>
  have hqa : n.all true n.q := .inr (.inr (.inr ⟨rfl, .inr (.inr rfl)⟩))
  refine ⟨n, rfl, ⟨hw2, fun id hi => ?_, nofun⟩, fun id hi => ?_, kp⟩
  ·have : n.all true id := hi.elim (fun h => h) fun e => e ▸ hqa
   obtain ⟨x, hx⟩ := hw2.live this
   exact hlv _ _ hx
  ·exact hall id (hi.elim (fun h => h) fun e => e ▸ hqa)
 | false =>
  have hal : ∀ id, ({ n with q := h1.next } : WN).all false id → n.all false id := fun id hi => by
   rcases hi with rfl | rfl | hi | ⟨e, _⟩
   ·exact .inl rfl
   ·exact .inr (.inl rfl)
   ·exact .inr (.inr (.inl hi))
   ·cases e
  refine ⟨{ n with q := h1.next }, rfl, ⟨⟨hw2.sd, hw2.dk, hw2.ct, hw2.ks, hw2.w, ⟨nofun, hw2.lk.re⟩, hw2.op, hw2.ol, nofun, hw2.nx, hw2.oB, hw2.nB⟩, fun id hi => ?_, fun _ => zb⟩, fun id hi => ?_, kp⟩
  ·rcases hi with hi | rfl
   ·obtain ⟨x, hx⟩ := hw2.live (hal id hi)
    exact hlv _ _ hx
   ·exact z3 (x := .tail 0 0)
  ·rcases hi with hi | rfl
   ·exact hall id (hal id hi)
   ·exact nn
end Go.Proofs.YthblcmnhiccnhaaGreat


namespace Go.Proofs.YthblcmnhiccnhaaGreat
open Go Go.Abs

def WN.devs (n : WN) : List Nat := [n.p, n.B, n.a + 1, n.a + 2, n.a + 3, n.a + 4, n.a + 5, n.a + 6, n.a + 7, n.E, n.a + 9]
section
variable {nx : Nat} {h0 h : AHeap}
theorem zfq (n : WN) (w : PwS) (x : SdS) (hp : PhiW nx n.devs h0 h) : PhiW nx n.devs h0 (sdPut n.sdN w x h) := by
 unfold sdPut
 refine PhiW.setW ?_ (PhiW.setW ?_ (PhiW.setW ?_ (PhiW.setW ?_ (PhiW.setW ?_ hp)))) <;> simp [WN.devs]
end
theorem DW.named {P : Program} {N : Nat} {Φ : AHeap → Prop} {ws fs : List Nat} {K : Env → AHeap → Prop} {j : Nat} {l : List CI} {e : Env} {h : AHeap} (p : AHeap → Prop) (hp : p h) (k : ∀ h5, p h5 → DW P N Φ ws fs K j l e h5) : DW P N Φ ws fs K j l e h := k h hp
end Go.Proofs.YthblcmnhiccnhaaGreat


namespace Go.Proofs.YthblcmnhiccnhaaGreat
open Go Go.Abs

def lvOk : List Lf → Nat → Bool
 | [], _ => true
 | x :: r, i => z1b x i && lvOk r (i + 1)
theorem zc6 : ∀ (lv : List Lf) (j i : Nat) (hi : i < lv.length), lvOk lv j = true → z1b lv[i] ((j + i : Nat) : Int) = true
 | x :: r, j, 0, _, h => by simp only [lvOk, Bool.and_eq_true] at h; exact h.1
 | x :: r, j, i + 1, hi, h => by
  simp only [lvOk, Bool.and_eq_true] at h
  have := zc6 r (j + 1) i (by simpa using hi) h.2
  rw [show j + 1 + i = j + (i + 1) by omega] at this
  exact this
def lvB (lv : List Lf) : Bs := (lv.map leafB).flatten
theorem z3n : ∀ lv : List Lf, (lvB lv).length = 32 * lv.length
 | [] => rfl
 | x :: r => by
  have := z3n r
  simp only [lvB, List.map_cons, List.flatten_cons, List.length_append, z3m, List.length_cons] at this ⊢
  omega
def z1h (N : List Pr) : Bs := (N.map pairB).flatten
theorem z2c : ∀ N : List Pr, (z1h N).length = 16 * N.length
 | [] => rfl
 | x :: r => by
  have := z2c r
  simp only [z1h, List.map_cons, List.flatten_cons, List.length_append, z74, List.length_cons] at this ⊢
  omega
def WS.nodes (md : Bool) (s : WS) (lv : List Lf) : List Pr := (zq md (lv.map leafB) s.S).1
def WS.areaW1 (md : Bool) (s : WS) (a : Int) (lv : List Lf) : WS := { s with S := (zq md (lv.map leafB) s.S).2, pw := s.pw.spend, sd := s.sd.write (lfAt s.n a 0, lvB lv) s.pw.can }
def WS.areaW (md : Bool) (s : WS) (a : Int) (lv : List Lf) : WS :=
 if s.pw.can then { s.areaW1 md a lv with pw := s.pw.spend.spend, sd := (s.areaW1 md a lv).sd.write (ndAt s.n a 0, z1h (s.nodes md lv)) s.pw.spend.can } else s.areaW1 md a lv
structure WS.Fit (s : WS) (k : Nat) : Prop where
 g : isG s.n = true
 pw : s.pw.Ok k
 sd : s.sd.Ok (sizeG s.n).toNat k
 ss : s.S.length ≤ k
 ll : s.L.length ≤ k
theorem SdS.Ok.write {x : SdS} {n k : Nat} (h : x.Ok n k) {o : Wr} (ho : 0 ≤ o.1 ∧ o.1 + o.2.length ≤ n) (ok : Bool) : (x.write o ok).Ok n (k + 1) := by
 obtain ⟨h1, h2, h3, h4⟩ := h
 cases ok with
 | false => exact ⟨h1, h2, Nat.le_succ_of_le h3, Nat.le_succ_of_le h4⟩
 | true =>
  refine ⟨h1, fun y hy => ?_, by simp [SdS.write]; omega, by simp [SdS.write]; omega⟩
  simp only [SdS.write, if_true, List.mem_append, List.mem_singleton] at hy
  rcases hy with hy | rfl
  ·exact h2 y hy
  ·exact ho
theorem zi {n : Int} (h : isG n = true) : sizeG n = n * 160 + 120 := by rw [sizeG, if_pos h]
set_option maxHeartbeats 1000000 in
theorem zjm {md : Bool} {h : AHeap} {n : WN} {s : WS} {k : Nat} (hg : WG md h n s) (hs : s.Fit k) (hk : k ≤ 90000) (a : Int) (ha : 0 ≤ a ∧ a < 2) (lv : List Lf) (hl : (lv.length : Int) = s.n) (hw : ∀ x ∈ lv, x.Wf) (hok : lvOk lv 0 = true) :
  AC Tryz.prog 253 [.ptr (n.a + 10) 0 0, .int .i64 a, .imm 8 (lv.map encL)] h
   (fun r h' => r = .tup [.agg (encP (if s.pw.can && s.pw.spend.can then (s.nodes md lv).getD 1 (0, 0) else (0, 0))), .int .i64 (if s.pw.can && s.pw.spend.can then 0 else 7)] ∧ WG md h' n (s.areaW md a lv) ∧ Kp (n.own md) h h') := by
 refine AC.wfU fun hwu => ?_
 refine AC.introW zj3 (by simp) ?_
 unfold zb4; dsimp only [qQ, qR, qM, qG]
 have hob := hg.w.w
 simp only [wRow] at hob
 have hlt : ∀ id, n.nm md id → id < h.next := fun id hi => (hg.us id hi).1
 have hq : n.q < h.next := hlt _ (.inr rfl)
 have hgg := z2 hs.g
 have hna : n.a + 11 ≤ h.next := hg.w.nx
 have hnB : n.B < h.next ∧ n.E < h.next := hg.w.nB
 have hoB := hg.w.oB
 have hop := hg.w.op
 (refine go ?_)
 refine WL.call rfl gM gSL (zfp _ a _) ?_
 rw [show (decide (0 ≤ a) && decide (a < 2)) = true by simp [ha.1, ha.2]]
 (refine go ?_)
 rw [show ((lv.length : Int) != s.n) = false by simp [hl]]
 (refine go ?_)
 refine WW.cvt (Cvt.adopt 1 (s := 8) rfl gN) ?_
 refine WW.cvt (Cvt.adopt 1 (s := 9) rfl gN) ?_
 refine WW.cvt (Cvt.adopt 1 (s := 10) rfl gN) ?_
 refine WW.loopE (fun (i : Nat) => [(0, some (.ptr (n.a + 10) 0 0)), (1, some (.int .i64 a)), (6, some (.ptr h.next 0 0)), (8, some (.app (h.next + 1) 0 1 (((lv.take i).map leafB).map encR))), (9, some (.app (h.next + 1 + 1) 0 1 ((lvB (lv.take i)).map encB))), (10, some (.app (h.next + 1 + 1 + 1) 0 1 [])), (34, some (.imm 8 (lv.map encL))), (35, some (.int .i64 lv.length)), (36, some (.int .i64 i))])
  (fun i h' => h'.get h.next = some (.mem 2 [[.int .u64 0, .int .u64 0]]) ∧ h'.get (h.next + 1) = some (.tail 0 i) ∧ h'.get (h.next + 1 + 1) = some (.tail 0 (32 * i)) ∧ h'.get (h.next + 1 + 1 + 1) = some (.tail 0 0) ∧ Kp (fun _ => False) h h' ∧ h.next + 4 ≤ h'.next ∧ i ≤ lv.length) (fun i => lv.length - i) 0 gSUB ⟨gH, gH, gH, gH, (by repeat first | exact Kp.refl | assumption | with_reducible refine Kp.put ?_ (by omega) _ | with_reducible refine Kp.setN ?_ (by omega) _ | with_reducible refine Kp.keep ?_ _ | with_reducible refine Kp.setW ?_ (by rfl) _), (leN gN (by omega)), Nat.zero_le _⟩ ?_
 rintro i h' ⟨g1, g2, g3, g3', g4, g5, g6⟩
 obtain ⟨nx, hnx⟩ : ∃ nx, h'.next = nx := ⟨_, rfl⟩
 have hln := z3n (lv.take i)
 rw [List.length_take, Nat.min_eq_left g6] at hln
 (refine go ?_)
 (refine WW.ifB rfl (fun hz1 => ?_) (fun hz1 => ?_))
 ·have hi : i < lv.length := by omega
  have hIs := zc6 lv 0 i hi hok
  rw [Nat.zero_add] at hIs
  (refine go ?_)
  refine WL.call rfl gM gSL (zdc lv[i] (hw _ (List.getElem_mem hi)) (i : Int) _) ?_
  rw [hIs]
  simp only [if_true]
  have hbl := z3m lv[i]
  (refine go ?_)
  have e8 : (((lv.take (i + 1)).map leafB).map encR) = (((lv.take i).map leafB).map encR) ++ [[.imm 1 ((leafB lv[i]).map encB)]] := by
   rw [List.take_succ_eq_append_getElem hi, List.map_append, List.map_append]; rfl
  have e9 : (lvB (lv.take (i + 1))).map encB = (lvB (lv.take i)).map encB ++ (leafB lv[i]).map encB := by
   rw [List.take_succ_eq_append_getElem hi, lvB, List.map_append, List.flatten_append, List.map_append]; simp [lvB]
  refine ⟨i + 1, ?_, ⟨(by repeat first | exact zg (by first | rfl | exact List.length_map _ | (simp; done) | (simp; omega)) | exact zh (by first | rfl | exact List.length_map _ | (simp; done) | (simp; omega)) | assumption | with_reducible apply z4 (by omega) | with_reducible apply z1 (by omega)), (by repeat first | exact zg (by first | rfl | exact List.length_map _ | (simp; done) | (simp; omega)) | exact zh (by first | rfl | exact List.length_map _ | (simp; done) | (simp; omega)) | assumption | with_reducible apply z4 (by omega) | with_reducible apply z1 (by omega)), (by repeat first | exact zg (by first | rfl | exact List.length_map _ | (simp; done) | (simp; omega)) | exact zh (by first | rfl | exact List.length_map _ | (simp; done) | (simp; omega)) | assumption | with_reducible apply z4 (by omega) | with_reducible apply z1 (by omega)), (by repeat first | exact zg (by first | rfl | exact List.length_map _ | (simp; done) | (simp; omega)) | exact zh (by first | rfl | exact List.length_map _ | (simp; done) | (simp; omega)) | assumption | with_reducible apply z4 (by omega) | with_reducible apply z1 (by omega)), (by repeat first | exact Kp.refl | assumption | with_reducible refine Kp.put ?_ (by omega) _ | with_reducible refine Kp.setN ?_ (by omega) _ | with_reducible refine Kp.keep ?_ _ | with_reducible refine Kp.setW ?_ (by rfl) _), (leN gN (by omega)), by omega⟩, by omega⟩
  rw [e8, e9]
  exact gSUB
 ·have hi : i = lv.length := by omega
  subst hi
  rw [List.take_length] at *
  have w2 := hg.new g4
  have hGl : isG ((lv.map leafB).length : Nat) = true := by rw [List.length_map, hl]; exact hs.g
  (refine go ?_)
  have hob2 := w2.w.w
  simp only [wRow] at hob2
  (refine go ?_)
  refine WL.call rfl gM gSL (z9u w2.g (Nat.le_trans hs.ss (by omega)) (lv.map leafB) hGl (fun b hb => by obtain ⟨x, _, rfl⟩ := List.mem_map.1 hb; rw [z3m]; omega)) ?_
  have hNl : (zq md (lv.map leafB) s.S).1.length = 2 * lv.length := by
   have := z8c md ((lv.map leafB).length - 1) (lfF md (lv.map leafB) (lv.map leafB).length (List.replicate (2 * (lv.map leafB).length) (0, 0)) s.S).1 (lfF md (lv.map leafB) (lv.map leafB).length (List.replicate (2 * (lv.map leafB).length) (0, 0)) s.S).2
   have h2 := z8b md (lv.map leafB) (lv.map leafB).length (List.replicate (2 * (lv.map leafB).length) (0, 0)) s.S
   rw [zq, this.1, h2.1, List.length_replicate, List.length_map]
  have hne : ∀ id, h.next ≤ id → id ≠ n.q := fun id hi => by omega
  refine WL.named (fun h3 => WG md h3 n { s with S := (zq md (lv.map leafB) s.S).2 } ∧ Kp (n.own md) h h3 ∧ h3.get h.next = some (.mem 2 [[.int .u64 0, .int .u64 0]]) ∧ h3.get (h.next + 1 + 1) = some (.tail 0 (32 * lv.length)) ∧ h3.get (h.next + 1 + 1 + 1) = some (.tail 0 0) ∧ h.next + 4 ≤ h3.next)
   ⟨w2.putS _, (g4.mono fun _ _ h => h.elim).trans (kp_s w2 _), z1 (hne _ (by omega)) g1, z1 (hne _ (by omega)) g3, z1 (hne _ (by omega)) g3', z4x g5⟩ ?_
  clear w2 g1 g2 g3 g3' g4 g5 g6 hob2
  rintro h3 ⟨w3, k3, g1, g3, g4, g5⟩
  generalize hN : (zq md (lv.map leafB) s.S).1 = N at *
  (refine go ?_)
  refine WW.loopE (fun (i : Nat) => [(0, some (.ptr (n.a + 10) 0 0)), (1, some (.int .i64 a)), (6, some (.ptr h.next 0 0)), (9, some (.app (h.next + 1 + 1) 0 1 ((lvB lv).map encB))), (10, some (.app (h.next + 1 + 1 + 1) 0 1 ((z1h (N.take i)).map encB))), (15, some (.imm 2 (N.map encP))), (67, some (.imm 2 (N.map encP))), (68, some (.int .i64 N.length)), (69, some (.int .i64 i))])
   (fun i h' => h'.get h.next = some (.mem 2 [[.int .u64 0, .int .u64 0]]) ∧ h'.get (h.next + 1 + 1) = some (.tail 0 (32 * lv.length)) ∧ h'.get (h.next + 1 + 1 + 1) = some (.tail 0 (16 * i)) ∧ Kp (fun id => id = h.next + 1 + 1 + 1) h3 h' ∧ h.next + 4 ≤ h'.next ∧ i ≤ N.length) (fun i => N.length - i) 0 gSUB ⟨gH, gH, gH, (by repeat first | exact Kp.refl | assumption | with_reducible refine Kp.put ?_ (by omega) _ | with_reducible refine Kp.setN ?_ (by omega) _ | with_reducible refine Kp.keep ?_ _ | with_reducible refine Kp.setW ?_ (by rfl) _), (leN gN (by omega)), Nat.zero_le _⟩ ?_
  clear g1 g3 g4 g5
  rintro i h' ⟨g1, g3, g4, g5, g6, g7⟩
  obtain ⟨nx, hnx⟩ : ∃ nx, h'.next = nx := ⟨_, rfl⟩
  have hln2 := z2c (N.take i)
  rw [List.length_take, Nat.min_eq_left g7] at hln2
  have g6' := g5.next
  (refine go ?_)
  (refine WW.ifB rfl (fun hz2 => ?_) (fun hz2 => ?_))
  ·have hi : i < N.length := by omega
   (refine go ?_)
   refine WL.call rfl gM gSL (z1j N[i] _) ?_
   have hpl := z74 N[i]
   (refine go ?_)
   have e9 : (z1h (N.take (i + 1))).map encB = (z1h (N.take i)).map encB ++ (pairB N[i]).map encB := by
    rw [List.take_succ_eq_append_getElem hi, z1h, List.map_append, List.flatten_append, List.map_append]; simp [z1h]
   refine ⟨i + 1, ?_, ⟨(by repeat first | exact zg (by first | rfl | exact List.length_map _ | (simp; done) | (simp; omega)) | exact zh (by first | rfl | exact List.length_map _ | (simp; done) | (simp; omega)) | assumption | with_reducible apply z4 (by omega) | with_reducible apply z1 (by omega)), (by repeat first | exact zg (by first | rfl | exact List.length_map _ | (simp; done) | (simp; omega)) | exact zh (by first | rfl | exact List.length_map _ | (simp; done) | (simp; omega)) | assumption | with_reducible apply z4 (by omega) | with_reducible apply z1 (by omega)), (by repeat first | exact zg (by first | rfl | exact List.length_map _ | (simp; done) | (simp; omega)) | exact zh (by first | rfl | exact List.length_map _ | (simp; done) | (simp; omega)) | assumption | with_reducible apply z4 (by omega) | with_reducible apply z1 (by omega)), (by repeat first | exact Kp.refl | assumption | with_reducible refine Kp.put ?_ (by omega) _ | with_reducible refine Kp.setN ?_ (by omega) _ | with_reducible refine Kp.keep ?_ _ | with_reducible refine Kp.setW ?_ (by rfl) _), (leN gN (by omega)), by omega⟩, by omega⟩
   rw [e9]
   exact gSUB
  ·have hi : i = N.length := by omega
   subst hi
   rw [List.take_length] at *
   have w4 := w3.kp g5 fun id hi e => by have := hlt id hi; omega
   have k4 := k3.trans2 g5 fun id e => .inr (by omega)
   have hob2 := w4.w.w
   simp only [wRow] at hob2
   have hnx4 : n.a + 11 ≤ nx := by rw [← hnx]; exact w4.w.nx
   have hbl := z3n lv
   (repeat first | refine WL.go ?_ | refine WW.seq ?_ | refine WW.reg ?_ | refine WL.nil ?_ | refine WW.skip ?_ | refine WW.block ?_ | refine WW.exit ?_ | refine WW.condT rfl ?_ | refine WW.condF rfl ?_ | refine WL.gox ?_ | refine thenN ?_ | refine blkN ?_)
   refine WW.dregX [11, 25] [] n.devs gN (by decide +kernel) ?_
   (refine go ?_)
   refine DW.callS rfl gM gSL rfl (z6f s.n a 0 hs.g ha (by omega) _) ?_
   (refine go ?_)
   have hll : s.sd.lasts.length = (s.n * 160 + 120).toNat := by rw [hs.sd.len, zi hs.g]
   have ha' : a = 0 ∨ a = 1 := by omega
   have hin1 : inB s.sd.lasts.length (lfAt s.n a 0) (lvB lv).length = true := by
    have hp : 0 ≤ lfAt s.n a 0 ∧ lfAt s.n a 0 + 32 * s.n ≤ s.n * 160 + 120 := by
     unfold lfAt; rcases ha' with rfl | rfl <;> omega
    rw [hll, hbl]; simp [inB]; omega
   have hin2 : inB s.sd.lasts.length (ndAt s.n a 0) (z1h N).length = true := by
    have hp : 0 ≤ ndAt s.n a 0 ∧ ndAt s.n a 0 + 32 * s.n ≤ s.n * 160 + 120 := by
     unfold ndAt; rcases ha' with rfl | rfl <;> omega
    rw [hll, hln2, hNl]; simp [inB]; omega
   refine DW.callSW rfl gM gSL rfl rfl (fun hp => zfq n _ _ hp) (z41 w4.w.sd hs.pw (by omega) (by show s.sd.lasts.length ≤ _; omega) (Nat.le_trans hs.sd.kw (by omega)) (Nat.le_trans hs.sd.kt (by omega)) (lfAt s.n a 0) (lvB lv) (by omega)) ?_
   rw [hin1]
   simp only [Bool.true_and, if_true]
   have hod : ∀ id, n.nm md id → id ≠ h.next ∧ id ≠ h.next + 1 + 1 ∧ id ≠ h.next + 1 + 1 + 1 := fun id hi => by have := hlt id hi; omega
   have hnsd : ∀ (w' : PwS) (x' : SdS) (hh : AHeap) (id : Nat), h.next ≤ id → (sdPut n.sdN w' x' hh).get id = hh.get id := fun w' x' hh id hi => zi9 (by dsimp only; omega) (by dsimp only; omega) (by dsimp only; omega) (by dsimp only; omega) (by dsimp only; omega)
   refine DW.named (fun h5 => WG md h5 n (s.areaW1 md a lv) ∧ Kp (n.own md) h h5 ∧ PhiW nx n.devs h' h5 ∧ h5.get h.next = some (.mem 2 [[.int .u64 0, .int .u64 0]]) ∧ h5.get (h.next + 1 + 1 + 1) = some (.tail 0 (16 * N.length)) ∧ h5.next = nx) ⟨w4.step (w4.w.putSd _ _) (kp_sd n _ _), k4.trans (kp_sd n _ _), zfq n _ _ PhiW.refl, (hnsd _ _ _ _ (by omega)).trans g1, (hnsd _ _ _ _ (by omega)).trans g4, hnx⟩ ?_
   clear w4 k4 g1 g3 g4 hob2 g5 w3 k3
   rintro h5 ⟨w4, k4, hph, g1, g4, hnx5⟩
   have hob2 := w4.w.w
   simp only [wRow] at hob2
   cases hc1 : s.pw.can with
   | false =>
    (refine go ?_)
    refine WW.ret ⟨.inl rfl, _, gRES, rfl, ?_, k4.setN (Nat.le_refl _) _⟩
    rw [WS.areaW, hc1, if_neg (by simp)]
    exact w4.kp (W := fun id => id = h.next) (by repeat first | exact Kp.refl | assumption | with_reducible refine Kp.put ?_ (by omega) _ | with_reducible refine Kp.setN ?_ (by omega) _ | with_reducible refine Kp.keep ?_ _ | with_reducible refine Kp.setW ?_ (by rfl) _) fun id hi e => (hod id hi).1 e
   | true =>
    (refine go ?_)
    refine DW.callS rfl gM gSL rfl (zlb s.n a 0 hs.g ha (by omega) _) ?_
    (refine go ?_)
    have hll2 : (s.areaW1 md a lv).sd.lasts.length = s.sd.lasts.length := by simp [WS.areaW1, SdS.write, hc1]
    refine DW.callSW rfl gM gSL rfl rfl (fun hp => zfq n _ _ hp) (z41 (w := s.pw.spend) w4.w.sd hs.pw.spend (by omega) (by rw [hll2]; omega) (by simp [WS.areaW1, SdS.write, hc1]; have := hs.sd.kw; omega) (by simp [WS.areaW1, SdS.write, hc1]; have := hs.sd.kt; omega) (ndAt s.n a 0) (z1h N) (by omega)) ?_
    rw [hll2, hin2]
    simp only [Bool.true_and, if_true]
    refine DW.named (fun h6 => WG md h6 n (s.areaW md a lv) ∧ Kp (n.own md) h h6 ∧ h6.get h.next = some (.mem 2 [[.int .u64 0, .int .u64 0]]) ∧ h6.next = nx) ⟨?_, k4.trans (kp_sd n _ _), (hnsd _ _ _ _ (by omega)).trans g1, hnx5⟩ ?_
    ·rw [WS.areaW, hc1, if_pos rfl]
     have := w4.step (w4.w.putSd s.pw.spend.spend ((s.areaW1 md a lv).sd.write (ndAt s.n a 0, z1h N) s.pw.spend.can)) (kp_sd n _ _)
     rw [← hN] at this ⊢
     exact this
    clear w4 k4 g1 g4 hob2 hph
    rintro h6 ⟨w4, k4, g1, hnx6⟩
    have hN1 : (s.nodes md lv).getD 1 (0, 0) = N[1]'(by omega) := by
     rw [WS.nodes, hN, List.getD_eq_getElem?_getD, List.getElem?_eq_getElem (by omega)]; rfl
    cases hc2 : s.pw.spend.can with
    | false =>
     (refine go ?_)
     refine WW.ret ⟨.inl rfl, _, gRES, rfl, ?_, k4.setN (Nat.le_refl _) _⟩
     exact w4.kp (W := fun id => id = h.next) (by repeat first | exact Kp.refl | assumption | with_reducible refine Kp.put ?_ (by omega) _ | with_reducible refine Kp.setN ?_ (by omega) _ | with_reducible refine Kp.keep ?_ _ | with_reducible refine Kp.setW ?_ (by rfl) _) fun id hi e => (hod id hi).1 e
    | true =>
     rw [hN1]
     (refine go ?_)
     refine WL.go (hs := Stp.loadi rfl (z3a (List.getElem?_eq_getElem (show 1 < N.length by omega))) (by first | exact zk rfl rfl | exact z11 rfl | exact z6 (Nat.le_of_ble_eq_true rfl) (by first | (simp only [putC, AV.cs, encP, encN, encI, encS, encA, List.take_succ_cons, List.take_zero, List.take_nil, List.drop_succ_cons, List.drop_zero, List.drop_nil, List.cons_append, List.nil_append, List.append_nil, List.length_cons, List.length_nil, Nat.zero_add, Nat.add_zero, Nat.reduceAdd]; exact rfl) | exact rfl) | exact z6 (by simp) (by first | (simp only [putC, AV.cs, encP, encN, encI, encS, encA, List.take_succ_cons, List.take_zero, List.take_nil, List.drop_succ_cons, List.drop_zero, List.drop_nil, List.cons_append, List.nil_append, List.append_nil, List.length_cons, List.length_nil, Nat.zero_add, Nat.add_zero, Nat.reduceAdd]; exact rfl) | exact rfl)) gM) ?_
     (refine go ?_)
     refine WW.ret ⟨.inl rfl, _, gRES, rfl, ?_, k4.setN (Nat.le_refl _) _⟩
     exact w4.kp (W := fun id => id = h.next) (by repeat first | exact Kp.refl | assumption | with_reducible refine Kp.put ?_ (by omega) _ | with_reducible refine Kp.setN ?_ (by omega) _ | with_reducible refine Kp.keep ?_ _ | with_reducible refine Kp.setW ?_ (by rfl) _) fun id hi e => (hod id hi).1 e
end Go.Proofs.YthblcmnhiccnhaaGreat


namespace Go.Proofs.YthblcmnhiccnhaaGreat
open Go Go.Abs

def WS.row (s : WS) (a : Int) (i : Nat) : Bs := (s.sd.snap.drop (lfAt s.n a i).toNat).take 32
def WS.rows (s : WS) (a : Int) (m : Nat) : List Bs := (List.range m).map (s.row a)
def WS.leaf (s : WS) (a : Int) (i : Nat) : Lf := leafD (s.row a i) i
def WS.leaves (s : WS) (a : Int) (m : Nat) : List Lf := (List.range m).map (s.leaf a)
def WS.allG (s : WS) (a : Int) (m : Nat) : Bool := (List.range m).all fun i => leafG (s.row a i) i
def WS.readS (md : Bool) (s : WS) (a : Int) : WS := if s.pw.gone then s else { s with S := (zq md (s.rows a s.n.toNat) s.S).2 }
def WS.readT (md : Bool) (s : WS) (a : Int) : Pr := (zq md (s.rows a s.n.toNat) s.S).1.getD 1 (0, 0)
def WS.readE (md : Bool) (s : WS) (a : Int) (top : Pr) : Int := if s.pw.gone then 7 else if s.readT md a = top ∧ s.allG a s.n.toNat = true then 0 else 3
def WS.readL (md : Bool) (s : WS) (a : Int) (top : Pr) : List Lf := if s.readE md a top = 0 then s.leaves a s.n.toNat else []
theorem zq7 (s : WS) (a : Int) (i : Nat) : s.rows a (i + 1) = s.rows a i ++ [s.row a i] := by
 rw [WS.rows, List.range_succ, List.map_append]; rfl
theorem ze6 (s : WS) (a : Int) (m : Nat) : (s.rows a m).length = m := by simp [WS.rows]
theorem zmt (s : WS) (a : Int) (i : Nat) : s.leaves a (i + 1) = s.leaves a i ++ [s.leaf a i] := by
 rw [WS.leaves, List.range_succ, List.map_append]; rfl
theorem z2u {s : WS} {k : Nat} (hs : s.Fit k) : s.sd.snap.length = (s.n * 160 + 120).toNat := by
 have := hs.sd.len
 rw [zi hs.g] at this
 rw [← this]
 exact zl4 (fun o ho => by have := hs.sd.w o ho; rw [zi hs.g] at this; omega)
theorem znm {s : WS} {k : Nat} (hs : s.Fit k) (a : Int) (ha : 0 ≤ a ∧ a < 2) (i : Nat) (hi : (i : Int) < s.n) : (s.row a i).length = 32 := by
 have hg := z2 hs.g
 have ha' : a = 0 ∨ a = 1 := by omega
 have hp : 0 ≤ lfAt s.n a i ∧ lfAt s.n a i + 32 ≤ s.n * 160 + 120 := by
  unfold lfAt; rcases ha' with rfl | rfl <;> omega
 rw [WS.row, List.length_take, List.length_drop, z2u hs]; omega
set_option maxHeartbeats 1000000 in
theorem zlc {md : Bool} {h : AHeap} {n : WN} {s : WS} {k : Nat} (hg : WG md h n s) (hs : s.Fit k) (hk : k ≤ 90000) (a : Int) (ha : 0 ≤ a ∧ a < 2) (top : Pr) :
  AC Tryz.prog 124 [.ptr (n.a + 10) 0 0, .int .i64 a, .agg (encP top)] h
   (fun r h' => r = .tup [.imm 8 ((s.readL md a top).map encL), .int .i64 (s.readE md a top)] ∧ WG md h' n (s.readS md a) ∧ Kp (n.own md) h h') := by
 refine AC.introW zkr (by simp) ?_
 unfold zd6; dsimp only [qQ, qR, qM, qG]
 have hob := hg.w.w
 simp only [wRow] at hob
 have hlt : ∀ id, n.nm md id → id < h.next := fun id hi => (hg.us id hi).1
 have hq : n.q < h.next := hlt _ (.inr rfl)
 have hgg := z2 hs.g
 have hna : n.a + 11 ≤ h.next := hg.w.nx
 have hnB : n.B < h.next ∧ n.E < h.next := hg.w.nB
 have hoB := hg.w.oB
 have hop := hg.w.op
 obtain ⟨m, hm⟩ : ∃ m : Nat, s.n = m := ⟨s.n.toNat, by omega⟩
 (refine go ?_)
 refine WL.call rfl gM gSL (zfp _ a _) ?_
 rw [show (decide (0 ≤ a) && decide (a < 2)) = true by simp [ha.1, ha.2]]
 (refine go ?_)
 refine WW.cvt (Cvt.adopt 1 (s := 8) rfl gN) ?_
 rw [hm]
 refine WW.loopE (fun (i : Nat) => [(0, some (.ptr (n.a + 10) 0 0)), (1, some (.int .i64 a)), (5, some (.ptr h.next 0 0)), (8, some (.app (h.next + 1) 0 1 ((s.rows a i).map encR))), (27, some (.int .i64 m)), (28, some (.int .i64 i))])
  (fun i h' => h'.get h.next = some (.mem 2 [encP top]) ∧ h'.get (h.next + 1) = some (.tail 0 i) ∧ Kp (fun _ => False) h h' ∧ h.next + 2 ≤ h'.next ∧ i ≤ m ∧ (0 < i → s.pw.gone = false)) (fun i => m - i) 0 gSUB ⟨gH, gH, (by repeat first | exact Kp.refl | assumption | with_reducible refine Kp.put ?_ (by omega) _ | with_reducible refine Kp.setN ?_ (by omega) _ | with_reducible refine Kp.keep ?_ _ | with_reducible refine Kp.setW ?_ (by rfl) _), (leN gN (by omega)), Nat.zero_le _, by omega⟩ ?_
 rintro i h' ⟨g1, g2, g3, g4, g5, g6⟩
 obtain ⟨nx, hnx⟩ : ∃ nx, h'.next = nx := ⟨_, rfl⟩
 have w2 := hg.new g3
 have hrl := ze6 s a i
 have hob2 := w2.w.w
 simp only [wRow] at hob2
 (refine go ?_)
 (refine WW.ifB rfl (fun hz1 => ?_) (fun hz1 => ?_))
 ·have hi : i < m := by omega
  have hll : s.sd.lasts.length = (s.n * 160 + 120).toNat := by rw [hs.sd.len, zi hs.g]
  (refine go ?_)
  refine DW.callS rfl gM gSL rfl (z6f s.n a i hs.g ha (by omega) _) ?_
  (refine go ?_)
  refine DW.callS rfl gM gSL rfl (z7j w2.w.sd (by omega) (fun e => by rw [e] at hll; simp at hll; omega) (Nat.le_trans hs.sd.kw (by omega)) (fun o ho => by have := hs.sd.w o ho; rw [zi hs.g] at this; omega) (lfAt s.n a i) 32 (by omega)) ?_
  rw [show inB s.sd.lasts.length (lfAt s.n a i) 32 = true by
   have ha' : a = 0 ∨ a = 1 := by omega
   have hp : 0 ≤ lfAt s.n a i ∧ lfAt s.n a i + 32 ≤ s.n * 160 + 120 := by
    unfold lfAt; rcases ha' with rfl | rfl <;> omega
   rw [hll]; simp [inB]; omega]
  rw [Bool.true_and]
  cases hgo : s.pw.gone with
  | true =>
   have hrl0 : s.readL md a top = [] := by rw [WS.readL, WS.readE, hgo, if_pos rfl, if_neg (by decide)]
   have hre0 : s.readE md a top = 7 := by rw [WS.readE, hgo, if_pos rfl]
   have hrs0 : s.readS md a = s := by rw [WS.readS, hgo, if_pos rfl]
   rw [hrl0, hre0, hrs0]
   (refine go ?_)
   refine WW.cvt (Cvt.sub1 (s := 6) (v := .imm 8 []) rfl SubV.nil) ?_
   refine WW.ret ⟨.inl rfl, _, gRES, rfl, w2, g3.mono fun _ _ h => h.elim⟩
  | false =>
   simp only [Bool.not_false, if_true]
   (refine go ?_)
   have e8 : ((s.rows a (i + 1)).map encR) = ((s.rows a i).map encR) ++ [[.imm 1 ((s.row a i).map encB)]] := by
    rw [zq7, List.map_append]; rfl
   refine ⟨i + 1, ?_, ⟨(by repeat first | exact zg (by first | rfl | exact List.length_map _ | (simp; done) | (simp; omega)) | exact zh (by first | rfl | exact List.length_map _ | (simp; done) | (simp; omega)) | assumption | with_reducible apply z4 (by omega) | with_reducible apply z1 (by omega)), (by repeat first | exact zg (by first | rfl | exact List.length_map _ | (simp; done) | (simp; omega)) | exact zh (by first | rfl | exact List.length_map _ | (simp; done) | (simp; omega)) | assumption | with_reducible apply z4 (by omega) | with_reducible apply z1 (by omega)), (by repeat first | exact Kp.refl | assumption | with_reducible refine Kp.put ?_ (by omega) _ | with_reducible refine Kp.setN ?_ (by omega) _ | with_reducible refine Kp.keep ?_ _ | with_reducible refine Kp.setW ?_ (by rfl) _), (leN gN (by omega)), by omega, fun _ => True.intro⟩, by omega⟩
   rw [e8]
   exact gSUB
 ·have hi : i = m := by omega
  subst hi
  have hgo : s.pw.gone = false := g6 (by omega)
  have hmi : s.n.toNat = i := by omega
  have hGl : isG ((s.rows a i).length : Nat) = true := by rw [hrl, ← hm]; exact hs.g
  have hrw : ∀ b ∈ s.rows a i, b.length ≤ 100000 := fun b hb => by
   obtain ⟨j, hj, rfl⟩ := List.mem_map.1 hb
   rw [znm hs a ha j (by have := List.mem_range.1 hj; omega)]; omega
  have hrs0 : s.readS md a = { s with S := (zq md (s.rows a i) s.S).2 } := by rw [WS.readS, hgo, hmi]; rfl
  have hre0 : s.readE md a top = if s.readT md a = top ∧ s.allG a i = true then 0 else 3 := by rw [WS.readE, hgo, hmi]; rfl
  have hNl : (zq md (s.rows a i) s.S).1.length = 2 * i := by
   have := z8c md ((s.rows a i).length - 1) (lfF md (s.rows a i) (s.rows a i).length (List.replicate (2 * (s.rows a i).length) (0, 0)) s.S).1 (lfF md (s.rows a i) (s.rows a i).length (List.replicate (2 * (s.rows a i).length) (0, 0)) s.S).2
   have h2 := z8b md (s.rows a i) (s.rows a i).length (List.replicate (2 * (s.rows a i).length) (0, 0)) s.S
   rw [zq, this.1, h2.1, List.length_replicate, hrl]
  have hT : s.readT md a = (zq md (s.rows a i) s.S).1.getD 1 (0, 0) := by rw [WS.readT, hmi]
  rw [hrs0]
  (refine go ?_)
  refine WL.call rfl gM gSL (z9u w2.g (Nat.le_trans hs.ss (by omega)) (s.rows a i) hGl hrw) ?_
  refine WL.named (fun h3 => WG md h3 n { s with S := (zq md (s.rows a i) s.S).2 } ∧ Kp (n.own md) h h3 ∧ h3.get h.next = some (.mem 2 [encP top]) ∧ h3.get (h.next + 1) = some (.tail 0 i) ∧ h.next + 2 ≤ h3.next)
   ⟨w2.putS _, (g3.mono fun _ _ h => h.elim).trans (kp_s w2 _), z1 (by omega) g1, z1 (by omega) g2, z4x g4⟩ ?_
  clear w2 g1 g2 g3 g4 hob2
  rintro h3 ⟨w3, k3, g1, g2, g4⟩
  generalize hN : (zq md (s.rows a i) s.S).1 = N at hNl hT ⊢
  have hT1 : s.readT md a = N[1]'(by omega) := by
   rw [hT, List.getD_eq_getElem?_getD, List.getElem?_eq_getElem (by omega)]; rfl
  (repeat first | refine WL.go ?_ | refine WW.seq ?_ | refine WW.reg ?_ | refine WL.nil ?_ | refine WW.skip ?_ | refine WW.block ?_ | refine WW.exit ?_ | refine WW.condT rfl ?_ | refine WW.condF rfl ?_ | refine WL.gox ?_ | refine thenN ?_ | refine blkN ?_)
  refine WW.dregX [] [] [] gN (by decide +kernel) ?_
  (refine go ?_)
  refine DW.go (hs := Stp.loadi rfl (z3a (List.getElem?_eq_getElem (show 1 < N.length by omega))) (by first | exact zk rfl rfl | exact z11 rfl | exact z6 (Nat.le_of_ble_eq_true rfl) (by first | (simp only [putC, AV.cs, encP, encN, encI, encS, encA, List.take_succ_cons, List.take_zero, List.take_nil, List.drop_succ_cons, List.drop_zero, List.drop_nil, List.cons_append, List.nil_append, List.append_nil, List.length_cons, List.length_nil, Nat.zero_add, Nat.add_zero, Nat.reduceAdd]; exact rfl) | exact rfl) | exact z6 (by simp) (by first | (simp only [putC, AV.cs, encP, encN, encI, encS, encA, List.take_succ_cons, List.take_zero, List.take_nil, List.drop_succ_cons, List.drop_zero, List.drop_nil, List.cons_append, List.nil_append, List.append_nil, List.length_cons, List.length_nil, Nat.zero_add, Nat.add_zero, Nat.reduceAdd]; exact rfl) | exact rfl)) gM) ?_
  (refine go ?_)
  have hbe : (!(fun r => N[1].fst == top.fst && r) ((fun r => N[1].snd == top.snd && r) true)) = !(N[1] == top) := by rw [← z63]
  rw [hbe]
  (refine WW.ifB rfl (fun hz7 => ?_) (fun hz7 => ?_))
  ·have hne : ¬ s.readT md a = top := fun e => by rw [hT1] at e; simp [e] at hz7
   have hE : s.readE md a top = 3 := by rw [hre0, if_neg (fun h => hne h.1)]
   have hL : s.readL md a top = [] := by rw [WS.readL, hE, if_neg (by decide)]
   rw [hE, hL]
   (refine go ?_)
   refine WW.cvt (Cvt.sub1 (s := 6) (v := .imm 8 []) rfl SubV.nil) ?_
   refine WW.ret ⟨.inl rfl, _, gRES, rfl, w3, k3⟩
  ·have heq : s.readT md a = top := by rw [hT1]; simpa using hz7
   (refine go ?_)
   refine WW.cvt (Cvt.adopt 8 (s := 14) rfl gN) ?_
   refine WW.cvt (Cvt.sub1 (s := 71) rfl SubV.app) ?_
   have hrowj : ∀ j (hj : j < (s.rows a i).length), (s.rows a i)[j] = s.row a j := fun j hj => by simp [WS.rows]
   refine WW.loopE (fun (j : Nat) => [(14, some (.app h3.next 0 8 ((s.leaves a j).map encL))), (71, some (.imm 1 ((s.rows a i).map encR))), (72, some (.int .i64 (s.rows a i).length)), (73, some (.int .i64 j))])
    (fun j h' => h'.get h3.next = some (.tail 0 j) ∧ Kp (fun _ => False) h3 h' ∧ h3.next + 1 ≤ h'.next ∧ j ≤ i ∧ s.allG a j = true) (fun j => i - j) 0 gSUB ⟨gH, (by repeat first | exact Kp.refl | assumption | with_reducible refine Kp.put ?_ (by omega) _ | with_reducible refine Kp.setN ?_ (by omega) _ | with_reducible refine Kp.keep ?_ _ | with_reducible refine Kp.setW ?_ (by rfl) _), (leN gN (by omega)), Nat.zero_le _, rfl⟩ ?_
   rintro j h' ⟨f1, f2, f3, f4, f5⟩
   obtain ⟨nx, hnx⟩ : ∃ nx, h'.next = nx := ⟨_, rfl⟩
   have w4 := w3.new f2
   have k4 : Kp (n.own md) h h' := k3.trans (f2.mono fun _ _ h => h.elim)
   have hlj : (s.leaves a j).length = j := by simp [WS.leaves]
   (refine go ?_)
   (refine WW.ifB rfl (fun hz8 => ?_) (fun hz8 => ?_))
   ·have hj : j < i := by omega
    have hj2 : j < (s.rows a i).length := by omega
    have hrj := hrowj j hj2
    have hL := zmp (s.row a j) (by rw [znm hs a ha j (by omega)]; omega) (j : Int) (by omega)
    rw [← hrj] at hL
    (refine go ?_)
    refine WL.call rfl gM gSL (hL _) ?_
    rw [hrj]
    cases hG : leafG (s.row a j) j with
    | false =>
     have hA : s.allG a i = false := by
      rw [Bool.eq_false_iff]; intro h
      rw [WS.allG, List.all_eq_true] at h
      have := h j (List.mem_range.2 hj)
      rw [hG] at this; cases this
     have hE : s.readE md a top = 3 := by rw [hre0, if_neg (fun h => by rw [hA] at h; simp at h)]
     have hLL : s.readL md a top = [] := by rw [WS.readL, hE, if_neg (by decide)]
     rw [hE, hLL]
     (refine go ?_)
     refine WW.cvt (Cvt.sub1 (s := 6) (v := .imm 8 []) rfl SubV.nil) ?_
     refine WW.ret ⟨.inl rfl, _, gRES, rfl, w4.kp (W := fun _ => False) (by repeat first | exact Kp.refl | assumption | with_reducible refine Kp.put ?_ (by omega) _ | with_reducible refine Kp.setN ?_ (by omega) _ | with_reducible refine Kp.keep ?_ _ | with_reducible refine Kp.setW ?_ (by rfl) _) (fun _ _ h => h), ?_⟩
     exact k4.trans (((by repeat first | exact Kp.refl | assumption | with_reducible refine Kp.put ?_ (by omega) _ | with_reducible refine Kp.setN ?_ (by omega) _ | with_reducible refine Kp.keep ?_ _ | with_reducible refine Kp.setW ?_ (by rfl) _) : Kp (fun _ => False) h' _).mono fun _ _ h => h.elim)
    | true =>
     simp only [if_true]
     (refine go ?_)
     have e8 : ((s.leaves a (j + 1)).map encL) = ((s.leaves a j).map encL) ++ [encL (leafD (s.row a j) j)] := by
      rw [zmt, List.map_append]; rfl
     refine ⟨j + 1, ?_, ⟨(by repeat first | exact zg (by first | rfl | exact List.length_map _ | (simp; done) | (simp; omega)) | exact zh (by first | rfl | exact List.length_map _ | (simp; done) | (simp; omega)) | assumption | with_reducible apply z4 (by omega) | with_reducible apply z1 (by omega)), (by repeat first | exact Kp.refl | assumption | with_reducible refine Kp.put ?_ (by omega) _ | with_reducible refine Kp.setN ?_ (by omega) _ | with_reducible refine Kp.keep ?_ _ | with_reducible refine Kp.setW ?_ (by rfl) _), (leN gN (by omega)), by omega, ?_⟩, by omega⟩
     ·rw [e8]
      exact gSUB
     ·rw [WS.allG, List.range_succ, List.all_append, Bool.and_eq_true]
      exact ⟨f5, by simpa using hG⟩
   ·have hj : j = i := by omega
    subst hj
    have hE : s.readE md a top = 0 := by rw [hre0, if_pos ⟨heq, f5⟩]
    have hLL : s.readL md a top = s.leaves a j := by rw [WS.readL, if_pos hE, hmi]
    rw [hE, hLL]
    (refine go ?_)
    refine WW.cvt (Cvt.sub1 (s := 6) rfl SubV.app) ?_
    refine WW.ret ⟨.inl rfl, _, gRES, rfl, w4, k4⟩
end Go.Proofs.YthblcmnhiccnhaaGreat


namespace Go.Proofs.YthblcmnhiccnhaaGreat
open Go Go.Abs

def ckF (md : Bool) : List Pr → Nat → Pr → List Bs → Pr × List Bs
 | [], _, p, S => (p, S)
 | x :: r, i, p, S => ckF md r (i / 2) (gP md S (if i % 2 = 1 then nodeK x p else nodeK p x)) (gS md S (if i % 2 = 1 then nodeK x p else nodeK p x))
end Go.Proofs.YthblcmnhiccnhaaGreat


namespace Go.Proofs.YthblcmnhiccnhaaGreat
open Go Go.Abs

def Pre (S0 S : List Bs) : Prop := ∃ R, S = S0 ++ R
theorem Pre.refl (S : List Bs) : Pre S S := ⟨[], by simp⟩
theorem Pre.trans {A B C : List Bs} (h1 : Pre A B) (h2 : Pre B C) : Pre A C := by
 obtain ⟨R, rfl⟩ := h1; obtain ⟨R', rfl⟩ := h2; exact ⟨R ++ R', by simp⟩
theorem zrp (S : List Bs) (k : Bs) : Pre S (sumS S k) := by
 unfold sumS; split
 ·exact Pre.refl _
 ·exact ⟨_, rfl⟩
theorem zld (k : Bs) : ∀ (S R : List Bs) (m : Nat), idxS k S = some m → idxS k (S ++ R) = some m
 | [], _, _, h => by simp [idxS] at h
 | s :: S, R, m, h => by
  simp only [idxS, List.cons_append] at h ⊢
  split
  ·rename_i e; rw [if_pos e] at h; exact h
  ·rename_i e
   rw [if_neg e] at h
   cases hi : idxS k S with
   | none => rw [hi] at h; simp at h
   | some j => rw [hi] at h; rw [zld k S R j hi]; exact h
theorem zic (k : Bs) : ∀ (S : List Bs), idxS k S = none → idxS k (S ++ [k]) = some S.length
 | [], _ => by simp [idxS]
 | s :: S, h => by
  simp only [idxS, List.cons_append] at h ⊢
  split
  ·rename_i e; rw [if_pos e] at h; cases h
  ·rename_i e
   rw [if_neg e] at h
   cases hi : idxS k S with
   | none => rw [zic k S hi]; simp
   | some j => rw [hi] at h; simp at h
theorem zq8 (S : List Bs) (k : Bs) : ∃ m, idxS k (sumS S k) = some m ∧ sumN S k = m + 1 := by
 unfold sumS sumN
 cases hi : idxS k S with
 | some m => exact ⟨m, by simp [hi], by simp⟩
 | none => exact ⟨S.length, by simp [zic k S hi], by simp⟩
theorem zle {a b : Bs} : ∀ {S : List Bs} {m : Nat}, idxS a S = some m → idxS b S = some m → a = b
 | [], _, h, _ => by simp [idxS] at h
 | s :: S, m, h1, h2 => by
  simp only [idxS] at h1 h2
  split at h1
  ·rename_i e
   split at h2
   ·rename_i e2; rw [e, e2]
   ·cases h1
    cases hi : idxS b S with
    | none => rw [hi] at h2; simp at h2
    | some j => rw [hi] at h2; simp at h2
  ·split at h2
   ·cases h2
    cases hi : idxS a S with
    | none => rw [hi] at h1; simp at h1
    | some j => rw [hi] at h1; simp at h1
   ·cases hi : idxS a S with
    | none => rw [hi] at h1; simp at h1
    | some j =>
     cases hj : idxS b S with
     | none => rw [hj] at h2; simp at h2
     | some j' =>
      rw [hi] at h1; rw [hj] at h2
      simp at h1 h2
      exact zle hi (by rw [hj]; congr 1; omega)
def IsSum (S : List Bs) (k : Bs) (p : Pr) : Prop := ∃ m, idxS k S = some m ∧ p = (eees, ((m + 1 : Nat) : Int))
theorem IsSum.pre {S S' : List Bs} {k : Bs} {p : Pr} (h : IsSum S k p) (hp : Pre S S') : IsSum S' k p := by
 obtain ⟨m, h1, h2⟩ := h; obtain ⟨R, rfl⟩ := hp
 exact ⟨m, zld k S R m h1, h2⟩
theorem zq9 (S : List Bs) (k : Bs) : IsSum (sumS S k) k (sumP S k) := by
 obtain ⟨m, h1, h2⟩ := zq8 S k
 exact ⟨m, h1, by rw [sumP, h2]⟩
theorem IsSum.inj {S : List Bs} {a b : Bs} {p : Pr} (h1 : IsSum S a p) (h2 : IsSum S b p) : a = b := by
 obtain ⟨m, h1, rfl⟩ := h1
 obtain ⟨m', h2, e⟩ := h2
 have : m = m' := by simp at e; omega
 subst this
 exact zle h1 h2
theorem IsSum.fn {S : List Bs} {a : Bs} {p q : Pr} (h1 : IsSum S a p) (h2 : IsSum S a q) : p = q := by
 obtain ⟨m, h1, rfl⟩ := h1
 obtain ⟨m', h2, rfl⟩ := h2
 rw [h1] at h2; cases h2; rfl
theorem IsSum.rng {S : List Bs} {a : Bs} {p : Pr} (h : IsSum S a p) : p.1 = eees ∧ 0 ≤ p.2 ∧ p.2 ≤ S.length := by
 obtain ⟨m, h1, rfl⟩ := h
 have : ∀ (S : List Bs) (m : Nat), idxS a S = some m → m < S.length := by
  intro S
  induction S with
  | nil => intro m h; simp [idxS] at h
  | cons s S ih =>
   intro m h
   simp only [idxS] at h
   split at h
   ·cases h; simp
   ·cases hi : idxS a S with
    | none => rw [hi] at h; simp at h
    | some j => rw [hi] at h; have := ih j hi; simp at h; simp; omega
 have := this S m h1
 exact ⟨rfl, by simp; omega, by simp; omega⟩
theorem zid {v w : Int} (hv : 0 ≤ v ∧ v < 18446744073709551616) (hw : 0 ≤ w ∧ w < 18446744073709551616) (h : putB v 8 = putB w 8) : v = w := by
 have h2 : ∀ i, i < 8 → (v / 2 ^ (8 * (8 - 1 - i))) % 256 = (w / 2 ^ (8 * (8 - 1 - i))) % 256 := by
  intro i hi
  have h3 := congrArg (fun l => l[i]?) h
  simp only [putB, show ¬ ((8 : Nat) < 1 ∨ 8 < 8) by decide, if_false, List.getElem?_map, List.getElem?_range hi, Option.map_some, Option.some.injEq, z62] at h3
  have h4 := congrArg UInt8.toNat h3
  rw [UInt8.toNat_ofNat', UInt8.toNat_ofNat'] at h4
  have h5 := Int.emod_nonneg (v / 2 ^ (8 * (8 - 1 - i))) (show (256 : Int) ≠ 0 by decide)
  have h6 := Int.emod_lt_of_pos (v / 2 ^ (8 * (8 - 1 - i))) (show (0 : Int) < 256 by decide)
  have h7 := Int.emod_nonneg (w / 2 ^ (8 * (8 - 1 - i))) (show (256 : Int) ≠ 0 by decide)
  have h8 := Int.emod_lt_of_pos (w / 2 ^ (8 * (8 - 1 - i))) (show (0 : Int) < 256 by decide)
  omega
 have a0 := h2 0 (by decide); have a1 := h2 1 (by decide); have a2 := h2 2 (by decide); have a3 := h2 3 (by decide)
 have a4 := h2 4 (by decide); have a5 := h2 5 (by decide); have a6 := h2 6 (by decide); have a7 := h2 7 (by decide)
 simp only [Nat.reduceSub, Nat.reduceMul, Nat.sub_zero, Int.reducePow] at a0 a1 a2 a3 a4 a5 a6 a7
 omega
def Wfp (p : Pr) : Prop := (0 ≤ p.1 ∧ p.1 < 18446744073709551616) ∧ (0 ≤ p.2 ∧ p.2 < 18446744073709551616)
theorem zie {p q : Pr} (hp : Wfp p) (hq : Wfp q) (h : pairB p = pairB q) : p = q := by
 obtain ⟨h1, h2⟩ := List.append_inj h (by simp)
 exact Prod.ext (zid hp.1 hq.1 h1) (zid hp.2 hq.2 h2)
theorem zqa {a b c d : Pr} (ha : Wfp a) (hb : Wfp b) (hc : Wfp c) (hd : Wfp d) (h : nodeK a b = nodeK c d) : a = c ∧ b = d := by
 simp only [nodeK, List.cons.injEq, true_and] at h
 obtain ⟨h1, h2⟩ := List.append_inj h (by simp [z74])
 exact ⟨zie ha hc h1, zie hb hd h2⟩
theorem zqb {a b : Bs} (h : leafK a = leafK b) : a = b := by simpa [leafK] using h
theorem IsSum.wf {S : List Bs} {a : Bs} {p : Pr} (h : IsSum S a p) (hS : S.length ≤ 1000000) : Wfp p := by
 obtain ⟨h1, h2, h3⟩ := h.rng
 exact ⟨by rw [h1]; decide, by omega, by omega⟩

def IsG (md : Bool) (S : List Bs) (k : Bs) (p : Pr) : Prop := match md with | true => IsSum S k p | false => p = z2z k
theorem zqc (md : Bool) (S : List Bs) (k : Bs) : Pre S (gS md S k) := by
 cases md
 ·exact Pre.refl _
 ·exact zrp S k
theorem IsG.pre {md : Bool} {S S' : List Bs} {k : Bs} {p : Pr} (h : IsG md S k p) (hp : Pre S S') : IsG md S' k p := by
 cases md
 ·exact h
 ·exact IsSum.pre h hp
theorem znn (md : Bool) (S : List Bs) (k : Bs) : IsG md (gS md S k) k (gP md S k) := by
 cases md
 ·exact rfl
 ·exact zq9 S k
theorem IsG.fn {md : Bool} {S : List Bs} {a : Bs} {p q : Pr} (h1 : IsG md S a p) (h2 : IsG md S a q) : p = q := by
 cases md
 ·exact Eq.trans h1 (Eq.symm h2)
 ·exact IsSum.fn h1 h2

abbrev nd (N : List Pr) (i : Nat) : Pr := N.getD i (0, 0)
theorem z8d {N : List Pr} {i j : Nat} {p : Pr} : nd (N.set i p) j = if i = j ∧ j < N.length then p else nd N j := by
 simp only [nd, List.getD_eq_getElem?_getD, List.getElem?_set]
 by_cases h : i = j
 ·subst h
  by_cases h2 : i < N.length
  ·simp [h2]
  ·simp [h2]
 ·simp [h]
structure Tree (md : Bool) (S : List Bs) (lv : List Bs) (N : List Pr) : Prop where
 len : N.length = 2 * lv.length
 leaf : ∀ i (hi : i < lv.length), IsG md S (leafK lv[i]) (nd N (lv.length + i))
 node : ∀ j, 1 ≤ j → j < lv.length → IsG md S (nodeK (nd N (2 * j)) (nd N (2 * j + 1))) (nd N j)
theorem Tree.pre {md : Bool} {S S' : List Bs} {lv : List Bs} {N : List Pr} (h : Tree md S lv N) (hp : Pre S S') : Tree md S' lv N :=
 ⟨h.len, fun i hi => (h.leaf i hi).pre hp, fun j h1 h2 => (h.node j h1 h2).pre hp⟩
theorem zlf (md : Bool) : ∀ (r : List Bs) (k : Nat) (N : List Pr) (S : List Bs), k + r.length ≤ N.length → Pre S (lfF md r k N S).2 ∧ (∀ j, j < k → nd (lfF md r k N S).1 j = nd N j) ∧ ∀ i (hi : i < r.length), IsG md (lfF md r k N S).2 (leafK r[i]) (nd (lfF md r k N S).1 (k + i))
 | [], _, _, S, _ => ⟨Pre.refl _, fun _ _ => rfl, fun i hi => absurd hi (by simp)⟩
 | b :: r, k, N, S, hk => by
  simp only [List.length_cons] at hk
  obtain ⟨h1, h2, h3⟩ := zlf md r (k + 1) (N.set k (gP md S (leafK b))) (gS md S (leafK b)) (by simp; omega)
  simp only [lfF]
  refine ⟨(zqc md _ _).trans h1, fun j hj => ?_, fun i hi => ?_⟩
  ·rw [h2 j (by omega), z8d, if_neg (by omega)]
  ·cases i with
   | zero =>
    rw [show k + 0 = k from rfl, h2 k (by omega), z8d, if_pos ⟨rfl, by omega⟩]
    exact (znn md S (leafK b)).pre h1
   | succ i =>
    have := h3 i (by simpa using hi)
    rw [show k + 1 + i = k + (i + 1) by omega] at this
    exact this
theorem zlg (md : Bool) : ∀ (i : Nat) (N : List Pr) (S : List Bs), i < N.length → Pre S (upF md i N S).2 ∧ (∀ j, i < j → nd (upF md i N S).1 j = nd N j) ∧ ∀ j, 1 ≤ j → j ≤ i → IsG md (upF md i N S).2 (nodeK (nd (upF md i N S).1 (2 * j)) (nd (upF md i N S).1 (2 * j + 1))) (nd (upF md i N S).1 j)
 | 0, _, S, _ => ⟨Pre.refl _, fun _ _ => rfl, fun j h1 h2 => absurd h1 (by omega)⟩
 | i + 1, N, S, hi => by
  obtain ⟨h1, h2, h3⟩ := zlg md i (N.set (i + 1) (gP md S (kidK N (i + 1)))) (gS md S (kidK N (i + 1))) (by simp; omega)
  simp only [upF]
  refine ⟨(zqc md _ _).trans h1, fun j hj => ?_, fun j j1 j2 => ?_⟩
  ·rw [h2 j (by omega), z8d, if_neg (by omega)]
  ·by_cases e : j = i + 1
   ·subst e
    rw [h2 (i + 1) (by omega), h2 (2 * (i + 1)) (by omega), h2 (2 * (i + 1) + 1) (by omega), z8d (j := 2 * (i + 1)), if_neg (by omega), z8d (j := 2 * (i + 1) + 1), if_neg (by omega), z8d (j := i + 1), if_pos ⟨rfl, hi⟩]
    exact (znn md S (kidK N (i + 1))).pre h1
   ·exact h3 j j1 (by omega)
theorem z22 (md : Bool) (lv : List Bs) (S : List Bs) (hl : 1 ≤ lv.length) : Pre S (zq md lv S).2 ∧ Tree md (zq md lv S).2 lv (zq md lv S).1 := by
 have l1 := z8b md lv lv.length (List.replicate (2 * lv.length) (0, 0)) S
 obtain ⟨a1, a2, a3⟩ := zlf md lv lv.length (List.replicate (2 * lv.length) (0, 0)) S (by simp; omega)
 unfold zq
 generalize lfF md lv lv.length (List.replicate (2 * lv.length) (0, 0)) S = q at *
 simp only [List.length_replicate] at l1
 have l2 := z8c md (lv.length - 1) q.1 q.2
 obtain ⟨b1, b2, b3⟩ := zlg md (lv.length - 1) q.1 q.2 (by omega)
 refine ⟨a1.trans b1, ⟨by omega, fun i hi => ?_, fun j h1 h2 => b3 j h1 (by omega)⟩⟩
 rw [b2 _ (by omega)]
 exact (a3 i hi).pre b1
theorem z43 (md : Bool) (lv : List Bs) (S : List Bs) : (zq md lv S).1.length = 2 * lv.length ∧ (zq md lv S).2.length ≤ S.length + 2 * lv.length := by
 have l1 := z8b md lv lv.length (List.replicate (2 * lv.length) (0, 0)) S
 unfold zq
 generalize lfF md lv lv.length (List.replicate (2 * lv.length) (0, 0)) S = q at *
 simp only [List.length_replicate] at l1
 have l2 := z8c md (lv.length - 1) q.1 q.2
 omega
theorem Tree.one {S : List Bs} {a b : List Bs} {N M : List Pr} (hS : S.length ≤ 1000000) (hN : Tree true S a N) (hM : Tree true S b M) (hl : a.length = b.length) (ht : nd N 1 = nd M 1) : ∀ j, 1 ≤ j → j < 2 * a.length → nd N j = nd M j := by
 have wN : ∀ j, 1 ≤ j → j < 2 * a.length → Wfp (nd N j) := fun j h1 h2 => by
  by_cases h : j < a.length
  ·exact (hN.node j h1 h).wf hS
  ·have := hN.leaf (j - a.length) (by omega)
   rw [show a.length + (j - a.length) = j by omega] at this
   exact this.wf hS
 have wM : ∀ j, 1 ≤ j → j < 2 * a.length → Wfp (nd M j) := fun j h1 h2 => by
  by_cases h : j < a.length
  ·exact (hM.node j h1 (by omega)).wf hS
  ·have := hM.leaf (j - a.length) (by omega)
   rw [show b.length + (j - a.length) = j by omega] at this
   exact this.wf hS
 intro j
 induction j using Nat.strongRecOn with
 | ind j ih =>
  intro h1 h2
  by_cases e : j = 1
  ·rw [e]; exact ht
  ·have hp := ih (j / 2) (by omega) (by omega) (by omega)
   have k1 := hN.node (j / 2) (by omega) (by omega)
   have k2 := hM.node (j / 2) (by omega) (by omega)
   rw [hp] at k1
   obtain ⟨e1, e2⟩ := zqa (wN _ (by omega) (by omega)) (wN _ (by omega) (by omega)) (wM _ (by omega) (by omega)) (wM _ (by omega) (by omega)) (k1.inj k2)
   rcases Nat.mod_two_eq_zero_or_one j with hm | hm
   ·rw [show j = 2 * (j / 2) by omega]; exact e1
   ·rw [show j = 2 * (j / 2) + 1 by omega]; exact e2
theorem Tree.leaves {S : List Bs} {a b : List Bs} {N M : List Pr} (hS : S.length ≤ 1000000) (hN : Tree true S a N) (hM : Tree true S b M) (hl : a.length = b.length) (ha : 1 ≤ a.length) (ht : nd N 1 = nd M 1) : a = b := by
 have key := Tree.one hS hN hM hl ht
 refine List.ext_getElem hl fun i h1 h2 => ?_
 have k1 := hN.leaf i h1
 have k2 := hM.leaf i h2
 rw [key (a.length + i) (by omega) (by omega), hl] at k1
 exact zqb (k1.inj k2)
theorem Tree.same {md : Bool} {S : List Bs} {a : List Bs} {N M : List Pr} (hN : Tree md S a N) (hM : Tree md S a M) : ∀ n j, 2 * a.length - j ≤ n → 1 ≤ j → j < 2 * a.length → nd N j = nd M j := by
 intro n
 induction n with
 | zero => intro j h1 h2 h3; omega
 | succ n ih =>
  intro j h1 h2 h3
  by_cases h : j < a.length
  ·have k1 := hN.node j h2 h
   have k2 := hM.node j h2 h
   rw [ih (2 * j) (by omega) (by omega) (by omega), ih (2 * j + 1) (by omega) (by omega) (by omega)] at k1
   exact k1.fn k2
  ·have k1 := hN.leaf (j - a.length) (by omega)
   have k2 := hM.leaf (j - a.length) (by omega)
   rw [show a.length + (j - a.length) = j by omega] at k1 k2
   exact k1.fn k2
end Go.Proofs.YthblcmnhiccnhaaGreat


namespace Go.Proofs.YthblcmnhiccnhaaGreat
open Go Go.Abs

theorem zif {md : Bool} {S : List Bs} {k : Bs} {p : Pr} (h : IsG md S k p) : gP md S k = p ∧ gS md S k = S := by
 cases md with
 | true =>
  obtain ⟨m, h1, rfl⟩ := h
  exact ⟨by show sumP S k = _; rw [sumP, sumN, h1]; rfl, by show sumS S k = _; rw [sumS, h1]; rfl⟩
 | false => exact ⟨Eq.symm h, rfl⟩
theorem zno (k : Nat) : k ^^^ 1 = if k % 2 = 1 then k - 1 else k + 1 := by
 have h1 : (k ^^^ 1) / 2 = k / 2 := by rw [Nat.xor_div_two]; simp
 have h2 : (k ^^^ 1) % 2 = (k + 1) % 2 := by
  have h3 := Nat.testBit_xor k 1 0
  simp only [Nat.testBit_zero] at h3
  rcases Nat.mod_two_eq_zero_or_one k with h | h <;> rcases Nat.mod_two_eq_zero_or_one (k ^^^ 1) with h' | h' <;> simp [h, h'] at h3 <;> omega
 split <;> omega
theorem zc7 (N : List Pr) : ∀ (e i : Nat), i < 2 ^ e → (upL N (2 ^ e + i)).length = e
 | 0, i, h => by
  have : i = 0 := by omega
  subst this; rw [z5x (by simp)]; rfl
 | e + 1, i, h => by
  have hp : 2 ^ (e + 1) = 2 * 2 ^ e := by rw [Nat.pow_succ]; omega
  have hpos : 0 < 2 ^ e := Nat.two_pow_pos e
  rw [z93 (by omega), List.length_cons, show (2 ^ (e + 1) + i) / 2 = 2 ^ e + i / 2 by omega, zc7 N e (i / 2) (by omega)]
theorem ck_up {md : Bool} {S : List Bs} {lv : List Bs} {N : List Pr} (hT : Tree md S lv N) : ∀ (e i : Nat), i < 2 ^ e → 2 ^ e + i < 2 * lv.length → ckF md (upL N (2 ^ e + i)) i (nd N (2 ^ e + i)) S = (nd N 1, S)
 | 0, i, h, _ => by
  have : i = 0 := by omega
  subst this; rw [z5x (by simp)]; rfl
 | e + 1, i, h, hk => by
  have hp : 2 ^ (e + 1) = 2 * 2 ^ e := by rw [Nat.pow_succ]; omega
  have hpos : 0 < 2 ^ e := Nat.two_pow_pos e
  rw [z93 (by omega), ckF]
  have hd : (2 ^ (e + 1) + i) / 2 = 2 ^ e + i / 2 := by omega
  have key : (if i % 2 = 1 then nodeK (N.getD ((2 ^ (e + 1) + i) ^^^ 1) (0, 0)) (nd N (2 ^ (e + 1) + i)) else nodeK (nd N (2 ^ (e + 1) + i)) (N.getD ((2 ^ (e + 1) + i) ^^^ 1) (0, 0))) = nodeK (nd N (2 * (2 ^ e + i / 2))) (nd N (2 * (2 ^ e + i / 2) + 1)) := by
   rw [zno]
   split
   ·rw [if_pos (by omega), show 2 ^ (e + 1) + i - 1 = 2 * (2 ^ e + i / 2) by omega, show 2 ^ (e + 1) + i = 2 * (2 ^ e + i / 2) + 1 by omega]
   ·rw [if_neg (by omega), show 2 ^ (e + 1) + i = 2 * (2 ^ e + i / 2) by omega]
  rw [key]
  obtain ⟨k1, k2⟩ := zif (hT.node (2 ^ e + i / 2) (by omega) (by omega))
  rw [k1, k2, hd]
  exact ck_up hT e (i / 2) (by omega) (by omega)
theorem Tree.wf {S : List Bs} {lv : List Bs} {N : List Pr} (hT : Tree true S lv N) (hS : S.length ≤ 1000000) {j : Nat} (h1 : 1 ≤ j) (h2 : j < 2 * lv.length) : Wfp (nd N j) := by
 by_cases h : j < lv.length
 ·exact (hT.node j h1 h).wf hS
 ·have := hT.leaf (j - lv.length) (by omega)
  rw [show lv.length + (j - lv.length) = j by omega] at this
  exact this.wf hS
theorem ztg {md : Bool} {S : List Bs} {lv : List Bs} {N : List Pr} (hT : Tree md S lv N) {e : Nat} (he : lv.length = 2 ^ e) {i : Nat} (hi : i < lv.length) : ckF md (upL N (2 ^ e + i)) i (gP md S (leafK lv[i])) (gS md S (leafK lv[i])) = (nd N 1, S) := by
 obtain ⟨k1, k2⟩ := zif (hT.leaf i hi)
 rw [k1, k2, he]
 exact ck_up hT e i (by omega) (by omega)
end Go.Proofs.YthblcmnhiccnhaaGreat


namespace Go.Proofs.YthblcmnhiccnhaaGreat
open Go Go.Abs

def WS.ndF (s : WS) (a : Int) (j : Nat) : Pr := pairF ((s.sd.snap.drop (ndAt s.n a j).toNat).take 16)
def WS.nds (s : WS) (a : Int) : List Pr := (List.range (2 * s.n.toNat)).map (s.ndF a)
def WS.oneQ (s : WS) (a : Int) (i : Nat) : List Pr := upL (s.nds a) (s.n.toNat + i)
def WS.oneC (md : Bool) (s : WS) (a : Int) (i : Nat) : Pr × List Bs := ckF md (s.oneQ a i) i (gP md s.S (leafK (s.row a i))) (gS md s.S (leafK (s.row a i)))
def WS.oneS (md : Bool) (s : WS) (a : Int) (i : Nat) : WS := if s.pw.gone then s else { s with S := (s.oneC md a i).2 }
def WS.oneE (md : Bool) (s : WS) (a : Int) (i : Nat) (top : Pr) : Int := if s.pw.gone then 7 else if (s.oneC md a i).1 = top ∧ leafG (s.row a i) i = true then 0 else 3
def WS.oneL (md : Bool) (s : WS) (a : Int) (i : Nat) (top : Pr) : Lf := if s.oneE md a i top = 0 then s.leaf a i else lf0
theorem zrq {s : WS} {k : Nat} (hs : s.Fit k) (a : Int) (i : Nat) (hi : (i : Int) < s.n) : ∃ e, s.n.toNat = 2 ^ e ∧ (s.oneQ a i).length = e ∧ e ≤ 4 := by
 have hg := z2 hs.g
 have : s.n.toNat = 2 ^ 2 ∨ s.n.toNat = 2 ^ 3 ∨ s.n.toNat = 2 ^ 4 := by omega
 rcases this with h | h | h
 ·exact ⟨2, h, by rw [WS.oneQ, h]; exact zc7 _ _ _ (by omega), by omega⟩
 ·exact ⟨3, h, by rw [WS.oneQ, h]; exact zc7 _ _ _ (by omega), by omega⟩
 ·exact ⟨4, h, by rw [WS.oneQ, h]; exact zc7 _ _ _ (by omega), by omega⟩
end Go.Proofs.YthblcmnhiccnhaaGreat


namespace Go.Proofs.YthblcmnhiccnhaaGreat
open Go Go.Abs

theorem zc8 (a b : Int) : 0 ≤ x64 a b ∧ x64 a b < 18446744073709551616 := by
 have h1 : x64 a b = (((BitVec.ofInt 64 a ^^^ BitVec.ofInt 64 b).toNat : Nat) : Int) := by
  show IntKind.u64.wrap (((BitVec.ofInt 64 a ^^^ BitVec.ofInt 64 b).toNat : Nat) : Int) = _
  have := (BitVec.ofInt 64 a ^^^ BitVec.ofInt 64 b).isLt
  exact IntWalk.u64_in _ (by omega)
 have := (BitVec.ofInt 64 a ^^^ BitVec.ofInt 64 b).isLt
 omega
theorem zrr (s m : Pr) : Wfp (stepF s m) := ⟨zc8 _ _, zc8 _ _⟩
theorem zlh : ∀ (l : List Bs) (s : Pr), Wfp s → Wfp (l.foldl sumS6 s)
 | [], _, h => h
 | r :: l, s, _ => zlh l _ (zrr s (pairF r))
theorem zor (p : Bs) : Wfp (z2z p) := by
 rw [zi4]
 exact zlh _ _ ⟨⟨by decide, by decide⟩, ⟨by decide, by decide⟩⟩
theorem IsG.wf {md : Bool} {S : List Bs} {a : Bs} {p : Pr} (h : IsG md S a p) (hS : S.length ≤ 1000000) : Wfp p := by
 cases md with
 | true => exact IsSum.wf h hS
 | false => rw [show p = z2z a from h]; exact zor a
theorem Tree.wfG {md : Bool} {S : List Bs} {lv : List Bs} {N : List Pr} (hT : Tree md S lv N) (hS : S.length ≤ 1000000) {j : Nat} (h1 : 1 ≤ j) (h2 : j < 2 * lv.length) : Wfp (nd N j) := by
 by_cases h : j < lv.length
 ·exact (hT.node j h1 h).wf hS
 ·have := hT.leaf (j - lv.length) (by omega)
  rw [show lv.length + (j - lv.length) = j by omega] at this
  exact this.wf hS
def sub (b : Bs) (o k : Nat) : Bs := (b.drop o).take k
theorem zli {b : Bs} {x : Wr} (h : x.1.toNat + x.2.length ≤ b.length) (j : Nat) : (layO b x)[j]? = if x.1.toNat ≤ j ∧ j < x.1.toNat + x.2.length then x.2[j - x.1.toNat]? else b[j]? := by
 have hm : min x.2.length (b.length - x.1.toNat) = x.2.length := by omega
 have ht : min x.1.toNat b.length = x.1.toNat := by omega
 rw [layO, hm, List.take_length]
 simp only [List.getElem?_append, List.length_append, List.length_take, List.getElem?_take, List.getElem?_drop, ht]
 by_cases h1 : j < x.1.toNat
 ·rw [if_pos (by omega), if_pos h1, if_pos h1, if_neg (by omega)]
 ·by_cases h2 : j < x.1.toNat + x.2.length
  ·rw [if_pos h2, if_neg h1, if_pos (by omega)]
  ·rw [if_neg h2, if_neg (by omega)]
   congr 1; omega
theorem zlj {b : Bs} {x : Wr} (h : x.1.toNat + x.2.length ≤ b.length) {o k : Nat} (h1 : x.1.toNat ≤ o) (h2 : o + k ≤ x.1.toNat + x.2.length) : sub (layO b x) o k = sub x.2 (o - x.1.toNat) k := by
 apply List.ext_getElem?; intro j
 simp only [sub, List.getElem?_take, List.getElem?_drop]
 split
 ·rw [zli h, if_pos (by omega), show o + j - x.1.toNat = o - x.1.toNat + j by omega]
 ·rfl
theorem z3o {b : Bs} {x : Wr} (h : x.1.toNat + x.2.length ≤ b.length) {o k : Nat} (h1 : o + k ≤ x.1.toNat ∨ x.1.toNat + x.2.length ≤ o) : sub (layO b x) o k = sub b o k := by
 apply List.ext_getElem?; intro j
 simp only [sub, List.getElem?_take, List.getElem?_drop]
 split
 ·rw [zli h, if_neg (by omega)]
 ·rfl
theorem zlk (k : Nat) : ∀ (L : List Bs) (i : Nat) (hi : i < L.length), (∀ b ∈ L, b.length = k) → sub L.flatten (k * i) k = L[i]
 | b :: r, 0, _, h => by
  rw [sub, List.flatten_cons]; exact List.take_left' (h b (by simp))
 | b :: r, i + 1, hi, h => by
  have hb := h b (by simp)
  have : k * (i + 1) = b.length + k * i := by rw [hb, Nat.mul_add, Nat.mul_one, Nat.add_comm]
  rw [sub, List.flatten_cons, this, List.drop_length_add_append]
  exact zlk k r i (by simpa using hi) fun x hx => h x (by simp [hx])
theorem WS.row_sub (s : WS) (a : Int) (i : Nat) : s.row a i = sub s.sd.snap (lfAt s.n a i).toNat 32 := rfl
theorem WS.nd_sub (s : WS) (a : Int) (j : Nat) : s.ndF a j = pairF (sub s.sd.snap (ndAt s.n a j).toNat 16) := rfl

theorem zth (md : Bool) (s : WS) (a : Int) (lv : List Lf) : (s.areaW md a lv).n = s.n := by unfold WS.areaW; split <;> rfl
theorem zh5 (md : Bool) (s : WS) (a : Int) (lv : List Lf) : (s.areaW md a lv).S = (zq md (lv.map leafB) s.S).2 := by unfold WS.areaW; split <;> rfl
theorem z95 (md : Bool) {s : WS} (a : Int) (lv : List Lf) (hc : s.pw.can = true) (hc2 : s.pw.spend.can = true) : (s.areaW md a lv).sd.snap = layO (layO s.sd.snap (lfAt s.n a 0, lvB lv)) (ndAt s.n a 0, z1h (s.nodes md lv)) := by
 simp [WS.areaW, WS.areaW1, SdS.write, hc, hc2, SdS.snap, List.foldl_append]
theorem z54 (md : Bool) (s : WS) (lv : List Lf) : (s.nodes md lv).length = 2 * lv.length := by
 have := (z43 md (lv.map leafB) s.S).1
 rwa [List.length_map] at this
section
variable {md : Bool} {s : WS} {k : Nat} {a : Int} {lv : List Lf}
theorem zos (hs : s.Fit k) (hc : s.pw.can = true) (hc2 : s.pw.spend.can = true) (ha : 0 ≤ a ∧ a < 2) (hl : (lv.length : Int) = s.n) (b : Int) (hb : 0 ≤ b ∧ b < 2) (hne : b ≠ a) (i : Nat) (hi : i < lv.length) : (s.areaW md a lv).row b i = s.row b i := by
 have hg := z2 hs.g
 have hsl := z2u hs
 have hlb := z3n lv
 have hnb := z2c (s.nodes md lv)
 rw [z54] at hnb
 have hc' : (a = 0 ∧ b = 1) ∨ (a = 1 ∧ b = 0) := by omega
 rw [WS.row_sub, zth, z95 md a lv hc hc2, WS.row_sub]
 have e1 : (lfAt s.n a 0).toNat + (lvB lv).length ≤ s.sd.snap.length := by unfold lfAt; rcases hc' with ⟨rfl, rfl⟩ | ⟨rfl, rfl⟩ <;> omega
 have e2 : (layO s.sd.snap (lfAt s.n a 0, lvB lv)).length = s.sd.snap.length := z2b _ _ (by dsimp only; omega)
 rw [z3o (by rw [e2]; dsimp only; unfold ndAt; rcases hc' with ⟨rfl, rfl⟩ | ⟨rfl, rfl⟩ <;> omega) (by dsimp only; unfold lfAt ndAt; rcases hc' with ⟨rfl, rfl⟩ | ⟨rfl, rfl⟩ <;> omega), z3o (by dsimp only; exact e1) (by dsimp only; unfold lfAt; rcases hc' with ⟨rfl, rfl⟩ | ⟨rfl, rfl⟩ <;> omega)]
end

def TopOf (md : Bool) (S : List Bs) (lv : List Lf) (top : Pr) : Prop := ∃ N, Tree md S (lv.map leafB) N ∧ nd N 1 = top
theorem TopOf.pre {md : Bool} {S S' : List Bs} {lv : List Lf} {top : Pr} (h : TopOf md S lv top) (hp : Pre S S') : TopOf md S' lv top := by
 obtain ⟨N, hT, ht⟩ := h; exact ⟨N, hT.pre hp, ht⟩
theorem zqd (md : Bool) (s : WS) (lv : List Lf) (h1 : 1 ≤ lv.length) : TopOf md (zq md (lv.map leafB) s.S).2 lv ((s.nodes md lv).getD 1 (0, 0)) :=
 ⟨s.nodes md lv, (z22 md (lv.map leafB) s.S (by rwa [List.length_map])).2, rfl⟩
theorem zti {s : WS} {a : Int} {lv : List Lf} (hr : ∀ i (hi : i < lv.length), s.row a i = leafB lv[i]) (m : Nat) (hm : lv.length = m) : s.rows a m = lv.map leafB := by
 subst hm
 refine List.ext_getElem (by simp [WS.rows]) fun i h1 h2 => ?_
 simp only [WS.rows, List.getElem_map, List.getElem_range]
 exact hr i (by simpa using h2)
theorem zig {md : Bool} {s : WS} {k : Nat} {a : Int} {lv : List Lf} {top : Pr} (hs : s.Fit k) (hgo : s.pw.gone = false) (hl : (lv.length : Int) = s.n) (hw : ∀ x ∈ lv, x.Wf) (hok : lvOk lv 0 = true)
  (hr : ∀ i (hi : i < lv.length), s.row a i = leafB lv[i]) (ht : TopOf md s.S lv top) : s.readE md a top = 0 ∧ s.readL md a top = lv := by
 have hg := z2 hs.g
 have hm : lv.length = s.n.toNat := by omega
 have hro := zti hr s.n.toNat hm
 have hT : s.readT md a = top := by
  obtain ⟨N, hN, rfl⟩ := ht
  obtain ⟨p, hM⟩ := z22 md (lv.map leafB) s.S (by rw [List.length_map]; omega)
  rw [WS.readT, hro]
  exact Tree.same hM (hN.pre p) _ 1 (Nat.le_refl _) (by omega) (by rw [List.length_map]; omega)
 have hL : ∀ i (hi : i < lv.length), leafG (s.row a i) i = true ∧ leafD (s.row a i) i = lv[i] := fun i hi => by
  rw [hr i hi]
  have := zc6 lv 0 i hi hok
  rw [Nat.zero_add] at this
  exact znf _ (hw _ (List.getElem_mem hi)) i this
 have hA : s.allG a s.n.toNat = true := by
  rw [WS.allG, List.all_eq_true]
  intro i hi
  exact (hL i (by have := List.mem_range.1 hi; omega)).1
 have hE : s.readE md a top = 0 := by rw [WS.readE, hgo, hT, hA]; simp
 refine ⟨hE, ?_⟩
 rw [WS.readL, if_pos hE]
 refine List.ext_getElem (by simp [WS.leaves, hm]) fun i h1 h2 => ?_
 simp only [WS.leaves, List.getElem_map, List.getElem_range]
 exact (hL i h2).2
theorem zih {A B : List Pr} {m : Nat} (h : ∀ j, 2 ≤ j → j < 2 * m → nd A j = nd B j) : ∀ (n k : Nat), k ≤ n → k < 2 * m → upL A k = upL B k
 | 0, k, hn, _ => by rw [z5x (by omega), z5x (by omega)]
 | n + 1, k, hn, hk => by
  by_cases h1 : k ≤ 1
  ·rw [z5x h1, z5x h1]
  ·have hx := ztd k m hk
   have h2 : 2 ≤ k ^^^ 1 := by rw [zno]; split <;> omega
   rw [z93 (l := A) (k := k) (by omega), z93 (l := B) (k := k) (by omega), zih h n (k / 2) (by omega) (by omega)]
   congr 1
   exact h _ h2 hx
theorem zup (s : WS) (a : Int) (j : Nat) (h : j < 2 * s.n.toNat) : nd (s.nds a) j = s.ndF a j := by
 rw [nd, WS.nds, List.getD_eq_getElem?_getD, List.getElem?_map, List.getElem?_range h]; rfl
theorem zrs {md : Bool} {s : WS} {k : Nat} {a : Int} {lv : List Lf} {top : Pr} (hs : s.Fit k) (hgo : s.pw.gone = false) (hl : (lv.length : Int) = s.n) (hw : ∀ x ∈ lv, x.Wf) (hok : lvOk lv 0 = true)
  {N : List Pr} (hT : Tree md s.S (lv.map leafB) N) (ht : nd N 1 = top) (hnd : ∀ j, 1 ≤ j → j < 2 * lv.length → s.ndF a j = nd N j) (i : Nat) (hi : i < lv.length) (hr : s.row a i = leafB lv[i]) : s.oneE md a i top = 0 ∧ s.oneL md a i top = lv[i] ∧ s.oneS md a i = s := by
 have hm : lv.length = s.n.toNat := by omega
 obtain ⟨e, he, hq, _⟩ := zrq hs a i (by omega)
 have hQ : s.oneQ a i = upL N (2 ^ e + i) := by
  rw [WS.oneQ, he]
  refine zih (m := lv.length) (fun j h1 h2 => ?_) _ _ (Nat.le_refl _) (by omega)
  rw [zup _ _ _ (by omega), hnd j (by omega) h2]
 have hC : s.oneC md a i = (top, s.S) := by
  rw [WS.oneC, hQ, hr]
  have := ztg hT (e := e) (by rw [List.length_map]; omega) (i := i) (by rw [List.length_map]; exact hi)
  rw [List.getElem_map] at this
  rw [this, ht]
 have hL := zc6 lv 0 i hi hok
 rw [Nat.zero_add] at hL
 obtain ⟨g1, g2⟩ := znf _ (hw _ (List.getElem_mem hi)) i hL
 have hE : s.oneE md a i top = 0 := by rw [WS.oneE, hgo, hC, hr, g1]; simp
 refine ⟨hE, ?_, ?_⟩
 ·rw [WS.oneL, if_pos hE, WS.leaf, hr, g2]
 ·rw [WS.oneS, hgo, hC]; rfl
end Go.Proofs.YthblcmnhiccnhaaGreat


namespace Go.Proofs.YthblcmnhiccnhaaGreat
open Go Go.Abs

def pick (K : List Int) (i : Nat) : Int := K.getD (i % K.length) 0
end Go.Proofs.YthblcmnhiccnhaaGreat


namespace Go.Proofs.YthblcmnhiccnhaaGreat
open Go Go.Abs

structure PwS.Free (w : PwS) : Prop where
 g : w.gone = false
 f : w.fuse = false
theorem PwS.Free.can {w : PwS} (h : w.Free) : w.can = true := by simp [PwS.can, h.g, h.f]
theorem PwS.Free.spend {w : PwS} (h : w.Free) : w.spend.Free := by
 have h1 := h.g
 have h2 := h.f
 refine ⟨?_, ?_⟩ <;> simp [PwS.spend, h1, h2]
theorem PwS.Ok.mono {w : PwS} {k k' : Nat} (h : w.Ok k) (hk : k ≤ k') : w.Ok k' := ⟨h.l0, h.l1, h.s0, by have := h.s1; omega⟩
theorem SdS.Ok.mono {x : SdS} {n k k' : Nat} (h : x.Ok n k) (hk : k ≤ k') : x.Ok n k' := ⟨h.len, h.w, Nat.le_trans h.kw hk, Nat.le_trans h.kt hk⟩
theorem WS.Fit.mono {s : WS} {k k' : Nat} (h : s.Fit k) (hk : k ≤ k') : s.Fit k' := ⟨h.g, h.pw.mono hk, h.sd.mono hk, Nat.le_trans h.ss hk, Nat.le_trans h.ll hk⟩
theorem ztj {n : Nat} (hg : isG n = true) (seed : Int) : (ws0 n seed).Fit 0 := by
 refine ⟨hg, ⟨fun h => by simp [ws0] at h, by simp [ws0], by simp [ws0], by simp [ws0]⟩, ⟨?_, by simp [ws0, sd0], by simp [ws0, sd0], by simp [ws0, sd0]⟩, by simp [ws0], by simp [ws0]⟩
 rw [show (ws0 n seed).n = n from rfl, zi hg]
 simp only [ws0, sd0, List.length_replicate]; omega
theorem ze7 (n : Nat) (seed : Int) : (ws0 n seed).pw.Free := ⟨rfl, rfl⟩
theorem zrt {md : Bool} {s : WS} (a : Int) (lv : List Lf) (hf : s.pw.Free) : (s.areaW md a lv).pw = s.pw.spend.spend := by rw [WS.areaW, hf.can]; rfl
theorem zot {md : Bool} {s : WS} (a : Int) (lv : List Lf) (hf : s.pw.Free) : (s.areaW md a lv).pw.Free := by rw [zrt a lv hf]; exact hf.spend.spend
theorem zqe {md : Bool} {s : WS} {k : Nat} (hs : s.Fit k) (a : Int) : (s.readS md a).Fit (k + 40) := by
 have hg := z2 hs.g
 have hbl := (z43 md (s.rows a s.n.toNat) s.S).2
 rw [ze6] at hbl
 have hss := hs.ss
 rw [WS.readS]
 split
 ·exact hs.mono (by omega)
 ·exact ⟨hs.g, hs.pw.mono (by omega), hs.sd.mono (by omega), by show (zq md (s.rows a s.n.toNat) s.S).2.length ≤ _; omega, Nat.le_trans hs.ll (by omega)⟩
theorem zru (md : Bool) (s : WS) (a : Int) : (s.readS md a).sd = s.sd ∧ (s.readS md a).n = s.n ∧ (s.readS md a).pw = s.pw := by rw [WS.readS]; split <;> exact ⟨rfl, rfl, rfl⟩
theorem zii (md : Bool) {s : WS} (a : Int) (h1 : 1 ≤ s.n.toNat) : Pre s.S (s.readS md a).S := by
 rw [WS.readS]; split
 ·exact Pre.refl _
 ·exact (z22 md (s.rows a s.n.toNat) s.S (by rwa [ze6])).1
theorem zqf {s s' : WS} (h1 : s'.sd = s.sd) (h2 : s'.n = s.n) (a : Int) (i : Nat) : s'.row a i = s.row a i := by rw [WS.row_sub, WS.row_sub, h1, h2]
theorem zrv {s s' : WS} (h1 : s'.sd = s.sd) (h2 : s'.n = s.n) (a : Int) (i : Nat) : s'.ndF a i = s.ndF a i := by rw [WS.nd_sub, WS.nd_sub, h1, h2]

theorem zfr : ∀ (l : List Wr) (i : Nat) (b : Bs), z1f (fun _ => true) i l b = l.foldl layO b
 | [], _, _ => rfl
 | x :: r, i, b => by rw [z1f, if_pos rfl, zfr r]; rfl
structure Laid (md : Bool) (s : WS) (a : Int) (lv : List Lf) (top : Pr) : Prop where
 f : s.pw.Free
 l : (lv.length : Int) = s.n
 w : ∀ x ∈ lv, x.Wf
 ok : lvOk lv 0 = true
 r : ∀ i (hi : i < lv.length), s.row a i = leafB lv[i]
 t : ∃ N, Tree md s.S (lv.map leafB) N ∧ nd N 1 = top ∧ ∀ j, 1 ≤ j → j < 2 * lv.length → s.ndF a j = nd N j
theorem Laid.same {md : Bool} {s s' : WS} {a : Int} {lv : List Lf} {top : Pr} (h : Laid md s a lv top) (h1 : s'.sd = s.sd) (h2 : s'.n = s.n) (h3 : s'.pw = s.pw) (h4 : Pre s.S s'.S) : Laid md s' a lv top := by
 obtain ⟨f, l, w, ok, r, N, t1, t2, t3⟩ := h
 exact ⟨h3 ▸ f, h2 ▸ l, w, ok, fun i hi => (zqf h1 h2 a i).trans (r i hi), N, t1.pre h4, t2, fun j j1 j2 => (zrv h1 h2 a j).trans (t3 j j1 j2)⟩
theorem Laid.topOf {md : Bool} {s : WS} {a : Int} {lv : List Lf} {top : Pr} (h : Laid md s a lv top) : TopOf md s.S lv top := by
 obtain ⟨N, t1, t2, _⟩ := h.t
 exact ⟨N, t1, t2⟩
theorem Laid.read {md : Bool} {s : WS} {k : Nat} {a : Int} {lv : List Lf} {top : Pr} (h : Laid md s a lv top) (hs : s.Fit k) : s.readE md a top = 0 ∧ s.readL md a top = lv ∧ Laid md (s.readS md a) a lv top := by
 obtain ⟨h1, h2⟩ := zig hs h.f.g h.l h.w h.ok h.r h.topOf
 obtain ⟨q1, q2, q3⟩ := zru md s a
 have hg := z2 hs.g
 exact ⟨h1, h2, h.same q1 q2 q3 (zii md a (by omega))⟩
theorem Laid.one {md : Bool} {s : WS} {k : Nat} {a : Int} {lv : List Lf} {top : Pr} (h : Laid md s a lv top) (hs : s.Fit k) (i : Nat) (hi : i < lv.length) : s.oneE md a i top = 0 ∧ s.oneL md a i top = lv[i] ∧ s.oneS md a i = s := by
 obtain ⟨N, t1, t2, t3⟩ := h.t
 exact zrs hs h.f.g h.l h.w h.ok t1 t2 t3 i hi (h.r i hi)
theorem Laid.other {md : Bool} {s : WS} {k : Nat} {a b : Int} {lv lw : List Lf} {top : Pr} (h : Laid md s b lw top) (hs : s.Fit k) (ha : 0 ≤ a ∧ a < 2) (hb : 0 ≤ b ∧ b < 2) (hne : b ≠ a) (hl : (lv.length : Int) = s.n) : TopOf md (s.areaW md a lv).S lw top ∧ (∀ i (hi : i < lw.length), (s.areaW md a lv).row b i = leafB lw[i]) := by
 have hg := z2 hs.g
 have hll := h.l
 refine ⟨h.topOf.pre (by rw [zh5]; exact (z22 md (lv.map leafB) s.S (by rw [List.length_map]; omega)).1), fun i hi => ?_⟩
 rw [zos hs h.f.can h.f.spend.can ha hl b hb hne i (by omega)]
 exact h.r i hi
structure BoxAt (h : AHeap) (id : Nat) (x : AObj) : Prop where
 u : h.used id
 g : h.get id = some x
theorem BoxAt.kp {W : Nat → Prop} {h h' : AHeap} {id : Nat} {x : AObj} (hb : BoxAt h id x) (hk : Kp W h h') (hw : ¬ W id) : BoxAt h' id x := ⟨hk.us id hb.u, (hk.get id hb.u hw).trans hb.g⟩
end Go.Proofs.YthblcmnhiccnhaaGreat


namespace Go.Abs
open Go
section
variable {P : Program} {N : Nat} {e : Env} {h : AHeap} {Φ : AHeap → Prop} {ws fs : List Nat} {K : Env → AHeap → Prop} {l : List CI} {j : Nat}
end
theorem DA.callP {P : Program} {N j : Nat} {e : Env} {h : AHeap} {al ws rs fs : List Nat} {K : Env → AHeap → Prop} {l : List CI} {n0 : Nat} {d : Option Nat} {f n : Nat} {W : List Nat} {h0 : AHeap} {xs : List Opd} {g : Option (Nat × Bool)} {vs us : List AV} {r : AV} (hv : evL e xs = some us) (hg : met e g) (hs : SubL us vs) (hf : fs.contains j = false) (hw : ws.contains j = true) (ha : al.contains j = false)
  (hac : ∀ h2, Sim n0 al.length h h2 → AE P f vs h2 r h2) (k : DA P N (PhiW n W h0) n0 al ws rs fs K (j + 1) l (putR d (some r) e) h) : DA P N (PhiW n W h0) n0 al ws rs fs K j (⟨d, .call f xs, g⟩ :: l) e h := by
 refine .fx [] (fun _ => FX.call hg hv ((hac h Sim.refl).sub hs)) (fun hy => by simp [free0] at hy) (fun hy => by rw [hw] at hy; cases hy) (fun hy => by rw [ha] at hy; cases hy) (fun _ h2 h3 => FX.call hg hv ((hac h2 h3).sub hs)) (fun _ => ⟨by simp, fun _ u hu => by simp at hu⟩) (fun _ hp => hp) (fun hy => by rw [hf] at hy; cases hy) k
section
variable {P : Program} {f : Nat} {vs : List AV} {h h' h1 h2 : AHeap}
theorem Ext.trans (x1 : Ext h h1) (x2 : Ext h1 h2) : Ext h h2 := by
 have nm : ∀ id, Nm h h1 id → Nm h h2 id := fun id hn => hn.elim (fun hu => .inl (x2.used hu)) .inr
 have nm2 : ∀ id, Nm h1 h2 id → Nm h h2 id := fun id hn => by
  rcases hn with hu | ⟨x, hx⟩
  ·exact .inl hu
  ·rcases x1.obj id x hx with h5 | ⟨h5, _⟩
   ·exact .inr ⟨x, h5⟩
   ·exact nm id h5
 refine ⟨Nat.le_trans x1.next x2.next, fun id hg => x1.gap id (x2.gap id hg), fun id x hx => ?_⟩
 rcases x2.obj id x hx with h5 | ⟨h5, h6⟩
 ·rcases x1.obj id x h5 with h7 | ⟨h7, h8⟩
  ·exact .inl h7
  ·exact .inr ⟨nm id h7, h8.mono nm⟩
 ·exact .inr ⟨nm2 id h5, h6.mono nm2⟩
end
end Go.Abs


namespace Go.Proofs.YthblcmnhiccnhaaGreat
open Go Go.Abs

def openP (md : Bool) (L : List Iss) (k : Pr) (n : Nn) (head b : Bs) (tg : Pr) : Option Bs := match md with
 | true => openO L k n head b tg
 | false => gcmO k n head b tg
theorem zjn {md : Bool} {h : AHeap} {l o t q : Nat} {L : List Iss} {S : List Bs} (hl : LkAt md h l o t q L S) (hL : L.length ≤ 1000000) (hd : ∀ x ∈ L, x.data.length ≤ 1000000) (k : Pr) (n : Nn) (head b : Bs) (tg : Pr) (h1 : head.length ≤ 4000) (h2 : b.length ≤ 4000) :
  AE Tryz.prog 197 [.ptr l 0 0, .agg (encP k), .agg (encN n), .imm 1 (head.map encB), .agg (encS b tg)] h (.tup [.imm 1 (((openP md L k n head b tg).getD []).map encB), .bool (openP md L k n head b tg).isSome]) h := by
 cases md with
 | true => exact z9t (hl.id rfl) hL hd k n head b tg
 | false => exact zjj (hl.re rfl) k n head b tg h1 h2
theorem zij : ∀ (a f : Bs), f.length = a.length → xorB (xorB a f) f = a
 | [], [], _ => rfl
 | x :: a, y :: f, h => by
  have ih := zij a f (by simpa using h)
  simp only [xorB, List.zipWith_cons_cons] at ih ⊢
  rw [ih, UInt8.xor_assoc, UInt8.xor_self, UInt8.xor_zero]
 | [], _ :: _, h => by simp at h
 | _ :: _, [], h => by simp at h
theorem zou (k : Pr) (n : Nn) (head d : Bs) (h1 : head.length ≤ 4000) (h2 : d.length ≤ 4000) : gcmO k n head (gcmB k n d) (gcmT k n head (gcmB k n d)) = some d := by
 rw [zpx h1 (by rw [z8z]; exact h2) rfl]
 congr 1
 rw [gcmB, z8z, gcmB, zij _ _ (z4y _ _)]
theorem zqg {md : Bool} {L : List Iss} {k : Pr} {n : Nn} {head b : Bs} {tg : Pr} {d : Bs} (hd : ∀ x ∈ L, x.data.length ≤ 4000) (h : openP md L k n head b tg = some d) : d.length ≤ 4000 := by
 cases md with
 | true =>
  simp only [openP, openO, Option.map_eq_some_iff] at h
  obtain ⟨x, hx, rfl⟩ := h
  exact hd x (List.mem_of_find?_eq_some hx)
 | false =>
  simp only [openP, gcmO] at h
  split at h
  ·rename_i hh
   obtain rfl := Option.some.inj h
   rw [z8z]; exact hh.2.1
  ·cases h
def recAt (n c : Int) : Int := n * 160 + (c % 2) * 60
theorem zbl {md : Bool} {h : AHeap} {n : WN} {s : WS} (hw : WAt md h n s) (hn : isG s.n = true) (c : Int) (hc : 0 ≤ c ∧ c < 18446744073709551616) : AE Tryz.prog 183 [.ptr (n.a + 10) 0 0, .int .u64 c] h (.int .i64 (recAt s.n c)) h := by
 refine AE.wf fun hwf => ?_
 have hob := hw.w
 have h0 := hwf _ _ hob
 simp only [wRow] at hob
 refine AE.pureW zks (by simp) ?_
 unfold zd7; dsimp only [qQ, qR, qM, qG]
 (refine go ?_)
 have hm : c.tmod 2 = c % 2 := Int.tmod_eq_emod_of_nonneg hc.1
 rw [hm, z2g (k := .i64) (n := c % 2) (by constructor <;> omega)]
 refine WL.call rfl gM gSL (zdd s.n (c % 2) _) ?_
 have hr : recG s.n (c % 2) = recAt s.n c := by
  rw [recG, hn, recAt]
  simp
  omega
 rw [hr]
 (refine go ?_)
 refine WW.ret (PureQ.finD ?_)
 exact fz_i rfl
def WS.recOf (s : WS) (c : Int) : Bs := sub s.sd.snap (recAt s.n c).toNat 60
def z1m (md : Bool) (s : WS) (r : Rec) : Option Bs :=
 if r.e ∈ s.ks.epochs ∧ r.v / 4294967296 = s.ct.at' then openP md s.L (ofK s.ks.seed r.e) (r.e, 65535, r.v) [] r.b r.tg else none
def rootO (b : Bs) : Option Rt := if rootG b then some (rootD b) else none
set_option maxHeartbeats 1000000 in
theorem zjo {md : Bool} {h : AHeap} {n : WN} {s : WS} (hw : WAt md h n s) (hL : s.L.length ≤ 1000000) (hd : ∀ x ∈ s.L, x.data.length ≤ 4000) (hat : 0 ≤ s.ct.at') (r : Bs) (hr : r.length = 60) :
  AE Tryz.prog 184 [.ptr (n.a + 10) 0 0, .imm 1 (r.map encB)] h (.tup [.agg (encRt (((z1m md s (recD r)).bind rootO).getD rt0)), .bool ((z1m md s (recD r)).bind rootO).isSome]) h := by
 refine AE.wfU fun hwu => ?_
 have hob := hw.w
 have h0 := (hwu _ _ hob).1
 have hnB := hw.nB
 have hq : ∀ id, n.all md id → id < h.next := fun id hi => hw.lt hi
 simp only [wRow] at hob
 have he : 0 ≤ (recD r).e ∧ (recD r).e < 4294967296 := z1r _ 4 (by simp; omega) (by decide)
 have hv : 0 ≤ (recD r).v ∧ (recD r).v < 18446744073709551616 := z1r _ 8 (by simp; omega) (by decide)
 have hbl : (recD r).b.length = 32 := by simp [recD]; omega
 refine AE.pureW zj5 (by simp) ?_
 unfold zb7; dsimp only [qQ, qR, qM, qG]
 (refine go ?_)
 refine WL.call rfl gM gSL (zh0 r hr _) ?_
 generalize recD r = x at *
 (repeat first | refine WL.go ?_ | refine WW.seq ?_ | refine WW.reg ?_ | refine WL.nil ?_ | refine WW.skip ?_ | refine WW.block ?_ | refine WW.exit ?_ | refine WW.condT rfl ?_ | refine WW.condF rfl ?_ | refine WL.gox ?_ | refine thenN ?_ | refine blkN ?_)
 refine WW.dregA [10] [6, 11] [6] [3, 5] [] gN (by decide +kernel) ?_
 (repeat first | refine DA.go ?_ | refine DA.goF ?_ | refine DA.new ?_ | refine DA.set ?_ | refine DA.endL ?_ | refine thenN ?_ | refine blkN ?_)
 refine DA.callP rfl gM gSL rfl rfl rfl (fun h5 hs => z7i (hw.ks.same ((hs.2 _ (by omega)).trans gE) ((hs.2 _ (by omega)).trans gE)) x.e he) ?_
 (repeat first | refine DA.go ?_ | refine DA.goF ?_ | refine DA.new ?_ | refine DA.set ?_ | refine DA.endL ?_ | refine thenN ?_ | refine blkN ?_)
 generalize hkk : (if x.e ∈ s.ks.epochs then ofK s.ks.seed x.e else (0, 0)) = kk at *
 refine WW.named (fun h5 => h5.get h.next = some (.mem 5 [encRt rt0]) ∧ h5.get (h.next + 1) = some (.mem 3 [encN (x.e, 65535, x.v)]) ∧ h5.get (h.next + 1 + 1) = some (.mem 3 [encS x.b x.tg]) ∧ h5.get (h.next + 1 + 1 + 1) = some (.mem 2 [encP kk]) ∧ h.next + 4 ≤ h5.next ∧ Keeps h h5) ⟨gH, gH, gH, gH, leN (show _ = h.next + 1 + 1 + 1 + 1 from z2o (zaw (by omega) (z8v (n := h.next + 1 + 1 + 1) gN))) (by omega), gK⟩ ?_
 rintro h5 ⟨r1, r2, r3, r4, r5, r6⟩
 have w5 : WAt md h5 n s := hw.same (fun id hi => by obtain ⟨y, hy⟩ := hw.live hi; exact r6.2 id (hwu _ _ hy)) (by omega)
 have hob5 := w5.w
 simp only [wRow] at hob5
 by_cases hm : x.e ∈ s.ks.epochs
 rotate_left
 ·have hO : z1m md s x = none := by rw [z1m, if_neg (fun h => hm h.1)]
  rw [hO, decide_eq_false hm]
  (refine go ?_)
  refine WW.ret (PureQ.finD ?_)
  exact Fz.tup2 (ze rfl (by simp [AV.flat, encRt])) (fz_b rfl)
 rw [decide_eq_true hm]
 rw [if_pos hm] at hkk
 (refine go ?_)
 refine DW.callS rfl gM gSL rfl (zjg x.e 65535 x.v hv _) ?_
 (refine go ?_)
 refine DW.callS rfl gM gSL rfl (zmn w5.ct) ?_
 (refine go ?_)
 (refine WW.ifB rfl (fun hz2 => ?_) (fun hz2 => ?_))
 ·have hO : z1m md s x = none := by rw [z1m, if_neg (fun h => hz2 h.2)]
  rw [hO]
  (refine go ?_)
  refine WW.ret (PureQ.finD ?_)
  exact Fz.tup2 (ze rfl (by simp [AV.flat, encRt])) (fz_b rfl)
 have hO : z1m md s x = openP md s.L kk (x.e, 65535, x.v) [] x.b x.tg := by rw [z1m, if_pos ⟨hm, hz2⟩, hkk]
 rw [hO]
 (refine go ?_)
 refine DW.callS rfl gM gSL rfl (zjn w5.lk hL (fun x hx => Nat.le_trans (hd x hx) (by omega)) kk (x.e, 65535, x.v) [] x.b x.tg (by simp) (by omega)) ?_
 cases hop : openP md s.L kk (x.e, 65535, x.v) [] x.b x.tg with
 | none =>
  (refine go ?_)
  refine WW.ret (PureQ.finD ?_)
  exact Fz.tup2 (ze rfl (by simp [AV.flat, encRt])) (fz_b rfl)
 | some d =>
  have hdl := zqg hd hop
  (refine go ?_)
  refine WL.call rfl gM gSL (zmr d (by omega) _) ?_
  (refine go ?_)
  refine WW.ret (PureQ.finD ?_)
  cases hg : rootG d with
  | false =>
   exact Fz.tup2 (ze (by simp [rootO, hg]) (by simp [AV.flat, encRt])) (fz_b (by simp [rootO, hg]))
  | true =>
   exact Fz.tup2 (ze (by simp [rootO, hg]; exact Nat.le_refl _) (by simp [AV.flat, encRt])) (fz_b (by simp [rootO, hg]))
def WS.getR (md : Bool) (s : WS) (c : Int) : Option Rt :=
 ((z1m md s (recD (s.recOf c))).bind rootO).bind fun r => if r.c = c ∧ r.n = s.n then some r else none
def WS.getE (md : Bool) (s : WS) (c : Int) : Int := if s.pw.gone then 7 else if (s.getR md c).isSome then 0 else 3
def WS.getT (md : Bool) (s : WS) (c : Int) : Rt := if s.pw.gone then rt0 else (s.getR md c).getD rt0
set_option maxHeartbeats 1000000 in
theorem zov {md : Bool} {h : AHeap} {n : WN} {s : WS} {k : Nat} (hw : WAt md h n s) (hs : s.Fit k) (hk : k ≤ 90000) (hd : ∀ x ∈ s.L, x.data.length ≤ 4000) (hat : 0 ≤ s.ct.at') (c : Int) (hc : 0 ≤ c ∧ c < 18446744073709551616) :
  AE Tryz.prog 123 [.ptr (n.a + 10) 0 0, .int .u64 c] h (.tup [.agg (encRt (s.getT md c)), .int .i64 (s.getE md c)]) h := by
 refine AE.wfU fun hwu => ?_
 have hob := hw.w
 have h0 := (hwu _ _ hob).1
 simp only [wRow] at hob
 have hg := z2 hs.g
 have hll : s.sd.lasts.length = (s.n * 160 + 120).toNat := by rw [hs.sd.len, zi hs.g]
 have hfit : ∀ o ∈ s.sd.waits, 0 ≤ o.1 ∧ o.1 + o.2.length ≤ s.sd.lasts.length := fun o ho => by have := hs.sd.w o ho; rw [zi hs.g] at this; omega
 have hsl := z2u hs
 refine AE.pureW zoj (by simp) ?_
 unfold zi1; dsimp only [qQ, qR, qM, qG]
 have hb : WAt md (h.put h.next (.mem 5 [encRt rt0])) n s := hw.same (fun id hi => z4 (by have := hw.lt hi; omega) rfl) gLE
 (refine go ?_)
 refine DW.named (fun h1 => WAt md h1 n s ∧ h1.get h.next = some (.mem 5 [encRt rt0]) ∧ Keeps h h1 ∧ h1.next = h.next + 1) ⟨hb, gH, gK, gN⟩ ?_
 rintro h1 ⟨w1, q1, k1, n1⟩
 have hob1 := w1.w
 simp only [wRow] at hob1
 (refine go ?_)
 refine DW.callS rfl gM gSL rfl (zbl w1 hs.g c hc) ?_
 (refine go ?_)
 refine DW.callS rfl gM gSL rfl (z7j w1.sd (by omega) (fun e => by rw [e] at hll; simp at hll; omega) (Nat.le_trans hs.sd.kw (by omega)) hfit (recAt s.n c) 60 (by omega)) ?_
 have hin : inB s.sd.lasts.length (recAt s.n c) 60 = true := by
  have hp : 0 ≤ recAt s.n c ∧ recAt s.n c + 60 ≤ s.n * 160 + 120 := by unfold recAt; omega
  rw [hll]; generalize recAt s.n c = X at *; simp [inB]; omega
 rw [hin, Bool.true_and]
 cases hgo : s.pw.gone with
 | true =>
  have hE : s.getE md c = 7 := by rw [WS.getE, hgo, if_pos rfl]
  have hT : s.getT md c = rt0 := by rw [WS.getT, hgo, if_pos rfl]
  rw [hE, hT]
  (refine go ?_)
  refine WW.ret (PureQ.finD ?_)
  exact Fz.tup2 (ze rfl (by simp [AV.flat, encRt])) (fz_i rfl)
 | false =>
  have hE : s.getE md c = if (s.getR md c).isSome then 0 else 3 := by rw [WS.getE, hgo]; rfl
  have hT : s.getT md c = (s.getR md c).getD rt0 := by rw [WS.getT, hgo]; rfl
  rw [hE, hT]
  simp only [Bool.not_false, if_true]
  rw [show (s.sd.snap.drop (recAt s.n c).toNat).take (Int.toNat 60) = s.recOf c from rfl]
  have hrl : (s.recOf c).length = 60 := by simp only [WS.recOf, sub, List.length_take, List.length_drop, hsl, recAt]; omega
  (refine go ?_)
  refine WL.call rfl gM gSL (zjo w1 (Nat.le_trans hs.ll (by omega)) hd hat (s.recOf c) hrl) ?_
  have hR : s.getR md c = ((z1m md s (recD (s.recOf c))).bind rootO).bind fun r => if r.c = c ∧ r.n = s.n then some r else none := rfl
  rw [hR]
  generalize (z1m md s (recD (s.recOf c))).bind rootO = O at *
  cases O with
  | none =>
   (refine go ?_)
   refine WW.ret (PureQ.finD ?_)
   exact Fz.tup2 (ze rfl (by simp [AV.flat, encRt])) (fz_i rfl)
  | some r =>
   (refine go ?_)
   (refine DW.spB rfl (fun hz3 => ?_) (fun hz3 => ?_))
   ·have hne : (if r.c = c ∧ r.n = s.n then some r else none) = none := if_neg (fun h => by simp [h.1] at hz3)
    rw [Option.bind_some, hne]
    (refine go ?_)
    refine WW.ret (PureQ.finD ?_)
    exact Fz.tup2 (ze rfl (by simp [AV.flat, encRt])) (fz_i rfl)
   (refine go ?_)
   (refine WW.ifB rfl (fun hz4 => ?_) (fun hz4 => ?_))
   ·have hne : (if r.c = c ∧ r.n = s.n then some r else none) = none := if_neg (fun h => by simp [h.2] at hz4)
    rw [Option.bind_some, hne]
    (refine go ?_)
    refine WW.ret (PureQ.finD ?_)
    exact Fz.tup2 (ze rfl (by simp [AV.flat, encRt])) (fz_i rfl)
   ·have hye : (if r.c = c ∧ r.n = s.n then some r else none) = some r := if_pos ⟨by simpa using hz3, by simpa using hz4⟩
    rw [Option.bind_some, hye]
    (refine go ?_)
    refine WW.ret (PureQ.finD ?_)
    exact Fz.tup2 (ze rfl (by simp [AV.flat, encRt])) (fz_i rfl)
end Go.Proofs.YthblcmnhiccnhaaGreat


namespace Go.Proofs.YthblcmnhiccnhaaGreat
open Go Go.Abs

theorem WG.reL {md : Bool} {h h' : AHeap} {n : WN} {s : WS} (hg : WG md h n s) (L' : List Iss) (hk : Kp (fun id => md = true ∧ (id = n.o ∨ id = n.t)) h h') (h1 : md = true → h'.get n.o = some (.mem 2 [[.app n.t 0 10 (L'.map encI), .map n.q]]) ∧ h'.get n.t = some (.tail 0 L'.length)) (h2 : md = false → L' = s.L) : WG md h' n { s with L := L' } := by
 have hw := hg.w
 have g : ∀ id, n.nm md id → (md = true → id ≠ n.o ∧ id ≠ n.t) → h'.get id = h.get id := fun id hi hne => hk.get id (hg.us id hi) fun ⟨e, h⟩ => h.elim (hne e).1 (hne e).2
 have hoB := hw.oB
 have ga : ∀ i, 0 < i ∧ i < 11 ∧ i ≠ 8 → h'.get (n.a + i) = h.get (n.a + i) := fun i hi => g _ (.inl (.inr (.inr (.inl (by omega))))) fun e => by have := hw.oo e; omega
 have gB : h'.get n.B = h.get n.B := g _ (.inl (.inr (.inr (.inl (by omega))))) fun e => by have := hw.oo e; omega
 have gE : h'.get n.E = h.get n.E := g _ (.inl (.inr (.inr (.inl (by omega))))) fun e => by have := hw.oo e; omega
 have gp : h'.get n.p = h.get n.p := g _ (.inl (.inl rfl)) fun e => by obtain ⟨a, b, _⟩ := hw.nep.2 e; exact ⟨Ne.symm a, Ne.symm b⟩
 have key : ∀ {i j : Nat} {y z : AObj}, h.get i = some y → h.get j = some z → y ≠ z → i ≠ j := fun hi hj hne e => by
  subst e; rw [hi] at hj; exact hne (Option.some.inj hj)
 have gl : h'.get n.l = h.get n.l := g _ (.inl (.inr (.inl rfl))) fun e => by
  obtain ⟨q0, q1, q2, q3⟩ := hw.lk.id e
  exact ⟨key q0 q1 (by simp [idC]), key q0 q2 (by simp)⟩
 have gq : md = true → h'.get n.q = h.get n.q := fun e => g _ (.inr rfl) fun _ => by
  obtain ⟨q0, q1, q2, q3⟩ := hw.lk.id e
  exact ⟨key q3 q1 (by simp), key q3 q2 (by simp)⟩
 have gqf : md = false → h'.get n.q = none := fun e => (g _ (.inr rfl) fun e' => by rw [e] at e'; cases e').trans (hg.qn e)
 refine ⟨⟨hw.sd.same gp (ga 1 (by omega)) gB (ga 2 (by omega)) (ga 3 (by omega)), hw.dk.same gp (ga 4 (by omega)) (ga 5 (by omega)) (ga 6 (by omega)), (ga 7 (by omega)).trans hw.ct, hw.ks.same (ga 9 (by omega)) gE, (ga 10 (by omega)).trans hw.w, ⟨fun e => ?_, fun e => gl.trans (hw.lk.re e)⟩, hw.op, hw.ol, hw.oo, Nat.le_trans hw.nx hk.next, hw.oB, ⟨Nat.lt_of_lt_of_le hw.nB.1 hk.next, Nat.lt_of_lt_of_le hw.nB.2 hk.next⟩⟩, fun id hi => hk.us id (hg.us id hi), gqf⟩
 obtain ⟨q0, q1, q2, q3⟩ := hw.lk.id e
 obtain ⟨e1, e2⟩ := h1 e
 exact ⟨gl.trans q0, ⟨e1, e2, (gq e).trans q3⟩⟩
def WS.logN (s : WS) (boot : Int) (j : Nat) : Nn := (s.ks.cur, 65535, boot * 4294967296 + ((j + 1 : Nat) : Int))
def WS.logP (md : Bool) (s : WS) (boot : Int) (j : Nat) (r : Rt) : Bs × Pr := sealP md s.L s.key (s.logN boot j) [] (rootB r)
def WS.logR (md : Bool) (s : WS) (boot : Int) (j : Nat) (r : Rt) : Wr := (recAt s.n r.c, recB s.ks.cur (boot * 4294967296 + ((j + 1 : Nat) : Int)) (s.logP md boot j r).1 (s.logP md boot j r).2)
def WS.logW (md : Bool) (s : WS) (boot : Int) (j : Nat) (r : Rt) : WS := { s with L := sealL md s.L s.key (s.logN boot j) [] (rootB r), pw := s.pw.spend, sd := s.sd.write (s.logR md boot j r) s.pw.can }
theorem zbm (md : Bool) (L : List Iss) (k : Pr) (n : Nn) (head data : Bs) : (sealP md L k n head data).1.length = data.length := by
 cases md with
 | true => simp only [sealP, newI, sealB, z7z]
 | false => simp only [sealP, z8z]
set_option maxHeartbeats 1000000 in
theorem zow {md : Bool} {h : AHeap} {n : WN} {s : WS} {k : Nat} (hg : WG md h n s) (hs : s.Fit k) (hk : k ≤ 90000) (hcur : 0 ≤ s.ks.cur ∧ s.ks.cur < 4294967296) {mk : Nat} {boot : Int} {j : Nat} (hm : BoxAt h mk (mkO boot j)) (hb : 0 ≤ boot ∧ boot < 4294967296) (hj : j < 100) (hne : ¬ n.nm md mk) (r : Rt) (hr : r.Wf) (hrg : isG r.n = true) (hrn : r.n = s.n) :
  AC Tryz.prog 255 [.ptr (n.a + 10) 0 0, .ptr mk 0 0, .agg (encRt r)] h
   (fun v h' => v = .int .i64 (if s.pw.can then 0 else 7) ∧ WG md h' n (s.logW md boot j r) ∧ BoxAt h' mk (mkO boot (j + 1)) ∧ Kp (fun id => n.own md id ∨ id = mk) h h') := by
 refine AC.introW zf8 (by simp) ?_
 unfold zb6; dsimp only [qQ, qR, qM, qG]
 have hob := hg.w.w
 simp only [wRow] at hob
 have hlt : ∀ id, n.nm md id → id < h.next := fun id hi => (hg.us id hi).1
 have hmk : mk < h.next := hm.u.1
 have hgg := z2 hs.g
 have hna : n.a + 11 ≤ h.next := hg.w.nx
 have hnB : n.B < h.next ∧ n.E < h.next := hg.w.nB
 have hoB := hg.w.oB
 have hop := hg.w.op
 (refine go ?_)
 refine WL.call rfl gM gSL (zde r hr _) ?_
 rw [hrg]
 simp only [if_true]
 (refine go ?_)
 (refine WW.ifB rfl (fun hz1 => ?_) (fun hz1 => ?_))
 ·exfalso; simp at hz1; exact hz1 hrn
 have hcur' := hcur
 (refine go ?_)
 refine WL.call rfl gM gSL (z6e (hg.new (by repeat first | exact Kp.refl | assumption | with_reducible refine Kp.put ?_ (by omega) _ | with_reducible refine Kp.setN ?_ (by omega) _ | with_reducible refine Kp.keep ?_ _ | with_reducible refine Kp.setW ?_ (by rfl) _)).w hcur) ?_
 (refine go ?_)
 refine WL.call rfl gM gSL (z9r ((gE : _ = h.get mk).trans hm.g) hb hj s.ks.cur 65535 (by decide)) ?_
 refine WL.named (fun h3 => WG md h3 n s ∧ BoxAt h3 mk (mkO boot (j + 1)) ∧ Kp (fun id => id = mk) h h3 ∧ h3.get h.next = some (.mem 5 [encRt r]) ∧ h3.get (h.next + 1) = some (.mem 2 [encP s.key]) ∧ h3.next = h.next + 2) ⟨hg.kp (W := fun id => id = mk) (by repeat first | exact Kp.refl | assumption | with_reducible refine Kp.put ?_ (by omega) _ | with_reducible refine Kp.setN ?_ (by omega) _ | with_reducible refine Kp.keep ?_ _ | with_reducible refine Kp.setW ?_ (by simp; done) _) (fun id hi e => hne (e ▸ hi)), ⟨?_, gH⟩, (by repeat first | exact Kp.refl | assumption | with_reducible refine Kp.put ?_ (by omega) _ | with_reducible refine Kp.setN ?_ (by omega) _ | with_reducible refine Kp.keep ?_ _ | with_reducible refine Kp.setW ?_ (by simp; done) _), gH, gH, (gN : _ = h.next + 1 + 1)⟩ ?_
 ·exact (((by repeat first | exact Kp.refl | assumption | with_reducible refine Kp.put ?_ (by omega) _ | with_reducible refine Kp.setN ?_ (by omega) _ | with_reducible refine Kp.keep ?_ _ | with_reducible refine Kp.setW ?_ (by simp; done) _) : Kp (fun id => id = mk) h _)).us mk hm.u
 clear hob
 rintro h3 ⟨g3, b3, k3, r1, r2, hn3⟩
 (refine go ?_)
 have hx3 := k3.next
 have hrb := z2s r
 have hll := hs.ll
 have hLk : n.l < h.next := hlt _ (.inl (.inr (.inl rfl)))
 refine WW.thenI (fun e' F' => subE [(0, some (.ptr (n.a + 10) 0 0)), (5, some (.ptr h.next 0 0)), (11, some (.ptr (h.next + 2) 0 0)), (13, some (.ptr (h.next + 3) 0 0))] e' ∧ WG md F' n { s with L := sealL md s.L s.key (s.logN boot j) [] (rootB r) } ∧ BoxAt F' mk (mkO boot (j + 1)) ∧ Kp (fun id => n.own md id ∨ id = mk) h F' ∧ F'.get h.next = some (.mem 5 [encRt r]) ∧ F'.get (h.next + 2) = some (.mem 3 [encN (s.logN boot j)]) ∧ F'.get (h.next + 3) = some (.mem 3 [encS (s.logP md boot j r).1 (s.logP md boot j r).2]) ∧ F'.next = h.next + 4) ?_ ?_
 ·cases md with
  | true =>
   have hoL : n.o < h.next := hlt _ (.inl (.inr (.inr (.inr ⟨rfl, .inl rfl⟩))))
   have htL : n.t < h.next := hlt _ (.inl (.inr (.inr (.inr ⟨rfl, .inr (.inl rfl)⟩))))
   have hqL : n.q < h.next := hlt _ (.inr rfl)
   have hoo := g3.w.oo rfl
   have hob3 := g3.w.w
   simp only [wRow] at hob3
   refine WW.dregA [11] [7, 12] [7] [3, 4, 5] [n.t, n.o] gN (by decide +kernel) ?_
   iterate 3 (refine DA.go ?_)
   refine DA.goF (hs := fun h2 hp2 => by apply Stp.load1; exact rfl; exact (hp2 _ (by omega) (by simp; omega)).trans gH; exact (by first | exact zk rfl rfl | exact z11 rfl | exact z6 (Nat.le_of_ble_eq_true rfl) (by first | (simp only [putC, AV.cs, encP, encN, encI, encS, encA, List.take_succ_cons, List.take_zero, List.take_nil, List.drop_succ_cons, List.drop_zero, List.drop_nil, List.cons_append, List.nil_append, List.append_nil, List.length_cons, List.length_nil, Nat.zero_add, Nat.add_zero, Nat.reduceAdd]; exact rfl) | exact rfl) | exact z6 (by simp) (by first | (simp only [putC, AV.cs, encP, encN, encI, encS, encA, List.take_succ_cons, List.take_zero, List.take_nil, List.drop_succ_cons, List.drop_zero, List.drop_nil, List.cons_append, List.nil_append, List.append_nil, List.length_cons, List.length_nil, Nat.zero_add, Nat.add_zero, Nat.reduceAdd]; exact rfl) | exact rfl)); exact gM) ?_
   refine DA.goF (hs := fun h2 hp2 => by apply Stp.load1; exact rfl; exact (hp2 _ (by omega) (by simp; omega)).trans gH; exact (by first | exact zk rfl rfl | exact z11 rfl | exact z6 (Nat.le_of_ble_eq_true rfl) (by first | (simp only [putC, AV.cs, encP, encN, encI, encS, encA, List.take_succ_cons, List.take_zero, List.take_nil, List.drop_succ_cons, List.drop_zero, List.drop_nil, List.cons_append, List.nil_append, List.append_nil, List.length_cons, List.length_nil, Nat.zero_add, Nat.add_zero, Nat.reduceAdd]; exact rfl) | exact rfl) | exact z6 (by simp) (by first | (simp only [putC, AV.cs, encP, encN, encI, encS, encA, List.take_succ_cons, List.take_zero, List.take_nil, List.drop_succ_cons, List.drop_zero, List.drop_nil, List.cons_append, List.nil_append, List.append_nil, List.length_cons, List.length_nil, Nat.zero_add, Nat.add_zero, Nat.reduceAdd]; exact rfl) | exact rfl)); exact gM) ?_
   refine DA.goF (hs := fun h2 hp2 => by apply Stp.load1; exact rfl; exact (hp2 _ (by omega) (by simp; omega)).trans gH; exact (by first | exact zk rfl rfl | exact z11 rfl | exact z6 (Nat.le_of_ble_eq_true rfl) (by first | (simp only [putC, AV.cs, encP, encN, encI, encS, encA, List.take_succ_cons, List.take_zero, List.take_nil, List.drop_succ_cons, List.drop_zero, List.drop_nil, List.cons_append, List.nil_append, List.append_nil, List.length_cons, List.length_nil, Nat.zero_add, Nat.add_zero, Nat.reduceAdd]; exact rfl) | exact rfl) | exact z6 (by simp) (by first | (simp only [putC, AV.cs, encP, encN, encI, encS, encA, List.take_succ_cons, List.take_zero, List.take_nil, List.drop_succ_cons, List.drop_zero, List.drop_nil, List.cons_append, List.nil_append, List.append_nil, List.length_cons, List.length_nil, Nat.zero_add, Nat.add_zero, Nat.reduceAdd]; exact rfl) | exact rfl)); exact gM) ?_
   (repeat first | refine DA.go ?_ | refine DA.goF ?_ | refine DA.new ?_ | refine DA.set ?_ | refine DA.endL ?_ | refine thenN ?_ | refine blkN ?_)
   refine DA.callSS (i1 := n.t) (i2 := n.o) (vs := [.ptr n.l 0 0, .agg (encP s.key), .agg (encN (s.logN boot j)), .imm 1 (([] : Bs).map encB), .imm 1 ((rootB r).map encB)]) rfl gM gSL rfl rfl rfl (fun _ hp => PhiW.setW (by simp) (PhiW.setW (by simp) hp)) ⟨by omega, by omega⟩
    (fun h5 hs => z9s ((g3.w.lk.same ((hs.2 _ (by omega)).trans gE) (fun _ => ⟨(hs.2 _ (by omega)).trans gE, (hs.2 _ (by omega)).trans gE, (hs.2 _ (by omega)).trans gE⟩)).id rfl) (by omega) s.key (s.logN boot j) [] (rootB r) (by simp) (by omega)) ?_
   (repeat first | refine DA.go ?_ | refine DA.goF ?_ | refine DA.new ?_ | refine DA.set ?_ | refine DA.endL ?_ | refine thenN ?_ | refine blkN ?_)
   have hSL : sealL true s.L s.key (s.logN boot j) [] (rootB r) = s.L ++ [newI (s.L.length + 1) s.key (s.logN boot j) [] (rootB r)] := rfl
   have hto : n.t ≠ n.o := fun e => by
    obtain ⟨q0, q1, q2, q3⟩ := g3.w.lk.id rfl
    rw [e, q1] at q2; cases q2
   have hom : n.nm true n.o := .inl (.inr (.inr (.inr ⟨rfl, .inl rfl⟩)))
   have htm : n.nm true n.t := .inl (.inr (.inr (.inr ⟨rfl, .inr (.inl rfl)⟩)))
   refine ⟨rfl, gSUB, g3.reL _ (by repeat first | exact Kp.refl | assumption | with_reducible refine Kp.put ?_ (by omega) _ | with_reducible refine Kp.setN ?_ (by omega) _ | with_reducible refine Kp.keep ?_ _ | with_reducible refine Kp.setW ?_ (by simp; done) _) (fun _ => ⟨by rw [hSL]; exact gH, by rw [hSL, List.length_append]; exact gH⟩) nofun, b3.kp (W := fun id => id = n.o ∨ id = n.t) (by repeat first | exact Kp.refl | assumption | with_reducible refine Kp.put ?_ (by omega) _ | with_reducible refine Kp.setN ?_ (by omega) _ | with_reducible refine Kp.keep ?_ _ | with_reducible refine Kp.setW ?_ (by simp; done) _) (fun hh => hne (hh.elim (fun e => e ▸ hom) fun e => e ▸ htm)), ?_, gH, gH, gH, ?_⟩
   ·exact (k3.mono fun _ _ e => .inr e).trans (((by repeat first | exact Kp.refl | assumption | with_reducible refine Kp.put ?_ (by omega) _ | with_reducible refine Kp.setN ?_ (by omega) _ | with_reducible refine Kp.keep ?_ _ | with_reducible refine Kp.setW ?_ (by simp; done) _) : Kp (fun id => id = n.o ∨ id = n.t) h3 _).mono fun id _ e => .inl (.inr (.inr ⟨rfl, e.elim .inl fun e => .inr (.inl e)⟩)))
   ·exact (show _ = h.next + 2 + 1 + 1 from z2o (zaw (by omega) (z2o (z2o (z8v (n := h.next + 2 + 1) gN)))))
  | false =>
   have hob3 := g3.w.w
   simp only [wRow] at hob3
   refine WW.dregA [11] [7, 12] [7] [3, 4, 5] [] gN (by decide +kernel) ?_
   (repeat first | refine DA.go ?_ | refine DA.goF ?_ | refine DA.new ?_ | refine DA.set ?_ | refine DA.endL ?_ | refine thenN ?_ | refine blkN ?_)
   refine DA.callP rfl gM (vs := [.ptr n.l 0 0, .agg (encP s.key), .agg (encN (s.logN boot j)), .imm 1 (([] : Bs).map encB), .imm 1 ((rootB r).map encB)]) gSL rfl rfl rfl (fun h5 hs => zji (((hs.2 _ (by omega)).trans gE).trans (g3.w.lk.re rfl)) s.key (s.logN boot j) [] (rootB r) (by simp) (by omega)) ?_
   (repeat first | refine DA.go ?_ | refine DA.goF ?_ | refine DA.new ?_ | refine DA.set ?_ | refine DA.endL ?_ | refine thenN ?_ | refine blkN ?_)
   refine ⟨rfl, gSUB, g3.reL _ (by repeat first | exact Kp.refl | assumption | with_reducible refine Kp.put ?_ (by omega) _ | with_reducible refine Kp.setN ?_ (by omega) _ | with_reducible refine Kp.keep ?_ _ | with_reducible refine Kp.setW ?_ (by simp; done) _) nofun (fun _ => rfl), b3.kp (W := fun _ => False) (by repeat first | exact Kp.refl | assumption | with_reducible refine Kp.put ?_ (by omega) _ | with_reducible refine Kp.setN ?_ (by omega) _ | with_reducible refine Kp.keep ?_ _ | with_reducible refine Kp.setW ?_ (by simp; done) _) (fun h => h), ?_, gH, gH, gH, ?_⟩
   ·exact (k3.mono fun _ _ e => .inr e).trans (((by repeat first | exact Kp.refl | assumption | with_reducible refine Kp.put ?_ (by omega) _ | with_reducible refine Kp.setN ?_ (by omega) _ | with_reducible refine Kp.keep ?_ _ | with_reducible refine Kp.setW ?_ (by simp; done) _) : Kp (fun _ => False) h3 _).mono fun id _ e => e.elim)
   ·exact (show _ = h.next + 2 + 1 + 1 from z2o (zaw (by omega) (z8v (n := h.next + 2 + 1) gN)))
 clear g3 b3 k3 r1 r2 hn3
 rintro e7 h5 ⟨hs7, g5, b5, k5, r1, r2, r3, hn5⟩
 refine WW.cvt (Cvt.sub hs7) ?_
 have hob5 := g5.w.w
 simp only [wRow] at hob5
 (refine go ?_)
 have hpl : (s.logP md boot j r).1.length = 32 := (zbm _ _ _ _ _ _).trans hrb
 have hv : 0 ≤ boot * 4294967296 + ((j + 1 : Nat) : Int) ∧ boot * 4294967296 + ((j + 1 : Nat) : Int) < 18446744073709551616 := by omega
 refine WL.call rfl gM gSL (zgz s.ks.cur (boot * 4294967296 + ((j + 1 : Nat) : Int)) hcur hv (s.logP md boot j r).1 hpl (s.logP md boot j r).2 _) ?_
 have hxl := ze5 s.ks.cur (boot * 4294967296 + ((j + 1 : Nat) : Int)) (s.logP md boot j r).1 (s.logP md boot j r).2 hpl
 (repeat first | refine WL.go ?_ | refine WW.seq ?_ | refine WW.reg ?_ | refine WL.nil ?_ | refine WW.skip ?_ | refine WW.block ?_ | refine WW.exit ?_ | refine WW.condT rfl ?_ | refine WW.condF rfl ?_ | refine WL.gox ?_ | refine thenN ?_ | refine blkN ?_)
 refine WW.dregX [9] [] n.devs gN (by decide +kernel) ?_
 (refine go ?_)
 refine DW.callS rfl gM gSL rfl (zbl g5.w hs.g r.c hr.c) ?_
 (refine go ?_)
 have hlt5 : ∀ id, n.nm md id → id < h.next := hlt
 have hlls : s.sd.lasts.length = (s.n * 160 + 120).toNat := by rw [hs.sd.len, zi hs.g]
 have hin : inB s.sd.lasts.length (recAt s.n r.c) 60 = true := by
  have hp : 0 ≤ recAt s.n r.c ∧ recAt s.n r.c + 60 ≤ s.n * 160 + 120 := by unfold recAt; omega
  rw [hlls]; generalize recAt s.n r.c = X at *; simp [inB]; omega
 refine DW.callSW rfl gM gSL rfl rfl (fun hp => zfq n _ _ hp) (z41 g5.w.sd hs.pw (by omega) (by show s.sd.lasts.length ≤ _; omega) (Nat.le_trans hs.sd.kw (by omega)) (Nat.le_trans hs.sd.kt (by omega)) (recAt s.n r.c) (recB s.ks.cur (boot * 4294967296 + ((j + 1 : Nat) : Int)) (s.logP md boot j r).1 (s.logP md boot j r).2) (by omega)) ?_
 rw [hxl, show ((60 : Nat) : Int) = 60 from rfl, hin]
 simp only [Bool.true_and, if_true]
 refine DW.named (fun h6 => WG md h6 n (s.logW md boot j r) ∧ BoxAt h6 mk (mkO boot (j + 1)) ∧ Kp (fun id => n.own md id ∨ id = mk) h h6) ⟨g5.step (g5.w.putSd _ _) (kp_sd n _ _), b5.kp (kp_sd n _ _) (fun hi => hne (.inl (WN.own_all hi))), k5.trans ((kp_sd n _ _).mono fun id _ hi => .inl hi)⟩ ?_
 clear g5 b5 k5 hob5
 rintro h6 ⟨g6, b6, k6⟩
 cases hc : s.pw.can with
 | false =>
  (refine go ?_)
  exact WW.ret ⟨.inl rfl, _, gRES, rfl, g6, b6, k6⟩
 | true =>
  (refine go ?_)
  exact WW.ret ⟨.inl rfl, _, gRES, rfl, g6, b6, k6⟩
end Go.Proofs.YthblcmnhiccnhaaGreat


namespace Go.Proofs.YthblcmnhiccnhaaGreat
open Go Go.Abs

theorem zuq (e v : Int) (b : Bs) (tg : Pr) (he : 0 ≤ e ∧ e < 4294967296) (hv : 0 ≤ v ∧ v < 18446744073709551616) (hb : b.length = 32) (ht : Wfp tg) : recD (recB e v b tg) = ⟨e, v, b, tg⟩ := by
 have e1 : (recB e v b tg).take 4 = putB e 4 := List.take_left' (z8 _ 4 (by decide))
 have s4 : (recB e v b tg).drop 4 = putB v 8 ++ (b ++ pairB tg) := List.drop_left' (z8 _ 4 (by decide))
 have s12 : (recB e v b tg).drop 12 = b ++ pairB tg := by
  rw [show 12 = 4 + 8 from rfl, ← List.drop_drop, s4]; exact List.drop_left' (z8 _ 8 (by decide))
 have s44 : (recB e v b tg).drop 44 = pairB tg := by
  rw [show 44 = 12 + 32 from rfl, ← List.drop_drop, s12]; exact List.drop_left' hb
 have p16 : (pairB tg).take 16 = pairB tg := List.take_of_length_le (by simp [pairB])
 rw [recD, e1, s4, s12, s44, List.take_left' (z8 _ 8 (by decide)), List.take_left' hb, p16, z8y _ he, z6b _ hv, zgx _ ht.1 ht.2]
theorem ztk (key : Pr) (n : Nn) (head b : Bs) : Wfp (gcmT key n head b) := ⟨zc8 _ _, zc8 _ _⟩
def Seq (L : List Iss) : Prop := ∀ i (hi : i < L.length), L[i].tag = (ones, ((i + 1 : Nat) : Int))
theorem Seq.nil : Seq [] := fun i hi => by simp at hi
theorem Seq.put {L : List Iss} (h : Seq L) (k : Pr) (n : Nn) (hd d : Bs) : Seq (L ++ [newI (L.length + 1) k n hd d]) := fun i hi => by
 rw [List.getElem_append]
 split
 ·exact h i _
 ·have : i = L.length := by simp at hi; omega
  subst this
  simp [newI]
theorem Seq.sealL {md : Bool} {L : List Iss} (h : Seq L) (k : Pr) (n : Nn) (hd d : Bs) : Seq (sealL md L k n hd d) := by
 cases md with
 | true => exact h.put k n hd d
 | false => exact h
theorem Seq.found {L : List Iss} (h : Seq L) (i : Nat) (hi : i < L.length) : openO L L[i].key L[i].n L[i].head L[i].out L[i].tag = some L[i].data := by
 have hp : isI L[i].key L[i].n L[i].head L[i].out L[i].tag L[i] = true := by simp [isI]
 cases hf : L.find? (isI L[i].key L[i].n L[i].head L[i].out L[i].tag) with
 | none => exact absurd hp (by have := List.find?_eq_none.1 hf L[i] (List.getElem_mem hi); simpa using this)
 | some y =>
  have hy := List.find?_some hf
  obtain ⟨j, hj, rfl⟩ := List.mem_iff_getElem.1 (List.mem_of_find?_eq_some hf)
  have ht : L[j].tag = L[i].tag := by simp only [isI, Bool.and_eq_true, beq_iff_eq] at hy; exact hy.1.1.2
  rw [h j hj, h i hi] at ht
  have : j = i := by have := congrArg Prod.snd ht; simp at this; exact_mod_cast this
  subst this
  rw [openO, hf]; rfl
theorem zik {L M : List Iss} {k : Pr} {n : Nn} {hd b : Bs} {tg : Pr} {d : Bs} (h : openO L k n hd b tg = some d) : openO (L ++ M) k n hd b tg = some d := by
 rw [openO, Option.map_eq_some_iff] at h
 obtain ⟨x, hx, rfl⟩ := h
 rw [openO, List.find?_append, hx]; rfl
theorem zfs {md : Bool} {L : List Iss} {k : Pr} {n : Nn} {hd b : Bs} {tg : Pr} {d : Bs} (h : openP md L k n hd b tg = some d) (k2 : Pr) (n2 : Nn) (hd2 d2 : Bs) : openP md (sealL md L k2 n2 hd2 d2) k n hd b tg = some d := by
 cases md with
 | true => exact zik h
 | false => exact h
theorem zox {md : Bool} {L : List Iss} (hL : md = true → Seq L) (k : Pr) (n : Nn) (hd d : Bs) (h1 : hd.length ≤ 4000) (h2 : d.length ≤ 4000) : openP md (sealL md L k n hd d) k n hd (sealP md L k n hd d).1 (sealP md L k n hd d).2 = some d := by
 cases md with
 | true =>
  have := ((hL rfl).put k n hd d).found L.length (by simp)
  have hx : (L ++ [newI (L.length + 1) k n hd d])[L.length]'(by simp) = newI (L.length + 1) k n hd d := by simp
  rw [hx] at this
  exact this
 | false => exact zou k n hd d h1 h2
theorem zrw {md : Bool} {L : List Iss} (hL : L.length ≤ 1000000) (k : Pr) (n : Nn) (hd d : Bs) : Wfp (sealP md L k n hd d).2 := by
 cases md with
 | true => simp only [sealP, newI, Wfp, ones]; omega
 | false => exact ztk _ _ _ _
theorem zqh (md : Bool) (L : List Iss) (k : Pr) (n : Nn) (hd d : Bs) : (sealL md L k n hd d).length ≤ L.length + 1 := by
 cases md with
 | true => simp [sealL]
 | false => simp [sealL]
theorem zbn {md : Bool} {L : List Iss} {k : Pr} {n : Nn} {hd d : Bs} {P : Iss → Prop} (h : ∀ x ∈ L, P x) (h1 : P (newI (L.length + 1) k n hd d)) : ∀ x ∈ sealL md L k n hd d, P x := by
 cases md with
 | true =>
  intro x hx
  rcases List.mem_append.1 hx with hx | hx
  ·exact h x hx
  ·obtain rfl := List.mem_singleton.1 hx; exact h1
 | false => exact h
section
variable {md : Bool} {s : WS} {k : Nat} {boot : Int} {j : Nat} {r : Rt}
theorem z96 : (s.logR md boot j r).2.length = 60 := ze5 _ _ _ _ ((zbm _ _ _ _ _ _).trans (z2s r))
theorem zbo (hs : s.Fit k) (c : Int) : 0 ≤ recAt s.n c ∧ recAt s.n c + 60 ≤ s.n * 160 + 120 := by
 have hg := z2 hs.g
 unfold recAt; omega
theorem zll (hs : s.Fit k) : (s.logW md boot j r).Fit (k + 1) := by
 have hp := zbo hs r.c
 have hl := z96 (md := md) (s := s) (boot := boot) (j := j) (r := r)
 have hll := hs.ll
 have h2 := zqh md s.L s.key (s.logN boot j) [] (rootB r)
 refine ⟨hs.g, hs.pw.spend, hs.sd.write (o := s.logR md boot j r) ⟨hp.1, ?_⟩ s.pw.can, Nat.le_succ_of_le hs.ss, by show (sealL md s.L s.key (s.logN boot j) [] (rootB r)).length ≤ _; omega⟩
 rw [hl, zi hs.g]
 have hg := z2 hs.g
 show recAt s.n r.c + _ ≤ _
 omega
theorem zqi (hc : s.pw.can = true) : (s.logW md boot j r).sd.snap = layO s.sd.snap (s.logR md boot j r) := by
 simp [WS.logW, SdS.write, hc, SdS.snap, List.foldl_append]
theorem zlm (hs : s.Fit k) (hc : s.pw.can = true) (c : Int) : (s.logW md boot j r).recOf c = if c % 2 = r.c % 2 then (s.logR md boot j r).2 else s.recOf c := by
 have hp := zbo hs c
 have hp2 := zbo hs r.c
 have hl := z96 (md := md) (s := s) (boot := boot) (j := j) (r := r)
 have hsl := z2u hs
 have hg := z2 hs.g
 have e : (s.logW md boot j r).recOf c = sub (layO s.sd.snap (s.logR md boot j r)) (recAt s.n c).toNat 60 := by rw [WS.recOf, zqi hc]; rfl
 have h1 : (s.logR md boot j r).1 = recAt s.n r.c := rfl
 have hfit : (s.logR md boot j r).1.toNat + (s.logR md boot j r).2.length ≤ s.sd.snap.length := by rw [h1, hl]; omega
 rw [e]
 split
 ·rename_i hh
  have : recAt s.n c = recAt s.n r.c := by unfold recAt; rw [hh]
  rw [this, zlj hfit (by rw [h1]; omega) (by rw [h1, hl]; omega), h1, Nat.sub_self, sub, List.drop_zero, List.take_of_length_le (by omega)]
 ·rename_i hh
  rw [z3o hfit (by rw [h1, hl]; unfold recAt at *; omega)]; rfl
structure Filed (md : Bool) (s : WS) (c : Int) (r : Rt) (e v : Int) (b : Bs) (tg : Pr) : Prop where
 rc : s.recOf c = recB e v b tg
 he : 0 ≤ e ∧ e < 4294967296
 hv : 0 ≤ v ∧ v < 18446744073709551616
 hb : b.length = 32
 ht : Wfp tg
 op : openP md s.L (ofK s.ks.seed e) (e, 65535, v) [] b tg = some (rootB r)
 wf : r.Wf
 g : isG r.n = true
 cc : r.c = c
theorem Filed.opened {c e v : Int} {b : Bs} {tg : Pr} (h : Filed md s c r e v b tg) (he : e ∈ s.ks.epochs) (ha : v / 4294967296 = s.ct.at') : (z1m md s (recD (s.recOf c))).bind rootO = some r := by
 rw [h.rc, zuq e v b tg h.he h.hv h.hb h.ht, z1m, if_pos ⟨he, ha⟩, h.op, Option.bind_some, rootO, (zng r h.wf h.g).1, if_pos rfl, (zng r h.wf h.g).2]
theorem Filed.get {c e v : Int} {b : Bs} {tg : Pr} (h : Filed md s c r e v b tg) (he : e ∈ s.ks.epochs) (ha : v / 4294967296 = s.ct.at') (hn : r.n = s.n) : s.getR md c = some r := by
 rw [WS.getR, h.opened he ha, Option.bind_some, if_pos ⟨h.cc, hn⟩]
theorem zoy (hs : s.Fit k) (hk : k ≤ 90000) (hc : s.pw.can = true) (hcur : s.ks.cur ∈ s.ks.epochs ∧ 0 ≤ s.ks.cur ∧ s.ks.cur < 4294967296) (hb : 0 ≤ boot ∧ boot < 4294967296) (hj : j < 100) (hr : r.Wf) (hg : isG r.n = true) (hL : md = true → Seq s.L) :
  Filed md (s.logW md boot j r) r.c r s.ks.cur (boot * 4294967296 + ((j + 1 : Nat) : Int)) (s.logP md boot j r).1 (s.logP md boot j r).2 := by
 have hkey : s.key = ofK s.ks.seed s.ks.cur := by rw [WS.key, if_pos hcur.1]
 have hrb := z2s r
 refine ⟨by rw [zlm hs hc, if_pos rfl]; rfl, hcur.2, by omega, (zbm _ _ _ _ _ _).trans hrb, zrw (Nat.le_trans hs.ll (by omega)) _ _ _ _, ?_, hr, hg, rfl⟩
 have t := zox (md := md) hL s.key (s.logN boot j) [] (rootB r) (by simp) (by omega)
 change openP md (sealL md s.L s.key (s.logN boot j) [] (rootB r)) (ofK s.ks.seed s.ks.cur) (s.logN boot j) [] (s.logP md boot j r).1 (s.logP md boot j r).2 = some (rootB r)
 rw [← hkey]
 exact t
theorem Filed.other {c e v : Int} {b : Bs} {tg : Pr} {q : Rt} (h : Filed md s c q e v b tg) (hs : s.Fit k) (hc : s.pw.can = true) (hne : c % 2 ≠ r.c % 2) : Filed md (s.logW md boot j r) c q e v b tg :=
 ⟨by rw [zlm hs hc, if_neg hne]; exact h.rc, h.he, h.hv, h.hb, h.ht, zfs h.op _ _ _ _, h.wf, h.g, h.cc⟩
end
end Go.Proofs.YthblcmnhiccnhaaGreat


namespace Go.Proofs.YthblcmnhiccnhaaGreat
open Go Go.Abs

theorem ztl (n : Nat) (seed : Int) : (ws0 n seed).ks.cur = 1 := by simp [ws0, KsS.cur]
structure LSt (md : Bool) (s : WS) (k : Nat) : Prop where
 fit : s.Fit k
 free : s.pw.Free
 cur : s.ks.cur ∈ s.ks.epochs ∧ 0 ≤ s.ks.cur ∧ s.ks.cur < 4294967296
 seq : md = true → Seq s.L
 dat : ∀ x ∈ s.L, x.data.length ≤ 4000
 at' : 0 ≤ s.ct.at'
theorem lst0 (md : Bool) {m : Nat} (hG : isG m = true) (seed : Int) : LSt md (ws0 m seed) 0 :=
 ⟨ztj hG seed, ze7 m seed, by rw [ztl]; simp [ws0], fun _ => Seq.nil, by simp [ws0], by simp [ws0]⟩
theorem LSt.log {md : Bool} {s : WS} {k : Nat} (h : LSt md s k) (boot : Int) (j : Nat) (r : Rt) : LSt md (s.logW md boot j r) (k + 1) :=
 ⟨zll h.fit, h.free.spend, h.cur, fun e => (h.seq e).sealL _ _ _ _, zbn h.dat (by simp only [newI, z2s]; omega), h.at'⟩
end Go.Proofs.YthblcmnhiccnhaaGreat


namespace Go.Proofs.YthblcmnhiccnhaaGreat
open Go Go.Abs

theorem zoz {md : Bool} {h : AHeap} {n : WN} {s : WS} (hg : WG md h n s) (hcur : 0 ≤ s.ks.cur ∧ s.ks.cur < 4294967296) {mk : Nat} {boot : Int} (hm : BoxAt h mk (mkO boot 100)) (r : Rt) (hr : r.Wf) (hrg : isG r.n = true) (hrn : r.n = s.n) :
  AE Tryz.prog 255 [.ptr (n.a + 10) 0 0, .ptr mk 0 0, .agg (encRt r)] h (.int .i64 6) h := by
 have hob := hg.w.w
 simp only [wRow] at hob
 have hmk : mk < h.next := hm.u.1
 have hna : n.a + 11 ≤ h.next := hg.w.nx
 have hnB : n.B < h.next ∧ n.E < h.next := hg.w.nB
 have hoB := hg.w.oB
 refine AE.pureW zf8 (by simp) ?_
 unfold zb6; dsimp only [qQ, qR, qM, qG]
 (refine go ?_)
 refine WL.call rfl gM gSL (zde r hr _) ?_
 rw [hrg]
 simp only [if_true]
 (refine go ?_)
 (refine WW.ifB rfl (fun hz1 => ?_) (fun hz1 => ?_))
 ·exfalso; simp at hz1; exact hz1 hrn
 (refine go ?_)
 refine WL.call rfl gM gSL (z6e (hg.new (by repeat first | exact Kp.refl | assumption | with_reducible refine Kp.put ?_ (by omega) _ | with_reducible refine Kp.setN ?_ (by omega) _ | with_reducible refine Kp.keep ?_ _ | with_reducible refine Kp.setW ?_ (by rfl) _)).w hcur) ?_
 (refine go ?_)
 refine WL.call rfl gM gSL (zjf ((gE : _ = h.get mk).trans hm.g) s.ks.cur 65535 (by decide)) ?_
 (refine go ?_)
 refine WW.ret (PureQ.finD ?_)
 exact fz_i rfl
def WS.barS (s : WS) : WS := { s with pw := s.pw.spend, sd := s.sd.barrier s.pw.can }
def WS.bmpS (s : WS) : WS := { s with pw := s.pw.spend, ct := s.ct.bump s.pw.can }
def WS.doA (s : WS) : Int := (s.ct.value + 1) % 2
def WS.doR (md : Bool) (s : WS) (lv : List Lf) : Rt := ⟨s.ct.value + 1, s.ks.cur, s.n, (s.nodes md lv).getD 1 (0, 0)⟩
def WS.doC (md : Bool) (s : WS) (boot : Int) (j : Nat) (lv : List Lf) : Int × WS × Nat :=
 let s1 := s.areaW md s.doA lv
 if (s.pw.can && s.pw.spend.can) = false then (7, s1, j)
 else if s1.pw.can = false then (7, s1.barS, j)
 else if j = 100 then (6, s1.barS, j)
 else
  let s3 := s1.barS.logW md boot j (s.doR md lv)
  if s1.barS.pw.can = false then (7, s3, j + 1)
  else if s3.pw.can = false then (7, s3.barS, j + 1)
  else if s3.barS.pw.can = false then (7, s3.barS.bmpS, j + 1)
  else (0, s3.barS.bmpS, j + 1)
theorem SdS.Ok.barrier {x : SdS} {n k : Nat} (h : x.Ok n k) (ok : Bool) : (x.barrier ok).Ok n (k + 1) := by
 obtain ⟨h1, h2, h3, h4⟩ := h
 cases ok with
 | false => exact ⟨h1, h2, Nat.le_succ_of_le h3, Nat.le_succ_of_le h4⟩
 | true =>
  refine ⟨?_, fun y hy => by simp [SdS.barrier, SdS.settle] at hy, Nat.zero_le _, by simp [SdS.barrier, SdS.settle]; omega⟩
  exact z5s _ n x.waits 0 x.lasts (fun y hy => h2 y hy) h1
theorem zrx {s : WS} {k : Nat} (hs : s.Fit k) : s.barS.Fit (k + 1) := ⟨hs.g, hs.pw.spend, hs.sd.barrier _, Nat.le_succ_of_le hs.ss, Nat.le_succ_of_le hs.ll⟩
theorem zry {s : WS} {k : Nat} (hs : s.Fit k) : s.bmpS.Fit (k + 1) := ⟨hs.g, hs.pw.spend, hs.sd.mono (by omega), Nat.le_succ_of_le hs.ss, Nat.le_succ_of_le hs.ll⟩
theorem zp0 {md : Bool} {s : WS} {k : Nat} (hs : s.Fit k) (a : Int) (ha : 0 ≤ a ∧ a < 2) (lv : List Lf) (hl : (lv.length : Int) = s.n) : (s.areaW md a lv).Fit (k + 40) := by
 have hg := z2 hs.g
 have ha' : a = 0 ∨ a = 1 := by omega
 have hbl := (z43 md (lv.map leafB) s.S).2
 rw [List.length_map] at hbl
 have hss := hs.ss
 have hll := hs.ll
 have hlb := z3n lv
 have hnb := z2c (s.nodes md lv)
 rw [z54] at hnb
 have o1 : 0 ≤ lfAt s.n a 0 ∧ lfAt s.n a 0 + ((lvB lv).length : Nat) ≤ (((sizeG s.n).toNat : Nat) : Int) := by
  rw [zi hs.g]; unfold lfAt; rcases ha' with rfl | rfl <;> omega
 have o2 : 0 ≤ ndAt s.n a 0 ∧ ndAt s.n a 0 + ((z1h (s.nodes md lv)).length : Nat) ≤ (((sizeG s.n).toNat : Nat) : Int) := by
  rw [zi hs.g]; unfold ndAt; rcases ha' with rfl | rfl <;> omega
 have hsd := hs.sd.write (o := (lfAt s.n a 0, lvB lv)) o1 s.pw.can
 have hS : (zq md (lv.map leafB) s.S).2.length ≤ k + 40 := by omega
 rw [WS.areaW]
 split
 ·exact ⟨hs.g, hs.pw.spend.spend.mono (by omega), (hsd.write (o := (ndAt s.n a 0, z1h (s.nodes md lv))) o2 s.pw.spend.can).mono (by omega), hS, by show s.L.length ≤ _; omega⟩
 ·exact ⟨hs.g, hs.pw.spend.mono (by omega), hsd.mono (by omega), hS, by show s.L.length ≤ _; omega⟩
end Go.Proofs.YthblcmnhiccnhaaGreat


namespace Go.Proofs.YthblcmnhiccnhaaGreat
open Go Go.Abs

structure Kept (x : SdS) (o k : Nat) (X : Bs) : Prop where
 at' : sub x.lasts o k = X
 no : ∀ w ∈ x.waits, w.1.toNat + w.2.length ≤ o ∨ o + k ≤ w.1.toNat
theorem znp {N o k : Nat} : ∀ (l : List Wr) (b : Bs), b.length = N → (∀ w ∈ l, (0 ≤ w.1 ∧ w.1 + w.2.length ≤ N) ∧ (w.1.toNat + w.2.length ≤ o ∨ o + k ≤ w.1.toNat)) → sub (l.foldl layO b) o k = sub b o k
 | [], _, _, _ => rfl
 | w :: l, b, hb, h => by
  have hw := h w (by simp)
  rw [List.foldl_cons, znp l (layO b w) ((z2b b w (by omega)).trans hb) fun y hy => h y (by simp [hy]), z3o (by omega) (by omega)]
theorem z97 {N o k : Nat} (K : Nat → Bool) : ∀ (l : List Wr) (i : Nat) (b : Bs), b.length = N → (∀ w ∈ l, (0 ≤ w.1 ∧ w.1 + w.2.length ≤ N) ∧ (w.1.toNat + w.2.length ≤ o ∨ o + k ≤ w.1.toNat)) → sub (z1f K i l b) o k = sub b o k
 | [], _, _, _, _ => rfl
 | w :: l, i, b, hb, h => by
  have hw := h w (by simp)
  rw [z1f]
  split
  ·rw [z97 K l (i + 1) (layO b w) ((z2b b w (by omega)).trans hb) fun y hy => h y (by simp [hy]), z3o (by omega) (by omega)]
  ·exact z97 K l (i + 1) b hb fun y hy => h y (by simp [hy])
section
variable {x : SdS} {o k N m : Nat} {X : Bs}
theorem Kept.snap (h : Kept x o k X) (hx : x.Ok N m) : sub x.snap o k = X := by
 rw [SdS.snap, znp x.waits x.lasts hx.len fun w hw => ⟨hx.w w hw, h.no w hw⟩, h.at']
theorem Kept.settle (h : Kept x o k X) (hx : x.Ok N m) (K : Nat → Bool) : Kept (x.settle K) o k X :=
 ⟨(z97 K x.waits 0 x.lasts hx.len fun w hw => ⟨hx.w w hw, h.no w hw⟩).trans h.at', fun w hw => by simp [SdS.settle] at hw⟩
theorem Kept.write (h : Kept x o k X) (w : Wr) (hw : w.1.toNat + w.2.length ≤ o ∨ o + k ≤ w.1.toNat) (ok : Bool) : Kept (x.write w ok) o k X := by
 cases ok with
 | false => exact h
 | true =>
  refine ⟨h.at', fun y hy => ?_⟩
  simp only [SdS.write, if_true, List.mem_append, List.mem_singleton] at hy
  rcases hy with hy | rfl
  ·exact h.no y hy
  ·exact hw
theorem Kept.barrier (h : Kept x o k X) (hx : x.Ok N m) (ok : Bool) : Kept (x.barrier ok) o k X := by
 cases ok with
 | false => exact h
 | true => exact ⟨(h.settle hx fun _ => true).at', fun w hw => by simp [SdS.barrier, SdS.settle] at hw⟩
theorem ze8 (x : SdS) (o k : Nat) : Kept (x.barrier true) o k (sub x.snap o k) := by
 refine ⟨?_, fun w hw => by simp [SdS.barrier, SdS.settle] at hw⟩
 show sub (z1f (fun _ => true) 0 x.waits x.lasts) o k = _
 rw [zfr]; rfl
end
theorem zur {s : WS} {k : Nat} {a : Int} (hs : s.Fit k) (ha : 0 ≤ a ∧ a < 2) {lv : List Lf} (hl : (lv.length : Int) = s.n) (h : sub s.sd.snap (lfAt s.n a 0).toNat (32 * s.n.toNat) = lvB lv) (i : Nat) (hi : i < lv.length) : s.row a i = leafB lv[i] := by
 have hg := z2 hs.g
 have ha' : a = 0 ∨ a = 1 := by omega
 have := zlk 32 (lv.map leafB) i (by simpa using hi) fun b hb => by obtain ⟨x, _, rfl⟩ := List.mem_map.1 hb; exact z3m x
 rw [List.getElem_map] at this
 rw [← this]
 show sub s.sd.snap (lfAt s.n a i).toNat 32 = sub (lvB lv) (32 * i) 32
 rw [← h]
 apply List.ext_getElem?; intro j
 simp only [sub, List.getElem?_take, List.getElem?_drop]
 split
 ·rw [if_pos (by omega)]
  congr 1
  unfold lfAt; rcases ha' with rfl | rfl <;> omega
 ·rfl
theorem zmu {md : Bool} {s : WS} {k : Nat} {a : Int} {lv : List Lf} (hs : s.Fit k) (hc : s.pw.can = true) (hc2 : s.pw.spend.can = true) (ha : 0 ≤ a ∧ a < 2) (hl : (lv.length : Int) = s.n) : sub (s.areaW md a lv).sd.snap (lfAt s.n a 0).toNat (32 * s.n.toNat) = lvB lv := by
 have hg := z2 hs.g
 have hsl := z2u hs
 have hlb := z3n lv
 have hnb := z2c (s.nodes md lv)
 rw [z54] at hnb
 have ha' : a = 0 ∨ a = 1 := by omega
 rw [z95 md a lv hc hc2]
 have e1 : (lfAt s.n a 0).toNat + (lvB lv).length ≤ s.sd.snap.length := by unfold lfAt; rcases ha' with rfl | rfl <;> omega
 have e2 : (layO s.sd.snap (lfAt s.n a 0, lvB lv)).length = s.sd.snap.length := z2b _ _ (by dsimp only; omega)
 rw [z3o (by rw [e2]; dsimp only; unfold ndAt; rcases ha' with rfl | rfl <;> omega) (.inl (by dsimp only; unfold lfAt ndAt; rcases ha' with rfl | rfl <;> omega))]
 rw [zlj (by dsimp only; exact e1) (Nat.le_refl _) (by dsimp only; omega), Nat.sub_self]
 dsimp only
 rw [sub, List.drop_zero, List.take_of_length_le (by omega)]
structure Good (md : Bool) (s : WS) (lv : List Lf) (c : Int) (top : Pr) (e v : Int) (b : Bs) (tg : Pr) : Prop where
 c1 : 1 ≤ c ∧ c < 18446744073709551616
 l : (lv.length : Int) = s.n
 w : ∀ x ∈ lv, x.Wf
 ok : lvOk lv 0 = true
 kl : Kept s.sd (lfAt s.n (c % 2) 0).toNat (32 * s.n.toNat) (lvB lv)
 kr : Kept s.sd (recAt s.n c).toNat 60 (recB e v b tg)
 he : 0 ≤ e ∧ e < 4294967296
 hv : 0 ≤ v ∧ v < 18446744073709551616
 hb : b.length = 32
 ht : Wfp tg
 op : openP md s.L (ofK s.ks.seed e) (e, 65535, v) [] b tg = some (rootB ⟨c, e, s.n, top⟩)
 tw : Wfp top
 top : TopOf md s.S lv top
 ep : e ∈ s.ks.epochs
 boot : v / 4294967296 = s.ct.at'
section
variable {md : Bool} {s : WS} {k : Nat} {lv : List Lf} {c : Int} {top : Pr} {e v : Int} {b : Bs} {tg : Pr}
theorem Good.filed (h : Good md s lv c top e v b tg) (hs : s.Fit k) : Filed md s c ⟨c, e, s.n, top⟩ e v b tg :=
 ⟨h.kr.snap hs.sd, h.he, h.hv, h.hb, h.ht, h.op, ⟨⟨by have := h.c1; dsimp only; omega, h.c1.2⟩, h.he, h.tw.1, h.tw.2⟩, hs.g, rfl⟩
theorem Good.get (h : Good md s lv c top e v b tg) (hs : s.Fit k) (hgo : s.pw.gone = false) : s.getE md c = 0 ∧ s.getT md c = ⟨c, e, s.n, top⟩ := by
 have := (h.filed hs).get h.ep h.boot rfl
 exact ⟨by rw [WS.getE, hgo, this]; rfl, by rw [WS.getT, hgo, this]; rfl⟩
theorem Good.read (h : Good md s lv c top e v b tg) (hs : s.Fit k) (hgo : s.pw.gone = false) : s.readE md (c % 2) top = 0 ∧ s.readL md (c % 2) top = lv :=
 zig hs hgo h.l h.w h.ok (zur hs (by omega) h.l (h.kl.snap hs.sd)) h.top
end
end Go.Proofs.YthblcmnhiccnhaaGreat


namespace Go.Proofs.YthblcmnhiccnhaaGreat
open Go Go.Abs

structure WSt (md : Bool) (s : WS) (k : Nat) : Prop where
 fit : s.Fit k
 cur : s.ks.cur ∈ s.ks.epochs ∧ 0 ≤ s.ks.cur ∧ s.ks.cur < 4294967296
 seq : md = true → Seq s.L
 dat : ∀ x ∈ s.L, x.data.length ≤ 4000
 ct : s.ct.Ok k
theorem CtS.Ok.mono {c : CtS} {k k' : Nat} (h : c.Ok k) (hk : k ≤ k') : c.Ok k' := ⟨⟨h.v.1, by have := h.v.2; omega⟩, ⟨h.b.1, by have := h.b.2; omega⟩, ⟨h.a.1, by have := h.a.2; omega⟩⟩
section
variable {md : Bool} {s : WS} {k : Nat} {boot : Int} {j : Nat} {lv : List Lf} {r : Rt}
theorem WSt.mono {k' : Nat} (h : WSt md s k) (hk : k ≤ k') : WSt md s k' := ⟨h.fit.mono hk, h.cur, h.seq, h.dat, h.ct.mono hk⟩
theorem WSt.area (h : WSt md s k) (a : Int) (ha : 0 ≤ a ∧ a < 2) (hl : (lv.length : Int) = s.n) : WSt md (s.areaW md a lv) (k + 40) := by
 have hf := zp0 (md := md) h.fit a ha lv hl
 have e : (s.areaW md a lv).ks = s.ks ∧ (s.areaW md a lv).L = s.L ∧ (s.areaW md a lv).ct = s.ct := by rw [WS.areaW]; split <;> exact ⟨rfl, rfl, rfl⟩
 exact ⟨hf, by rw [e.1]; exact h.cur, by rw [e.2.1]; exact h.seq, by rw [e.2.1]; exact h.dat, by rw [e.2.2]; exact h.ct.mono (by omega)⟩
theorem WSt.bar (h : WSt md s k) : WSt md s.barS (k + 1) := ⟨zrx h.fit, h.cur, h.seq, h.dat, h.ct.mono (by omega)⟩
theorem WSt.bmp (h : WSt md s k) : WSt md s.bmpS (k + 1) := ⟨zry h.fit, h.cur, h.seq, h.dat, h.ct.bump _⟩
theorem WSt.log (h : WSt md s k) (boot : Int) (j : Nat) (r : Rt) : WSt md (s.logW md boot j r) (k + 1) :=
 ⟨zll h.fit, h.cur, fun e => (h.seq e).sealL _ _ _ _, zbn h.dat (by simp only [newI, z2s]; omega), h.ct.mono (by omega)⟩
theorem z32 (s : WS) : 0 ≤ s.doA ∧ s.doA < 2 := by unfold WS.doA; omega
theorem z1n {P : Int × WS × Nat → Prop}
  (h1 : (s.pw.can && s.pw.spend.can) = false → P (7, s.areaW md s.doA lv, j))
  (h2 : (s.pw.can && s.pw.spend.can) = true → (s.areaW md s.doA lv).pw.can = false → P (7, (s.areaW md s.doA lv).barS, j))
  (h3 : (s.pw.can && s.pw.spend.can) = true → (s.areaW md s.doA lv).pw.can = true → j = 100 → P (6, (s.areaW md s.doA lv).barS, j))
  (h4 : (s.pw.can && s.pw.spend.can) = true → (s.areaW md s.doA lv).pw.can = true → j ≠ 100 → (s.areaW md s.doA lv).barS.pw.can = false → P (7, (s.areaW md s.doA lv).barS.logW md boot j (s.doR md lv), j + 1))
  (h5 : (s.pw.can && s.pw.spend.can) = true → (s.areaW md s.doA lv).pw.can = true → j ≠ 100 → (s.areaW md s.doA lv).barS.pw.can = true → ((s.areaW md s.doA lv).barS.logW md boot j (s.doR md lv)).pw.can = false → P (7, ((s.areaW md s.doA lv).barS.logW md boot j (s.doR md lv)).barS, j + 1))
  (h6 : (s.pw.can && s.pw.spend.can) = true → (s.areaW md s.doA lv).pw.can = true → j ≠ 100 → (s.areaW md s.doA lv).barS.pw.can = true → ((s.areaW md s.doA lv).barS.logW md boot j (s.doR md lv)).pw.can = true → ((s.areaW md s.doA lv).barS.logW md boot j (s.doR md lv)).barS.pw.can = false → P (7, ((s.areaW md s.doA lv).barS.logW md boot j (s.doR md lv)).barS.bmpS, j + 1))
  (h7 : (s.pw.can && s.pw.spend.can) = true → (s.areaW md s.doA lv).pw.can = true → j ≠ 100 → (s.areaW md s.doA lv).barS.pw.can = true → ((s.areaW md s.doA lv).barS.logW md boot j (s.doR md lv)).pw.can = true → ((s.areaW md s.doA lv).barS.logW md boot j (s.doR md lv)).barS.pw.can = true → P (0, ((s.areaW md s.doA lv).barS.logW md boot j (s.doR md lv)).barS.bmpS, j + 1)) :
  P (s.doC md boot j lv) := by
 have t : ∀ {b : Bool}, ¬ b = false → b = true := fun h => by simpa using h
 rw [WS.doC]
 dsimp only
 split
 ·rename_i a1; exact h1 a1
 ·rename_i a1
  split
  ·rename_i a2; exact h2 (t a1) a2
  ·rename_i a2
   split
   ·rename_i a3; exact h3 (t a1) (t a2) a3
   ·rename_i a3
    split
    ·rename_i a4; exact h4 (t a1) (t a2) a3 a4
    ·rename_i a4
     split
     ·rename_i a5; exact h5 (t a1) (t a2) a3 (t a4) a5
     ·rename_i a5
      split
      ·rename_i a6; exact h6 (t a1) (t a2) a3 (t a4) (t a5) a6
      ·rename_i a6; exact h7 (t a1) (t a2) a3 (t a4) (t a5) (t a6)
theorem zc9 (h : WSt md s k) (hl : (lv.length : Int) = s.n) : WSt md (s.doC md boot j lv).2.1 (k + 50) := by
 have a1 := h.area s.doA (z32 s) hl
 have a2 := a1.bar
 have a3 := a2.log boot j (s.doR md lv)
 have a4 := a3.bar
 have a5 := a4.bmp
 refine z1n (P := fun d => WSt md d.2.1 (k + 50)) (fun _ => a1.mono (by omega)) (fun _ _ => a2.mono (by omega)) (fun _ _ _ => a2.mono (by omega)) (fun _ _ _ _ => a3.mono (by omega)) (fun _ _ _ _ _ => a4.mono (by omega)) (fun _ _ _ _ _ _ => a5.mono (by omega)) (fun _ _ _ _ _ _ => a5.mono (by omega))
theorem z2v (md : Bool) (s : WS) (a : Int) (lv : List Lf) : (s.areaW md a lv).ks = s.ks ∧ (s.areaW md a lv).L = s.L ∧ (s.areaW md a lv).ct = s.ct ∧ (s.areaW md a lv).n = s.n := by rw [WS.areaW]; split <;> exact ⟨rfl, rfl, rfl, rfl⟩
theorem doC_n : (s.doC md boot j lv).2.1.n = s.n ∧ (s.doC md boot j lv).2.1.ks = s.ks := by
 obtain ⟨e1, _, _, e4⟩ := z2v md s s.doA lv
 exact z1n (P := fun d => d.2.1.n = s.n ∧ d.2.1.ks = s.ks) (fun _ => ⟨e4, e1⟩) (fun _ _ => ⟨e4, e1⟩) (fun _ _ _ => ⟨e4, e1⟩) (fun _ _ _ _ => ⟨e4, e1⟩) (fun _ _ _ _ _ => ⟨e4, e1⟩) (fun _ _ _ _ _ _ => ⟨e4, e1⟩) (fun _ _ _ _ _ _ => ⟨e4, e1⟩)
theorem doC_j (hj : j ≤ 100) : (s.doC md boot j lv).2.2 ≤ 100 ∧ j ≤ (s.doC md boot j lv).2.2 := by
 exact z1n (P := fun d => d.2.2 ≤ 100 ∧ j ≤ d.2.2) (fun _ => ⟨hj, Nat.le_refl _⟩) (fun _ _ => ⟨hj, Nat.le_refl _⟩) (fun _ _ _ => ⟨hj, Nat.le_refl _⟩) (fun _ _ _ _ => by dsimp only; omega) (fun _ _ _ _ _ => by dsimp only; omega) (fun _ _ _ _ _ _ => by dsimp only; omega) (fun _ _ _ _ _ _ => by dsimp only; omega)
theorem zln : (s.doC md boot j lv).2.1.ct = if (s.doC md boot j lv).1 = 0 then s.ct.bump true else s.ct := by
 obtain ⟨_, _, e3, _⟩ := z2v md s s.doA lv
 refine z1n (P := fun d => d.2.1.ct = if d.1 = 0 then s.ct.bump true else s.ct) (fun _ => e3) (fun _ _ => e3) (fun _ _ _ => e3) (fun _ _ _ _ => e3) (fun _ _ _ _ _ => e3) (fun _ _ _ _ _ hc => ?_) (fun _ _ _ _ _ hc => ?_)
 ·show (CtS.bump (s.areaW md s.doA lv).ct _) = _
  rw [hc, e3]; rfl
 ·show (CtS.bump (s.areaW md s.doA lv).ct _) = _
  rw [hc, e3]; rfl
end
section
variable {md : Bool} {s s' : WS} {k : Nat} {boot : Int} {j : Nat} {lv lw : List Lf} {c : Int} {top : Pr} {e v : Int} {b : Bs} {tg : Pr} {r : Rt}
theorem Good.to (h : Good md s lv c top e v b tg) (hn : s'.n = s.n) (hks : s'.ks = s.ks) (hat : s'.ct.at' = s.ct.at') (hL : openP md s'.L (ofK s.ks.seed e) (e, 65535, v) [] b tg = some (rootB ⟨c, e, s.n, top⟩)) (hS : Pre s.S s'.S)
  (hl : Kept s'.sd (lfAt s.n (c % 2) 0).toNat (32 * s.n.toNat) (lvB lv)) (hr : Kept s'.sd (recAt s.n c).toNat 60 (recB e v b tg)) : Good md s' lv c top e v b tg :=
 ⟨h.c1, by rw [hn]; exact h.l, h.w, h.ok, by rw [hn]; exact hl, by rw [hn]; exact hr, h.he, h.hv, h.hb, h.ht, by rw [hks, hn]; exact hL, h.tw, h.top.pre hS, by rw [hks]; exact h.ep, by rw [hat]; exact h.boot⟩
theorem Good.bar (h : Good md s lv c top e v b tg) (hs : s.Fit k) : Good md s.barS lv c top e v b tg := h.to rfl rfl rfl h.op (Pre.refl _) (h.kl.barrier hs.sd _) (h.kr.barrier hs.sd _)
theorem Good.settle (h : Good md s lv c top e v b tg) (hs : s.Fit k) (K : Nat → Bool) : Good md (s.crash K) lv c top e v b tg := h.to rfl rfl rfl h.op (Pre.refl _) (h.kl.settle hs.sd K) (h.kr.settle hs.sd K)
theorem Good.area (h : Good md s lv c top e v b tg) (hs : s.Fit k) (a : Int) (ha : 0 ≤ a ∧ a < 2) (hne : a ≠ c % 2) (hl : (lw.length : Int) = s.n) : Good md (s.areaW md a lw) lv c top e v b tg := by
 have hg := z2 hs.g
 obtain ⟨e1, e2, e3, e4⟩ := z2v md s a lw
 have hlb := z3n lw
 have hnb := z2c (s.nodes md lw)
 rw [z54] at hnb
 have hc : (a = 0 ∧ c % 2 = 1) ∨ (a = 1 ∧ c % 2 = 0) := by omega
 have w1 : ∀ {o m : Nat} {X : Bs} {ok1 ok2 : Bool}, Kept s.sd o m X → ((lfAt s.n a 0).toNat + (lvB lw).length ≤ o ∨ o + m ≤ (lfAt s.n a 0).toNat) → ((ndAt s.n a 0).toNat + (z1h (s.nodes md lw)).length ≤ o ∨ o + m ≤ (ndAt s.n a 0).toNat) → Kept (s.areaW md a lw).sd o m X := fun hk h1 h2 => by
  rw [WS.areaW]
  split
  ·exact (hk.write (lfAt s.n a 0, lvB lw) h1 _).write (ndAt s.n a 0, z1h (s.nodes md lw)) h2 _
  ·exact hk.write (lfAt s.n a 0, lvB lw) h1 _
 refine h.to e4 e1 (by rw [e3]) (by rw [e2]; exact h.op) ?_ (w1 (ok1 := true) (ok2 := true) h.kl ?_ ?_) (w1 (ok1 := true) (ok2 := true) h.kr ?_ ?_)
 ·rw [zh5]
  exact (z22 md (lw.map leafB) s.S (by rw [List.length_map]; omega)).1
 ·rw [hlb]; unfold lfAt; rcases hc with ⟨rfl, e⟩ | ⟨rfl, e⟩ <;> rw [e] <;> omega
 ·rw [hnb]; unfold lfAt ndAt; rcases hc with ⟨rfl, e⟩ | ⟨rfl, e⟩ <;> rw [e] <;> omega
 ·rw [hlb]; unfold lfAt recAt; rcases hc with ⟨rfl, e⟩ | ⟨rfl, e⟩ <;> rw [e] <;> omega
 ·rw [hnb]; unfold ndAt recAt; rcases hc with ⟨rfl, e⟩ | ⟨rfl, e⟩ <;> rw [e] <;> omega
theorem Good.log (h : Good md s lv c top e v b tg) (hs : s.Fit k) (boot : Int) (j : Nat) (hne : r.c % 2 ≠ c % 2) : Good md (s.logW md boot j r) lv c top e v b tg := by
 have hg := z2 hs.g
 have hl := z96 (md := md) (s := s) (boot := boot) (j := j) (r := r)
 have h1 : (s.logR md boot j r).1 = recAt s.n r.c := rfl
 refine h.to rfl rfl rfl (zfs h.op _ _ _ _) (Pre.refl _) (h.kl.write (s.logR md boot j r) ?_ _) (h.kr.write (s.logR md boot j r) ?_ _)
 ·rw [hl, h1]; unfold recAt lfAt; have : c % 2 = 0 ∨ c % 2 = 1 := by omega
  rcases this with e | e <;> rw [e] <;> omega
 ·rw [hl, h1]; unfold recAt; omega
theorem Good.bmpN (h : Good md s lv c top e v b tg) (hc : s.pw.can = false) : Good md s.bmpS lv c top e v b tg := h.to rfl rfl (by show (s.ct.bump s.pw.can).at' = _; rw [hc]; rfl) h.op (Pre.refl _) h.kl h.kr
theorem Good.undone (h : Good md s lv s.ct.value top e v b tg) (hs : WSt md s k) (hl : (lw.length : Int) = s.n) (hno : (s.doC md boot j lw).1 ≠ 0) : Good md (s.doC md boot j lw).2.1 lv s.ct.value top e v b tg := by
 have hne : s.doA ≠ s.ct.value % 2 := by unfold WS.doA; omega
 have hrc : (s.doR md lw).c % 2 ≠ s.ct.value % 2 := by show (s.ct.value + 1) % 2 ≠ _; omega
 have g1 := h.area (md := md) hs.fit s.doA (z32 s) hne hl
 have f1 := hs.area (md := md) s.doA (z32 s) hl
 have g2 := g1.bar f1.fit
 have g3 := g2.log (r := s.doR md lw) f1.bar.fit boot j hrc
 have f3 := f1.bar.log boot j (s.doR md lw)
 have g4 := g3.bar f3.fit
 revert hno
 exact z1n (P := fun d => d.1 ≠ 0 → Good md d.2.1 lv s.ct.value top e v b tg) (fun _ _ => g1) (fun _ _ _ => g2) (fun _ _ _ _ => g2) (fun _ _ _ _ _ => g3) (fun _ _ _ _ _ _ => g4) (fun _ _ _ _ _ hc _ => g4.bmpN hc) (fun _ _ _ _ _ _ hn => absurd rfl hn)
theorem zbp (hs : WSt md s k) (hk : k ≤ 80000) (hl : (lv.length : Int) = s.n) (hw : ∀ x ∈ lv, x.Wf) (hok : lvOk lv 0 = true) (hb : boot = s.ct.boots) (hj : j ≤ 100) (hd : (s.doC md boot j lv).1 = 0) :
  j < 100 ∧ Good md (s.doC md boot j lv).2.1 lv (s.ct.value + 1) ((s.nodes md lv).getD 1 (0, 0)) s.ks.cur (boot * 4294967296 + ((j + 1 : Nat) : Int)) ((s.areaW md s.doA lv).barS.logP md boot j (s.doR md lv)).1 ((s.areaW md s.doA lv).barS.logP md boot j (s.doR md lv)).2 := by
 have hg := z2 hs.fit.g
 have hss := hs.fit.ss
 obtain ⟨ct1, ct2, ct3⟩ := hs.ct
 revert hd
 refine z1n (P := fun d => d.1 = 0 → j < 100 ∧ Good md d.2.1 lv _ _ _ _ _ _) (fun _ h => by cases h) (fun _ _ h => by cases h) (fun _ _ _ h => by cases h) (fun _ _ _ _ h => by cases h) (fun _ _ _ _ _ h => by cases h) (fun _ _ _ _ _ _ h => by cases h) (fun c12 c3 hjn c4 c5 c6 _ => ⟨by omega, ?_⟩)
 rw [Bool.and_eq_true] at c12
 obtain ⟨e1, e2, e3, e4⟩ := z2v md s s.doA lv
 have f1 := hs.area (md := md) s.doA (z32 s) hl
 have f3 := f1.bar.log boot j (s.doR md lv)
 have hT : TopOf md (s.areaW md s.doA lv).S lv ((s.nodes md lv).getD 1 (0, 0)) := by rw [zh5]; exact zqd md s lv (by omega)
 have hwt : Wfp ((s.nodes md lv).getD 1 (0, 0)) := by
  have ht := (z22 md (lv.map leafB) s.S (by rw [List.length_map]; omega)).2
  have hbl := (z43 md (lv.map leafB) s.S).2
  rw [List.length_map] at hbl
  exact ht.wfG (j := 1) (by omega) (by omega) (by rw [List.length_map]; omega)
 have wr : (s.doR md lv).Wf := ⟨by show 0 ≤ s.ct.value + 1 ∧ s.ct.value + 1 < _; omega, hs.cur.2, hwt.1, hwt.2⟩
 have rg : isG (s.doR md lv).n = true := hs.fit.g
 have hb' : 0 ≤ boot ∧ boot < 4294967296 := by omega
 have F := zoy (md := md) (s := (s.areaW md s.doA lv).barS) (boot := boot) (j := j) (r := s.doR md lv) f1.bar.fit (by omega) c4 f1.bar.cur hb' (by omega) wr rg f1.bar.seq
 have kl1 : Kept (s.areaW md s.doA lv).barS.sd (lfAt s.n s.doA 0).toNat (32 * s.n.toNat) (lvB lv) := by
  have := ze8 (s.areaW md s.doA lv).sd (lfAt s.n s.doA 0).toNat (32 * s.n.toNat)
  rw [zmu hs.fit c12.1 c12.2 (z32 s) hl] at this
  show Kept ((s.areaW md s.doA lv).sd.barrier (s.areaW md s.doA lv).pw.can) _ _ _
  rw [c3]; exact this
 have hlen := z96 (md := md) (s := (s.areaW md s.doA lv).barS) (boot := boot) (j := j) (r := s.doR md lv)
 have h1 : ((s.areaW md s.doA lv).barS.logR md boot j (s.doR md lv)).1 = recAt s.n (s.ct.value + 1) := by show recAt (s.areaW md s.doA lv).n _ = _; rw [e4]; rfl
 have ha := z32 s
 have kl2 := kl1.write ((s.areaW md s.doA lv).barS.logR md boot j (s.doR md lv)) (by
  rw [hlen, h1]; unfold recAt lfAt
  have : s.doA = 0 ∨ s.doA = 1 := by omega
  rcases this with e | e <;> rw [e] <;> omega) (s.areaW md s.doA lv).barS.pw.can
 have kl3 : Kept ((s.areaW md s.doA lv).barS.logW md boot j (s.doR md lv)).barS.sd (lfAt s.n s.doA 0).toNat (32 * s.n.toNat) (lvB lv) := Kept.barrier (x := ((s.areaW md s.doA lv).barS.logW md boot j (s.doR md lv)).sd) kl2 f3.fit.sd _
 have kr3 : Kept ((s.areaW md s.doA lv).barS.logW md boot j (s.doR md lv)).barS.sd (recAt s.n (s.ct.value + 1)).toNat 60 (recB s.ks.cur (boot * 4294967296 + ((j + 1 : Nat) : Int)) ((s.areaW md s.doA lv).barS.logP md boot j (s.doR md lv)).1 ((s.areaW md s.doA lv).barS.logP md boot j (s.doR md lv)).2) := by
  have := ze8 ((s.areaW md s.doA lv).barS.logW md boot j (s.doR md lv)).sd (recAt s.n (s.ct.value + 1)).toNat 60
  have hrc := F.rc
  rw [WS.recOf, show ((s.areaW md s.doA lv).barS.logW md boot j (s.doR md lv)).n = s.n from e4] at hrc
  rw [show (s.doR md lv).c = s.ct.value + 1 from rfl, show (s.areaW md s.doA lv).barS.ks = s.ks from e1] at hrc
  rw [hrc] at this
  show Kept (((s.areaW md s.doA lv).barS.logW md boot j (s.doR md lv)).sd.barrier _) _ _ _
  rw [c5]; exact this
 have hop := F.op
 rw [show ((s.areaW md s.doA lv).barS.logW md boot j (s.doR md lv)).ks = s.ks from e1, show (s.areaW md s.doA lv).barS.ks = s.ks from e1] at hop
 have hv := F.hv
 refine ⟨by omega, by show _ = (s.areaW md s.doA lv).n; rw [e4]; exact hl, hw, hok, ?_, ?_, hs.cur.2, by omega, F.hb, F.ht, ?_, hwt, hT, ?_, ?_⟩
 ·show Kept _ (lfAt (s.areaW md s.doA lv).n _ 0).toNat (32 * (s.areaW md s.doA lv).n.toNat) _
  rw [e4]; exact kl3
 ·show Kept _ (recAt (s.areaW md s.doA lv).n _).toNat _ _
  rw [e4]; exact kr3
 ·show openP md _ (ofK (s.areaW md s.doA lv).ks.seed _) _ _ _ _ = some (rootB ⟨_, _, (s.areaW md s.doA lv).n, _⟩)
  rw [e1, e4]; exact hop
 ·show _ ∈ (s.areaW md s.doA lv).ks.epochs
  rw [e1]; exact hs.cur.1
 ·show _ = (CtS.bump (s.areaW md s.doA lv).ct _).at'
  rw [c6, e3, hb]
  show _ = s.ct.boots
  omega
end
end Go.Proofs.YthblcmnhiccnhaaGreat


namespace Go.Proofs.YthblcmnhiccnhaaGreat
open Go Go.Abs

def doE (p : PwS) (j : Nat) : Int :=
 if (p.can && p.spend.can) = false then 7
 else if p.spend.spend.can = false then 7
 else if j = 100 then 6
 else if p.spend.spend.spend.can = false then 7
 else if p.spend.spend.spend.spend.can = false then 7
 else if p.spend.spend.spend.spend.spend.can = false then 7
 else 0
section
variable {md : Bool} {s : WS} {k : Nat} {boot : Int} {j : Nat} {lv : List Lf} {r : Rt}
theorem zqj (a : Int) (h : (s.pw.can && s.pw.spend.can) = true) : (s.areaW md a lv).pw = s.pw.spend.spend := by
 rw [Bool.and_eq_true] at h
 rw [WS.areaW, h.1]; rfl
theorem doC_e : (s.doC md boot j lv).1 = doE s.pw j := by
 refine z1n (P := fun d => d.1 = doE s.pw j) (fun a1 => ?_) (fun a1 a2 => ?_) (fun a1 a2 a3 => ?_) (fun a1 a2 a3 a4 => ?_) (fun a1 a2 a3 a4 a5 => ?_) (fun a1 a2 a3 a4 a5 a6 => ?_) (fun a1 a2 a3 a4 a5 a6 => ?_)
 ·rw [doE, if_pos a1]
 all_goals
  have e := zqj (md := md) (lv := lv) s.doA a1
  rw [doE, if_neg (by rw [a1]; simp)]
 ·rw [e] at a2; rw [if_pos a2]
 ·rw [e] at a2; rw [if_neg (by rw [a2]; simp), if_pos a3]
 ·rw [e] at a2; have b4 : s.pw.spend.spend.spend.can = false := by rw [← e]; exact a4
  rw [if_neg (by rw [a2]; simp), if_neg a3, if_pos b4]
 ·rw [e] at a2; have b4 : s.pw.spend.spend.spend.can = true := by rw [← e]; exact a4
  have b5 : s.pw.spend.spend.spend.spend.can = false := by rw [← e]; exact a5
  rw [if_neg (by rw [a2]; simp), if_neg a3, if_neg (by rw [b4]; simp), if_pos b5]
 ·rw [e] at a2; have b4 : s.pw.spend.spend.spend.can = true := by rw [← e]; exact a4
  have b5 : s.pw.spend.spend.spend.spend.can = true := by rw [← e]; exact a5
  have b6 : s.pw.spend.spend.spend.spend.spend.can = false := by rw [← e]; exact a6
  rw [if_neg (by rw [a2]; simp), if_neg a3, if_neg (by rw [b4]; simp), if_neg (by rw [b5]; simp), if_pos b6]
 ·rw [e] at a2; have b4 : s.pw.spend.spend.spend.can = true := by rw [← e]; exact a4
  have b5 : s.pw.spend.spend.spend.spend.can = true := by rw [← e]; exact a5
  have b6 : s.pw.spend.spend.spend.spend.spend.can = true := by rw [← e]; exact a6
  rw [if_neg (by rw [a2]; simp), if_neg a3, if_neg (by rw [b4]; simp), if_neg (by rw [b5]; simp), if_neg (by rw [b6]; simp)]
theorem zlo {p : PwS} (h : p.Free) (j : Nat) : doE p j = if j = 100 then 6 else 0 := by
 have h0 := h.can
 have h1 := h.spend
 have h2 := h1.spend
 have h3 := h2.spend
 have h4 := h3.spend
 have h5 := h4.spend
 rw [doE, h0, h1.can, h2.can, h3.can, h4.can, h5.can]
 simp
theorem zlp (h : s.pw.Free) : (s.doC md boot j lv).2.1.pw.Free := by
 have h1 := zot (md := md) s.doA lv h
 have h2 := h1.spend
 exact z1n (P := fun d => d.2.1.pw.Free) (fun _ => h1) (fun _ _ => h2) (fun _ _ _ => h2) (fun _ _ _ _ => h2.spend) (fun _ _ _ _ _ => h2.spend.spend) (fun _ _ _ _ _ _ => h2.spend.spend.spend) (fun _ _ _ _ _ _ => h2.spend.spend.spend)
end
def WS.loadE (md : Bool) (s : WS) : Int := if s.pw.gone then 7 else if s.ct.value = 0 then 0 else if s.getE md s.ct.value ≠ 0 then s.getE md s.ct.value else s.readE md (s.ct.value % 2) (s.getT md s.ct.value).g
def WS.loadL (md : Bool) (s : WS) : List Lf := if s.pw.gone then [] else if s.ct.value = 0 then List.replicate s.n.toNat lf0 else if s.getE md s.ct.value ≠ 0 then [] else s.readL md (s.ct.value % 2) (s.getT md s.ct.value).g
def WS.loadS (md : Bool) (s : WS) : WS := if s.pw.gone then s else if s.ct.value = 0 then s else if s.getE md s.ct.value ≠ 0 then s else s.readS md (s.ct.value % 2)
section
variable {md : Bool} {s : WS} {k : Nat} {lv : List Lf} {top : Pr} {e v : Int} {b : Bs} {tg : Pr}
theorem Good.load (h : Good md s lv s.ct.value top e v b tg) (hs : s.Fit k) (hgo : s.pw.gone = false) : s.loadE md = 0 ∧ s.loadL md = lv := by
 obtain ⟨g1, g2⟩ := h.get hs hgo
 obtain ⟨r1, r2⟩ := h.read hs hgo
 have hc := h.c1.1
 have hv : s.ct.value ≠ 0 := by omega
 exact ⟨by rw [WS.loadE, hgo, g1, g2]; simp [hv, r1], by rw [WS.loadL, hgo, g1, g2]; simp [hv, r2]⟩
theorem zil (hgo : s.pw.gone = false) (hv : s.ct.value = 0) : s.loadE md = 0 ∧ s.loadL md = List.replicate s.n.toNat lf0 ∧ s.loadS md = s :=
 ⟨by rw [WS.loadE, hgo, hv]; simp, by rw [WS.loadL, hgo, hv]; simp, by rw [WS.loadS, hgo, hv]; simp⟩
theorem z98 (md : Bool) (s : WS) : (s.loadS md).sd = s.sd ∧ (s.loadS md).n = s.n ∧ (s.loadS md).pw = s.pw ∧ (s.loadS md).ct = s.ct ∧ (s.loadS md).ks = s.ks ∧ (s.loadS md).L = s.L := by
 have hr : ∀ a, (s.readS md a).sd = s.sd ∧ (s.readS md a).n = s.n ∧ (s.readS md a).pw = s.pw ∧ (s.readS md a).ct = s.ct ∧ (s.readS md a).ks = s.ks ∧ (s.readS md a).L = s.L := fun a => by
  rw [WS.readS]; split <;> exact ⟨rfl, rfl, rfl, rfl, rfl, rfl⟩
 rw [WS.loadS]
 repeat' split
 ·exact ⟨rfl, rfl, rfl, rfl, rfl, rfl⟩
 ·exact ⟨rfl, rfl, rfl, rfl, rfl, rfl⟩
 ·exact ⟨rfl, rfl, rfl, rfl, rfl, rfl⟩
 ·exact hr _
theorem WSt.load (h : WSt md s k) : WSt md (s.loadS md) (k + 40) := by
 obtain ⟨e1, e2, e3, e4, e5, e6⟩ := z98 md s
 refine ⟨?_, by rw [e5]; exact h.cur, by rw [e6]; exact h.seq, by rw [e6]; exact h.dat, by rw [e4]; exact h.ct.mono (by omega)⟩
 rw [WS.loadS]
 repeat' split
 ·exact h.fit.mono (by omega)
 ·exact h.fit.mono (by omega)
 ·exact h.fit.mono (by omega)
 ·exact zqe h.fit _
end
end Go.Proofs.YthblcmnhiccnhaaGreat


set_option maxRecDepth 100000
namespace Go.Proofs.YthblcmnhiccnhaaGreat
open Go Go.Abs

def zdf : CC := .seq (.reg [qM 6 (.c (.int .i64 0))]) (.seq (.seq (.reg [qM 12 (.t 0),qQ 13 (.eqv .p false (.t 12) (.c .nilp))]) (.cond (.t 13) (.seq (.reg [qM 6 (.c (.int .i64 1))]) .ret) .skip)) (.seq (.reg [qM 14 (.t 0),qQ 15 (.nilck (.t 14)),qQ 16 (.faddr 4 (.t 15)),qQ 17 (.load 1 false (.t 16)),qQ 18 (.call 48 [.t 17]),qQ 19 (.bin .add (.t 18) (.c (.int .u64 1))),qM 7 (.t 19)]) (.seq (.reg [qM 21 (.t 0),qM 22 (.t 7),qQ 23 (.bin .rem (.t 22) (.c (.int .u64 2))),qQ 24 (.conv .i64 (.t 23)),qM 25 (.t 2),qQ 26 (.call 253 [.t 21,.t 24,.t 25]),qM 20 (.t 26),qQ 27 (.ext 0 (.t 20)),qQ 28 (.ext 1 (.t 20)),qQ 8 (.alloc [.int .u64 0,.int .u64 0]),qR (.store 2 (.t 8) (.t 27)),qM 9 (.t 28)]) (.seq (.seq (.reg [qM 29 (.t 9),qQ 30 (.bin .neq (.t 29) (.c (.int .i64 0)))]) (.cond (.t 30) (.seq (.reg [qM 31 (.t 9),qM 6 (.t 31)]) .ret) .skip)) (.seq (.seq (.reg [qM 32 (.t 0),qQ 33 (.nilck (.t 32)),qQ 34 (.faddr 2 (.t 33)),qQ 35 (.load 1 false (.t 34)),qQ 36 (.call 254 [.t 35]),qQ 37 (.not (.t 36))]) (.cond (.t 37) (.seq (.reg [qM 6 (.c (.int .i64 7))]) .ret) .skip)) (.seq (.dreg [qM 38 (.t 7),qM 39 (.t 0),qQ 40 (.nilck (.t 39)),qQ 41 (.faddr 5 (.t 40)),qQ 42 (.load 1 false (.t 41)),qQ 43 (.call 30 [.t 42]),qM 44 (.t 0),qQ 45 (.nilck (.t 44)),qQ 46 (.faddr 0 (.t 45)),qQ 47 (.faddr 0 (.t 46)),qQ 48 (.load 1 false (.t 47)),qQ 49 (.load 2 true (.t 8)),qQ 50 (.build [.int .u64 0,.int .u32 0,.int .i64 0,.int .u64 0,.int .u64 0] [(0,1,.t 38),(1,1,.t 43),(2,1,.t 48),(3,2,.t 49)]),qQ 10 (.alloc [.int .u64 0,.int .u32 0,.int .i64 0,.int .u64 0,.int .u64 0]),qR (.store 5 (.t 10) (.t 50))] [[],[],[1],[2],[3],[4],[],[6],[7],[8],[9],[],[0,5,10,11],[],[13,12,5,0,1,2,3,4,5,6,7,8,9,10,11,12,13]]) (.seq (.seq (.reg [qM 51 (.t 0),qM 52 (.t 1),qQ 53 (.load 5 true (.t 10)),qQ 54 (.call 255 [.t 51,.t 52,.t 53]),qM 11 (.t 54)]) (.seq (.reg [qM 55 (.t 11),qQ 56 (.bin .neq (.t 55) (.c (.int .i64 0)))]) (.cond (.t 56) (.seq (.reg [qM 57 (.t 11),qM 6 (.t 57)]) .ret) .skip))) (.seq (.seq (.reg [qM 58 (.t 0),qQ 59 (.nilck (.t 58)),qQ 60 (.faddr 2 (.t 59)),qQ 61 (.load 1 false (.t 60)),qQ 62 (.call 254 [.t 61]),qQ 63 (.not (.t 62)),qM 64 (.t 63),qG 65 (.mov (.t 0)) 64 false,qG 66 (.nilck (.t 65)) 64 false,qG 67 (.faddr 4 (.t 66)) 64 false,qG 68 (.load 1 false (.t 67)) 64 false,qG 69 (.call 256 [.t 68]) 64 false,qG 70 (.not (.t 69)) 64 false,qQ 71 (.pick (.t 64) (.c (.bool true)) (.t 70))]) (.cond (.t 71) (.seq (.reg [qM 6 (.c (.int .i64 7))]) .ret) .skip)) (.seq (.reg [qM 6 (.c (.int .i64 0))]) .ret)))))))))
theorem zlq : FnIs Tryz.prog 205 72 zdf [.t 6] := ⟨Tryz.f205, _, Tryz.func205, rfl, rfl, by kernel_rfl, by kernel_rfl⟩

def z5e : CC := .seq (.reg [qM 2 (.c .nils),qM 3 (.c (.int .i64 0))]) (.seq (.block 0 (.seq (.reg [qM 8 (.t 0),qQ 9 (.eqv .p false (.t 8) (.c .nilp)),qM 7 (.t 9)]) (.cond (.t 7) (.seq (.reg [qM 2 (.c .nils),qM 3 (.c (.int .i64 1))]) .ret) (.seq (.reg [qM 11 (.t 0),qQ 12 (.nilck (.t 11)),qQ 13 (.faddr 1 (.t 12)),qQ 14 (.load 1 false (.t 13)),qQ 15 (.call 71 [.t 14]),qQ 16 (.not (.t 15)),qM 10 (.t 16)]) (.cond (.t 10) (.seq (.reg [qM 2 (.c .nils),qM 3 (.c (.int .i64 7))]) .ret) .skip))))) (.seq (.reg [qM 17 (.t 0),qQ 18 (.nilck (.t 17)),qQ 19 (.faddr 4 (.t 18)),qQ 20 (.load 1 false (.t 19)),qQ 21 (.call 48 [.t 20]),qM 4 (.t 21)]) (.seq (.seq (.reg [qM 22 (.t 4),qQ 23 (.bin .eql (.t 22) (.c (.int .u64 0)))]) (.cond (.t 23) (.seq (.reg [qM 24 (.t 0),qQ 25 (.nilck (.t 24)),qQ 26 (.faddr 0 (.t 25)),qQ 27 (.faddr 0 (.t 26)),qQ 28 (.load 1 false (.t 27)),qQ 29 (.mksl 8 [.int .i64 0,.bool false,.int .i64 0,.int .u32 0,.int .u32 0,.int .u64 0,.int .u64 0,.int .u64 0] 56 (.t 28) (.t 28)),qM 2 (.t 29),qM 3 (.c (.int .i64 0))]) .ret) .skip)) (.seq (.reg [qM 31 (.t 0),qM 32 (.t 4),qQ 33 (.call 123 [.t 31,.t 32]),qM 30 (.t 33),qQ 34 (.ext 0 (.t 30)),qQ 35 (.ext 1 (.t 30)),qQ 5 (.alloc [.int .u64 0,.int .u32 0,.int .i64 0,.int .u64 0,.int .u64 0]),qR (.store 5 (.t 5) (.t 34)),qM 6 (.t 35)]) (.seq (.seq (.reg [qM 36 (.t 6),qQ 37 (.bin .neq (.t 36) (.c (.int .i64 0)))]) (.cond (.t 37) (.seq (.reg [qM 38 (.t 6),qM 2 (.c .nils),qM 3 (.t 38)]) .ret) .skip)) (.seq (.reg [qM 39 (.t 0),qM 40 (.t 4),qQ 41 (.bin .rem (.t 40) (.c (.int .u64 2))),qQ 42 (.conv .i64 (.t 41)),qQ 43 (.faddr 3 (.t 5)),qQ 44 (.load 2 true (.t 43)),qQ 45 (.call 124 [.t 39,.t 42,.t 44]),qQ 46 (.ext 0 (.t 45)),qQ 47 (.ext 1 (.t 45)),qM 2 (.t 46),qM 3 (.t 47)]) .ret))))))
theorem z8e : FnIs Tryz.prog 73 48 z5e [.t 2, .t 3] := ⟨Tryz.f73, _, Tryz.func73, rfl, rfl, by kernel_rfl, by kernel_rfl⟩

end Go.Proofs.YthblcmnhiccnhaaGreat


namespace Go.Proofs.YthblcmnhiccnhaaGreat
open Go Go.Abs

section
variable {md : Bool} {s : WS} {boot : Int} {j : Nat} {lv : List Lf}
theorem doC_1 (a1 : (s.pw.can && s.pw.spend.can) = false) : s.doC md boot j lv = (7, s.areaW md s.doA lv, j) := by
 rw [WS.doC]; dsimp only; rw [if_pos a1]
theorem doC_2 (a1 : (s.pw.can && s.pw.spend.can) = true) (a2 : (s.areaW md s.doA lv).pw.can = false) : s.doC md boot j lv = (7, (s.areaW md s.doA lv).barS, j) := by
 rw [WS.doC]; dsimp only; rw [if_neg (by rw [a1]; simp), if_pos a2]
theorem doC_3 (a1 : (s.pw.can && s.pw.spend.can) = true) (a2 : (s.areaW md s.doA lv).pw.can = true) (a3 : j = 100) : s.doC md boot j lv = (6, (s.areaW md s.doA lv).barS, j) := by
 rw [WS.doC]; dsimp only; rw [if_neg (by rw [a1]; simp), if_neg (by rw [a2]; simp), if_pos a3]
theorem doC_4 (a1 : (s.pw.can && s.pw.spend.can) = true) (a2 : (s.areaW md s.doA lv).pw.can = true) (a3 : j ≠ 100) : s.doC md boot j lv =
    (let s3 := (s.areaW md s.doA lv).barS.logW md boot j (s.doR md lv)
     if (s.areaW md s.doA lv).barS.pw.can = false then (7, s3, j + 1)
     else if s3.pw.can = false then (7, s3.barS, j + 1)
     else if s3.barS.pw.can = false then (7, s3.barS.bmpS, j + 1)
     else (0, s3.barS.bmpS, j + 1)) := by
  rw [WS.doC]; dsimp only; rw [if_neg (by rw [a1]; simp), if_neg (by rw [a2]; simp), if_neg a3]
end
theorem zqk {md : Bool} {h : AHeap} {n : WN} {s : WS} {k : Nat} (hg : WG md h n s) (hs : s.Fit k) (hk : k ≤ 90000) : AE Tryz.prog 254 [.ptr (n.a + 1) 0 0] h (.bool s.pw.can) (sdPut n.sdN s.pw.spend (s.sd.barrier s.pw.can) h) := by
 have hgg := z2 hs.g
 have hll : s.sd.lasts.length = (s.n * 160 + 120).toNat := by rw [hs.sd.len, zi hs.g]
 have hfit : ∀ o ∈ s.sd.waits, 0 ≤ o.1 ∧ o.1 + o.2.length ≤ s.sd.lasts.length := fun o ho => by have := hs.sd.w o ho; rw [zi hs.g] at this; omega
 exact zh2 hg.w.sd hs.pw (by omega) (by omega) (Nat.le_trans hs.sd.kw (by omega)) (Nat.le_trans hs.sd.kt (by omega)) hfit
set_option maxHeartbeats 4000000 in
theorem zlr {md : Bool} {h : AHeap} {n : WN} {s : WS} {k : Nat} (hg : WG md h n s) (hs : WSt md s k) (hk : k ≤ 80000) {mk : Nat} {boot : Int} {j : Nat} (hm : BoxAt h mk (mkO boot j)) (hb : 0 ≤ boot ∧ boot < 4294967296) (hj : j ≤ 100) (hne : ¬ n.nm md mk) (lv : List Lf) (hl : (lv.length : Int) = s.n) (hw : ∀ x ∈ lv, x.Wf) (hok : lvOk lv 0 = true) :
  AC Tryz.prog 205 [.ptr (n.a + 10) 0 0, .ptr mk 0 0, .imm 8 (lv.map encL)] h
   (fun r h' => r = .int .i64 (s.doC md boot j lv).1 ∧ WG md h' n (s.doC md boot j lv).2.1 ∧ BoxAt h' mk (mkO boot (s.doC md boot j lv).2.2) ∧ Kp (fun id => n.own md id ∨ id = mk) h h') := by
 refine AC.introW zlq (by simp) ?_
 unfold zdf; dsimp only [qQ, qR, qM, qG]
 have hob := hg.w.w
 simp only [wRow] at hob
 have hlt : ∀ id, n.nm md id → id < h.next := fun id hi => (hg.us id hi).1
 have hmk : mk < h.next := hm.u.1
 have hna : n.a + 11 ≤ h.next := hg.w.nx
 have hnB : n.B < h.next ∧ n.E < h.next := hg.w.nB
 have hoB := hg.w.oB
 have hop := hg.w.op
 have hgg := z2 hs.fit.g
 obtain ⟨⟨cv1, cv2⟩, ⟨cb1, cb2⟩, ⟨ca1, ca2⟩⟩ := hs.ct
 have hown : ∀ id, n.own md id → ¬ id = mk := fun id hi e => hne (e ▸ .inl (WN.own_all hi))
 (refine go ?_)
 refine WL.call rfl gM gSL (z4u (p := n.p) hg.w.ct) ?_
 (refine go ?_)
 have hmod : (s.ct.value + 1).tmod 2 = s.doA := Int.tmod_eq_emod_of_nonneg (by omega)
 have ha := z32 s
 rw [hmod, z2g (k := .i64) (n := s.doA) (by constructor <;> omega)]
 have f1 := hs.area (md := md) (lv := lv) s.doA ha hl
 refine WL.callA rfl gM gSL (zjm hg hs.fit (by omega) s.doA ha lv hl hw hok) ?_
 rintro _ h2 ⟨rfl, g2, k2⟩
 have b2 := hm.kp k2 (fun hi => hown _ hi rfl)
 have k2' : Kp (fun id => n.own md id ∨ id = mk) h h2 := k2.mono fun _ _ hi => .inl hi
 have hx2 := k2.next
 clear k2 hob
 cases a1 : (s.pw.can && s.pw.spend.can) with
 | false =>
  rw [doC_1 a1]
  (refine go ?_)
  refine WW.ret ⟨.inl rfl, _, gRES, rfl, g2.new (by repeat first | exact Kp.refl | assumption | with_reducible refine Kp.put ?_ (by omega) _ | with_reducible refine Kp.setN ?_ (by omega) _ | with_reducible refine Kp.keep ?_ _ | with_reducible refine Kp.setW ?_ (by rfl) _), b2.kp (W := fun _ => False) (by repeat first | exact Kp.refl | assumption | with_reducible refine Kp.put ?_ (by omega) _ | with_reducible refine Kp.setN ?_ (by omega) _ | with_reducible refine Kp.keep ?_ _ | with_reducible refine Kp.setW ?_ (by rfl) _) (fun h => h), ?_⟩
  exact k2'.trans (((by repeat first | exact Kp.refl | assumption | with_reducible refine Kp.put ?_ (by omega) _ | with_reducible refine Kp.setN ?_ (by omega) _ | with_reducible refine Kp.keep ?_ _ | with_reducible refine Kp.setW ?_ (by rfl) _) : Kp (fun _ => False) h2 _).mono fun _ _ h => h.elim)
 | true =>
  simp only [if_true]
  rw [show (s.nodes md lv).getD 1 (0, 0) = (s.doR md lv).g from rfl]
  generalize htop : (s.doR md lv).g = top
  have hob := g2.w.w
  simp only [wRow] at hob
  (refine go ?_)
  refine WL.named (fun h3 => WG md h3 n (s.areaW md s.doA lv) ∧ BoxAt h3 mk (mkO boot j) ∧ Kp (fun id => n.own md id ∨ id = mk) h h3 ∧ BoxAt h3 h2.next (.mem 2 [encP top]) ∧ h2.next < h3.next) ⟨g2.new (by repeat first | exact Kp.refl | assumption | with_reducible refine Kp.put ?_ (by omega) _ | with_reducible refine Kp.setN ?_ (by omega) _ | with_reducible refine Kp.keep ?_ _ | with_reducible refine Kp.setW ?_ (by rfl) _), b2.kp (W := fun _ => False) (by repeat first | exact Kp.refl | assumption | with_reducible refine Kp.put ?_ (by omega) _ | with_reducible refine Kp.setN ?_ (by omega) _ | with_reducible refine Kp.keep ?_ _ | with_reducible refine Kp.setW ?_ (by rfl) _) (fun h => h), k2'.trans (((by repeat first | exact Kp.refl | assumption | with_reducible refine Kp.put ?_ (by omega) _ | with_reducible refine Kp.setN ?_ (by omega) _ | with_reducible refine Kp.keep ?_ _ | with_reducible refine Kp.setW ?_ (by rfl) _) : Kp (fun _ => False) h2 _).mono fun _ _ h => h.elim), ⟨z3 (x := .tail 0 0), gH⟩, (z3 (x := .tail 0 0)).1⟩ ?_
  generalize h2.next = tp at *
  clear g2 b2 k2' hob
  rintro h3 ⟨g3, b3, k3, t3, hx3⟩
  have hob := g3.w.w
  simp only [wRow] at hob
  refine WL.call rfl gM gSL (zqk g3 f1.fit (by omega)) ?_
  have htp : ∀ id, n.own md id → ¬ id = tp := fun id hi e => by have := hlt id (.inl (WN.own_all hi)); omega
  refine WL.named (fun h4 => WG md h4 n (s.areaW md s.doA lv).barS ∧ BoxAt h4 mk (mkO boot j) ∧ Kp (fun id => n.own md id ∨ id = mk) h h4 ∧ BoxAt h4 tp (.mem 2 [encP top]) ∧ tp < h4.next) ⟨g3.step (g3.w.putSd _ _) (kp_sd n _ _), b3.kp (kp_sd n _ _) (fun hi => hown _ hi rfl), k3.trans ((kp_sd n _ _).mono fun _ _ hi => .inl hi), t3.kp (kp_sd n _ _) (fun hi => htp _ hi rfl), hx3⟩ ?_
  clear g3 b3 k3 t3 hx3 hob
  rintro h4 ⟨g4, b4, k4, t4, hx4⟩
  have hob := g4.w.w
  simp only [wRow] at hob
  cases a2 : (s.areaW md s.doA lv).pw.can with
  | false =>
   rw [doC_2 a1 a2]
   (refine go ?_)
   exact WW.ret ⟨.inl rfl, _, gRES, rfl, g4, b4, k4⟩
  | true =>
   have q4 := t4.g
   obtain ⟨nx, hnx⟩ : ∃ nx, h4.next = nx := ⟨_, rfl⟩
   obtain ⟨e1, e2, e3, e4⟩ := z2v md s s.doA lv
   have eks : (s.areaW md s.doA lv).barS.ks = s.ks := e1
   have en : (s.areaW md s.doA lv).barS.n = s.n := e4
   have hna4 : n.a + 11 ≤ h4.next := g4.w.nx
   rw [en] at hob
   have hcr : ∀ h5 : AHeap, h5.get (n.a + 9) = h4.get (n.a + 9) → h5.get n.E = h4.get n.E → AE Tryz.prog 30 [.ptr (n.a + 9) 0 0] h5 (.int .u32 s.ks.cur) h5 := fun h5 x1 x2 => by
    have := z72 (g4.w.ks.same x1 x2)
    rw [eks] at this
    exact this
   have hR : encRt (s.doR md lv) = [.int .u64 (s.ct.value + 1), .int .u32 s.ks.cur, .int .i64 s.n, .int .u64 top.1, .int .u64 top.2] := by rw [← htop]; rfl
   have hss := hs.fit.ss
   have wr : (s.doR md lv).Wf := by
    have ht := (z22 md (lv.map leafB) s.S (by rw [List.length_map]; omega)).2
    have hbl := (z43 md (lv.map leafB) s.S).2
    rw [List.length_map] at hbl
    have hwt := ht.wfG (j := 1) (by omega) (by omega) (by rw [List.length_map]; omega)
    exact ⟨by show 0 ≤ s.ct.value + 1 ∧ s.ct.value + 1 < _; omega, hs.cur.2, hwt.1, hwt.2⟩
   (repeat first | refine WL.go ?_ | refine WW.seq ?_ | refine WW.reg ?_ | refine WL.nil ?_ | refine WW.skip ?_ | refine WW.block ?_ | refine WW.exit ?_ | refine WW.condT rfl ?_ | refine WW.condF rfl ?_ | refine WL.gox ?_ | refine thenN ?_ | refine blkN ?_)
   refine WW.dregA [13] [5, 14] [5] [4, 10, 11] [] gN (by decide +kernel) ?_
   (repeat first | refine DA.go ?_ | refine DA.goF ?_ | refine DA.new ?_ | refine DA.set ?_ | refine DA.endL ?_ | refine thenN ?_ | refine blkN ?_)
   refine DA.callP rfl gM gSL rfl rfl rfl (fun h5 hs => hcr h5 (hs.2 _ (by omega)) (hs.2 _ (by omega))) ?_
   (repeat first | refine DA.go ?_ | refine DA.goF ?_ | refine DA.new ?_ | refine DA.set ?_ | refine DA.endL ?_ | refine thenN ?_ | refine blkN ?_)
   refine WW.named (fun h5 => WG md h5 n (s.areaW md s.doA lv).barS ∧ BoxAt h5 mk (mkO boot j) ∧ Kp (fun id => n.own md id ∨ id = mk) h h5 ∧ h5.get nx = some (.mem 5 [encRt (s.doR md lv)])) ⟨g4.new (by repeat first | exact Kp.refl | assumption | with_reducible refine Kp.put ?_ (by omega) _ | with_reducible refine Kp.setN ?_ (by omega) _ | with_reducible refine Kp.keep ?_ _ | with_reducible refine Kp.setW ?_ (by rfl) _), b4.kp (W := fun _ => False) (by repeat first | exact Kp.refl | assumption | with_reducible refine Kp.put ?_ (by omega) _ | with_reducible refine Kp.setN ?_ (by omega) _ | with_reducible refine Kp.keep ?_ _ | with_reducible refine Kp.setW ?_ (by rfl) _) (fun h => h), k4.trans (((by repeat first | exact Kp.refl | assumption | with_reducible refine Kp.put ?_ (by omega) _ | with_reducible refine Kp.setN ?_ (by omega) _ | with_reducible refine Kp.keep ?_ _ | with_reducible refine Kp.setW ?_ (by rfl) _) : Kp (fun _ => False) h4 _).mono fun _ _ h => h.elim), by rw [hR]; exact gH⟩ ?_
   clear g4 b4 k4 t4 q4 hob hcr
   rintro h5 ⟨g5, b5, k5, q5⟩
   (refine go ?_)
   have f2 := f1.bar
   by_cases a3 : j = 100
   ·rw [doC_3 a1 a2 a3]
    subst a3
    refine WL.call rfl gM gSL (zoz g5 f2.cur.2 b5 (s.doR md lv) wr hs.fit.g en.symm) ?_
    (refine go ?_)
    exact WW.ret ⟨.inl rfl, _, gRES, rfl, g5, b5, k5⟩
   rw [doC_4 a1 a2 a3]
   dsimp only
   refine WL.callA rfl gM gSL (zow g5 f2.fit (by omega) f2.cur.2 b5 hb (by omega) hne (s.doR md lv) wr hs.fit.g en.symm) ?_
   rintro _ h6 ⟨rfl, g6, b6, k6⟩
   have f3 := f2.log boot j (s.doR md lv)
   have k7 := k5.trans k6
   clear g5 b5 k5 k6 q5
   cases a4 : (s.areaW md s.doA lv).barS.pw.can with
   | false =>
    simp only [if_true]
    (refine go ?_)
    exact WW.ret ⟨.inl rfl, _, gRES, rfl, g6, b6, k7⟩
   | true =>
    simp only [if_true, Bool.true_eq_false, if_false]
    have f4 := f3.bar
    generalize (s.areaW md s.doA lv).barS.logW md boot j (s.doR md lv) = s3 at *
    have hob := g6.w.w
    simp only [wRow] at hob
    (refine go ?_)
    refine WL.call rfl gM gSL (zqk g6 f3.fit (by omega)) ?_
    refine WL.named (fun h7 => WG md h7 n s3.barS ∧ BoxAt h7 mk (mkO boot (j + 1)) ∧ Kp (fun id => n.own md id ∨ id = mk) h h7) ⟨g6.step (g6.w.putSd _ _) (kp_sd n _ _), b6.kp (kp_sd n _ _) (fun hi => hown _ hi rfl), k7.trans ((kp_sd n _ _).mono fun _ _ hi => .inl hi)⟩ ?_
    clear g6 b6 k7 hob
    rintro h7 ⟨g7, b7, k7⟩
    have hob := g7.w.w
    simp only [wRow] at hob
    cases a5 : s3.pw.can with
    | false =>
     simp only [if_true]
     (refine go ?_)
     exact WW.ret ⟨.inl rfl, _, gRES, rfl, g7, b7, k7⟩
    | true =>
     simp only [Bool.true_eq_false, if_false]
     (refine go ?_)
     refine WL.call rfl gM gSL (zje (p := n.p) g7.w.sd.pw g7.w.ct f4.fit.pw f4.ct (by omega)) ?_
     refine WL.named (fun h8 => WG md h8 n s3.barS.bmpS ∧ BoxAt h8 mk (mkO boot (j + 1)) ∧ Kp (fun id => n.own md id ∨ id = mk) h h8) ⟨g7.step (g7.w.putCt _ _) (kp_ct n _ _), b7.kp (kp_ct n _ _) (fun hi => hown _ hi rfl), k7.trans ((kp_ct n _ _).mono fun _ _ hi => .inl hi)⟩ ?_
     clear g7 b7 k7 hob
     rintro h8 ⟨g8, b8, k8⟩
     cases a6 : s3.barS.pw.can with
     | false =>
      simp only [if_true]
      (refine go ?_)
      exact WW.ret ⟨.inl rfl, _, gRES, rfl, g8, b8, k8⟩
     | true =>
      simp only [Bool.true_eq_false, if_false]
      (refine go ?_)
      exact WW.ret ⟨.inl rfl, _, gRES, rfl, g8, b8, k8⟩
set_option maxHeartbeats 1000000 in
theorem zh6 {md : Bool} {h : AHeap} {n : WN} {s : WS} {k : Nat} (hg : WG md h n s) (hs : WSt md s k) (hk : k ≤ 80000) :
  AC Tryz.prog 73 [.ptr (n.a + 10) 0 0] h
   (fun r h' => r = .tup [.imm 8 ((s.loadL md).map encL), .int .i64 (s.loadE md)] ∧ WG md h' n (s.loadS md) ∧ Kp (n.own md) h h') := by
 refine AC.introW z8e (by simp) ?_
 unfold z5e; dsimp only [qQ, qR, qM, qG]
 have hob := hg.w.w
 simp only [wRow] at hob
 have hna : n.a + 11 ≤ h.next := hg.w.nx
 have hnB : n.B < h.next ∧ n.E < h.next := hg.w.nB
 have hoB := hg.w.oB
 have hgg := z2 hs.fit.g
 have hlt : ∀ id, n.nm md id → id < h.next := fun id hi => (hg.us id hi).1
 obtain ⟨⟨cv1, cv2⟩, ⟨cb1, cb2⟩, ⟨ca1, ca2⟩⟩ := hs.ct
 (refine go ?_)
 refine WL.call rfl gM gSL (z21 hg.w.sd.pw) ?_
 cases hgo : s.pw.gone with
 | true =>
  have h1 : s.loadE md = 7 := by rw [WS.loadE, hgo, if_pos rfl]
  have h2 : s.loadL md = [] := by rw [WS.loadL, hgo, if_pos rfl]
  have h3 : s.loadS md = s := by rw [WS.loadS, hgo, if_pos rfl]
  rw [h1, h2, h3]
  (refine go ?_)
  refine WW.cvt (Cvt.sub1 (s := 2) (v := .imm 8 []) rfl SubV.nil) ?_
  exact WW.ret ⟨.inl rfl, _, gRES, rfl, hg, Kp.refl⟩
 | false =>
  (refine go ?_)
  refine WL.call rfl gM gSL (z4u (p := n.p) hg.w.ct) ?_
  (refine go ?_)
  (refine WW.ifB rfl (fun hz1 => ?_) (fun hz1 => ?_))
  ·obtain ⟨h1, h2, h3⟩ := zil (md := md) hgo hz1
   rw [h1, h2, h3]
   obtain ⟨m, hm⟩ : ∃ m : Nat, s.n = m := ⟨s.n.toNat, by omega⟩
   have hmn : s.n.toNat = m := by omega
   rw [hm] at hob
   (refine go ?_)
   refine WW.cvt (Cvt.frzE (s := 2) (c' := (List.replicate s.n.toNat lf0).map encL) rfl gH (by rw [hmn, List.map_replicate, List.drop_zero, List.take_of_length_le (by simp)]; rfl)) ?_
   refine WW.ret ⟨.inl rfl, _, gRES, rfl, hg.new (by repeat first | exact Kp.refl | assumption | with_reducible refine Kp.put ?_ (by omega) _ | with_reducible refine Kp.setN ?_ (by omega) _ | with_reducible refine Kp.keep ?_ _ | with_reducible refine Kp.setW ?_ (by rfl) _), ?_⟩
   exact ((by repeat first | exact Kp.refl | assumption | with_reducible refine Kp.put ?_ (by omega) _ | with_reducible refine Kp.setN ?_ (by omega) _ | with_reducible refine Kp.keep ?_ _ | with_reducible refine Kp.setW ?_ (by rfl) _) : Kp (fun _ => False) h _).mono fun _ _ h => h.elim
  ·have hvz : ¬ s.ct.value = 0 := hz1
   (refine go ?_)
   refine WL.call rfl gM gSL (zov hg.w hs.fit (by omega) hs.dat ca1 s.ct.value (by omega)) ?_
   have h1 : s.loadE md = if s.getE md s.ct.value ≠ 0 then s.getE md s.ct.value else s.readE md (s.ct.value % 2) (s.getT md s.ct.value).g := by rw [WS.loadE, hgo]; simp [hvz]
   have h2 : s.loadL md = if s.getE md s.ct.value ≠ 0 then [] else s.readL md (s.ct.value % 2) (s.getT md s.ct.value).g := by rw [WS.loadL, hgo]; simp [hvz]
   have h3 : s.loadS md = if s.getE md s.ct.value ≠ 0 then s else s.readS md (s.ct.value % 2) := by rw [WS.loadS, hgo]; simp [hvz]
   rw [h1, h2, h3]
   generalize s.getT md s.ct.value = R at *
   generalize s.getE md s.ct.value = G at *
   clear h1 h2 h3
   (refine go ?_)
   (refine WW.ifB rfl (fun hz2 => ?_) (fun hz2 => ?_))
   ·rw [if_pos hz2, if_pos hz2, if_pos hz2]
    (refine go ?_)
    refine WW.cvt (Cvt.sub1 (s := 2) (v := .imm 8 []) rfl SubV.nil) ?_
    refine WW.ret ⟨.inl rfl, _, gRES, rfl, hg.new (by repeat first | exact Kp.refl | assumption | with_reducible refine Kp.put ?_ (by omega) _ | with_reducible refine Kp.setN ?_ (by omega) _ | with_reducible refine Kp.keep ?_ _ | with_reducible refine Kp.setW ?_ (by rfl) _), ?_⟩
    exact ((by repeat first | exact Kp.refl | assumption | with_reducible refine Kp.put ?_ (by omega) _ | with_reducible refine Kp.setN ?_ (by omega) _ | with_reducible refine Kp.keep ?_ _ | with_reducible refine Kp.setW ?_ (by rfl) _) : Kp (fun _ => False) h _).mono fun _ _ h => h.elim
   ·have hG0 : ¬ G ≠ 0 := by simpa using hz2
    rw [if_neg hG0, if_neg hG0, if_neg hG0]
    refine WW.named (fun h3 => WG md h3 n s ∧ Kp (fun _ => False) h h3 ∧ h3.get h.next = some (.mem 5 [encRt R])) ⟨hg.new (by repeat first | exact Kp.refl | assumption | with_reducible refine Kp.put ?_ (by omega) _ | with_reducible refine Kp.setN ?_ (by omega) _ | with_reducible refine Kp.keep ?_ _ | with_reducible refine Kp.setW ?_ (by rfl) _), (by repeat first | exact Kp.refl | assumption | with_reducible refine Kp.put ?_ (by omega) _ | with_reducible refine Kp.setN ?_ (by omega) _ | with_reducible refine Kp.keep ?_ _ | with_reducible refine Kp.setW ?_ (by rfl) _), gH⟩ ?_
    rintro h3 ⟨g3, k3, q3⟩
    (refine go ?_)
    have hmod : s.ct.value.tmod 2 = s.ct.value % 2 := Int.tmod_eq_emod_of_nonneg (by omega)
    rw [hmod, z2g (k := .i64) (n := s.ct.value % 2) (by constructor <;> omega)]
    refine WL.callA rfl gM gSL (zlc g3 hs.fit (by omega) (s.ct.value % 2) (by omega) R.g) ?_
    rintro _ h4 ⟨rfl, g4, k4⟩
    (refine go ?_)
    exact WW.ret ⟨.inl rfl, _, gRES, rfl, g4, (k3.mono fun _ _ h => h.elim).trans k4⟩
end Go.Proofs.YthblcmnhiccnhaaGreat


namespace Go.Proofs.YthblcmnhiccnhaaGreat
open Go Go.Abs

theorem wst0 (md : Bool) {m : Nat} (hG : isG m = true) (seed : Int) : WSt md (ws0 m seed) 0 := by
 have h := lst0 md hG seed
 exact ⟨h.fit, h.cur, h.seq, h.dat, ⟨by simp [ws0], by simp [ws0], by simp [ws0]⟩⟩
theorem wf0 : ∀ x ∈ List.replicate 4 lf0, x.Wf := by intro x hx; obtain ⟨_, rfl⟩ := List.mem_replicate.1 hx; constructor <;> decide
end Go.Proofs.YthblcmnhiccnhaaGreat


namespace Go.Proofs.YthblcmnhiccnhaaGreat
open Go Go.Abs

section
variable {md : Bool} {s : WS} {boot : Int} {j : Nat} {lv : List Lf}
theorem zus (hd : (s.doC md boot j lv).1 = 0) : (s.doC md boot j lv).2.2 = j + 1 := by
 revert hd
 exact z1n (P := fun d => d.1 = 0 → d.2.2 = j + 1) (fun _ h => by cases h) (fun _ _ h => by cases h) (fun _ _ _ h => by cases h) (fun _ _ _ _ _ => rfl) (fun _ _ _ _ _ _ => rfl) (fun _ _ _ _ _ _ _ => rfl) (fun _ _ _ _ _ _ _ => rfl)
end
structure EndI (lv : List Lf) (i : Nat) (s : WS) (j : Nat) : Prop where
 st : WSt true s (50 * i)
 fr : s.pw.Free
 n : s.n = 4
 jj : j = min i 100
 v : s.ct.value = ((min i 100 : Nat) : Int)
 b : s.ct.boots = 0
 g : 0 < i → ∃ top e v b tg, Good true s lv s.ct.value top e v b tg
theorem EndI.step {lv : List Lf} {i : Nat} {s : WS} {j : Nat} (h : EndI lv i s j) (hi : i < 120) (hl : lv.length = 4) (hw : ∀ x ∈ lv, x.Wf) (hok : lvOk lv 0 = true) :
  (s.doC true 0 j lv).1 = (if i < 100 then 0 else 6) ∧ EndI lv (i + 1) (s.doC true 0 j lv).2.1 (s.doC true 0 j lv).2.2 := by
 have hjj := h.jj
 have hln : (lv.length : Int) = s.n := by rw [hl, h.n]; rfl
 have he := doC_e (md := true) (s := s) (boot := 0) (j := j) (lv := lv)
 rw [zlo h.fr] at he
 have hct := zln (md := true) (s := s) (boot := 0) (j := j) (lv := lv)
 have hst := (zc9 (md := true) (boot := 0) (j := j) h.st hln).mono (k' := 50 * (i + 1)) (by omega)
 have hfr := zlp (md := true) (boot := 0) (j := j) (lv := lv) h.fr
 have hn := (doC_n (md := true) (s := s) (boot := 0) (j := j) (lv := lv)).1.trans h.n
 by_cases h100 : i < 100
 ·rw [if_neg (by omega)] at he
  rw [he, if_pos rfl] at hct
  obtain ⟨_, G⟩ := zbp (md := true) h.st (by omega) hln hw hok h.b.symm (by omega) he
  have hv : (s.doC true 0 j lv).2.1.ct.value = s.ct.value + 1 := by rw [hct]; rfl
  have hhv := h.v
  refine ⟨by rw [if_pos h100, he], hst, hfr, hn, by rw [zus he]; omega, by rw [hv]; omega, by rw [hct]; exact h.b, fun _ => ?_⟩
  rw [hv]
  exact ⟨_, _, _, _, _, G⟩
 ·have hj : j = 100 := by omega
  rw [if_pos hj] at he
  have hj2 := doC_j (md := true) (s := s) (boot := 0) (j := j) (lv := lv) (by omega)
  rw [he, if_neg (by decide)] at hct
  obtain ⟨top, e, v, b, tg, G⟩ := h.g (by omega)
  have G2 := G.undone (lw := lv) (boot := 0) (j := j) h.st hln (by rw [he]; decide)
  have hhv := h.v
  refine ⟨by rw [if_neg h100, he], hst, hfr, hn, by omega, by rw [hct]; omega, by rw [hct]; exact h.b, fun _ => ?_⟩
  rw [hct]
  exact ⟨_, _, _, _, _, G2⟩
end Go.Proofs.YthblcmnhiccnhaaGreat


namespace Go.Proofs.YthblcmnhiccnhaaGreat
open Go Go.Abs

theorem WSt.crash {md : Bool} {s : WS} {k : Nat} (h : WSt md s k) (K : Nat → Bool) : WSt md (s.crash K) k := by
 have hl := z5s K s.sd.lasts.length s.sd.waits 0 s.sd.lasts (fun y hy => by have := h.fit.sd.w y hy; rw [h.fit.sd.len]; exact this) rfl
 obtain ⟨p1, p2, p3, p4⟩ := h.fit.pw
 refine ⟨⟨h.fit.g, ⟨fun hh => by simp [WS.crash] at hh, p2, p3, p4⟩, ⟨?_, fun y hy => by simp [WS.crash, SdS.settle] at hy, Nat.zero_le _, h.fit.sd.kt⟩, h.fit.ss, h.fit.ll⟩, h.cur, h.seq, h.dat, h.ct⟩
 show (z1f K 0 s.sd.waits s.sd.lasts).length = _
 rw [hl, h.fit.sd.len]; rfl
theorem zql {md : Bool} {s : WS} {boot : Int} {j : Nat} {lv : List Lf} : (s.doC md boot j lv).2.1.dk = s.dk := by
 have e : (s.areaW md s.doA lv).dk = s.dk := by rw [WS.areaW]; split <;> rfl
 exact z1n (P := fun d => d.2.1.dk = s.dk) (fun _ => e) (fun _ _ => e) (fun _ _ _ => e) (fun _ _ _ _ => e) (fun _ _ _ _ _ => e) (fun _ _ _ _ _ _ => e) (fun _ _ _ _ _ _ => e)
theorem zrz {md : Bool} {h : AHeap} {n : WN} {s : WS} {k : Nat} (hg : WG md h n s) (hs : s.Fit k) (hk : k ≤ 90000) (hd : s.dk.waits = []) (keep : List Bool) (hkl : keep.length ≤ 9223372036854775807) :
  AC Tryz.prog 50 [.ptr (n.a + 10) 0 0, .imm 1 (keep.map encBo)] h (fun r h' => r = .tup [] ∧ WG md h' n (s.crash (keepF keep)) ∧ Kp (n.own md) h h') := by
 have hgg := z2 hs.g
 have hll : s.sd.lasts.length = (s.n * 160 + 120).toNat := by rw [hs.sd.len, zi hs.g]
 have hfit : ∀ o ∈ s.sd.waits, 0 ≤ o.1 ∧ o.1 + o.2.length ≤ s.sd.lasts.length := fun o ho => by have := hs.sd.w o ho; rw [zi hs.g] at this; omega
 refine (zh3 hg.w (by omega) (Nat.le_trans hs.sd.kw (by omega)) hfit (by rw [hd]; decide) (by rw [hd]; simp) keep hkl).mono ?_
 rintro _ h' ⟨rfl, w, kp⟩
 exact ⟨rfl, hg.step w kp, kp⟩
def WS.fused (s : WS) (m : Int) : WS := { s with pw := { s.pw with fuse := decide (0 ≤ m), left := m } }
theorem WSt.fused {md : Bool} {s : WS} {k : Nat} (h : WSt md s k) (m : Int) (hm : -9223372036854775808 ≤ m ∧ m ≤ 9223372036854775807) : WSt md (s.fused m) k := by
 obtain ⟨p1, p2, p3, p4⟩ := h.fit.pw
 exact ⟨⟨h.fit.g, ⟨fun hh => by simpa [WS.fused] using hh, hm, p3, p4⟩, h.fit.sd, h.fit.ss, h.fit.ll⟩, h.cur, h.seq, h.dat, h.ct⟩
end Go.Proofs.YthblcmnhiccnhaaGreat


namespace Go.Proofs.YthblcmnhiccnhaaGreat
open Go Go.Abs

def WS.back (s : WS) (b : Bs) : WS := { s with sd := { s.sd with lasts := b, waits := [], gen := s.sd.gen + 1 } }
theorem zs0 {s : WS} {k : Nat} (hs : s.Fit k) {b : Bs} (hb : b.length = s.sd.lasts.length) : (s.back b).Fit k :=
 ⟨hs.g, hs.pw, ⟨hb.trans hs.sd.len, fun y hy => by simp [WS.back] at hy, Nat.zero_le _, hs.sd.kt⟩, hs.ss, hs.ll⟩
theorem WSt.back {md : Bool} {s : WS} {k : Nat} (h : WSt md s k) {b : Bs} (hb : b.length = s.sd.lasts.length) : WSt md (s.back b) k := ⟨zs0 h.fit hb, h.cur, h.seq, h.dat, h.ct⟩
end Go.Proofs.YthblcmnhiccnhaaGreat


namespace Go.Proofs.YthblcmnhiccnhaaGreat
open Go Go.Abs

def WS.bootS (s : WS) : WS := { s with pw := s.pw.spend, ct := s.ct.boot s.pw.can }
theorem WSt.boot {md : Bool} {s : WS} {k : Nat} (h : WSt md s k) : WSt md s.bootS (k + 1) :=
 ⟨⟨h.fit.g, h.fit.pw.spend, h.fit.sd.mono (by omega), Nat.le_succ_of_le h.fit.ss, Nat.le_succ_of_le h.fit.ll⟩, h.cur, h.seq, h.dat, h.ct.boot _⟩
theorem zca {s : WS} (h : s.pw.Free) : s.bootS.ct = ⟨s.ct.value, s.ct.boots + 1, s.ct.at'⟩ := by rw [WS.bootS, h.can]; rfl
theorem z44 (s : WS) (K : Nat → Bool) : (s.crash K).pw.Free := ⟨rfl, rfl⟩
end Go.Proofs.YthblcmnhiccnhaaGreat


namespace Go.Proofs.YthblcmnhiccnhaaGreat
open Go Go.Abs

theorem znq {md : Bool} {h : AHeap} {n : WN} {s : WS} {k : Nat} (hg : WG md h n s) (hs : WSt md s k) (hk : k ≤ 90000) : AE Tryz.prog 72 [.ptr (n.a + 7) 0 0] h (.bool s.pw.can) ((h.set n.p (some (.mem 4 [s.pw.spend.row]))).set (n.a + 7) (some ((s.ct.boot s.pw.can).obj n.p))) :=
 zjd (p := n.p) hg.w.sd.pw hg.w.ct hs.fit.pw hs.ct (by omega)
theorem WG.boot {md : Bool} {h : AHeap} {n : WN} {s : WS} (hg : WG md h n s) : WG md ((h.set n.p (some (.mem 4 [s.pw.spend.row]))).set (n.a + 7) (some ((s.ct.boot s.pw.can).obj n.p))) n s.bootS := hg.step (hg.w.putCt _ _) (kp_ct n _ _)
theorem zut {md : Bool} {s : WS} {boot : Int} {j : Nat} {lv : List Lf} (hf : s.pw.Free) (hj : j < 100) : (s.doC md boot j lv).1 = 0 := by
 rw [doC_e, zlo hf, if_neg (by omega)]
theorem zs1 (md : Bool) (s : WS) : (s.loadS md).dk = s.dk := by
 have hr : ∀ a, (s.readS md a).dk = s.dk := fun a => by rw [WS.readS]; split <;> rfl
 rw [WS.loadS]
 repeat' split
 ·rfl
 ·rfl
 ·rfl
 ·exact hr _
end Go.Proofs.YthblcmnhiccnhaaGreat


