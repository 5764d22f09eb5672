/- LockPlays (under way). -/
import Derived.Test.YtlddahcgaonlhaaX14
import Derived.Test.YtlddahcgaonlhaaV4
set_option linter.all false
namespace Go.Proofs.Ytlddahcgaonlhaa
open Go Go.Abs

/-- A call that leaves the heap, in no order to what is made. -/
theorem DA.callP {P : Program} {N j : Nat} {e : Env} {h : AHeap} {al ws rs fs : List Nat} {K : Env → AHeap → Prop} {l : List CI} {n0 : Nat} {d : Option Nat} {f n : Nat} {W : List Nat} {h0 : AHeap} {xs : List Opd} {g : Option (Nat × Bool)} {vs us : List AV} {r : AV} (hv : evL e xs = some us) (hg : met e g) (hs : SubL us vs) (hf : fs.contains j = false) (hw : ws.contains j = true) (ha : al.contains j = false)
    (hac : ∀ h2, Sim n0 al.length h h2 → AE P f vs h2 r h2) (k : DA P N (PhiW n W h0) n0 al ws rs fs K (j + 1) l (putR d (some r) e) h) : DA P N (PhiW n W h0) n0 al ws rs fs K j (⟨d, .call f xs, g⟩ :: l) e h := by
  refine .fx [] (fun _ => FX.call hg hv ((hac h Sim.refl).sub hs)) (fun hy => by simp [free0] at hy) (fun hy => by rw [hw] at hy; cases hy) (fun hy => by rw [ha] at hy; cases hy) (fun _ h2 h3 => FX.call hg hv ((hac h2 h3).sub hs)) (fun _ => ⟨by simp, fun _ u hu => by simp at hu⟩) (fun _ hp => hp) (fun hy => by rw [hf] at hy; cases hy) k
/-- One act of a play of the lock. -/
structure Act8 where
  kind : Int
  key : Pr
  n : Nn
  data : Bs
  by8 : Int
def encA8 (a : Act8) : List AV := [.int .i64 a.kind, .int .u64 a.key.1, .int .u64 a.key.2, .int .u32 a.n.1, .int .u32 a.n.2.1, .int .u64 a.n.2.2, .imm 1 (a.data.map encB), .int .u64 a.by8]
/-- Where a play stands. -/
structure P8 where
  i : Nat
  b : Bs
  t : Pr
attribute [local irreducible] digestF gcmB gcmT gcmO
set_option maxHeartbeats 1000000 in
theorem law8_LockPlaysR_ae (A : List Act8) (h : AHeap) : AE Try.prog 10 [.bool false, .imm 8 (A.map encA8)] h (.bool true) h := by
  refine AE.pureW is_law8_LockPlays (by simp) ?_
  unfold c_law8_LockPlays
  (refine go ?_)
  (refine WW.ifB rfl (fun hz1 => ?_) (fun hz1 => ?_))
  · (refine go ?_)
    refine WW.ret (PureQ.finD ?_)
    exact fz_b rfl
  (refine go ?_)
  refine WL.call rfl (by first | exact True.intro | exact rfl) (by repeat first | exact SubL.nil | refine SubL.cons (SubV.refl _) ?_ | refine SubL.cons SubV.app ?_ | refine SubL.cons SubV.nil ?_) (law8_ofR_ae (nx := h.next) rfl) ?_
  (refine go ?_)
  refine WL.call rfl (by first | exact True.intro | exact rfl) (by repeat first | exact SubL.nil | refine SubL.cons (SubV.refl _) ?_ | refine SubL.cons SubV.app ?_ | refine SubL.cons SubV.nil ?_) (ref8_NewR_ae (nx := h.next + 1) gN) ?_
  (refine go ?_)
  refine WW.cvt (Cvt.cell (id := h.next + 1 + 1) (i := 0) (j := 0) (v := .imm 1 []) gH rfl rfl rfl SubV.nil) ?_
  refine WW.loopE (fun (s : P8) => [(1, some (.imm 8 (A.map encA8))), (5, some (.ptr h.next 0 0)), (6, some (.ptr (h.next + 1) 0 0)), (7, some (.ptr (h.next + 2) 0 0)), (8, some (.int .i64 s.i))])
    (fun s h' => h'.get h.next = some (.mem 5 [reC]) ∧ h'.get (h.next + 1) = some (.mem 1 [[.nilp]]) ∧ h'.get (h.next + 2) = some (.mem 3 [encS s.b s.t]) ∧ h.next + 3 ≤ h'.next ∧ Keeps h h' ∧ s.i ≤ A.length ∧ s.b.length ≤ 100) (fun s => A.length - s.i) ⟨0, [], (0, 0)⟩ (by repeat first | exact subE.nil _ | (apply subE.cons; focus (first | exact rfl | (simp [lk_cons]; done) | (simp [lk_cons]; omega)))) ⟨gH, gH, gH, (leN gN (by omega)), (by repeat first | with_reducible exact Keeps.refl _ | with_reducible refine Keeps.put ?_ (by omega) _ | with_reducible refine Keeps.set ?_ (by omega) _ | assumption), Nat.zero_le _, by simp⟩ ?_
  rintro ⟨i, b, t⟩ h' ⟨g1, g2, g3, g4, g5, g6, g7⟩
  simp only at g1 g2 g3 g4 g5 g6 g7 ⊢
  (refine go ?_)
  (refine WW.ifB rfl (fun hz2 => ?_) (fun hz2 => ?_))
  · have hi : i < A.length := by omega
    (refine go ?_)
    (refine WW.ifB rfl (fun hz3 => ?_) (fun hz3 => ?_))
    · (refine go ?_)
      refine WW.ret (PureQ.finD ?_)
      exact fz_b rfl
    have hd : A[i].data.length ≤ 100 := by omega
    (refine go ?_)
    (refine WW.ifB rfl (fun hz4 => ?_) (fun hz4 => ?_))
    · (repeat first | refine WL.go ?_ | refine WW.seq ?_ | refine WW.reg ?_ | refine WL.nil ?_ | refine WW.skip ?_ | refine WW.block ?_ | refine WW.exit ?_ | refine WW.condT rfl ?_ | refine WW.condF rfl ?_ | refine WL.gox ?_ | refine thenN ?_ | refine blkN ?_)
      refine WW.dregA [20] [16, 21] [16] [3, 5, 8, 10, 13, 15] [] gN (by decide +kernel) ?_
      (repeat first | refine DA.go ?_ | refine DA.goF ?_ | refine DA.new ?_ | refine DA.set ?_ | refine DA.endL ?_ | refine thenN ?_ | refine blkN ?_)
      rw [show List.take 2 (List.drop 1 (encA8 A[i])) = encP A[i].key from rfl, show List.take 3 (List.drop 3 (encA8 A[i])) = encN A[i].n from rfl]
      refine DA.callP rfl (by first | exact True.intro | exact rfl) (vs := [.ptr h.next 0 0, .agg (encP A[i].key), .agg (encN A[i].n), .imm 1 (([] : Bs).map encB), .imm 1 (A[i].data.map encB)]) (by repeat first | exact SubL.nil | refine SubL.cons (SubV.refl _) ?_ | refine SubL.cons SubV.app ?_ | refine SubL.cons SubV.nil ?_) rfl rfl rfl (fun h5 hs => lock_SealR_ae ((hs.2 _ (by omega)).trans g1) A[i].key A[i].n [] A[i].data (by simp) (by omega)) ?_
      (repeat first | refine DA.go ?_ | refine DA.goF ?_ | refine DA.new ?_ | refine DA.set ?_ | refine DA.endL ?_ | refine thenN ?_ | refine blkN ?_)
      generalize hsb : gcmB A[i].key A[i].n A[i].data = sb at *
      generalize hst : gcmT A[i].key A[i].n [] sb = st at *
      refine WW.named (fun h5 => h5.get h.next = some (.mem 5 [reC]) ∧ h5.get (h.next + 1) = some (.mem 1 [[.nilp]]) ∧ h5.get (h.next + 2) = some (.mem 3 [encS b t]) ∧ h5.get h'.next = some (.mem 3 [encS sb st]) ∧ h5.next = h'.next + 1 ∧ Keeps h h5) ⟨gH, gH, gH, gH, next_setE (next_putK (by simp) (next_keepE rfl)), (by repeat first | with_reducible exact Keeps.refl _ | with_reducible refine Keeps.put ?_ (by omega) _ | with_reducible refine Keeps.set ?_ (by omega) _ | with_reducible refine Keeps.keep ?_ | assumption)⟩ ?_
      rintro h5 ⟨r1, r2, r3, r4, r5, r6⟩
      (repeat first | refine WL.go ?_ | refine WW.seq ?_ | refine WW.reg ?_ | refine WL.nil ?_ | refine WW.skip ?_ | refine WW.block ?_ | refine WW.exit ?_ | refine WW.condT rfl ?_ | refine WW.condF rfl ?_ | refine WL.gox ?_ | refine thenN ?_ | refine blkN ?_)
      refine WW.dregA [20] [16, 21] [16] [3, 5, 8, 10, 13, 15] [] gN (by decide +kernel) ?_
      (repeat first | refine DA.go ?_ | refine DA.goF ?_ | refine DA.new ?_ | refine DA.set ?_ | refine DA.endL ?_ | refine thenN ?_ | refine blkN ?_)
      rw [show List.take 2 (List.drop 1 (encA8 A[i])) = encP A[i].key from rfl, show List.take 3 (List.drop 3 (encA8 A[i])) = encN A[i].n from rfl]
      refine DA.callP rfl (by first | exact True.intro | exact rfl) (vs := [.ptr (h.next + 1) 0 0, .agg (encP A[i].key), .agg (encN A[i].n), .imm 1 (([] : Bs).map encB), .imm 1 (A[i].data.map encB)]) (by repeat first | exact SubL.nil | refine SubL.cons (SubV.refl _) ?_ | refine SubL.cons SubV.app ?_ | refine SubL.cons SubV.nil ?_) rfl rfl rfl (fun h6 hs => ref8_SealR_ae ((hs.2 _ (by omega)).trans r2) A[i].key A[i].n [] A[i].data (by simp) (by omega)) ?_
      rw [hsb, hst]
      (repeat first | refine DA.go ?_ | refine DA.goF ?_ | refine DA.new ?_ | refine DA.set ?_ | refine DA.endL ?_ | refine thenN ?_ | refine blkN ?_)
      refine WW.named (fun h6 => h6.get h.next = some (.mem 5 [reC]) ∧ h6.get (h.next + 1) = some (.mem 1 [[.nilp]]) ∧ h6.get (h.next + 2) = some (.mem 3 [encS b t]) ∧ h6.get h'.next = some (.mem 3 [encS sb st]) ∧ h6.get (h'.next + 1) = some (.mem 3 [encS sb st]) ∧ h6.next = h'.next + 1 + 1 ∧ Keeps h h6) ⟨gH, gH, gH, gH, gH, next_setE (next_putK (by simp) (next_keepE r5)), (by repeat first | with_reducible exact Keeps.refl _ | with_reducible refine Keeps.put ?_ (by omega) _ | with_reducible refine Keeps.set ?_ (by omega) _ | with_reducible refine Keeps.keep ?_ | assumption)⟩ ?_
      rintro h6 ⟨u1, u2, u3, u4, u7, u5, u6⟩
      (refine go ?_)
      refine WL.call rfl (by first | exact True.intro | exact rfl) (by repeat first | exact SubL.nil | refine SubL.cons (SubV.refl _) ?_ | refine SubL.cons SubV.app ?_ | refine SubL.cons SubV.nil ?_) (ref5_Same_ae sb sb st st _) ?_
      (refine go ?_)
      rw [show (sb == sb && st == st) = true by simp]
      (refine go ?_)
      have hsl : sb.length ≤ 100 := by rw [← hsb, gcmB_len]; exact hd
      refine ⟨⟨i + 1, sb, st⟩, (by repeat first | exact subE.nil _ | (apply subE.cons; focus (first | exact rfl | (simp [lk_cons]; done) | (simp [lk_cons]; omega)))), ⟨gH, gH, gH, (leN gN (by omega)), (by repeat first | with_reducible exact Keeps.refl _ | with_reducible refine Keeps.put ?_ (by omega) _ | with_reducible refine Keeps.set ?_ (by omega) _ | assumption), hi, hsl⟩, (by show A.length - (i + 1) < A.length - i; omega)⟩
    (refine go ?_)
    (refine WW.ifB rfl (fun hz5 => ?_) (fun hz5 => ?_))
    · (repeat first | refine WL.go ?_ | refine WW.seq ?_ | refine WW.reg ?_ | refine WL.nil ?_ | refine WW.skip ?_ | refine WW.block ?_ | refine WW.exit ?_ | refine WW.condT rfl ?_ | refine WW.condF rfl ?_ | refine WL.gox ?_ | refine thenN ?_ | refine blkN ?_)
      refine WW.dregA [16] [17] [] [1, 4, 7, 10, 12] [] gN (by decide +kernel) ?_
      (repeat first | refine DA.go ?_ | refine DA.goF ?_ | refine DA.new ?_ | refine DA.set ?_ | refine DA.endL ?_ | refine thenN ?_ | refine blkN ?_)
      refine WW.named (fun h5 => h5.get h.next = some (.mem 5 [reC]) ∧ h5.get (h.next + 1) = some (.mem 1 [[.nilp]]) ∧ h5.get (h.next + 2) = some (.mem 3 [encS b t]) ∧ h5.get h'.next = some (.mem 3 [encS b (t.1, x64 t.2 A[i].by8)]) ∧ h5.next = h'.next + 1 ∧ Keeps h h5) ⟨gH, gH, gH, gH, next_setE (next_putK (by simp) (next_keepE rfl)), (by repeat first | with_reducible exact Keeps.refl _ | with_reducible refine Keeps.put ?_ (by omega) _ | with_reducible refine Keeps.set ?_ (by omega) _ | with_reducible refine Keeps.keep ?_ | assumption)⟩ ?_
      rintro h5 ⟨r1, r2, r3, r4, r5, r6⟩
      (refine go ?_)
      rw [show List.take 2 (List.drop 1 (encA8 A[i])) = encP A[i].key from rfl, show List.take 3 (List.drop 3 (encA8 A[i])) = encN A[i].n from rfl]
      refine DW.callS rfl (by first | exact True.intro | exact rfl) (vs := [.ptr h.next 0 0, .agg (encP A[i].key), .agg (encN A[i].n), .imm 1 (([] : Bs).map encB), .agg (encS b (t.1, x64 t.2 A[i].by8))]) (by repeat first | exact SubL.nil | refine SubL.cons (SubV.refl _) ?_ | refine SubL.cons SubV.app ?_ | refine SubL.cons SubV.nil ?_) rfl (lock_OpenR_ae r1 A[i].key A[i].n [] b (t.1, x64 t.2 A[i].by8) (by simp) (by omega)) ?_
      (refine go ?_)
      rw [show List.take 2 (List.drop 1 (encA8 A[i])) = encP A[i].key from rfl, show List.take 3 (List.drop 3 (encA8 A[i])) = encN A[i].n from rfl]
      refine DW.callS rfl (by first | exact True.intro | exact rfl) (vs := [.ptr (h.next + 1) 0 0, .agg (encP A[i].key), .agg (encN A[i].n), .imm 1 (([] : Bs).map encB), .agg (encS b (t.1, x64 t.2 A[i].by8))]) (by repeat first | exact SubL.nil | refine SubL.cons (SubV.refl _) ?_ | refine SubL.cons SubV.app ?_ | refine SubL.cons SubV.nil ?_) rfl (ref8_OpenR_ae r2 A[i].key A[i].n [] b (t.1, x64 t.2 A[i].by8) (by simp) (by omega)) ?_
      generalize gcmO A[i].key A[i].n [] b (t.1, x64 t.2 A[i].by8) = oo at *
      (refine go ?_)
      (refine WL.spB rfl (fun hz6 => ?_) (fun hz6 => ?_))
      · exfalso; simp at hz6
      (refine go ?_)
      (refine WW.ifB rfl (fun hz7 => ?_) (fun hz7 => ?_))
      · exfalso; simp at hz7
      (refine go ?_)
      refine ⟨⟨i + 1, b, t⟩, (by repeat first | exact subE.nil _ | (apply subE.cons; focus (first | exact rfl | (simp [lk_cons]; done) | (simp [lk_cons]; omega)))), ⟨gH, gH, gH, (leN gN (by omega)), (by repeat first | with_reducible exact Keeps.refl _ | with_reducible refine Keeps.put ?_ (by omega) _ | with_reducible refine Keeps.set ?_ (by omega) _ | assumption), hi, g7⟩, (by show A.length - (i + 1) < A.length - i; omega)⟩
    · have hc := lock_SumR_ae g1 [A[i].data] (by simp) (by simp; omega)
      rw [show [A[i].data].flatten = A[i].data by simp] at hc
      (refine go ?_)
      refine DW.callS rfl (by first | exact True.intro | exact rfl) (by repeat first | exact SubL.nil | refine SubL.cons (SubV.refl _) ?_ | refine SubL.cons SubV.app ?_ | refine SubL.cons SubV.nil ?_) rfl (hc) ?_
      (refine go ?_)
      refine DW.callS rfl (by first | exact True.intro | exact rfl) (by repeat first | exact SubL.nil | refine SubL.cons (SubV.refl _) ?_ | refine SubL.cons SubV.app ?_ | refine SubL.cons SubV.nil ?_) rfl (ref8_SumR_ae g2 A[i].data (by omega)) ?_
      (refine go ?_)
      (refine WW.ifB rfl (fun hz8 => ?_) (fun hz8 => ?_))
      · exfalso; simp at hz8
      (refine go ?_)
      refine ⟨⟨i + 1, b, t⟩, (by repeat first | exact subE.nil _ | (apply subE.cons; focus (first | exact rfl | (simp [lk_cons]; done) | (simp [lk_cons]; omega)))), ⟨gH, gH, gH, (leN gN (by omega)), (by repeat first | with_reducible exact Keeps.refl _ | with_reducible refine Keeps.put ?_ (by omega) _ | with_reducible refine Keeps.set ?_ (by omega) _ | assumption), hi, g7⟩, (by show A.length - (i + 1) < A.length - i; omega)⟩
  · (refine go ?_)
    refine WL.call rfl (by first | exact True.intro | exact rfl) (by repeat first | exact SubL.nil | refine SubL.cons (SubV.refl _) ?_ | refine SubL.cons SubV.app ?_ | refine SubL.cons SubV.nil ?_) (lock_IssuedR_ae g1) ?_
    (refine go ?_)
    refine WL.call rfl (by first | exact True.intro | exact rfl) (by repeat first | exact SubL.nil | refine SubL.cons (SubV.refl _) ?_ | refine SubL.cons SubV.app ?_ | refine SubL.cons SubV.nil ?_) (ref8_IssuedR_ae g2) ?_
    (refine go ?_)
    refine WL.call rfl (by first | exact True.intro | exact rfl) (by repeat first | exact SubL.nil | refine SubL.cons (SubV.refl _) ?_ | refine SubL.cons SubV.app ?_ | refine SubL.cons SubV.nil ?_) (ref7_Same_ae [] [] (by simp) (by simp) _) ?_
    (refine go ?_)
    refine WL.call rfl (by first | exact True.intro | exact rfl) (by repeat first | exact SubL.nil | refine SubL.cons (SubV.refl _) ?_ | refine SubL.cons SubV.app ?_ | refine SubL.cons SubV.nil ?_) (law8_known_ae _) ?_
    (refine go ?_)
    refine WW.ret (PureQ.finD ?_)
    exact fz_b rfl
end Go.Proofs.Ytlddahcgaonlhaa
