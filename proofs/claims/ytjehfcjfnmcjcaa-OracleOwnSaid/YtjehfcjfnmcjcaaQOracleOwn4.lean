/- What the statement's proof needs, part 4. -/
import Derived.Test.YtjehfcjfnmcjcaaQOracleOwn3
set_option linter.all false
namespace Go.Proofs.Ytjehfcjfnmcjcaa
open Go Go.Abs

section
variable {P : Program} {N j : Nat} {e e' : Env} {h : AHeap} {al ws rs fs : List Nat} {K : Env → AHeap → Prop} {l : List CI} {n : Nat} {W : List Nat} {h0 : AHeap}
/-- In a drawn region: a call that makes one block, under a kept name. -/
theorem DA.callM {d : Option Nat} {f i : Nat} {x : AObj} {xs : List Opd} {g : Option (Nat × Bool)} {vs us : List AV} {r : AV} (hv : evL e xs = some us) (hg : met e g) (hs : SubL us vs) (hi : al.idxOf j = i) (ha : al.contains j = true) (hr : rs.contains j = false) (hf : fs.contains j = false)
    (hac : ∀ h2 : AHeap, ¬ h2.used (n + i) → AE P f vs h2 r (h2.put (n + i) x)) (k : DA P N (PhiW n W h0) n al ws rs fs K (j + 1) l (putR d (some r) e) (h.put (n + i) x)) : DA P N (PhiW n W h0) n al ws rs fs K j (⟨d, .call f xs, g⟩ :: l) e h := by
  subst hi
  exact .fx [.put (n + al.idxOf j) x] (fun hz => by rw [ha] at hz; cases hz) (fun hz => by simp [free0] at hz) (fun _ hz => by rw [ha] at hz; cases hz) (fun _ => ⟨_, rfl, fun h2 hu => FX.call hg hv ((hac h2 hu).sub hs)⟩) (fun hz => by rw [hr] at hz; cases hz)
    (fun hz => by rw [ha] at hz; cases hz) (fun h2 hp => PhiW.put (Nat.le_add_right _ _) hp) (fun hz => by rw [hf] at hz; cases hz) k
/-- One that reads alike, whatever is new. -/
theorem DA.goR {Φ : AHeap → Prop} {n0 : Nat} {c : CI} (hs : ∀ h2, Sim n0 al.length h h2 → Stp c e h2 e' h2) (k : DA P N Φ n0 al ws rs fs K (j + 1) l e' h) (hf : fs.contains j = false := by exact rfl) (ha : al.contains j = false := by exact rfl) : DA P N Φ n0 al ws rs fs K j (c :: l) e h := by
  have key : ∀ h2, Sim n0 al.length h h2 → ∃ r, e' = putR c.d r e ∧ FX P N c e h2 r h2 ∧ (free0 c.i = true → h2 = h2 ∧ ∀ h3, FX P N c e h3 r h3) := fun h2 h3 => FX.of_stp (hs h2 h3)
  obtain ⟨r, he, hx, hz⟩ := key h Sim.refl
  subst he
  refine .fx [] (fun _ => hx) (fun hy => .inr ⟨rfl, (hz hy).2⟩) (fun _ _ => rfl) (fun hy => by rw [ha] at hy; cases hy) (fun _ h2 h3 => ?_) (fun _ => ⟨by simp, fun _ u hu => by simp at hu⟩) (fun _ h2 => h2) (fun hy => by rw [hf] at hy; cases hy) k
  obtain ⟨r2, he2, hx2, _⟩ := key h2 h3
  cases hd : c.d with
  | none =>
    intro ops i o ho hc e3 hs3 m w a KK QQ hr2 he3 hk
    exact hx2 ops i o ho hc e3 hs3 m w a KK QQ hr2 he3 (by rw [hd] at hk ⊢; exact hk)
  | some d =>
    rw [hd] at he2
    simp only [putR, List.cons.injEq, Prod.mk.injEq, true_and, and_true] at he2
    rw [he2]; exact hx2
end
/-- A row that may be written, copied: one that is not written. -/
theorem bytes_CloneI_ae {h : AHeap} {B : Nat} {l : Bs} (hB : h.get B = some (.mem 1 (l.map encB))) (hl : l.length ≤ 1000000) : AE Try.prog 60 [.ref B 0 l.length] h (.imm 1 (l.map encB)) h := by
  refine AE.wf fun hwf => ?_
  have h0 := hwf _ _ hB
  refine AE.pureW is_bytes_Clone (by simp) ?_
  unfold c_bytes_Clone
  (repeat first | refine WW.seq ?_ | refine WW.reg ?_ | refine WL.nil ?_ | refine WW.skip ?_ | refine WW.block ?_ | refine thenN ?_ | refine blkN ?_); iterate 1 (refine WL.go ?_)
  (repeat first | refine WW.seq ?_ | refine WW.reg ?_ | refine WL.nil ?_ | refine WW.skip ?_ | refine WW.block ?_ | refine thenN ?_ | refine blkN ?_); iterate 1 (refine WL.go ?_)
  refine WL.go (hs := Stp.isnil (t := false) rfl rfl (by first | exact True.intro | exact rfl)) ?_
  (repeat first | refine WW.seq ?_ | refine WW.reg ?_ | refine WL.nil ?_ | refine WW.skip ?_ | refine WW.block ?_ | refine thenN ?_ | refine blkN ?_)
  refine WW.condF rfl ?_
  (refine go ?_)
  refine WW.ret (PureQ.finD ?_)
  rw [List.drop_zero, List.take_of_length_le (by simp)]
  exact fz_app rfl (flatB _)
/-- A row, copied: one that may be written. -/
theorem bytes_CloneM_ae {h : AHeap} {nm : Nat} {l : Bs} (hn : ¬ h.used nm) (hne : l ≠ []) (hl : l.length ≤ 1000000) : AE Try.prog 60 [.imm 1 (l.map encB)] h (.ref nm 0 l.length) (h.put nm (.mem 1 (l.map encB))) := by
  refine AC.introW is_bytes_Clone (by simp) ?_
  unfold c_bytes_Clone
  (repeat first | refine WW.seq ?_ | refine WW.reg ?_ | refine WL.nil ?_ | refine WW.skip ?_ | refine WW.block ?_ | refine thenN ?_ | refine blkN ?_); iterate 1 (refine WL.go ?_)
  (repeat first | refine WW.seq ?_ | refine WW.reg ?_ | refine WL.nil ?_ | refine WW.skip ?_ | refine WW.block ?_ | refine thenN ?_ | refine blkN ?_); iterate 1 (refine WL.go ?_)
  refine WL.fq1 (FQ.isnil rfl (by first | exact True.intro | exact rfl)) ?_
  rintro _ h2 ⟨b, rfl, e2, hb⟩
  subst e2
  (repeat first | refine WW.seq ?_ | refine WW.reg ?_ | refine WL.nil ?_ | refine WW.skip ?_ | refine WW.block ?_ | refine thenN ?_ | refine blkN ?_)
  (refine WW.ifB rfl (fun hz1 => ?_) (fun hz1 => ?_))
  · exfalso
    have : l.map encB = [] := hb hz1
    exact hne (by simpa using this)
  (repeat first | refine WW.seq ?_ | refine WW.reg ?_ | refine WL.nil ?_ | refine WW.skip ?_ | refine WW.block ?_ | refine thenN ?_ | refine blkN ?_)
  (repeat first | refine WW.seq ?_ | refine WW.reg ?_ | refine WL.nil ?_ | refine WW.skip ?_ | refine WW.block ?_ | refine thenN ?_ | refine blkN ?_); iterate 2 (refine WL.go ?_)
  refine WL.fx1 (FX.appM (nm := nm) (c := l.map encB) hn rfl rfl rfl (by simpa using hne) (by simp; omega) (by first | exact True.intro | exact rfl)) ?_
  rw [List.length_map]
  (refine go ?_)
  exact WW.ret ⟨.inl rfl, _, gRES, rfl, rfl⟩
set_option maxHeartbeats 4000000 in
theorem oracle_SealM_ae {h : AHeap} {o t s g B : Nat} {L : List Iss} {S : List Bs} (hO : OrAt h o t s g L S) (hL : L.length ≤ 1000000) (k : Pr) (n : Nn) (head data : Bs) (hh : head.length ≤ 4000) (hd : data.length ≤ 4000) (hB : h.get B = some (.mem 1 (data.map encB))) :
    AE Try.prog 15 [.ptr o 0 0, .agg (encP k), .agg (encN n), .imm 1 (head.map encB), .ref B 0 data.length] h
      (.tup [.agg (encS (newI (L.length + 1) k n head data).out (newI (L.length + 1) k n head data).tag), .bool true])
      ((h.set t (some (.tail g (L.length + 1)))).set o (some (.mem 2 [[.app t g 10 ((L ++ [newI (L.length + 1) k n head data]).map encI), .map s]]))) := by
  obtain ⟨q1, q2, q3⟩ := hO
  refine AE.wf fun hwf => ?_
  have ho := hwf _ _ q1
  have ht := hwf _ _ q2
  have hb := hwf _ _ hB
  have hne : o ≠ t := fun e => by subst e; rw [q1] at q2; cases q2
  have hne2 : B ≠ t := fun e => by subst e; rw [hB] at q2; cases q2
  have hne3 : B ≠ o := fun e => by subst e; rw [hB] at q1; simp at q1
  refine AE.effW is_oracle_Oracle_Seal (by simp) ?_ ?_
  · refine Ext.set (Ext.set (x := .tail _ _) Ext.refl (Nm.old q2) trivial) (Nm.old q1) ?_
    intro x hx v hv
    simp only [List.mem_singleton] at hx
    subst hx
    simp only [List.mem_cons, List.not_mem_nil, or_false] at hv
    rcases hv with rfl | rfl
    · exact .app _ _ _ _ (Nm.old q2) fun x hx v hv => by
        obtain ⟨i, _, rfl⟩ := List.mem_map.1 hx
        exact clo_encI i v hv
    · exact .map _ (Nm.old q3)
  unfold c_oracle_Oracle_Seal
  (refine go ?_)
  (apply WL.orB; exact rfl; exact rfl; exact rfl; exact BP.of; intro hz1)
  · (repeat first | (apply GW.goS; exact Stp.auto) | apply GW.nil | exact rfl)
  (refine go ?_)
  (refine WW.ifB rfl (fun hz2 => ?_) (fun hz2 => ?_))
  · simp at hz2; omega
  (refine go ?_)
  refine WL.call rfl (by first | exact True.intro | exact rfl) gSL (wire_Put_ae (L.length + 1 : Nat) 8 _ (by decide)) ?_
  (refine go ?_)
  refine WL.call rfl (by first | exact True.intro | exact rfl) gSL (bytes_Repeat_ae (putB (L.length + 1 : Nat) 8) (data.length / 8 + 1) (by rw [putB_len]; decide) (by omega) (by rw [putB_len]; omega) _) ?_
  rw [putB_len]
  (refine go ?_)
  refine WL.auto (Stp.slcI (j := data.length) rfl (by first | exact bnd_none | exact bnd_some rfl rfl | exact bnd_some rfl (Int.toNat_of_nonneg (by omega)).symm) (by first | exact bnd_none | exact bnd_some rfl rfl | exact bnd_some rfl (Int.toNat_of_nonneg (by omega)).symm) (Nat.zero_le _) (by simp only [List.length_map, rep_len]; omega) (by first | exact True.intro | exact rfl)) ?_
  rw [List.drop_zero, ← List.map_take, rep_take _ (by omega)]
  (refine go ?_)
  refine WW.dregX [11, 12] [0, 1, 3, 5] [] gN (by decide +kernel) ?_
  (refine go ?_)
  refine DW.callSF (by repeat first | exact PhiW.refl | refine PhiW.put (by omega) ?_ | refine PhiW.setW (by simp) ?_ | refine PhiW.setN (by omega) ?_) rfl (by first | exact True.intro | exact rfl) gSL (fun h2 hp2 => bytes_Clone_ae head (by omega) h2) ?_
  (refine go ?_)
  refine DW.callSF (by repeat first | exact PhiW.refl | refine PhiW.put (by omega) ?_ | refine PhiW.setW (by simp) ?_ | refine PhiW.setN (by omega) ?_) rfl (by first | exact True.intro | exact rfl) gSL (fun h2 hp2 => bytes_CloneI_ae ((hp2 _ (by omega) (by simp)).trans gH) (by omega)) ?_
  (refine go ?_)
  refine WL.call rfl (by first | exact True.intro | exact rfl) gSL (oracle_told_ae (newI (L.length + 1) k n head data) ⟨by simp only [newI]; omega, by simp only [newI]; omega, by simp only [newI, sealB, rep_len]; omega⟩ _) ?_
  (refine go ?_)
  refine WW.ret (EffQ.finD ?_ ?_)
  · refine ⟨gLE, fun id hu => ?_⟩; have hlt : id < AHeap.next h := hu.1; simp only [get_put, get_set]; (repeat' split) <;> first | rfl | omega | (simp [encI, newI, sealB, ones]; done)
  · refine .clo _ (.tup _ fun v hv => ?_)
    simp only [List.mem_cons, List.not_mem_nil, or_false] at hv
    rcases hv with rfl | rfl
    · exact .agg _ (clo_encS _ _)
    · exact .bool _
/-- What is remembered, told with rows that may be written. -/
def encIR (x : Iss) (d b : Nat) : List AV := [.int .u64 x.key.1, .int .u64 x.key.2, .int .u32 x.n.1, .int .u32 x.n.2.1, .int .u64 x.n.2.2, .imm 1 (x.head.map encB), .ref d 0 x.data.length, .ref b 0 x.out.length, .int .u64 x.tag.1, .int .u64 x.tag.2]
set_option maxHeartbeats 4000000 in
theorem oracle_toldM_ac (x : Iss) (hx : x.head.length ≤ 1000000 ∧ x.data.length ≤ 1000000 ∧ x.out.length ≤ 1000000) (hd : x.data ≠ []) (ho : x.out ≠ []) (h : AHeap) : AC Try.prog 61 [.agg (encI x)] h (fun r h' => ∃ d b, r = .agg (encIR x d b) ∧ h'.get d = some (.mem 1 (x.data.map encB)) ∧ h'.get b = some (.mem 1 (x.out.map encB)) ∧ d ≠ b ∧ h.next ≤ d ∧ h.next ≤ b ∧ d < h'.next ∧ b < h'.next ∧ (∀ h0 : AHeap, Keeps h0 h → Keeps h0 h') ∧ ∀ id, id < h.next → h'.get id = h.get id) := by
  refine AC.introW is_oracle_told (by simp) ?_
  unfold c_oracle_told
  (repeat first | refine WL.go ?_ | refine WW.seq ?_ | refine WW.reg ?_ | refine WL.nil ?_ | refine WW.skip ?_ | refine WW.block ?_ | refine WW.exit ?_ | refine WW.condT rfl ?_ | refine WW.condF rfl ?_ | refine WL.gox ?_ | refine thenN ?_ | refine blkN ?_)
  refine WW.dregA [5, 9] [11, 13, 16] [8] [] [h.next] gN (by decide +kernel) ?_
  (repeat first | refine DA.go ?_ | refine DA.goF ?_ | refine DA.new ?_ | refine DA.set ?_ | refine DA.endL ?_ | refine thenN ?_ | refine blkN ?_)
  refine DA.callS rfl (by first | exact True.intro | exact rfl) gSL rfl rfl rfl (bytes_Clone_ae x.head hx.1 _) ?_
  (repeat first | refine DA.go ?_ | refine DA.goF ?_ | refine DA.new ?_ | refine DA.set ?_ | refine DA.endL ?_ | refine thenN ?_ | refine blkN ?_)
  refine DA.callM rfl (by first | exact True.intro | exact rfl) gSL (i := 0) rfl rfl rfl rfl (fun h2 hu => bytes_CloneM_ae hu hd hx.2.1) ?_
  (repeat first | refine DA.go ?_ | refine DA.goF ?_ | refine DA.new ?_ | refine DA.set ?_ | refine DA.endL ?_ | refine thenN ?_ | refine blkN ?_)
  refine DA.goR (fun h2 h3 => by apply Stp.load1; exact rfl; exact (h3.2 _ (by simp; omega)).trans gH; exact (by first | exact getC_at rfl rfl | exact getC_all rfl | exact getC_sub (Nat.le_of_ble_eq_true rfl) (by first | (simp only [putC, AV.cs, encP, encN, encI, encS, encA, List.take_succ_cons, List.take_zero, List.take_nil, List.drop_succ_cons, List.drop_zero, List.drop_nil, List.cons_append, List.nil_append, List.append_nil, List.length_cons, List.length_nil, Nat.zero_add, Nat.add_zero, Nat.reduceAdd]; exact rfl) | exact rfl) | exact getC_sub (by simp) (by first | (simp only [putC, AV.cs, encP, encN, encI, encS, encA, List.take_succ_cons, List.take_zero, List.take_nil, List.drop_succ_cons, List.drop_zero, List.drop_nil, List.cons_append, List.nil_append, List.append_nil, List.length_cons, List.length_nil, Nat.zero_add, Nat.add_zero, Nat.reduceAdd]; exact rfl) | exact rfl)); exact (by first | exact True.intro | exact rfl)) ?_
  (repeat first | refine DA.go ?_ | refine DA.goF ?_ | refine DA.new ?_ | refine DA.set ?_ | refine DA.endL ?_ | refine thenN ?_ | refine blkN ?_)
  refine DA.callM rfl (by first | exact True.intro | exact rfl) gSL (i := 1) rfl rfl rfl rfl (fun h2 hu => bytes_CloneM_ae hu ho hx.2.2) ?_
  (repeat first | refine DA.go ?_ | refine DA.goF ?_ | refine DA.new ?_ | refine DA.set ?_ | refine DA.endL ?_ | refine thenN ?_ | refine blkN ?_)
  (refine go ?_)
  refine WW.ret ⟨.inl rfl, _, gRES, _, _, rfl, gH, gH, by omega, by omega, by omega, ltN (n := h.next + 4) ?_ (by omega), ltN (n := h.next + 4) ?_ (by omega), fun h0 k0 => by have := k0.1; exact gK, fun id hi => gE⟩
  all_goals
    repeat first | with_reducible refine next_setE ?_ | with_reducible refine next_putK (by omega) ?_
    exact next_keepE (n := h.next + 2) (k := 2) gN
theorem oracle_IssuedM_ac {h : AHeap} {o t s g : Nat} {x : Iss} {S : List Bs} (hO : OrAt h o t s g [x] S) (hx : x.head.length ≤ 1000000 ∧ x.data.length ≤ 1000000 ∧ x.out.length ≤ 1000000) (hd : x.data ≠ []) (ho : x.out ≠ []) : AC Try.prog 16 [.ptr o 0 0] h (fun r h' => ∃ d b, r = .imm 10 [encIR x d b] ∧ h'.get d = some (.mem 1 (x.data.map encB)) ∧ h'.get b = some (.mem 1 (x.out.map encB)) ∧ d ≠ b ∧ h.next ≤ d ∧ h.next ≤ b ∧ d < h'.next ∧ b < h'.next ∧ (∀ h0 : AHeap, Keeps h0 h → Keeps h0 h') ∧ ∀ id, id < h.next → h'.get id = h.get id) := by
  obtain ⟨q1, q2, q3⟩ := hO
  refine AC.introW is_oracle_Oracle_Issued (by simp) ?_
  unfold c_oracle_Oracle_Issued
  (refine go ?_)
  refine WW.loopE (fun (i : Option (Nat × Nat)) => [(3, some (match i with | none => .nils | some (d, b) => .imm 10 [encIR x d b])), (11, some (.app t g 10 [encI x])), (12, some (.int .i64 1)), (13, some (.int .i64 (if i.isSome then 1 else 0)))])
    (fun i h' => (∀ h0 : AHeap, Keeps h0 h → Keeps h0 h') ∧ (∀ id, id < h.next → h'.get id = h.get id) ∧ h.next ≤ h'.next ∧ ∀ d b, i = some (d, b) → h'.get d = some (.mem 1 (x.data.map encB)) ∧ h'.get b = some (.mem 1 (x.out.map encB)) ∧ d ≠ b ∧ h.next ≤ d ∧ h.next ≤ b ∧ d < h'.next ∧ b < h'.next) (fun i => if i.isSome then 0 else 1) none gSUB ⟨fun _ k => k, fun _ _ => rfl, Nat.le_refl _, nofun⟩ ?_
  rintro i h' ⟨k1, kq, k2, k3⟩
  cases i with
  | none =>
    (refine go ?_)
    refine WL.callA rfl (by first | exact True.intro | exact rfl) gSL (oracle_toldM_ac x hx hd ho _) ?_
    rintro _ h2 ⟨d, b, rfl, g1, g2, g3, g4, g5, g6, g7, g8, gq⟩
    have e1 : (h'.put h'.next (.mem 10 [encI x])).next = h'.next + 1 := gN
    have g9 : ∀ h0 : AHeap, Keeps h0 h → Keeps h0 h2 := fun h0 k0 => g8 h0 (by have k4 := k1 h0 k0; have := k4.1; exact gK)
    (repeat first | refine WW.seq ?_ | refine WW.reg ?_ | refine WL.nil ?_ | refine WW.skip ?_ | refine WW.block ?_ | refine thenN ?_ | refine blkN ?_); iterate 1 (refine WL.go ?_)
    refine WL.fx1 (FX.appI rfl rfl rfl (by simp) (by first | exact True.intro | exact rfl)) ?_
    (refine go ?_)
    have k4 := (g9 h (Keeps.refl _)).1
    refine ⟨some (d, b), gSUB, ⟨g9, fun id hi => (gq id (Nat.lt_of_lt_of_le (Nat.lt_of_lt_of_le hi k2) gLE)).trans ((show _ = h'.get id from gE).trans (kq id hi)), k4, fun d b hdb => ?_⟩, by simp⟩
    cases hdb
    have f4 : h'.next ≤ d := Nat.le_trans gLE g4
    have f5 : h'.next ≤ b := Nat.le_trans gLE g5
    exact ⟨g1, g2, g3, by omega, by omega, g6, g7⟩
  | some p =>
    obtain ⟨d, b⟩ := p
    obtain ⟨g1, g2, g3, g4, g5, g6, g7⟩ := k3 d b rfl
    (refine go ?_)
    exact WW.ret ⟨.inl rfl, _, gRES, d, b, rfl, g1, g2, g3, g4, g5, g6, g7, k1, kq⟩
end Go.Proofs.Ytjehfcjfnmcjcaa


namespace Go.Proofs.Ytjehfcjfnmcjcaa
open Go Go.Abs

theorem oracle_SealN_ae (k : Pr) (n : Nn) (a b : AV) (h : AHeap) : AE Try.prog 15 [.nilp, .agg (encP k), .agg (encN n), a, b] h (.tup [.agg [.nils, .int .u64 0, .int .u64 0], .bool false]) h := by
  refine AE.pureW is_oracle_Oracle_Seal (by simp) ?_
  unfold c_oracle_Oracle_Seal
  (refine go ?_)
  refine WW.ret (PureQ.finD ?_)
  exact Fz.tup2 (.clo _ (.agg _ fun v hv => by
    simp only [List.mem_cons, List.not_mem_nil, or_false] at hv
    rcases hv with rfl | rfl | rfl
    · exact .nils
    · exact .int _ _
    · exact .int _ _)) (fz_b rfl)
theorem oracle_OpenN_ae (k : Pr) (n : Nn) (a b : AV) (t : Pr) (h : AHeap) : AE Try.prog 17 [.nilp, .agg (encP k), .agg (encN n), a, .agg [b, .int .u64 t.1, .int .u64 t.2]] h (.tup [.imm 1 [], .bool false]) h := by
  refine AE.pureW is_oracle_Oracle_Open (by simp) ?_
  unfold c_oracle_Oracle_Open
  (refine go ?_)
  refine WW.ret (PureQ.finD ?_)
  exact Fz.tup2 (.nil _) (fz_b rfl)
theorem oracle_SumN_ae (a : AV) (h : AHeap) : AE Try.prog 18 [.nilp, a] h (.agg (encP (0, 0))) h := by
  refine AE.pureW is_oracle_Oracle_Sum (by simp) ?_
  unfold c_oracle_Oracle_Sum
  (refine go ?_)
  refine WW.ret (PureQ.finD ?_)
  exact fz_agg rfl (flatP (0, 0))
set_option maxHeartbeats 4000000 in
theorem law7_OracleOwn_ae (a : Bs) (h : AHeap) : AE Try.prog 3 [.imm 1 (a.map encB)] h (.bool true) h := by
  refine AE.pureW is_law7_OracleOwn (by simp) ?_
  unfold c_law7_OracleOwn
  (refine go ?_)
  (apply WL.orB; exact rfl; exact rfl; exact rfl; exact BP.of; intro hz1)
  · (repeat first | (apply GW.goS; exact Stp.auto) | apply GW.nil | exact rfl)
  (refine go ?_)
  (refine WW.ifB rfl (fun hz2 => ?_) (fun hz2 => ?_))
  · (refine go ?_)
    refine WW.ret (PureQ.finD ?_)
    exact fz_b rfl
  have ha : 1 ≤ a.length ∧ a.length ≤ 100 := by simp at hz2; omega
  (refine go ?_)
  refine WL.call rfl (by first | exact True.intro | exact rfl) gSL (oracle_New_ae _) ?_
  obtain ⟨h1, e1, o1, n1, m1, k1⟩ := newO_ex h
  replace n1 := n1 _ rfl
  replace k1 := k1 h (Keeps.refl _)
  rw [e1]
  have hne : a ≠ [] := by intro e; subst e; simp at ha
  (repeat first | refine WW.seq ?_ | refine WW.reg ?_ | refine WL.nil ?_ | refine WW.skip ?_ | refine WW.block ?_ | refine thenN ?_ | refine blkN ?_); iterate 1 (refine WL.go ?_)
  (repeat first | refine WW.seq ?_ | refine WW.reg ?_ | refine WL.nil ?_ | refine WW.skip ?_ | refine WW.block ?_ | refine thenN ?_ | refine blkN ?_); iterate 2 (refine WL.go ?_)
  (repeat first | refine WW.seq ?_ | refine WW.reg ?_ | refine WL.nil ?_ | refine WW.skip ?_ | refine WW.block ?_ | refine thenN ?_ | refine blkN ?_)
  refine WW.condF rfl ?_
  (repeat first | refine WW.seq ?_ | refine WW.reg ?_ | refine WL.nil ?_ | refine WW.skip ?_ | refine WW.block ?_ | refine thenN ?_ | refine blkN ?_); iterate 2 (refine WL.go ?_)
  refine WL.fx1 (FX.appM (nm := h.next + 3) (c := a.map encB) (fun hu => by have := hu.1; omega) rfl rfl rfl (by simpa using hne) (by simp; omega) (by first | exact True.intro | exact rfl)) ?_
  rw [List.length_map]
  (refine go ?_)
  have o2 : OrAt (h1.put (h.next + 3) (.mem 1 (a.map encB))) (h.next + 1) (h.next + 2) h.next 0 [] [] := (orAt_get o1 gE gE gE)
  refine WL.call rfl (by first | exact True.intro | exact rfl) gSL (oracle_SealM_ae o2 (by simp) (0, 0) (0, 0, 0) [] a (by simp) (by omega) gH) ?_
  obtain ⟨h3, e3, o3, n3, m3, k3⟩ := sealed o2 (0, 0) (0, 0, 0) [] a
  replace n3 := n3 (h.next + 4) gN
  replace k3 := k3 h gK (by omega) (by omega)
  have g3 : h3.get (h.next + 3) = some (.mem 1 (a.map encB)) := (m3 _ (by omega) (by omega)).trans gH
  rw [e3]
  clear e1 e3 m1 m3
  obtain ⟨x, a', rfl⟩ : ∃ x a', a = x :: a' := by
    cases a with
    | nil => exact absurd rfl hne
    | cons x a' => exact ⟨x, a', rfl⟩
  have ex : ∀ (c : Bs) (y : UInt8), (y :: c).map encB = [.int .u8 (y.toNat : Int)] :: c.map encB := fun _ _ => rfl
  rw [ex] at g3
  (refine go ?_)
  have o4 : OrAt h3 (h.next + 1) (h.next + 2) h.next 0 [newI 1 (0, 0) (0, 0, 0) [] (x :: a')] [] := o3
  have eX : (newI 1 (0, 0) (0, 0, 0) [] (x :: a')).data = x :: a' ∧ (newI 1 (0, 0) (0, 0, 0) [] (x :: a')).out.length = (x :: a').length ∧ (newI 1 (0, 0) (0, 0, 0) [] (x :: a')).head = [] := ⟨rfl, by simp only [newI, sealB, rep_len], rfl⟩
  have eO : ∀ X : Iss, X = newI 1 (0, 0) (0, 0, 0) [] (x :: a') → openO [X] (0, 0) (0, 0, 0) [] X.out X.tag = some X.data := fun X hX => by
    subst hX
    simp [openO, isI, newI]
  refine WL.named (fun h4 => OrAt h4 (h.next + 1) (h.next + 2) h.next 0 [newI 1 (0, 0) (0, 0, 0) [] (x :: a')] [] ∧ h4.get (h.next + 4) = some (.mem 3 [encS (newI 1 (0, 0) (0, 0, 0) [] (x :: a')).out (newI 1 (0, 0) (0, 0, 0) [] (x :: a')).tag]) ∧ h4.next = h.next + 5 ∧ Keeps h h4) ⟨(orAt_get o4 gE gE gE), gH, gN, gK⟩ ?_
  replace eO := eO _ rfl
  generalize newI 1 (0, 0) (0, 0, 0) [] (x :: a') = X at *
  obtain ⟨eX1, eX2, eX3⟩ := eX
  clear o3 o4 g3 n3 k3 n1 k1 o1 o2
  rintro h4 ⟨o4, t4, n4, k4⟩
  have hX1 : X.data ≠ [] := by rw [eX1]; simp
  have hX2 : X.out ≠ [] := by intro e; rw [e] at eX2; simp at eX2
  refine WL.callA rfl (by first | exact True.intro | exact rfl) gSL (oracle_IssuedM_ac o4 ⟨by rw [eX3]; simp, by rw [eX1]; omega, by rw [eX2]; omega⟩ hX1 hX2) ?_
  rintro _ h5 ⟨d, b, rfl, g1, g2, g3, g4, g5, g6, g7, g8, gq⟩
  rw [n4] at g4 g5 gq
  replace k4 := g8 h k4
  have o5 : OrAt h5 (h.next + 1) (h.next + 2) h.next 0 [X] [] := orAt_get o4 (gq _ (by omega)) (gq _ (by omega)) (gq _ (by omega))
  have t5 := (gq (h.next + 4) (by omega)).trans t4
  clear g8 gq o4 t4 n4
  have r1 : rdS h5.get 1 (.ref d 0 X.data.length) = some (X.data.map encB) := by
    rw [rdS_ref g1, List.drop_zero, List.take_of_length_le (by simp)]
  (refine go ?_)
  refine DW.go ?_ (hs := Stp.b2s rfl r1 toB_map (by first | exact True.intro | exact rfl))
  rw [eX1] at g1 ⊢
  (refine go ?_)
  (refine DW.spB rfl (fun hz3 => ?_) (fun hz3 => ?_))
  · simp at hz3
  (refine go ?_)
  (refine WW.ifB rfl (fun hz4 => ?_) (fun hz4 => ?_))
  · rw [eX2] at hz4
    simp at hz4
  obtain ⟨z, o', hz⟩ : ∃ z o', X.out = z :: o' := by
    cases ho : X.out with
    | nil => exact absurd ho hX2
    | cons z o' => exact ⟨z, o', rfl⟩
  have g2' := g2
  rw [hz] at g2'
  rw [ex] at g1 g2'
  have hl1 : 0 < X.data.length := by rw [eX1]; simp
  have hl2 : 0 < X.out.length := by rw [hz]; simp
  (refine go ?_)
  refine WL.call rfl (by first | exact True.intro | exact rfl) gSL (oracle_Open_ae (orAt_get o5 gE gE gE) (by simp) (fun y hy => by simp only [List.mem_singleton] at hy; subst hy; rw [eX1]; omega) (0, 0) (0, 0, 0) [] X.out X.tag) ?_
  rw [eO]
  simp only [Option.getD_some, Option.isSome_some]
  rw [eX1]
  (refine go ?_)
  refine WL.call rfl (by first | exact True.intro | exact rfl) gSL (oracle_SealN_ae (0, 0) (0, 0, 0) _ _ _) ?_
  (refine go ?_)
  refine WL.call rfl (by first | exact True.intro | exact rfl) gSL (oracle_OpenN_ae (0, 0) (0, 0, 0) _ _ X.tag _) ?_
  (refine go ?_)
  refine WL.spB rfl (fun hz5 => ?_) (fun hz5 => ?_)
  rotate_left
  · simp at hz5
  (refine go ?_)
  refine WL.call rfl (by first | exact True.intro | exact rfl) gSL (oracle_SumN_ae _ _) ?_
  (refine go ?_)
  refine WL.call rfl (by first | exact True.intro | exact rfl) gSL (oracle_IssuedN_ae _) ?_
  (refine go ?_)
  refine WL.call rfl (by first | exact True.intro | exact rfl) gSL (oracle_TwiceN_ae _) ?_
  (refine go ?_)
  refine WL.call rfl (by first | exact True.intro | exact rfl) gSL (law7_known_ae _) ?_
  (refine go ?_)
  refine WW.ret (PureQ.finD ?_)
  exact fz_b rfl
theorem top_OracleOwn (c0 : List AV) (t0 : TypL [.sl [.i .u8]] c0) : AE Try.prog 3 [c0.headD .nilp] noHeap (.bool true) noHeap := by
  obtain ⟨a, rfl⟩ := bytes_of t0
  exact law7_OracleOwn_ae a noHeap
end Go.Proofs.Ytjehfcjfnmcjcaa


