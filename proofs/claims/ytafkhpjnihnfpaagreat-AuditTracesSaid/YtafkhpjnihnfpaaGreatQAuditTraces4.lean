/- What the statement's proof needs, part 4. -/
import Derived.Test.YtafkhpjnihnfpaaGreatQAuditTraces3
set_option linter.all false
namespace Go.Proofs.YtafkhpjnihnfpaaGreat
open Go Go.Abs

/-- A function that has a body. -/
structure Bodied (f : Nat) : Prop where
  ok : bodied Tryz.prog f = true
/-- What waits is laid, as far as K says. -/
def settleF (K : Nat → Bool) : Nat → List Wr → Bs → Bs
  | _, [], b => b
  | i, x :: r, b => settleF K (i + 1) r (if K i then layO b x else b)
theorem settle_len (K : Nat → Bool) (n : Nat) : ∀ (l : List Wr) (i : Nat) (b : Bs), (∀ x ∈ l, 0 ≤ x.1 ∧ x.1 + x.2.length ≤ n) → b.length = n → (settleF K i l b).length = n
  | [], _, _, _, hb => hb
  | x :: r, i, b, hw, hb => by
    rw [settleF]
    refine settle_len K n r (i + 1) _ (fun y hy => hw y (by simp [hy])) ?_
    split
    · rw [layO_len _ _ (by have := hw x (by simp); omega), hb]
    · exact hb
def SdS.settle (x : SdS) (K : Nat → Bool) : SdS := { x with lasts := settleF K 0 x.waits x.lasts, waits := [], gen := x.gen + 1 }
/-- A barrier, if there is power: all that waits lasts. -/
def SdS.barrier (x : SdS) (ok : Bool) : SdS := if ok then { x.settle (fun _ => true) with trace := x.trace ++ [(-1, [])] } else x
theorem lay_len : ∀ (l : List Wr) (b : Bs) (n : Nat), b.length = n → (∀ o ∈ l, 0 ≤ o.1 ∧ o.1 + o.2.length ≤ n) → (l.foldl layO b).length = n
  | [], _, _, hb, _ => hb
  | o :: l, b, n, hb, hw => by
    rw [List.foldl_cons]
    exact lay_len l _ n (by rw [layO_len _ _ (by have := hw o (by simp); omega), hb]) fun y hy => hw y (by simp [hy])
theorem snap_len {x : SdS} (hw : ∀ o ∈ x.waits, 0 ≤ o.1 ∧ o.1 + o.2.length ≤ x.lasts.length) : x.snap.length = x.lasts.length := lay_len _ _ _ rfl hw
def sd0 (k : Nat) : SdS := ⟨List.replicate k 0, [], [], 0⟩
def sdNew (p nx k : Nat) (h : AHeap) : AHeap := (((h.put nx (.mem 1 ((sd0 k).lasts.map encB))).put (nx + 1) ((sd0 k).obj ⟨p, nx + 1, nx, nx + 2, nx + 3⟩)).put (nx + 2) (.tail 0 0)).put (nx + 3) (.tail 0 0)
theorem ssd_New_ae {h : AHeap} {p nx : Nat} (hn : h.next = nx) (hp : p < nx) (k : Nat) (hk : k ≤ 65536) : AE Tryz.prog 43 [.int .i64 k, .ptr p 0 0] h (.ptr (nx + 1) 0 0) (sdNew p nx k h) := by
  subst hn
  refine AC.introW is_ssd_New (by simp) ?_
  unfold c_ssd_New
  (refine go ?_)
  (refine WW.ifB rfl (fun hz1 => ?_) (fun hz1 => ?_))
  · exfalso; omega
  (repeat first | refine WW.seq ?_ | refine WW.reg ?_ | refine WL.nil ?_ | refine WW.skip ?_ | refine WW.block ?_ | refine thenN ?_ | refine blkN ?_)
  (repeat first | refine WW.seq ?_ | refine WW.reg ?_ | refine WL.nil ?_ | refine WW.skip ?_ | refine WW.block ?_ | refine thenN ?_ | refine blkN ?_); iterate 2 (refine WL.go ?_)
  (repeat first | refine WW.seq ?_ | refine WW.reg ?_ | refine WL.nil ?_ | refine WW.skip ?_ | refine WW.block ?_ | refine thenN ?_ | refine blkN ?_); iterate 4 (refine WL.go ?_)
  have hz : List.replicate k [AV.int .u8 0] = (sd0 k).lasts.map encB := by show _ = (List.replicate k (0 : UInt8)).map encB; rw [List.map_replicate]; rfl
  rw [hz]
  refine WL.cvt (Cvt.adoptM 2 (id := h.next + 1) (i := 0) (j := 2) gH rfl rfl gN) ?_
  refine WL.cvt (Cvt.adoptM 2 (id := h.next + 1) (i := 0) (j := 3) gH rfl rfl gN) ?_
  (refine go ?_)
  refine WW.ret ⟨.inl rfl, _, gRES, rfl, hp_ext' (fun i => ?_) ?_ fun i => rfl⟩
  · have ho : (sd0 k).obj ⟨p, h.next + 1, h.next, h.next + 2, h.next + 3⟩ = .mem 4 [[.ptr p 0 0, .ref h.next 0 k, .app (h.next + 2) 0 2 [], .app (h.next + 3) 0 2 []]] := by simp [SdS.obj, sd0]
    unfold sdNew
    rw [ho]
    simp only [get_put, get_set]
    (repeat' split) <;> first | rfl | omega
  · unfold sdNew; exact (gN : _ = h.next + 1 + 1 + 1 + 1).trans (gN : _ = h.next + 1 + 1 + 1 + 1).symm
end Go.Proofs.YtafkhpjnihnfpaaGreat


namespace Go.Proofs.YtafkhpjnihnfpaaGreat
open Go Go.Abs

/-- A real lock's cells. -/
def reC : List AV := [.func (.func 67) [] [], .func (.func 68) [] [], .func (.func 69) [] [], .func (.func 70) [.nilp] [], .func (.func 71) [.nilp] []]
theorem lock_Real_ae {h : AHeap} {nx : Nat} (hn : h.next = nx) : AE Tryz.prog 41 [] h (.ptr nx 0 0) (h.put nx (.mem 5 [reC])) := by
  subst hn
  refine AC.introW is_lock_Real (by simp) ?_
  unfold c_lock_Real
  (refine go ?_)
  exact WW.ret ⟨.inl rfl, _, gRES, rfl, rfl⟩
end Go.Proofs.YtafkhpjnihnfpaaGreat


namespace Go.Proofs.YtafkhpjnihnfpaaGreat
open Go Go.Abs

theorem oracle_IssuedN_ae (h : AHeap) : AE Tryz.prog 70 [.nilp] h (.imm 10 []) h := by
  refine AE.pureW is_oracle_Oracle_Issued (by simp) ?_
  unfold c_oracle_Oracle_Issued
  (refine go ?_)
  refine WW.ret (PureQ.finD ?_)
  exact .nil _
theorem lock_IssuedR_ae {h : AHeap} {l : Nat} (hl : h.get l = some (.mem 5 [reC])) : AE Tryz.prog 34 [.ptr l 0 0] h (.imm 10 []) h := by
  refine AE.pureW is_lock_Lock_Issued (by simp) ?_
  unfold c_lock_Lock_Issued
  simp only [reC] at hl
  (refine go ?_)
  refine WL.fx1 (FX.callv rfl rfl (by first | exact True.intro | exact rfl) (by kernel_rfl) (oracle_IssuedN_ae _)) ?_
  (refine go ?_)
  refine WW.ret (PureQ.finD ?_)
  exact fz_imm rfl (by simp [flatC])
theorem lock_TwiceI_ae {h : AHeap} {l o t s g : Nat} {L : List Iss} {S : List Bs} (hl : IdAt h l o t s g L S) (hL : L.length ≤ 1000000) : AE Tryz.prog 36 [.ptr l 0 0] h (.bool (dupB (L.map kn))) h := by
  obtain ⟨q0, hO⟩ := hl
  refine AE.pureW is_lock_Lock_Twice (by simp) ?_
  unfold c_lock_Lock_Twice
  simp only [idC] at q0
  (refine go ?_)
  refine WL.fx1 (FX.callv rfl rfl (by first | exact True.intro | exact rfl) (by kernel_rfl) (oracle_Twice_ae hO hL)) ?_
  (refine go ?_)
  refine WW.ret (PureQ.finD ?_)
  exact fz_b rfl
end Go.Proofs.YtafkhpjnihnfpaaGreat


namespace Go.Proofs.YtafkhpjnihnfpaaGreat
open Go Go.Abs

theorem lock_IssuedI_ae {h : AHeap} {l o t s g : Nat} {L : List Iss} {S : List Bs} (hl : IdAt h l o t s g L S) (hL : L.length ≤ 1000000) (hx : ∀ x ∈ L, x.head.length ≤ 1000000 ∧ x.data.length ≤ 1000000 ∧ x.out.length ≤ 1000000) :
    AE Tryz.prog 34 [.ptr l 0 0] h (.imm 10 (L.map encI)) h := by
  obtain ⟨q0, hO⟩ := hl
  refine AE.pureW is_lock_Lock_Issued (by simp) ?_
  unfold c_lock_Lock_Issued
  simp only [idC] at q0
  (refine go ?_)
  refine WL.fx1 (FX.callv rfl rfl (by first | exact True.intro | exact rfl) (by kernel_rfl) (oracle_Issued_ae hO hL hx)) ?_
  (refine go ?_)
  refine WW.ret (PureQ.finD ?_)
  exact .clo _ (.imm _ _ fun x hx v hv => by
    obtain ⟨i, _, rfl⟩ := List.mem_map.1 hx
    exact clo_encI i v hv)
end Go.Proofs.YtafkhpjnihnfpaaGreat


namespace Go.Proofs.YtafkhpjnihnfpaaGreat
open Go Go.Abs

/-- All that is there: slots, power, the devices, the counters, the keys, what the lock sealed and summed. -/
structure WS where
  n : Int
  pw : PwS
  sd : SdS
  dk : DkS
  ct : CtS
  ks : KsS
  L : List Iss
  S : List Bs
/-- The names of a world's objects: power, the lock's four, from a on the rest. -/
structure WN where
  p : Nat
  l : Nat
  o : Nat
  t : Nat
  q : Nat
  a : Nat
  B : Nat
  E : Nat
def wRow (n : WN) (k : Int) : List AV := [.int .i64 k, .ptr n.p 0 0, .ptr (n.a + 1) 0 0, .ptr (n.a + 4) 0 0, .ptr (n.a + 7) 0 0, .ptr (n.a + 9) 0 0, .ptr n.l 0 0]
/-- Either lock, by what it sealed and summed. -/
structure LkAt (md : Bool) (h : AHeap) (l o t q : Nat) (L : List Iss) (S : List Bs) : Prop where
  id : md = true → IdAt h l o t q 0 L S
  re : md = false → h.get l = some (.mem 5 [reC])
structure WAt (md : Bool) (h : AHeap) (n : WN) (s : WS) : Prop where
  sd : SdAt h ⟨n.p, n.a + 1, n.B, n.a + 2, n.a + 3⟩ s.pw s.sd
  dk : DkAt h ⟨n.p, n.a + 4, n.a + 5, n.a + 6⟩ s.pw s.dk
  ct : h.get (n.a + 7) = some (s.ct.obj n.p)
  ks : KsAt h n.p (n.a + 9) n.E s.ks
  w : h.get (n.a + 10) = some (.mem 7 [wRow n s.n])
  lk : LkAt md h n.l n.o n.t n.q s.L s.S
  op : n.p < n.a
  ol : n.l < n.a
  oo : md = true → n.o < n.a ∧ n.t < n.a ∧ n.q < n.a
  nx : n.a + 11 ≤ h.next
  oB : (n.B = n.a ∨ n.a + 11 ≤ n.B) ∧ (n.E = n.a + 8 ∨ n.a + 11 ≤ n.E) ∧ n.B ≠ n.E
  nB : n.B < h.next ∧ n.E < h.next
def ws0 (k : Nat) (seed : Int) : WS := ⟨k, ⟨false, false, 0, 0⟩, sd0 (k * 160 + 120), dk0, ⟨0, 0, 0⟩, ⟨seed, [1]⟩, [], []⟩
theorem SdAt.same {h h' : AHeap} {n : SdN} {w : PwS} {x : SdS} (hd : SdAt h n w x) (h1 : h'.get n.p = h.get n.p) (h2 : h'.get n.s = h.get n.s) (h3 : h'.get n.B = h.get n.B) (h4 : h'.get n.w = h.get n.w) (h5 : h'.get n.t = h.get n.t) : SdAt h' n w x :=
  ⟨h1.trans hd.pw, h2.trans hd.ob, h3.trans hd.bl, h4.trans hd.wt, h5.trans hd.tr, hd.ne⟩
theorem DkAt.same {h h' : AHeap} {n : DkN} {w : PwS} {x : DkS} (hd : DkAt h n w x) (h1 : h'.get n.p = h.get n.p) (h2 : h'.get n.d = h.get n.d) (h4 : h'.get n.w = h.get n.w) (h5 : h'.get n.t = h.get n.t) : DkAt h' n w x :=
  ⟨h1.trans hd.pw, h2.trans hd.ob, h4.trans hd.wt, h5.trans hd.tr, hd.ne, hd.ll⟩
theorem KsAt.same {h h' : AHeap} {p k te : Nat} {s : KsS} (hd : KsAt h p k te s) (h2 : h'.get k = h.get k) (h3 : h'.get te = h.get te) : KsAt h' p k te s :=
  ⟨h2.trans hd.ob, h3.trans hd.tl, hd.ne, hd.sm⟩
theorem LkAt.same {md : Bool} {h h' : AHeap} {l o t q : Nat} {L : List Iss} {S : List Bs} (hd : LkAt md h l o t q L S) (h1 : h'.get l = h.get l) (h2 : md = true → h'.get o = h.get o ∧ h'.get t = h.get t ∧ h'.get q = h.get q) : LkAt md h' l o t q L S := by
  refine ⟨fun e => ?_, fun e => h1.trans (hd.re e)⟩
  obtain ⟨g1, g2, g3⟩ := h2 e
  obtain ⟨q0, q1, q2, q3⟩ := hd.id e
  exact ⟨h1.trans q0, ⟨g1.trans q1, g2.trans q2, g3.trans q3⟩⟩
theorem sdNew_ex {h : AHeap} {p nx k : Nat} {w : PwS} (hn : h.next = nx) (hp : p < nx) (hw : h.get p = some (.mem 4 [w.row])) : ∃ h1, sdNew p nx k h = h1 ∧ SdAt h1 ⟨p, nx + 1, nx, nx + 2, nx + 3⟩ w (sd0 k) ∧ h1.next = nx + 4 ∧ (∀ id, id < nx → h1.get id = h.get id) ∧ (∀ h0 : AHeap, Keeps h0 h → Keeps h0 h1) := by
  subst hn
  refine ⟨_, rfl, ?_, ?_, fun id hi => ?_, fun h0 k0 => ?_⟩
  · unfold sdNew
    exact sdAt_of gH gH gH gH gH (by omega)
  · unfold sdNew; show AHeap.next _ = h.next + 1 + 1 + 1 + 1; exact gN
  · unfold sdNew; exact gE
  · have := k0.1
    unfold sdNew; exact gK
theorem dkNew_ex {h : AHeap} {p nx : Nat} {w : PwS} (hn : h.next = nx) (hp : p < nx) (hw : h.get p = some (.mem 4 [w.row])) : ∃ h1, dkNew p nx h = h1 ∧ DkAt h1 ⟨p, nx, nx + 1, nx + 2⟩ w dk0 ∧ h1.next = nx + 3 ∧ (∀ id, id < nx → h1.get id = h.get id) ∧ (∀ h0 : AHeap, Keeps h0 h → Keeps h0 h1) := by
  subst hn
  refine ⟨_, rfl, ?_, ?_, fun id hi => ?_, fun h0 k0 => ?_⟩
  · unfold dkNew
    exact dkAt_of gH gH gH gH (by omega) (by simp [dk0])
  · unfold dkNew; show AHeap.next _ = h.next + 1 + 1 + 1; exact gN
  · unfold dkNew; exact gE
  · have := k0.1
    unfold dkNew; exact gK
set_option maxHeartbeats 2000000 in
theorem world_New_ac (md : Bool) (k : Nat) (hk : isG k = true) (seed : Int) (h : AHeap) : AC Tryz.prog 25 [.int .i64 k, .int .u64 seed, .bool md] h
    (fun r h' => ∃ n : WN, r = .tup [.ptr (n.a + 10) 0 0, .int .i64 0] ∧ WAt md h' n (ws0 k seed) ∧ h.next ≤ n.p ∧ h.next ≤ n.l ∧ (md = true → h.next ≤ n.o ∧ h.next ≤ n.t ∧ h.next ≤ n.q) ∧ h.next ≤ h'.next ∧ ∀ h0 : AHeap, Keeps h0 h → Keeps h0 h') := by
  refine AC.introW is_world_New (by simp) ?_
  unfold c_world_New
  (refine go ?_)
  refine WL.call rfl (by first | exact True.intro | exact rfl) gSL (geom_Is_ae k _) ?_
  rw [hk]
  (refine go ?_)
  refine WL.call rfl (by first | exact True.intro | exact rfl) gSL (power_New_ae rfl) ?_
  (refine go ?_)
  refine WL.call rfl (by first | exact True.intro | exact rfl) gSL (lock_Real_ae (nx := h.next + 1 + 1) gN) ?_
  refine WL.go ?_
  refine WL.nil ?_
  refine thenN ?_
  have hkk := isG_cases hk
  have hsz : sizeG (k : Int) = ((k * 160 + 120 : Nat) : Int) := by rw [sizeG, if_pos hk]; omega
  rw [put_set]
  refine WW.seqM (fun e7 h7 => ∃ l o t q a, subE [(1, some (.int .u64 seed)), (8, some (.ptr (h.next + 1) 0 0)), (9, some (.ptr h.next 0 0)), (10, some (.ptr l 0 0))] e7 ∧
    h7.get h.next = some (.mem 4 [(⟨false, false, 0, 0⟩ : PwS).row]) ∧ h7.get (h.next + 1) = some (.mem 1 [[.int .i64 k]]) ∧ LkAt md h7 l o t q [] [] ∧ h7.next = a ∧ h.next + 2 ≤ l ∧ l < a ∧ (md = true → h.next + 2 ≤ o ∧ o < a ∧ h.next + 2 ≤ t ∧ t < a ∧ h.next + 2 ≤ q ∧ q < a) ∧ ∀ h0 : AHeap, Keeps h0 h → Keeps h0 h7) ?_ ?_
  · cases md with
    | false =>
      (refine go ?_)
      refine ⟨rfl, h.next + 1 + 1, 0, 0, 0, h.next + 1 + 1 + 1, gSUB, gH, gH, ⟨nofun, fun _ => gH⟩, gN, by omega, by omega, nofun, fun h0 k0 => ?_⟩
      have := k0.1
      exact gK
    | true =>
      (refine go ?_)
      refine WL.call rfl (by first | exact True.intro | exact rfl) gSL (lock_Ideal_ae (nx := h.next + 1 + 1 + 1) gN) ?_
      obtain ⟨h2, e2, o2, n2, m2, k2⟩ := newL_ex (h := ((h.put h.next (.mem 4 [(⟨false, false, 0, 0⟩ : PwS).row])).put (h.next + 1) (.mem 1 [[.int .i64 k]])).put (h.next + 1 + 1) (.mem 5 [reC])) (nx := h.next + 1 + 1 + 1) gN
      rw [e2]
      clear e2
      have hx0 : Keeps h (((h.put h.next (.mem 4 [(⟨false, false, 0, 0⟩ : PwS).row])).put (h.next + 1) (.mem 1 [[.int .i64 k]])).put (h.next + 1 + 1) (.mem 5 [reC])) := gK
      (refine go ?_)
      refine ⟨rfl, _, _, _, _, _, gSUB, (m2 _ (by omega)).trans gH, (m2 _ (by omega)).trans gH, ⟨fun _ => o2, nofun⟩, n2, by omega, by omega, fun _ => ⟨by omega, by omega, by omega, by omega, by omega, by omega⟩, fun h0 k0 => k2 h0 ?_⟩
      have := k0.1
      exact gK
  · rintro e7 h7 ⟨l, o, t, q, a, hs7, hp0, hg0, hlk, hn7, l1, l2, hid, hK⟩
    refine WW.cvt (Cvt.sub hs7) ?_
    have hKh := (hK h (Keeps.refl _)).1
    (repeat first | refine WL.go ?_ | refine WW.seq ?_ | refine WW.reg ?_ | refine WL.nil ?_ | refine WW.skip ?_ | refine WW.block ?_ | refine WW.exit ?_ | refine WW.condT rfl ?_ | refine WW.condF rfl ?_ | refine WL.gox ?_ | refine thenN ?_ | refine blkN ?_)
    refine WW.dregX [5, 7, 9, 12, 15] [0] [] gN (by decide +kernel) ?_
    (refine go ?_)
    refine DW.callS rfl (by first | exact True.intro | exact rfl) gSL rfl (geom_Size_ae k _) ?_
    rw [hsz]
    (refine go ?_)
    refine DW.callSW rfl (by first | exact True.intro | exact rfl) gSL rfl rfl (fun hp => by unfold sdNew; exact PhiW.put (by omega) (PhiW.put (by omega) (PhiW.put (by omega) (PhiW.put (by omega) hp)))) (ssd_New_ae (nx := a) hn7 (by omega) (k * 160 + 120) (by omega)) ?_
    obtain ⟨h1, e1, d1, n1, m1, k1⟩ := sdNew_ex (k := k * 160 + 120) (nx := a) hn7 (by omega) hp0
    rw [e1]
    clear e1
    have hp1 := (m1 h.next (by omega)).trans hp0
    (refine go ?_)
    refine DW.callSW rfl (by first | exact True.intro | exact rfl) gSL rfl rfl (fun hp => by unfold dkNew; exact PhiW.put (by omega) (PhiW.put (by omega) (PhiW.put (by omega) hp))) (disk_New_ae (nx := a + 4) n1 (by omega)) ?_
    obtain ⟨h2, e2, d2, n2, m2, k2⟩ := dkNew_ex n1 (by omega) hp1
    rw [e2]
    clear e2
    (refine go ?_)
    refine DW.callSW rfl (by first | exact True.intro | exact rfl) gSL rfl rfl (fun hp => by repeat first | exact hp | refine PhiW.put (by omega) ?_ | refine PhiW.setN (by omega) ?_ | refine PhiW.setW (by simp; done) ?_) (count_New_ae (nx := a + 4 + 3) gN (p := h.next)) ?_
    (refine go ?_)
    refine DW.callSW rfl (by first | exact True.intro | exact rfl) gSL rfl rfl (fun hp => by repeat first | exact hp | refine PhiW.put (by omega) ?_ | refine PhiW.setN (by omega) ?_ | refine PhiW.setW (by simp; done) ?_) (keys_New_ae (nx := a + 4 + 3 + 1) gN seed) ?_
    (refine go ?_)
    refine WW.named (fun hF => (∀ id, id < a + 7 → hF.get id = h2.get id) ∧ hF.get (a + 7) = some (CtS.obj h.next ⟨0, 0, 0⟩) ∧ hF.get (a + 8) = some (.mem 1 [[.int .u32 1]]) ∧ hF.get (a + 9) = some ((⟨seed, [1]⟩ : KsS).obj h.next (a + 8)) ∧ hF.get (a + 10) = some (.mem 7 [[.int .i64 k, .ptr h.next 0 0, .ptr (a + 1) 0 0, .ptr (a + 4) 0 0, .ptr (a + 7) 0 0, .ptr (a + 9) 0 0, .ptr l 0 0]]) ∧ hF.next = a + 11 ∧ ∀ h0 : AHeap, Keeps h0 h → Keeps h0 hF)
      ⟨fun id hi => gE, gH, gH, gH, gH, ?_, fun h0 k0 => ?_⟩ ?_
    · show AHeap.next _ = a + 4 + 3 + 1 + 1 + 1 + 1
      exact gN
    · have k3 := k2 h0 (k1 h0 (hK h0 k0))
      have k4 := (hK h0 k0).1
      exact gK
    rintro hF ⟨f1, f2, f3, f4, f5, f6, f7⟩
    have f8 : ∀ id, id < a + 4 → hF.get id = h1.get id := fun id hi => (f1 id (by omega)).trans (m2 id hi)
    have f9 : ∀ id, id < a → hF.get id = h7.get id := fun id hi => (f8 id (by omega)).trans (m1 id hi)
    refine WW.ret ⟨.inl rfl, _, gRES, ⟨h.next, l, o, t, q, a, a, a + 8⟩, rfl, ⟨d1.same (f8 _ ?_) (f8 _ ?_) (f8 _ ?_) (f8 _ ?_) (f8 _ ?_), d2.same (f1 _ ?_) (f1 _ ?_) (f1 _ ?_) (f1 _ ?_), f2, ⟨f4, f3, by simp [ws0], by simp [ws0]⟩, f5, hlk.same (f9 _ l2) fun e => ⟨f9 _ (hid e).2.1, f9 _ (hid e).2.2.2.1, f9 _ (hid e).2.2.2.2.2⟩, ?_, l2, fun e => ⟨(hid e).2.1, (hid e).2.2.2.1, (hid e).2.2.2.2.2⟩, ?_, ⟨.inl rfl, .inl rfl, ?_⟩, ?_⟩, Nat.le_refl _, ?_, fun e => ⟨?_, ?_, ?_⟩, ?_, f7⟩
    all_goals (first | omega | (dsimp only; omega) | (have := hid e; omega) | (have := hid e; dsimp only; omega))
end Go.Proofs.YtafkhpjnihnfpaaGreat


namespace Go.Proofs.YtafkhpjnihnfpaaGreat
open Go Go.Abs

def WS.key (s : WS) : Pr := if s.ks.cur ∈ s.ks.epochs then ofK s.ks.seed s.ks.cur else (0, 0)
/-- A seal by either lock. -/
def sealP (md : Bool) (L : List Iss) (k : Pr) (n : Nn) (head data : Bs) : Bs × Pr := match md with
  | true => ((newI (L.length + 1) k n head data).out, (newI (L.length + 1) k n head data).tag)
  | false => (gcmB k n data, gcmT k n head (gcmB k n data))
def sealL (md : Bool) (L : List Iss) (k : Pr) (n : Nn) (head data : Bs) : List Iss := match md with
  | true => L ++ [newI (L.length + 1) k n head data]
  | false => L
theorem lock_IssuedW_ae {md : Bool} {h : AHeap} {l o t q : Nat} {L : List Iss} {S : List Bs} (hl : LkAt md h l o t q L S) (hf : md = false → L = []) (hL : L.length ≤ 1000000) (hx : ∀ x ∈ L, x.head.length ≤ 1000000 ∧ x.data.length ≤ 1000000 ∧ x.out.length ≤ 1000000) :
    AE Tryz.prog 34 [.ptr l 0 0] h (.imm 10 (L.map encI)) h := by
  cases md with
  | true => exact lock_IssuedI_ae (hl.id rfl) hL hx
  | false => rw [hf rfl]; exact lock_IssuedR_ae (hl.re rfl)
theorem bool_of20 {c : List AV} (t : TypL [.b] c) : ∃ v : Bool, c = [.bool v] := by
  obtain ⟨v, vs, rfl, h1, h2⟩ := t.cons_inv
  obtain rfl := h2.nil_inv
  obtain ⟨x, rfl⟩ := h1.bool_inv
  exact ⟨x, rfl⟩
end Go.Proofs.YtafkhpjnihnfpaaGreat


namespace Go.Proofs.YtafkhpjnihnfpaaGreat
open Go Go.Abs

abbrev WN.sdN (n : WN) : SdN := ⟨n.p, n.a + 1, n.B, n.a + 2, n.a + 3⟩
abbrev WN.dkN (n : WN) : DkN := ⟨n.p, n.a + 4, n.a + 5, n.a + 6⟩
theorem WAt.nep {md : Bool} {h : AHeap} {n : WN} {s : WS} (hw : WAt md h n s) : n.l ≠ n.p ∧ (md = true → n.o ≠ n.p ∧ n.t ≠ n.p ∧ n.q ≠ n.p) := by
  have key : ∀ {i j : Nat} {y z : AObj}, h.get i = some y → h.get j = some z → y ≠ z → i ≠ j := fun hi hj hne e => by
    subst e; rw [hi] at hj; exact hne (Option.some.inj hj)
  have hp := hw.sd.pw
  refine ⟨?_, fun e => ?_⟩
  · cases md with
    | true => exact key (hw.lk.id rfl).cells hp (by simp)
    | false => exact key (hw.lk.re rfl) hp (by simp)
  · obtain ⟨q0, q1, q2, q3⟩ := hw.lk.id e
    exact ⟨key q1 hp (by simp), key q2 hp (by simp), key q3 hp (by simp)⟩
/-- Names of a world that no device turns. -/
def WN.still (md : Bool) (n : WN) (id : Nat) : Prop := id = n.a + 10 ∨ id = n.l ∨ (md = true ∧ (id = n.o ∨ id = n.t ∨ id = n.q))
theorem WAt.re {md : Bool} {h h' : AHeap} {n : WN} {s s' : WS} (hw : WAt md h n s) (hn : s'.n = s.n) (hL : s'.L = s.L) (hS : s'.S = s.S) (hx : h.next ≤ h'.next) (sd : SdAt h' n.sdN s'.pw s'.sd) (dk : DkAt h' n.dkN s'.pw s'.dk) (ct : h'.get (n.a + 7) = some (s'.ct.obj n.p)) (ks : KsAt h' n.p (n.a + 9) n.E s'.ks) (fr : ∀ id, n.still md id → h'.get id = h.get id) : WAt md h' n s' := by
  refine ⟨sd, dk, ct, ks, (fr _ (.inl rfl)).trans (by rw [hn]; exact hw.w), ?_, hw.op, hw.ol, hw.oo, Nat.le_trans hw.nx hx, hw.oB, ⟨Nat.lt_of_lt_of_le hw.nB.1 hx, Nat.lt_of_lt_of_le hw.nB.2 hx⟩⟩
  rw [hL, hS]
  exact hw.lk.same (fr _ (.inr (.inl rfl))) fun e => ⟨fr _ (.inr (.inr ⟨e, .inl rfl⟩)), fr _ (.inr (.inr ⟨e, .inr (.inl rfl)⟩)), fr _ (.inr (.inr ⟨e, .inr (.inr rfl)⟩))⟩
theorem WAt.still {md : Bool} {h : AHeap} {n : WN} {s : WS} (hw : WAt md h n s) {id : Nat} (hi : n.still md id) : id ≠ n.p ∧ (id < n.a ∨ id = n.a + 10) := by
  have hp := hw.nep
  have h1 := hw.op
  have hoB := hw.oB
  have h2 := hw.ol
  rcases hi with rfl | rfl | ⟨e, rfl | rfl | rfl⟩
  · omega
  · omega
  · have := hw.oo e; have := hp.2 e; omega
  · have := hw.oo e; have := hp.2 e; omega
  · have := hw.oo e; have := hp.2 e; omega
theorem WAt.putCt {md : Bool} {h : AHeap} {n : WN} {s : WS} (hw : WAt md h n s) (w' : PwS) (c' : CtS) : WAt md ((h.set n.p (some (.mem 4 [w'.row]))).set (n.a + 7) (some (c'.obj n.p))) n { s with pw := w', ct := c' } := by
  have h1 := hw.op
  have hoB := hw.oB
  have hd := hw.dk
  have hs := hw.sd
  have g : ∀ id, id ≠ n.p → id ≠ n.a + 7 → ((h.set n.p (some (.mem 4 [w'.row]))).set (n.a + 7) (some (c'.obj n.p))).get id = h.get id := fun id e1 e2 => get_set_neE e2 (get_set_neE e1 rfl)
  have gp : ((h.set n.p (some (.mem 4 [w'.row]))).set (n.a + 7) (some (c'.obj n.p))).get n.p = some (.mem 4 [w'.row]) := get_set_neE (by omega) get_set_same
  refine hw.re rfl rfl rfl (Nat.le_refl _) ⟨gp, (g _ (by dsimp only; omega) (by dsimp only; omega)).trans hs.ob, (g _ (by dsimp only; omega) (by dsimp only; omega)).trans hs.bl, (g _ (by dsimp only; omega) (by dsimp only; omega)).trans hs.wt, (g _ (by dsimp only; omega) (by dsimp only; omega)).trans hs.tr, hs.ne⟩ ⟨gp, (g _ (by dsimp only; omega) (by dsimp only; omega)).trans hd.ob, (g _ (by dsimp only; omega) (by dsimp only; omega)).trans hd.wt, (g _ (by dsimp only; omega) (by dsimp only; omega)).trans hd.tr, hd.ne, hd.ll⟩ get_set_same (hw.ks.same (g _ (by omega) (by omega)) (g _ (by omega) (by omega))) fun id hi => ?_
  have := hw.still hi
  exact g id this.1 (by omega)
end Go.Proofs.YtafkhpjnihnfpaaGreat


namespace Go.Proofs.YtafkhpjnihnfpaaGreat
open Go Go.Abs

def crashF (K : Nat → Bool) : Nat → List Wr → List Bs → List Bs
  | _, [], b => b
  | i, o :: r, b => crashF K (i + 1) r (if K i then b.set o.1.toNat o.2 else b)
def DkS.crash (x : DkS) (K : Nat → Bool) : DkS := { x with lasts := crashF K 0 x.waits x.lasts, waits := [], gen := x.gen + 1 }
end Go.Proofs.YtafkhpjnihnfpaaGreat


namespace Go.Proofs.YtafkhpjnihnfpaaGreat
open Go Go.Abs

/-- All that was used is used and stands as it stood, but for W. -/
structure Kp (W : Nat → Prop) (h h1 : AHeap) : Prop where
  next : h.next ≤ h1.next
  us : ∀ id, h.used id → h1.used id
  get : ∀ id, h.used id → ¬ W id → h1.get id = h.get id
section
variable {W : Nat → Prop} {h h1 h2 : AHeap}
theorem Kp.refl : Kp W h h := ⟨Nat.le_refl _, fun _ h => h, fun _ _ _ => rfl⟩
theorem Kp.put (hk : Kp W h h1) {nm : Nat} (hn : h.next ≤ nm) (x : AObj) : Kp W h (h1.put nm x) :=
  ⟨next_le_put hk.next, fun id hu => put_used (hk.us id hu), fun id hu hw => by
    rw [get_put, if_neg (by have := hu.1; omega)]
    exact hk.get id hu hw⟩
theorem Kp.setN (hk : Kp W h h1) {nm : Nat} (hn : h.next ≤ nm) (x : Option AObj) : Kp W h (h1.set nm x) :=
  ⟨hk.next, hk.us, fun id hu hw => by
    rw [get_set, if_neg (by have := hu.1; omega)]
    exact hk.get id hu hw⟩
theorem Kp.setW (hk : Kp W h h1) {nm : Nat} (hn : W nm) (x : Option AObj) : Kp W h (h1.set nm x) :=
  ⟨hk.next, hk.us, fun id hu hw => by
    rw [get_set, if_neg (fun e => hw (by rw [e]; exact hn))]
    exact hk.get id hu hw⟩
theorem Kp.keep (hk : Kp W h h1) (k : Nat) : Kp W h (h1.keep k) := ⟨Nat.le_trans hk.next (Nat.le_add_right _ _), fun id hu => used_keep (hk.us id hu), hk.get⟩
theorem Kp.trans (hk : Kp W h h1) (hk2 : Kp W h1 h2) : Kp W h h2 := ⟨Nat.le_trans hk.next hk2.next, fun id hu => hk2.us id (hk.us id hu), fun id hu hw => (hk2.get id (hk.us id hu) hw).trans (hk.get id hu hw)⟩
theorem Kp.mono {V : Nat → Prop} (hk : Kp W h h1) (hv : ∀ id, h.used id → W id → V id) : Kp V h h1 := ⟨hk.next, hk.us, fun id hu hw => hk.get id hu fun e => hw (hv id hu e)⟩
theorem Kp.keeps (hk : Kp W h h1) (hv : ∀ id, W id → h.next ≤ id) : Keeps h h1 := ⟨hk.next, fun id hu => hk.get id hu fun e => by have := hv id e; have := hu.1; omega⟩
end
/-- The names that a world's calls write. -/
def WN.own (md : Bool) (n : WN) (id : Nat) : Prop := id = n.p ∨ ((n.a < id ∧ id < n.a + 8) ∨ id = n.a + 9 ∨ id = n.B ∨ id = n.E) ∨ (md = true ∧ (id = n.o ∨ id = n.t ∨ id = n.q))
/-- All names of a world. -/
def WN.all (md : Bool) (n : WN) (id : Nat) : Prop := id = n.p ∨ id = n.l ∨ ((n.a < id ∧ id < n.a + 8) ∨ id = n.a + 9 ∨ id = n.a + 10 ∨ id = n.B ∨ id = n.E) ∨ (md = true ∧ (id = n.o ∨ id = n.t ∨ id = n.q))
theorem WN.own_all {md : Bool} {n : WN} {id : Nat} (h : n.own md id) : n.all md id := by
  rcases h with h | h | h
  · exact .inl h
  · exact .inr (.inr (.inl (by omega)))
  · exact .inr (.inr (.inr h))
theorem WAt.used {md : Bool} {h : AHeap} {n : WN} {s : WS} (hw : WAt md h n s) (hu : ∀ id x, h.get id = some x → h.used id) : ∀ id, n.all md id → h.used id := fun id hi => by
  have hs := hw.sd
  have hd := hw.dk
  have hk := hw.ks
  rcases hi with rfl | rfl | hi | ⟨hm, rfl | rfl | rfl⟩
  · exact hu _ _ hs.pw
  · cases md with
    | true => exact hu _ _ (hw.lk.id rfl).cells
    | false => exact hu _ _ (hw.lk.re rfl)
  · have : id = n.B ∨ id = n.a + 1 ∨ id = n.a + 2 ∨ id = n.a + 3 ∨ id = n.a + 4 ∨ id = n.a + 5 ∨ id = n.a + 6 ∨ id = n.a + 7 ∨ id = n.E ∨ id = n.a + 9 ∨ id = n.a + 10 := by omega
    rcases this with rfl | rfl | rfl | rfl | rfl | rfl | rfl | rfl | rfl | rfl | rfl
    · exact hu _ _ hs.bl
    · exact hu _ _ hs.ob
    · exact hu _ _ hs.wt
    · exact hu _ _ hs.tr
    · exact hu _ _ hd.ob
    · exact hu _ _ hd.wt
    · exact hu _ _ hd.tr
    · exact hu _ _ hw.ct
    · exact hu _ _ hk.tl
    · exact hu _ _ hk.ob
    · exact hu _ _ hw.w
  all_goals
    obtain ⟨q0, q1, q2, q3⟩ := hw.lk.id hm
    first | exact hu _ _ q1 | exact hu _ _ q2 | exact hu _ _ q3
theorem WAt.kp {W : Nat → Prop} {md : Bool} {h h' : AHeap} {n : WN} {s : WS} (hw : WAt md h n s) (hu : ∀ id, n.all md id → h.used id) (hk : Kp W h h') (hd : ∀ id, n.all md id → ¬ W id) : WAt md h' n s := by
  have g : ∀ id, n.all md id → h'.get id = h.get id := fun id hi => hk.get id (hu id hi) (hd id hi)
  have ga : ∀ i, 0 < i ∧ i < 11 ∧ i ≠ 8 → h'.get (n.a + i) = h.get (n.a + i) := fun i hi => g _ (.inr (.inr (.inl (by omega))))
  have gB : h'.get n.B = h.get n.B := g _ (.inr (.inr (.inl (by omega))))
  have gE : h'.get n.E = h.get n.E := g _ (.inr (.inr (.inl (by omega))))
  have g0 := g n.p (.inl rfl)
  refine ⟨hw.sd.same g0 (ga 1 (by omega)) gB (ga 2 (by omega)) (ga 3 (by omega)), hw.dk.same g0 (ga 4 (by omega)) (ga 5 (by omega)) (ga 6 (by omega)), (ga 7 (by omega)).trans hw.ct, hw.ks.same (ga 9 (by omega)) gE, (ga 10 (by omega)).trans hw.w, hw.lk.same (g _ (.inr (.inl rfl))) fun e => ⟨g _ (.inr (.inr (.inr ⟨e, .inl rfl⟩))), g _ (.inr (.inr (.inr ⟨e, .inr (.inl rfl)⟩))), g _ (.inr (.inr (.inr ⟨e, .inr (.inr rfl)⟩)))⟩, hw.op, hw.ol, hw.oo, Nat.le_trans hw.nx hk.next, hw.oB, ⟨Nat.lt_of_lt_of_le hw.nB.1 hk.next, Nat.lt_of_lt_of_le hw.nB.2 hk.next⟩⟩
/-- New objects alone. -/
theorem WAt.new {md : Bool} {h h' : AHeap} {n : WN} {s : WS} (hw : WAt md h n s) (hu : ∀ id, n.all md id → h.used id) (hk : Kp (fun _ => False) h h') : WAt md h' n s := hw.kp hu hk fun _ _ h => h
theorem kp_ct {md : Bool} {h : AHeap} (n : WN) (w : PwS) (c : CtS) : Kp (n.own md) h ((h.set n.p (some (.mem 4 [w.row]))).set (n.a + 7) (some (c.obj n.p))) := Kp.setW (Kp.setW Kp.refl (.inl rfl) _) (.inr (.inl (by omega))) _
/-- A crash: what waits is kept by a list; the power is back. -/
def WS.crash (s : WS) (K : Nat → Bool) : WS := { s with pw := { s.pw with gone := false, fuse := false }, sd := s.sd.settle K, dk := s.dk.crash K }
end Go.Proofs.YtafkhpjnihnfpaaGreat


namespace Go.Proofs.YtafkhpjnihnfpaaGreat
open Go Go.Abs

theorem pairB_len (p : Pr) : (pairB p).length = 16 := by simp [pairB]
/-- What is summed for a leaf, for a node. -/
def leafK (b : Bs) : Bs := 0 :: b
def nodeK (a b : Pr) : Bs := 1 :: (pairB a ++ pairB b)
def sumP (S : List Bs) (k : Bs) : Pr := (eees, (sumN S k : Int))
theorem sumS_le (S : List Bs) (k : Bs) : (sumS S k).length ≤ S.length + 1 := by unfold sumS; split <;> simp
theorem hp_ext {h k : AHeap} (h1 : ∀ i, h.get i = k.get i) (h2 : h.next = k.next) (h3 : ∀ i, h.gap i = k.gap i) : h = k := by
  cases h; cases k
  simp only at h1 h2 h3
  rw [funext h1, h2, funext h3]
theorem set_none {h : AHeap} {s : Nat} (hs : h.get s = none) : h.set s none = h :=
  hp_ext (fun i => by rw [get_set]; split; · rename_i e; rw [e, hs]
                      · rfl) rfl fun _ => rfl
/-- By either lock (true: an ideal one that summed S): a sum, what was summed then, the object of it. -/
def gP (md : Bool) (S : List Bs) (k : Bs) : Pr := match md with | true => sumP S k | false => digestF k
def gS (md : Bool) (S : List Bs) (k : Bs) : List Bs := match md with | true => sumS S k | false => S
def gO (md : Bool) (S : List Bs) : Option AObj := match md with | true => some (.map (encM S)) | false => none
theorem gS_le (md : Bool) (S : List Bs) (k : Bs) : (gS md S k).length ≤ S.length + 1 := by
  cases md
  · exact Nat.le_succ _
  · exact sumS_le S k
/-- Either lock at l. -/
structure GAt (md : Bool) (h : AHeap) (l s : Nat) (S : List Bs) : Prop where
  id : md = true → ∃ o t g L, IdAt h l o t s g L S
  re : md = false → h.get l = some (.mem 5 [reC])
  sm : h.get s = gO md S
  ls : s < h.next
  ll : l < h.next
theorem GAt.ne {md : Bool} {h : AHeap} {l s : Nat} {S : List Bs} (hl : GAt md h l s S) : l ≠ s := by
  rintro rfl
  cases md with
  | true => obtain ⟨o, t, g, L, q, q1⟩ := hl.id rfl; rw [q1.sums] at q; cases q
  | false => have := hl.re rfl; rw [hl.sm] at this; cases this
structure GLt (md : Bool) (h : AHeap) (l s : Nat) (S : List Bs) : Prop where
  a1 : l < h.next
  a2 : s < h.next
  a3 : h.get s = gO md S
  a4 : l ≠ s
theorem GAt.lt {md : Bool} {h : AHeap} {l s : Nat} {S : List Bs} (hl : GAt md h l s S) : GLt md h l s S := ⟨hl.ll, hl.ls, hl.sm, hl.ne⟩
theorem GAt.frame {md : Bool} {h h' : AHeap} {l s : Nat} {S S' : List Bs} (hl : GAt md h l s S) (hu : ∀ id x, h.get id = some x → h.used id) (hk : KeepsB [s] h h') (hs : h'.get s = gO md S') : GAt md h' l s S' := by
  refine ⟨fun e => ?_, fun e => ?_, hs, Nat.lt_of_lt_of_le hl.ls hk.1, Nat.lt_of_lt_of_le hl.ll hk.1⟩
  · obtain ⟨o, t, g, L, q0, q1, q2, q3⟩ := hl.id e
    subst e
    have d1 : o ≠ s := by rintro rfl; rw [q1] at q3; cases q3
    have d2 : t ≠ s := by rintro rfl; rw [q2] at q3; cases q3
    exact ⟨o, t, g, L, (hk.2 l (hu _ _ q0) (by simpa using hl.ne)).trans q0, ⟨(hk.2 o (hu _ _ q1) (by simpa using d1)).trans q1, (hk.2 t (hu _ _ q2) (by simpa using d2)).trans q2, hs⟩⟩
  · have q0 := hl.re e
    exact (hk.2 l (hu _ _ q0) (by simpa using hl.ne)).trans q0
theorem GAt.ext {md : Bool} {h : AHeap} {l s : Nat} {S : List Bs} (hl : GAt md h l s S) (_hu : ∀ id x, h.get id = some x → h.used id) (S' : List Bs) : Ext h (h.set s (gO md S')) := by
  cases md with
  | true => exact Ext.set (x := .map _) Ext.refl (Nm.old hl.sm) (clo_encM _)
  | false => rw [show gO false S' = none from rfl, set_none hl.sm]; exact Ext.refl
attribute [local irreducible] digestF
/-- The leaves' sums from node k on. -/
def lfF (md : Bool) : List Bs → Nat → List Pr → List Bs → List Pr × List Bs
  | [], _, N, S => (N, S)
  | b :: r, k, N, S => lfF md r (k + 1) (N.set k (gP md S (leafK b))) (gS md S (leafK b))
def kidK (N : List Pr) (i : Nat) : Bs := nodeK (N.getD (2 * i) (0, 0)) (N.getD (2 * i + 1) (0, 0))
/-- The sums of nodes i, i - 1, .., 1. -/
def upF (md : Bool) : Nat → List Pr → List Bs → List Pr × List Bs
  | 0, N, S => (N, S)
  | i + 1, N, S => upF md i (N.set (i + 1) (gP md S (kidK N (i + 1)))) (gS md S (kidK N (i + 1)))
def buildF (md : Bool) (lv : List Bs) (S : List Bs) : List Pr × List Bs :=
  upF md (lv.length - 1) (lfF md lv lv.length (List.replicate (2 * lv.length) (0, 0)) S).1 (lfF md lv lv.length (List.replicate (2 * lv.length) (0, 0)) S).2
theorem lfF_len (md : Bool) : ∀ (lv : List Bs) (k : Nat) (N : List Pr) (S : List Bs), (lfF md lv k N S).1.length = N.length ∧ (lfF md lv k N S).2.length ≤ S.length + lv.length
  | [], _, _, _ => ⟨rfl, Nat.le_refl _⟩
  | b :: r, k, N, S => by
    have h1 := lfF_len md r (k + 1) (N.set k (gP md S (leafK b))) (gS md S (leafK b))
    have h2 := gS_le md S (leafK b)
    simp only [lfF, List.length_set, List.length_cons] at *
    omega
theorem upF_len (md : Bool) : ∀ (i : Nat) (N : List Pr) (S : List Bs), (upF md i N S).1.length = N.length ∧ (upF md i N S).2.length ≤ S.length + i
  | 0, _, _ => ⟨rfl, Nat.le_refl _⟩
  | i + 1, N, S => by
    have h1 := upF_len md i (N.set (i + 1) (gP md S (kidK N (i + 1)))) (gS md S (kidK N (i + 1)))
    have h2 := gS_le md S (kidK N (i + 1))
    simp only [upF, List.length_set] at *
    omega

end Go.Proofs.YtafkhpjnihnfpaaGreat


namespace Go.Proofs.YtafkhpjnihnfpaaGreat
open Go Go.Abs

def lfAt (n a i : Int) : Int := n * 32 + a * (n * 64) + i * 32
def ndAt (n a i : Int) : Int := n * 32 + a * (n * 64) + n * 32 + i * 16
/-- All names, and the one where the sums are (or nothing is). -/
def WN.nm (md : Bool) (n : WN) (id : Nat) : Prop := n.all md id ∨ id = n.q
structure WG (md : Bool) (h : AHeap) (n : WN) (s : WS) : Prop where
  w : WAt md h n s
  us : ∀ id, n.nm md id → h.used id
  qn : md = false → h.get n.q = none
theorem WAt.same {md : Bool} {h h' : AHeap} {n : WN} {s : WS} (hw : WAt md h n s) (g : ∀ id, n.all md id → h'.get id = h.get id) (hx : h.next ≤ h'.next) : WAt md h' n s := by
  have ga : ∀ i, 0 < i ∧ i < 11 ∧ i ≠ 8 → h'.get (n.a + i) = h.get (n.a + i) := fun i hi => g _ (.inr (.inr (.inl (by omega))))
  have gB : h'.get n.B = h.get n.B := g _ (.inr (.inr (.inl (by omega))))
  have gE : h'.get n.E = h.get n.E := g _ (.inr (.inr (.inl (by omega))))
  have g0 := g n.p (.inl rfl)
  exact ⟨hw.sd.same g0 (ga 1 (by omega)) gB (ga 2 (by omega)) (ga 3 (by omega)), hw.dk.same g0 (ga 4 (by omega)) (ga 5 (by omega)) (ga 6 (by omega)), (ga 7 (by omega)).trans hw.ct, hw.ks.same (ga 9 (by omega)) gE, (ga 10 (by omega)).trans hw.w, hw.lk.same (g _ (.inr (.inl rfl))) fun e => ⟨g _ (.inr (.inr (.inr ⟨e, .inl rfl⟩))), g _ (.inr (.inr (.inr ⟨e, .inr (.inl rfl)⟩))), g _ (.inr (.inr (.inr ⟨e, .inr (.inr rfl)⟩)))⟩, hw.op, hw.ol, hw.oo, Nat.le_trans hw.nx hx, hw.oB, ⟨Nat.lt_of_lt_of_le hw.nB.1 hx, Nat.lt_of_lt_of_le hw.nB.2 hx⟩⟩
theorem WAt.lt {md : Bool} {h : AHeap} {n : WN} {s : WS} (hw : WAt md h n s) {id : Nat} (hi : n.all md id) : id < h.next := by
  have h1 := hw.op
  have h2 := hw.ol
  have h3 := hw.nx
  have h4 := hw.nB
  rcases hi with rfl | rfl | hi | ⟨e, hi⟩
  · omega
  · omega
  · omega
  · have := hw.oo e
    rcases hi with rfl | rfl | rfl <;> omega
theorem WAt.live {md : Bool} {h : AHeap} {n : WN} {s : WS} (hw : WAt md h n s) {id : Nat} (hi : n.all md id) : ∃ x, h.get id = some x := by
  have hs := hw.sd
  have hd := hw.dk
  have hk := hw.ks
  rcases hi with rfl | rfl | hi | ⟨hm, rfl | rfl | rfl⟩
  · exact ⟨_, hs.pw⟩
  · cases md with
    | true => exact ⟨_, (hw.lk.id rfl).cells⟩
    | false => exact ⟨_, hw.lk.re rfl⟩
  · have : id = n.B ∨ id = n.a + 1 ∨ id = n.a + 2 ∨ id = n.a + 3 ∨ id = n.a + 4 ∨ id = n.a + 5 ∨ id = n.a + 6 ∨ id = n.a + 7 ∨ id = n.E ∨ id = n.a + 9 ∨ id = n.a + 10 := by omega
    rcases this with rfl | rfl | rfl | rfl | rfl | rfl | rfl | rfl | rfl | rfl | rfl
    · exact ⟨_, hs.bl⟩
    · exact ⟨_, hs.ob⟩
    · exact ⟨_, hs.wt⟩
    · exact ⟨_, hs.tr⟩
    · exact ⟨_, hd.ob⟩
    · exact ⟨_, hd.wt⟩
    · exact ⟨_, hd.tr⟩
    · exact ⟨_, hw.ct⟩
    · exact ⟨_, hk.tl⟩
    · exact ⟨_, hk.ob⟩
    · exact ⟨_, hw.w⟩
  all_goals
    obtain ⟨q0, q1, q2, q3⟩ := hw.lk.id hm
    first | exact ⟨_, q1⟩ | exact ⟨_, q2⟩ | exact ⟨_, q3⟩
theorem WG.step {md : Bool} {h h' : AHeap} {n : WN} {s s' : WS} (hg : WG md h n s) (hw : WAt md h' n s') (hk : Kp (n.own md) h h') : WG md h' n s' :=
  ⟨hw, fun id hi => hk.us id (hg.us id hi), fun e => by
    rw [hk.get _ (hg.us _ (.inr rfl)) fun ho => ?_]
    · exact hg.qn e
    · obtain ⟨x, hx⟩ := hg.w.live (WN.own_all ho)
      rw [hg.qn e] at hx; cases hx⟩
theorem WG.kp {W : Nat → Prop} {md : Bool} {h h' : AHeap} {n : WN} {s : WS} (hg : WG md h n s) (hk : Kp W h h') (hd : ∀ id, n.nm md id → ¬ W id) : WG md h' n s :=
  ⟨hg.w.same (fun id hi => hk.get id (hg.us id (.inl hi)) (hd id (.inl hi))) hk.next, fun id hi => hk.us id (hg.us id hi), fun e => (hk.get _ (hg.us _ (.inr rfl)) (hd _ (.inr rfl))).trans (hg.qn e)⟩
theorem WG.new {md : Bool} {h h' : AHeap} {n : WN} {s : WS} (hg : WG md h n s) (hk : Kp (fun _ => False) h h') : WG md h' n s := hg.kp hk fun _ _ h => h
theorem WG.g {md : Bool} {h : AHeap} {n : WN} {s : WS} (hg : WG md h n s) : GAt md h n.l n.q s.S := by
  refine ⟨fun e => ⟨n.o, n.t, 0, s.L, hg.w.lk.id e⟩, fun e => hg.w.lk.re e, ?_, (hg.us _ (.inr rfl)).1, (hg.us _ (.inl (.inr (.inl rfl)))).1⟩
  cases md with
  | true => obtain ⟨q0, q1, q2, q3⟩ := hg.w.lk.id rfl; exact q3
  | false => exact hg.qn rfl
theorem world_NewG_ac (md : Bool) (k : Nat) (hk : isG k = true) (seed : Int) (h : AHeap) : AC Tryz.prog 25 [.int .i64 k, .int .u64 seed, .bool md] h
    (fun r h' => ∃ n : WN, r = .tup [.ptr (n.a + 10) 0 0, .int .i64 0] ∧ WG md h' n (ws0 k seed) ∧ (∀ id, n.nm md id → h.next ≤ id) ∧ Kp (fun id => h.next ≤ id) h h') := by
  refine AC.mono (AC.used (AC.spareC (world_New_ac md k hk seed h))) ?_
  rintro r h' ⟨⟨h1, ⟨n, rfl, hw, np, nl, no, nn, kk⟩, rfl⟩, hus, hlv⟩
  replace kk := kk h (Keeps.refl _)
  have g : ∀ id, id < h1.next → ((h1.put h1.next (.tail 0 0)).set h1.next none).get id = h1.get id := fun id hi => get_set_neE (by omega) (get_put_neE (by omega) rfl)
  have hx : h1.next ≤ ((h1.put h1.next (.tail 0 0)).set h1.next none).next := next_le_set (next_le_put (x := .tail 0 0) (Nat.le_refl _))
  have hw2 : WAt md ((h1.put h1.next (.tail 0 0)).set h1.next none) n (ws0 k seed) := hw.same (fun id hi => g id (hw.lt hi)) hx
  have hall : ∀ id, n.all md id → h.next ≤ id := fun id hi => by
    have h1 := hw.op
    have hoB := hw.oB
    rcases hi with rfl | rfl | hi | ⟨e, rfl | rfl | rfl⟩
    · exact np
    · exact nl
    · omega
    · exact (no e).1
    · exact (no e).2.1
    · exact (no e).2.2
  have kp : Kp (fun id => h.next ≤ id) h ((h1.put h1.next (.tail 0 0)).set h1.next none) := ⟨Nat.le_trans nn hx, hus, fun id hu _ => (g id (Nat.lt_of_lt_of_le hu.1 nn)).trans (kk.2 id hu)⟩
  cases md with
  | true =>
    have hqa : n.all true n.q := .inr (.inr (.inr ⟨rfl, .inr (.inr rfl)⟩))
    refine ⟨n, rfl, ⟨hw2, fun id hi => ?_, nofun⟩, fun id hi => ?_, kp⟩
    · have : n.all true id := hi.elim (fun h => h) fun e => e ▸ hqa
      obtain ⟨x, hx⟩ := hw2.live this
      exact hlv _ _ hx
    · exact hall id (hi.elim (fun h => h) fun e => e ▸ hqa)
  | false =>
    have hal : ∀ id, ({ n with q := h1.next } : WN).all false id → n.all false id := fun id hi => by
      rcases hi with rfl | rfl | hi | ⟨e, _⟩
      · exact .inl rfl
      · exact .inr (.inl rfl)
      · exact .inr (.inr (.inl hi))
      · cases e
    refine ⟨{ n with q := h1.next }, rfl, ⟨⟨hw2.sd, hw2.dk, hw2.ct, hw2.ks, hw2.w, ⟨nofun, hw2.lk.re⟩, hw2.op, hw2.ol, nofun, hw2.nx, hw2.oB, hw2.nB⟩, fun id hi => ?_, fun _ => get_set_same⟩, fun id hi => ?_, kp⟩
    · rcases hi with hi | rfl
      · obtain ⟨x, hx⟩ := hw2.live (hal id hi)
        exact hlv _ _ hx
      · exact put_used_nm (x := .tail 0 0)
    · rcases hi with hi | rfl
      · exact hall id (hal id hi)
      · exact nn
end Go.Proofs.YtafkhpjnihnfpaaGreat


namespace Go.Proofs.YtafkhpjnihnfpaaGreat
open Go Go.Abs

section
variable {nx : Nat} {h0 h : AHeap}
end
theorem DW.named {P : Program} {N : Nat} {Φ : AHeap → Prop} {ws fs : List Nat} {K : Env → AHeap → Prop} {j : Nat} {l : List CI} {e : Env} {h : AHeap} (p : AHeap → Prop) (hp : p h) (k : ∀ h5, p h5 → DW P N Φ ws fs K j l e h5) : DW P N Φ ws fs K j l e h := k h hp
end Go.Proofs.YtafkhpjnihnfpaaGreat


namespace Go.Proofs.YtafkhpjnihnfpaaGreat
open Go Go.Abs

def lvOk : List Lf → Nat → Bool
  | [], _ => true
  | x :: r, i => leafIs x i && lvOk r (i + 1)
theorem lvOk_at : ∀ (lv : List Lf) (j i : Nat) (hi : i < lv.length), lvOk lv j = true → leafIs lv[i] ((j + i : Nat) : Int) = true
  | x :: r, j, 0, _, h => by simp only [lvOk, Bool.and_eq_true] at h; exact h.1
  | x :: r, j, i + 1, hi, h => by
    simp only [lvOk, Bool.and_eq_true] at h
    have := lvOk_at r (j + 1) i (by simpa using hi) h.2
    rw [show j + 1 + i = j + (i + 1) by omega] at this
    exact this
def lvB (lv : List Lf) : Bs := (lv.map leafB).flatten
theorem lvB_len : ∀ lv : List Lf, (lvB lv).length = 32 * lv.length
  | [] => rfl
  | x :: r => by
    have := lvB_len r
    simp only [lvB, List.map_cons, List.flatten_cons, List.length_append, leafB_len, List.length_cons] at this ⊢
    omega
def nodesB (N : List Pr) : Bs := (N.map pairB).flatten
theorem nodesB_len : ∀ N : List Pr, (nodesB N).length = 16 * N.length
  | [] => rfl
  | x :: r => by
    have := nodesB_len r
    simp only [nodesB, List.map_cons, List.flatten_cons, List.length_append, pairB_len, List.length_cons] at this ⊢
    omega
def WS.nodes (md : Bool) (s : WS) (lv : List Lf) : List Pr := (buildF md (lv.map leafB) s.S).1
/-- A world behind the two writes of an area. -/
def WS.areaW1 (md : Bool) (s : WS) (a : Int) (lv : List Lf) : WS := { s with S := (buildF md (lv.map leafB) s.S).2, pw := s.pw.spend, sd := s.sd.write (lfAt s.n a 0, lvB lv) s.pw.can }
def WS.areaW (md : Bool) (s : WS) (a : Int) (lv : List Lf) : WS :=
  if s.pw.can then { s.areaW1 md a lv with pw := s.pw.spend.spend, sd := (s.areaW1 md a lv).sd.write (ndAt s.n a 0, nodesB (s.nodes md lv)) s.pw.spend.can } else s.areaW1 md a lv
/-- What a world may be: sizes, steps. -/
structure WS.Fit (s : WS) (k : Nat) : Prop where
  g : isG s.n = true
  pw : s.pw.Ok k
  sd : s.sd.Ok (sizeG s.n).toNat k
  ss : s.S.length ≤ k
  ll : s.L.length ≤ k
theorem SdS.Ok.write {x : SdS} {n k : Nat} (h : x.Ok n k) {o : Wr} (ho : 0 ≤ o.1 ∧ o.1 + o.2.length ≤ n) (ok : Bool) : (x.write o ok).Ok n (k + 1) := by
  obtain ⟨h1, h2, h3, h4⟩ := h
  cases ok with
  | false => exact ⟨h1, h2, Nat.le_succ_of_le h3, Nat.le_succ_of_le h4⟩
  | true =>
    refine ⟨h1, fun y hy => ?_, by simp [SdS.write]; omega, by simp [SdS.write]; omega⟩
    simp only [SdS.write, if_true, List.mem_append, List.mem_singleton] at hy
    rcases hy with hy | rfl
    · exact h2 y hy
    · exact ho
theorem sizeG_pos {n : Int} (h : isG n = true) : sizeG n = n * 160 + 120 := by rw [sizeG, if_pos h]
end Go.Proofs.YtafkhpjnihnfpaaGreat


namespace Go.Proofs.YtafkhpjnihnfpaaGreat
open Go Go.Abs

def WS.row (s : WS) (a : Int) (i : Nat) : Bs := (s.sd.snap.drop (lfAt s.n a i).toNat).take 32
def WS.rows (s : WS) (a : Int) (m : Nat) : List Bs := (List.range m).map (s.row a)
def WS.leaf (s : WS) (a : Int) (i : Nat) : Lf := leafD (s.row a i) i
def WS.leaves (s : WS) (a : Int) (m : Nat) : List Lf := (List.range m).map (s.leaf a)
def WS.allG (s : WS) (a : Int) (m : Nat) : Bool := (List.range m).all fun i => leafG (s.row a i) i
def WS.readS (md : Bool) (s : WS) (a : Int) : WS := if s.pw.gone then s else { s with S := (buildF md (s.rows a s.n.toNat) s.S).2 }
def WS.readT (md : Bool) (s : WS) (a : Int) : Pr := (buildF md (s.rows a s.n.toNat) s.S).1.getD 1 (0, 0)
def WS.readE (md : Bool) (s : WS) (a : Int) (top : Pr) : Int := if s.pw.gone then 7 else if s.readT md a = top ∧ s.allG a s.n.toNat = true then 0 else 3
def WS.readL (md : Bool) (s : WS) (a : Int) (top : Pr) : List Lf := if s.readE md a top = 0 then s.leaves a s.n.toNat else []
theorem rows_len (s : WS) (a : Int) (m : Nat) : (s.rows a m).length = m := by simp [WS.rows]
theorem snap_lenS {s : WS} {k : Nat} (hs : s.Fit k) : s.sd.snap.length = (s.n * 160 + 120).toNat := by
  have := hs.sd.len
  rw [sizeG_pos hs.g] at this
  rw [← this]
  exact snap_len (fun o ho => by have := hs.sd.w o ho; rw [sizeG_pos hs.g] at this; omega)
end Go.Proofs.YtafkhpjnihnfpaaGreat


namespace Go.Proofs.YtafkhpjnihnfpaaGreat
open Go Go.Abs

/-- The way up: the sum, what was summed. -/
def ckF (md : Bool) : List Pr → Nat → Pr → List Bs → Pr × List Bs
  | [], _, p, S => (p, S)
  | x :: r, i, p, S => ckF md r (i / 2) (gP md S (if i % 2 = 1 then nodeK x p else nodeK p x)) (gS md S (if i % 2 = 1 then nodeK x p else nodeK p x))
end Go.Proofs.YtafkhpjnihnfpaaGreat


namespace Go.Proofs.YtafkhpjnihnfpaaGreat
open Go Go.Abs

/-- S comes behind S0: what was summed has its number still. -/
def Pre (S0 S : List Bs) : Prop := ∃ R, S = S0 ++ R
theorem Pre.refl (S : List Bs) : Pre S S := ⟨[], by simp⟩
theorem Pre.trans {A B C : List Bs} (h1 : Pre A B) (h2 : Pre B C) : Pre A C := by
  obtain ⟨R, rfl⟩ := h1; obtain ⟨R', rfl⟩ := h2; exact ⟨R ++ R', by simp⟩
theorem sumS_pre (S : List Bs) (k : Bs) : Pre S (sumS S k) := by
  unfold sumS; split
  · exact Pre.refl _
  · exact ⟨_, rfl⟩
theorem idxS_app (k : Bs) : ∀ (S R : List Bs) (m : Nat), idxS k S = some m → idxS k (S ++ R) = some m
  | [], _, _, h => by simp [idxS] at h
  | s :: S, R, m, h => by
    simp only [idxS, List.cons_append] at h ⊢
    split
    · rename_i e; rw [if_pos e] at h; exact h
    · rename_i e
      rw [if_neg e] at h
      cases hi : idxS k S with
      | none => rw [hi] at h; simp at h
      | some j => rw [hi] at h; rw [idxS_app k S R j hi]; exact h
theorem idxS_snoc (k : Bs) : ∀ (S : List Bs), idxS k S = none → idxS k (S ++ [k]) = some S.length
  | [], _ => by simp [idxS]
  | s :: S, h => by
    simp only [idxS, List.cons_append] at h ⊢
    split
    · rename_i e; rw [if_pos e] at h; cases h
    · rename_i e
      rw [if_neg e] at h
      cases hi : idxS k S with
      | none => rw [idxS_snoc k S hi]; simp
      | some j => rw [hi] at h; simp at h
/-- Behind its sum a key is there, with that number. -/
theorem sum_there (S : List Bs) (k : Bs) : ∃ m, idxS k (sumS S k) = some m ∧ sumN S k = m + 1 := by
  unfold sumS sumN
  cases hi : idxS k S with
  | some m => exact ⟨m, by simp [hi], by simp⟩
  | none => exact ⟨S.length, by simp [idxS_snoc k S hi], by simp⟩
theorem idxS_inj {a b : Bs} : ∀ {S : List Bs} {m : Nat}, idxS a S = some m → idxS b S = some m → a = b
  | [], _, h, _ => by simp [idxS] at h
  | s :: S, m, h1, h2 => by
    simp only [idxS] at h1 h2
    split at h1
    · rename_i e
      split at h2
      · rename_i e2; rw [e, e2]
      · cases h1
        cases hi : idxS b S with
        | none => rw [hi] at h2; simp at h2
        | some j => rw [hi] at h2; simp at h2
    · split at h2
      · cases h2
        cases hi : idxS a S with
        | none => rw [hi] at h1; simp at h1
        | some j => rw [hi] at h1; simp at h1
      · cases hi : idxS a S with
        | none => rw [hi] at h1; simp at h1
        | some j =>
          cases hj : idxS b S with
          | none => rw [hj] at h2; simp at h2
          | some j' =>
            rw [hi] at h1; rw [hj] at h2
            simp at h1 h2
            exact idxS_inj hi (by rw [hj]; congr 1; omega)
/-- p is k's sum, as far as S knows. -/
def IsSum (S : List Bs) (k : Bs) (p : Pr) : Prop := ∃ m, idxS k S = some m ∧ p = (eees, ((m + 1 : Nat) : Int))
theorem IsSum.pre {S S' : List Bs} {k : Bs} {p : Pr} (h : IsSum S k p) (hp : Pre S S') : IsSum S' k p := by
  obtain ⟨m, h1, h2⟩ := h; obtain ⟨R, rfl⟩ := hp
  exact ⟨m, idxS_app k S R m h1, h2⟩
theorem isSum_sum (S : List Bs) (k : Bs) : IsSum (sumS S k) k (sumP S k) := by
  obtain ⟨m, h1, h2⟩ := sum_there S k
  exact ⟨m, h1, by rw [sumP, h2]⟩
theorem IsSum.inj {S : List Bs} {a b : Bs} {p : Pr} (h1 : IsSum S a p) (h2 : IsSum S b p) : a = b := by
  obtain ⟨m, h1, rfl⟩ := h1
  obtain ⟨m', h2, e⟩ := h2
  have : m = m' := by simp at e; omega
  subst this
  exact idxS_inj h1 h2
theorem IsSum.fn {S : List Bs} {a : Bs} {p q : Pr} (h1 : IsSum S a p) (h2 : IsSum S a q) : p = q := by
  obtain ⟨m, h1, rfl⟩ := h1
  obtain ⟨m', h2, rfl⟩ := h2
  rw [h1] at h2; cases h2; rfl
theorem IsSum.rng {S : List Bs} {a : Bs} {p : Pr} (h : IsSum S a p) : p.1 = eees ∧ 0 ≤ p.2 ∧ p.2 ≤ S.length := by
  obtain ⟨m, h1, rfl⟩ := h
  have : ∀ (S : List Bs) (m : Nat), idxS a S = some m → m < S.length := by
    intro S
    induction S with
    | nil => intro m h; simp [idxS] at h
    | cons s S ih =>
      intro m h
      simp only [idxS] at h
      split at h
      · cases h; simp
      · cases hi : idxS a S with
        | none => rw [hi] at h; simp at h
        | some j => rw [hi] at h; have := ih j hi; simp at h; simp; omega
  have := this S m h1
  exact ⟨rfl, by simp; omega, by simp; omega⟩
theorem putB8_inj {v w : Int} (hv : 0 ≤ v ∧ v < 18446744073709551616) (hw : 0 ≤ w ∧ w < 18446744073709551616) (h : putB v 8 = putB w 8) : v = w := by
  have h2 : ∀ i, i < 8 → (v / 2 ^ (8 * (8 - 1 - i))) % 256 = (w / 2 ^ (8 * (8 - 1 - i))) % 256 := by
    intro i hi
    have h3 := congrArg (fun l => l[i]?) h
    simp only [putB, show ¬ ((8 : Nat) < 1 ∨ 8 < 8) by decide, if_false, List.getElem?_map, List.getElem?_range hi, Option.map_some, Option.some.injEq, byteOf] at h3
    have h4 := congrArg UInt8.toNat h3
    rw [UInt8.toNat_ofNat', UInt8.toNat_ofNat'] at h4
    have h5 := Int.emod_nonneg (v / 2 ^ (8 * (8 - 1 - i))) (show (256 : Int) ≠ 0 by decide)
    have h6 := Int.emod_lt_of_pos (v / 2 ^ (8 * (8 - 1 - i))) (show (0 : Int) < 256 by decide)
    have h7 := Int.emod_nonneg (w / 2 ^ (8 * (8 - 1 - i))) (show (256 : Int) ≠ 0 by decide)
    have h8 := Int.emod_lt_of_pos (w / 2 ^ (8 * (8 - 1 - i))) (show (0 : Int) < 256 by decide)
    omega
  have a0 := h2 0 (by decide); have a1 := h2 1 (by decide); have a2 := h2 2 (by decide); have a3 := h2 3 (by decide)
  have a4 := h2 4 (by decide); have a5 := h2 5 (by decide); have a6 := h2 6 (by decide); have a7 := h2 7 (by decide)
  simp only [Nat.reduceSub, Nat.reduceMul, Nat.sub_zero, Int.reducePow] at a0 a1 a2 a3 a4 a5 a6 a7
  omega
def Wfp (p : Pr) : Prop := (0 ≤ p.1 ∧ p.1 < 18446744073709551616) ∧ (0 ≤ p.2 ∧ p.2 < 18446744073709551616)
theorem pairB_inj {p q : Pr} (hp : Wfp p) (hq : Wfp q) (h : pairB p = pairB q) : p = q := by
  obtain ⟨h1, h2⟩ := List.append_inj h (by simp)
  exact Prod.ext (putB8_inj hp.1 hq.1 h1) (putB8_inj hp.2 hq.2 h2)
theorem nodeK_inj {a b c d : Pr} (ha : Wfp a) (hb : Wfp b) (hc : Wfp c) (hd : Wfp d) (h : nodeK a b = nodeK c d) : a = c ∧ b = d := by
  simp only [nodeK, List.cons.injEq, true_and] at h
  obtain ⟨h1, h2⟩ := List.append_inj h (by simp [pairB_len])
  exact ⟨pairB_inj ha hc h1, pairB_inj hb hd h2⟩
theorem leafK_inj {a b : Bs} (h : leafK a = leafK b) : a = b := by simpa [leafK] using h
theorem IsSum.wf {S : List Bs} {a : Bs} {p : Pr} (h : IsSum S a p) (hS : S.length ≤ 1000000) : Wfp p := by
  obtain ⟨h1, h2, h3⟩ := h.rng
  exact ⟨by rw [h1]; decide, by omega, by omega⟩

/-- By either lock: p is k's sum, as far as S knows. -/
def IsG (md : Bool) (S : List Bs) (k : Bs) (p : Pr) : Prop := match md with | true => IsSum S k p | false => p = digestF k
theorem gS_pre (md : Bool) (S : List Bs) (k : Bs) : Pre S (gS md S k) := by
  cases md
  · exact Pre.refl _
  · exact sumS_pre S k
theorem IsG.pre {md : Bool} {S S' : List Bs} {k : Bs} {p : Pr} (h : IsG md S k p) (hp : Pre S S') : IsG md S' k p := by
  cases md
  · exact h
  · exact IsSum.pre h hp
theorem isG_sum (md : Bool) (S : List Bs) (k : Bs) : IsG md (gS md S k) k (gP md S k) := by
  cases md
  · exact rfl
  · exact isSum_sum S k
theorem IsG.fn {md : Bool} {S : List Bs} {a : Bs} {p q : Pr} (h1 : IsG md S a p) (h2 : IsG md S a q) : p = q := by
  cases md
  · exact Eq.trans h1 (Eq.symm h2)
  · exact IsSum.fn h1 h2

abbrev nd (N : List Pr) (i : Nat) : Pr := N.getD i (0, 0)
theorem nd_set {N : List Pr} {i j : Nat} {p : Pr} : nd (N.set i p) j = if i = j ∧ j < N.length then p else nd N j := by
  simp only [nd, List.getD_eq_getElem?_getD, List.getElem?_set]
  by_cases h : i = j
  · subst h
    by_cases h2 : i < N.length
    · simp [h2]
    · simp [h2]
  · simp [h]
/-- The nodes N are the tree of leaves lv, as far as S knows. -/
structure Tree (md : Bool) (S : List Bs) (lv : List Bs) (N : List Pr) : Prop where
  len : N.length = 2 * lv.length
  leaf : ∀ i (hi : i < lv.length), IsG md S (leafK lv[i]) (nd N (lv.length + i))
  node : ∀ j, 1 ≤ j → j < lv.length → IsG md S (nodeK (nd N (2 * j)) (nd N (2 * j + 1))) (nd N j)
theorem Tree.pre {md : Bool} {S S' : List Bs} {lv : List Bs} {N : List Pr} (h : Tree md S lv N) (hp : Pre S S') : Tree md S' lv N :=
  ⟨h.len, fun i hi => (h.leaf i hi).pre hp, fun j h1 h2 => (h.node j h1 h2).pre hp⟩
theorem lfF_tree (md : Bool) : ∀ (r : List Bs) (k : Nat) (N : List Pr) (S : List Bs), k + r.length ≤ N.length → Pre S (lfF md r k N S).2 ∧ (∀ j, j < k → nd (lfF md r k N S).1 j = nd N j) ∧ ∀ i (hi : i < r.length), IsG md (lfF md r k N S).2 (leafK r[i]) (nd (lfF md r k N S).1 (k + i))
  | [], _, _, S, _ => ⟨Pre.refl _, fun _ _ => rfl, fun i hi => absurd hi (by simp)⟩
  | b :: r, k, N, S, hk => by
    simp only [List.length_cons] at hk
    obtain ⟨h1, h2, h3⟩ := lfF_tree md r (k + 1) (N.set k (gP md S (leafK b))) (gS md S (leafK b)) (by simp; omega)
    simp only [lfF]
    refine ⟨(gS_pre md _ _).trans h1, fun j hj => ?_, fun i hi => ?_⟩
    · rw [h2 j (by omega), nd_set, if_neg (by omega)]
    · cases i with
      | zero =>
        rw [show k + 0 = k from rfl, h2 k (by omega), nd_set, if_pos ⟨rfl, by omega⟩]
        exact (isG_sum md S (leafK b)).pre h1
      | succ i =>
        have := h3 i (by simpa using hi)
        rw [show k + 1 + i = k + (i + 1) by omega] at this
        exact this
theorem upF_tree (md : Bool) : ∀ (i : Nat) (N : List Pr) (S : List Bs), i < N.length → Pre S (upF md i N S).2 ∧ (∀ j, i < j → nd (upF md i N S).1 j = nd N j) ∧ ∀ j, 1 ≤ j → j ≤ i → IsG md (upF md i N S).2 (nodeK (nd (upF md i N S).1 (2 * j)) (nd (upF md i N S).1 (2 * j + 1))) (nd (upF md i N S).1 j)
  | 0, _, S, _ => ⟨Pre.refl _, fun _ _ => rfl, fun j h1 h2 => absurd h1 (by omega)⟩
  | i + 1, N, S, hi => by
    obtain ⟨h1, h2, h3⟩ := upF_tree md i (N.set (i + 1) (gP md S (kidK N (i + 1)))) (gS md S (kidK N (i + 1))) (by simp; omega)
    simp only [upF]
    refine ⟨(gS_pre md _ _).trans h1, fun j hj => ?_, fun j j1 j2 => ?_⟩
    · rw [h2 j (by omega), nd_set, if_neg (by omega)]
    · by_cases e : j = i + 1
      · subst e
        rw [h2 (i + 1) (by omega), h2 (2 * (i + 1)) (by omega), h2 (2 * (i + 1) + 1) (by omega), nd_set (j := 2 * (i + 1)), if_neg (by omega), nd_set (j := 2 * (i + 1) + 1), if_neg (by omega), nd_set (j := i + 1), if_pos ⟨rfl, hi⟩]
        exact (isG_sum md S (kidK N (i + 1))).pre h1
      · exact h3 j j1 (by omega)
theorem buildF_tree (md : Bool) (lv : List Bs) (S : List Bs) (hl : 1 ≤ lv.length) : Pre S (buildF md lv S).2 ∧ Tree md (buildF md lv S).2 lv (buildF md lv S).1 := by
  have l1 := lfF_len md lv lv.length (List.replicate (2 * lv.length) (0, 0)) S
  obtain ⟨a1, a2, a3⟩ := lfF_tree md lv lv.length (List.replicate (2 * lv.length) (0, 0)) S (by simp; omega)
  unfold buildF
  generalize lfF md lv lv.length (List.replicate (2 * lv.length) (0, 0)) S = q at *
  simp only [List.length_replicate] at l1
  have l2 := upF_len md (lv.length - 1) q.1 q.2
  obtain ⟨b1, b2, b3⟩ := upF_tree md (lv.length - 1) q.1 q.2 (by omega)
  refine ⟨a1.trans b1, ⟨by omega, fun i hi => ?_, fun j h1 h2 => b3 j h1 (by omega)⟩⟩
  rw [b2 _ (by omega)]
  exact (a3 i hi).pre b1
theorem buildF_len (md : Bool) (lv : List Bs) (S : List Bs) : (buildF md lv S).1.length = 2 * lv.length ∧ (buildF md lv S).2.length ≤ S.length + 2 * lv.length := by
  have l1 := lfF_len md lv lv.length (List.replicate (2 * lv.length) (0, 0)) S
  unfold buildF
  generalize lfF md lv lv.length (List.replicate (2 * lv.length) (0, 0)) S = q at *
  simp only [List.length_replicate] at l1
  have l2 := upF_len md (lv.length - 1) q.1 q.2
  omega
/-- One top, one tree. -/
theorem Tree.one {S : List Bs} {a b : List Bs} {N M : List Pr} (hS : S.length ≤ 1000000) (hN : Tree true S a N) (hM : Tree true S b M) (hl : a.length = b.length) (ht : nd N 1 = nd M 1) : ∀ j, 1 ≤ j → j < 2 * a.length → nd N j = nd M j := by
  have wN : ∀ j, 1 ≤ j → j < 2 * a.length → Wfp (nd N j) := fun j h1 h2 => by
    by_cases h : j < a.length
    · exact (hN.node j h1 h).wf hS
    · have := hN.leaf (j - a.length) (by omega)
      rw [show a.length + (j - a.length) = j by omega] at this
      exact this.wf hS
  have wM : ∀ j, 1 ≤ j → j < 2 * a.length → Wfp (nd M j) := fun j h1 h2 => by
    by_cases h : j < a.length
    · exact (hM.node j h1 (by omega)).wf hS
    · have := hM.leaf (j - a.length) (by omega)
      rw [show b.length + (j - a.length) = j by omega] at this
      exact this.wf hS
  intro j
  induction j using Nat.strongRecOn with
  | ind j ih =>
    intro h1 h2
    by_cases e : j = 1
    · rw [e]; exact ht
    · have hp := ih (j / 2) (by omega) (by omega) (by omega)
      have k1 := hN.node (j / 2) (by omega) (by omega)
      have k2 := hM.node (j / 2) (by omega) (by omega)
      rw [hp] at k1
      obtain ⟨e1, e2⟩ := nodeK_inj (wN _ (by omega) (by omega)) (wN _ (by omega) (by omega)) (wM _ (by omega) (by omega)) (wM _ (by omega) (by omega)) (k1.inj k2)
      rcases Nat.mod_two_eq_zero_or_one j with hm | hm
      · rw [show j = 2 * (j / 2) by omega]; exact e1
      · rw [show j = 2 * (j / 2) + 1 by omega]; exact e2
theorem Tree.leaves {S : List Bs} {a b : List Bs} {N M : List Pr} (hS : S.length ≤ 1000000) (hN : Tree true S a N) (hM : Tree true S b M) (hl : a.length = b.length) (ha : 1 ≤ a.length) (ht : nd N 1 = nd M 1) : a = b := by
  have key := Tree.one hS hN hM hl ht
  refine List.ext_getElem hl fun i h1 h2 => ?_
  have k1 := hN.leaf i h1
  have k2 := hM.leaf i h2
  rw [key (a.length + i) (by omega) (by omega), hl] at k1
  exact leafK_inj (k1.inj k2)
/-- One row of leaves, one tree. -/
theorem Tree.same {md : Bool} {S : List Bs} {a : List Bs} {N M : List Pr} (hN : Tree md S a N) (hM : Tree md S a M) : ∀ n j, 2 * a.length - j ≤ n → 1 ≤ j → j < 2 * a.length → nd N j = nd M j := by
  intro n
  induction n with
  | zero => intro j h1 h2 h3; omega
  | succ n ih =>
    intro j h1 h2 h3
    by_cases h : j < a.length
    · have k1 := hN.node j h2 h
      have k2 := hM.node j h2 h
      rw [ih (2 * j) (by omega) (by omega) (by omega), ih (2 * j + 1) (by omega) (by omega) (by omega)] at k1
      exact k1.fn k2
    · have k1 := hN.leaf (j - a.length) (by omega)
      have k2 := hM.leaf (j - a.length) (by omega)
      rw [show a.length + (j - a.length) = j by omega] at k1 k2
      exact k1.fn k2
end Go.Proofs.YtafkhpjnihnfpaaGreat


namespace Go.Proofs.YtafkhpjnihnfpaaGreat
open Go Go.Abs

theorem sum_known {md : Bool} {S : List Bs} {k : Bs} {p : Pr} (h : IsG md S k p) : gP md S k = p ∧ gS md S k = S := by
  cases md with
  | true =>
    obtain ⟨m, h1, rfl⟩ := h
    exact ⟨by show sumP S k = _; rw [sumP, sumN, h1]; rfl, by show sumS S k = _; rw [sumS, h1]; rfl⟩
  | false => exact ⟨Eq.symm h, rfl⟩
theorem xor_one (k : Nat) : k ^^^ 1 = if k % 2 = 1 then k - 1 else k + 1 := by
  have h1 : (k ^^^ 1) / 2 = k / 2 := by rw [Nat.xor_div_two]; simp
  have h2 : (k ^^^ 1) % 2 = (k + 1) % 2 := by
    have h3 := Nat.testBit_xor k 1 0
    simp only [Nat.testBit_zero] at h3
    rcases Nat.mod_two_eq_zero_or_one k with h | h <;> rcases Nat.mod_two_eq_zero_or_one (k ^^^ 1) with h' | h' <;> simp [h, h'] at h3 <;> omega
  split <;> omega
theorem upL_len (N : List Pr) : ∀ (e i : Nat), i < 2 ^ e → (upL N (2 ^ e + i)).length = e
  | 0, i, h => by
    have : i = 0 := by omega
    subst this; rw [upL_one (by simp)]; rfl
  | e + 1, i, h => by
    have hp : 2 ^ (e + 1) = 2 * 2 ^ e := by rw [Nat.pow_succ]; omega
    have hpos : 0 < 2 ^ e := Nat.two_pow_pos e
    rw [upL_more (by omega), List.length_cons, show (2 ^ (e + 1) + i) / 2 = 2 ^ e + i / 2 by omega, upL_len N e (i / 2) (by omega)]
/-- Its own neighbours lead to the top, and nothing new is summed. -/
theorem ck_up {md : Bool} {S : List Bs} {lv : List Bs} {N : List Pr} (hT : Tree md S lv N) : ∀ (e i : Nat), i < 2 ^ e → 2 ^ e + i < 2 * lv.length → ckF md (upL N (2 ^ e + i)) i (nd N (2 ^ e + i)) S = (nd N 1, S)
  | 0, i, h, _ => by
    have : i = 0 := by omega
    subst this; rw [upL_one (by simp)]; rfl
  | e + 1, i, h, hk => by
    have hp : 2 ^ (e + 1) = 2 * 2 ^ e := by rw [Nat.pow_succ]; omega
    have hpos : 0 < 2 ^ e := Nat.two_pow_pos e
    rw [upL_more (by omega), ckF]
    have hd : (2 ^ (e + 1) + i) / 2 = 2 ^ e + i / 2 := by omega
    have key : (if i % 2 = 1 then nodeK (N.getD ((2 ^ (e + 1) + i) ^^^ 1) (0, 0)) (nd N (2 ^ (e + 1) + i)) else nodeK (nd N (2 ^ (e + 1) + i)) (N.getD ((2 ^ (e + 1) + i) ^^^ 1) (0, 0))) = nodeK (nd N (2 * (2 ^ e + i / 2))) (nd N (2 * (2 ^ e + i / 2) + 1)) := by
      rw [xor_one]
      split
      · rw [if_pos (by omega), show 2 ^ (e + 1) + i - 1 = 2 * (2 ^ e + i / 2) by omega, show 2 ^ (e + 1) + i = 2 * (2 ^ e + i / 2) + 1 by omega]
      · rw [if_neg (by omega), show 2 ^ (e + 1) + i = 2 * (2 ^ e + i / 2) by omega]
    rw [key]
    obtain ⟨k1, k2⟩ := sum_known (hT.node (2 ^ e + i / 2) (by omega) (by omega))
    rw [k1, k2, hd]
    exact ck_up hT e (i / 2) (by omega) (by omega)
theorem Tree.wf {S : List Bs} {lv : List Bs} {N : List Pr} (hT : Tree true S lv N) (hS : S.length ≤ 1000000) {j : Nat} (h1 : 1 ≤ j) (h2 : j < 2 * lv.length) : Wfp (nd N j) := by
  by_cases h : j < lv.length
  · exact (hT.node j h1 h).wf hS
  · have := hT.leaf (j - lv.length) (by omega)
    rw [show lv.length + (j - lv.length) = j by omega] at this
    exact this.wf hS
theorem ck_tree {md : Bool} {S : List Bs} {lv : List Bs} {N : List Pr} (hT : Tree md S lv N) {e : Nat} (he : lv.length = 2 ^ e) {i : Nat} (hi : i < lv.length) : ckF md (upL N (2 ^ e + i)) i (gP md S (leafK lv[i])) (gS md S (leafK lv[i])) = (nd N 1, S) := by
  obtain ⟨k1, k2⟩ := sum_known (hT.leaf i hi)
  rw [k1, k2, he]
  exact ck_up hT e i (by omega) (by omega)
end Go.Proofs.YtafkhpjnihnfpaaGreat


namespace Go.Proofs.YtafkhpjnihnfpaaGreat
open Go Go.Abs

/-- The nodes that stand there. -/
def WS.ndF (s : WS) (a : Int) (j : Nat) : Pr := pairF ((s.sd.snap.drop (ndAt s.n a j).toNat).take 16)
def WS.nds (s : WS) (a : Int) : List Pr := (List.range (2 * s.n.toNat)).map (s.ndF a)
def WS.oneQ (s : WS) (a : Int) (i : Nat) : List Pr := upL (s.nds a) (s.n.toNat + i)
def WS.oneC (md : Bool) (s : WS) (a : Int) (i : Nat) : Pr × List Bs := ckF md (s.oneQ a i) i (gP md s.S (leafK (s.row a i))) (gS md s.S (leafK (s.row a i)))
def WS.oneS (md : Bool) (s : WS) (a : Int) (i : Nat) : WS := if s.pw.gone then s else { s with S := (s.oneC md a i).2 }
def WS.oneE (md : Bool) (s : WS) (a : Int) (i : Nat) (top : Pr) : Int := if s.pw.gone then 7 else if (s.oneC md a i).1 = top ∧ leafG (s.row a i) i = true then 0 else 3
def WS.oneL (md : Bool) (s : WS) (a : Int) (i : Nat) (top : Pr) : Lf := if s.oneE md a i top = 0 then s.leaf a i else lf0
theorem oneQ_len {s : WS} {k : Nat} (hs : s.Fit k) (a : Int) (i : Nat) (hi : (i : Int) < s.n) : ∃ e, s.n.toNat = 2 ^ e ∧ (s.oneQ a i).length = e ∧ e ≤ 4 := by
  have hg := isG_cases hs.g
  have : s.n.toNat = 2 ^ 2 ∨ s.n.toNat = 2 ^ 3 ∨ s.n.toNat = 2 ^ 4 := by omega
  rcases this with h | h | h
  · exact ⟨2, h, by rw [WS.oneQ, h]; exact upL_len _ _ _ (by omega), by omega⟩
  · exact ⟨3, h, by rw [WS.oneQ, h]; exact upL_len _ _ _ (by omega), by omega⟩
  · exact ⟨4, h, by rw [WS.oneQ, h]; exact upL_len _ _ _ (by omega), by omega⟩
end Go.Proofs.YtafkhpjnihnfpaaGreat


namespace Go.Proofs.YtafkhpjnihnfpaaGreat
open Go Go.Abs

theorem x64_rng (a b : Int) : 0 ≤ x64 a b ∧ x64 a b < 18446744073709551616 := by
  have h1 : x64 a b = (((BitVec.ofInt 64 a ^^^ BitVec.ofInt 64 b).toNat : Nat) : Int) := by
    show IntKind.u64.wrap (((BitVec.ofInt 64 a ^^^ BitVec.ofInt 64 b).toNat : Nat) : Int) = _
    have := (BitVec.ofInt 64 a ^^^ BitVec.ofInt 64 b).isLt
    exact IntWalk.u64_in _ (by omega)
  have := (BitVec.ofInt 64 a ^^^ BitVec.ofInt 64 b).isLt
  omega
theorem stepF_wf (s m : Pr) : Wfp (stepF s m) := ⟨x64_rng _ _, x64_rng _ _⟩
theorem steps_wf : ∀ (l : List Bs) (s : Pr), Wfp s → Wfp (l.foldl sumS6 s)
  | [], _, h => h
  | r :: l, s, _ => steps_wf l _ (stepF_wf s (pairF r))
theorem digestF_wf (p : Bs) : Wfp (digestF p) := by
  rw [digestF_S]
  exact steps_wf _ _ ⟨⟨by decide, by decide⟩, ⟨by decide, by decide⟩⟩
theorem IsG.wf {md : Bool} {S : List Bs} {a : Bs} {p : Pr} (h : IsG md S a p) (hS : S.length ≤ 1000000) : Wfp p := by
  cases md with
  | true => exact IsSum.wf h hS
  | false => rw [show p = digestF a from h]; exact digestF_wf a
theorem Tree.wfG {md : Bool} {S : List Bs} {lv : List Bs} {N : List Pr} (hT : Tree md S lv N) (hS : S.length ≤ 1000000) {j : Nat} (h1 : 1 ≤ j) (h2 : j < 2 * lv.length) : Wfp (nd N j) := by
  by_cases h : j < lv.length
  · exact (hT.node j h1 h).wf hS
  · have := hT.leaf (j - lv.length) (by omega)
    rw [show lv.length + (j - lv.length) = j by omega] at this
    exact this.wf hS
/-- So many bytes from a place on. -/
def sub (b : Bs) (o k : Nat) : Bs := (b.drop o).take k
theorem layO_get {b : Bs} {x : Wr} (h : x.1.toNat + x.2.length ≤ b.length) (j : Nat) : (layO b x)[j]? = if x.1.toNat ≤ j ∧ j < x.1.toNat + x.2.length then x.2[j - x.1.toNat]? else b[j]? := by
  have hm : min x.2.length (b.length - x.1.toNat) = x.2.length := by omega
  have ht : min x.1.toNat b.length = x.1.toNat := by omega
  rw [layO, hm, List.take_length]
  simp only [List.getElem?_append, List.length_append, List.length_take, List.getElem?_take, List.getElem?_drop, ht]
  by_cases h1 : j < x.1.toNat
  · rw [if_pos (by omega), if_pos h1, if_pos h1, if_neg (by omega)]
  · by_cases h2 : j < x.1.toNat + x.2.length
    · rw [if_pos h2, if_neg h1, if_pos (by omega)]
    · rw [if_neg h2, if_neg (by omega)]
      congr 1; omega
theorem sub_in {b : Bs} {x : Wr} (h : x.1.toNat + x.2.length ≤ b.length) {o k : Nat} (h1 : x.1.toNat ≤ o) (h2 : o + k ≤ x.1.toNat + x.2.length) : sub (layO b x) o k = sub x.2 (o - x.1.toNat) k := by
  apply List.ext_getElem?; intro j
  simp only [sub, List.getElem?_take, List.getElem?_drop]
  split
  · rw [layO_get h, if_pos (by omega), show o + j - x.1.toNat = o - x.1.toNat + j by omega]
  · rfl
theorem sub_out {b : Bs} {x : Wr} (h : x.1.toNat + x.2.length ≤ b.length) {o k : Nat} (h1 : o + k ≤ x.1.toNat ∨ x.1.toNat + x.2.length ≤ o) : sub (layO b x) o k = sub b o k := by
  apply List.ext_getElem?; intro j
  simp only [sub, List.getElem?_take, List.getElem?_drop]
  split
  · rw [layO_get h, if_neg (by omega)]
  · rfl
theorem flat_sub (k : Nat) : ∀ (L : List Bs) (i : Nat) (hi : i < L.length), (∀ b ∈ L, b.length = k) → sub L.flatten (k * i) k = L[i]
  | b :: r, 0, _, h => by
    rw [sub, List.flatten_cons]; exact List.take_left' (h b (by simp))
  | b :: r, i + 1, hi, h => by
    have hb := h b (by simp)
    have : k * (i + 1) = b.length + k * i := by rw [hb, Nat.mul_add, Nat.mul_one, Nat.add_comm]
    rw [sub, List.flatten_cons, this, List.drop_length_add_append]
    exact flat_sub k r i (by simpa using hi) fun x hx => h x (by simp [hx])
theorem WS.row_sub (s : WS) (a : Int) (i : Nat) : s.row a i = sub s.sd.snap (lfAt s.n a i).toNat 32 := rfl
theorem WS.nd_sub (s : WS) (a : Int) (j : Nat) : s.ndF a j = pairF (sub s.sd.snap (ndAt s.n a j).toNat 16) := rfl

theorem areaW_n (md : Bool) (s : WS) (a : Int) (lv : List Lf) : (s.areaW md a lv).n = s.n := by unfold WS.areaW; split <;> rfl
theorem areaW_S (md : Bool) (s : WS) (a : Int) (lv : List Lf) : (s.areaW md a lv).S = (buildF md (lv.map leafB) s.S).2 := by unfold WS.areaW; split <;> rfl
theorem areaW_snap (md : Bool) {s : WS} (a : Int) (lv : List Lf) (hc : s.pw.can = true) (hc2 : s.pw.spend.can = true) : (s.areaW md a lv).sd.snap = layO (layO s.sd.snap (lfAt s.n a 0, lvB lv)) (ndAt s.n a 0, nodesB (s.nodes md lv)) := by
  simp [WS.areaW, WS.areaW1, SdS.write, hc, hc2, SdS.snap, List.foldl_append]
theorem nodes_len (md : Bool) (s : WS) (lv : List Lf) : (s.nodes md lv).length = 2 * lv.length := by
  have := (buildF_len md (lv.map leafB) s.S).1
  rwa [List.length_map] at this
section
variable {md : Bool} {s : WS} {k : Nat} {a : Int} {lv : List Lf}
theorem areaW_row2 (hs : s.Fit k) (hc : s.pw.can = true) (hc2 : s.pw.spend.can = true) (ha : 0 ≤ a ∧ a < 2) (hl : (lv.length : Int) = s.n) (b : Int) (hb : 0 ≤ b ∧ b < 2) (hne : b ≠ a) (i : Nat) (hi : i < lv.length) : (s.areaW md a lv).row b i = s.row b i := by
  have hg := isG_cases hs.g
  have hsl := snap_lenS hs
  have hlb := lvB_len lv
  have hnb := nodesB_len (s.nodes md lv)
  rw [nodes_len] at hnb
  have hc' : (a = 0 ∧ b = 1) ∨ (a = 1 ∧ b = 0) := by omega
  rw [WS.row_sub, areaW_n, areaW_snap md a lv hc hc2, WS.row_sub]
  have e1 : (lfAt s.n a 0).toNat + (lvB lv).length ≤ s.sd.snap.length := by unfold lfAt; rcases hc' with ⟨rfl, rfl⟩ | ⟨rfl, rfl⟩ <;> omega
  have e2 : (layO s.sd.snap (lfAt s.n a 0, lvB lv)).length = s.sd.snap.length := layO_len _ _ (by dsimp only; omega)
  rw [sub_out (by rw [e2]; dsimp only; unfold ndAt; rcases hc' with ⟨rfl, rfl⟩ | ⟨rfl, rfl⟩ <;> omega) (by dsimp only; unfold lfAt ndAt; rcases hc' with ⟨rfl, rfl⟩ | ⟨rfl, rfl⟩ <;> omega), sub_out (by dsimp only; exact e1) (by dsimp only; unfold lfAt; rcases hc' with ⟨rfl, rfl⟩ | ⟨rfl, rfl⟩ <;> omega)]
end

/-- A top is leaves', as far as S knows. -/
def TopOf (md : Bool) (S : List Bs) (lv : List Lf) (top : Pr) : Prop := ∃ N, Tree md S (lv.map leafB) N ∧ nd N 1 = top
theorem TopOf.pre {md : Bool} {S S' : List Bs} {lv : List Lf} {top : Pr} (h : TopOf md S lv top) (hp : Pre S S') : TopOf md S' lv top := by
  obtain ⟨N, hT, ht⟩ := h; exact ⟨N, hT.pre hp, ht⟩
theorem nodes_top (md : Bool) (s : WS) (lv : List Lf) (h1 : 1 ≤ lv.length) : TopOf md (buildF md (lv.map leafB) s.S).2 lv ((s.nodes md lv).getD 1 (0, 0)) :=
  ⟨s.nodes md lv, (buildF_tree md (lv.map leafB) s.S (by rwa [List.length_map])).2, rfl⟩
theorem rows_of {s : WS} {a : Int} {lv : List Lf} (hr : ∀ i (hi : i < lv.length), s.row a i = leafB lv[i]) (m : Nat) (hm : lv.length = m) : s.rows a m = lv.map leafB := by
  subst hm
  refine List.ext_getElem (by simp [WS.rows]) fun i h1 h2 => ?_
  simp only [WS.rows, List.getElem_map, List.getElem_range]
  exact hr i (by simpa using h2)
/-- What stands there and comes to its top is read. -/
theorem read_well {md : Bool} {s : WS} {k : Nat} {a : Int} {lv : List Lf} {top : Pr} (hs : s.Fit k) (hgo : s.pw.gone = false) (hl : (lv.length : Int) = s.n) (hw : ∀ x ∈ lv, x.Wf) (hok : lvOk lv 0 = true)
    (hr : ∀ i (hi : i < lv.length), s.row a i = leafB lv[i]) (ht : TopOf md s.S lv top) : s.readE md a top = 0 ∧ s.readL md a top = lv := by
  have hg := isG_cases hs.g
  have hm : lv.length = s.n.toNat := by omega
  have hro := rows_of hr s.n.toNat hm
  have hT : s.readT md a = top := by
    obtain ⟨N, hN, rfl⟩ := ht
    obtain ⟨p, hM⟩ := buildF_tree md (lv.map leafB) s.S (by rw [List.length_map]; omega)
    rw [WS.readT, hro]
    exact Tree.same hM (hN.pre p) _ 1 (Nat.le_refl _) (by omega) (by rw [List.length_map]; omega)
  have hL : ∀ i (hi : i < lv.length), leafG (s.row a i) i = true ∧ leafD (s.row a i) i = lv[i] := fun i hi => by
    rw [hr i hi]
    have := lvOk_at lv 0 i hi hok
    rw [Nat.zero_add] at this
    exact leafG_B _ (hw _ (List.getElem_mem hi)) i this
  have hA : s.allG a s.n.toNat = true := by
    rw [WS.allG, List.all_eq_true]
    intro i hi
    exact (hL i (by have := List.mem_range.1 hi; omega)).1
  have hE : s.readE md a top = 0 := by rw [WS.readE, hgo, hT, hA]; simp
  refine ⟨hE, ?_⟩
  rw [WS.readL, if_pos hE]
  refine List.ext_getElem (by simp [WS.leaves, hm]) fun i h1 h2 => ?_
  simp only [WS.leaves, List.getElem_map, List.getElem_range]
  exact (hL i h2).2
theorem upL_congr {A B : List Pr} {m : Nat} (h : ∀ j, 2 ≤ j → j < 2 * m → nd A j = nd B j) : ∀ (n k : Nat), k ≤ n → k < 2 * m → upL A k = upL B k
  | 0, k, hn, _ => by rw [upL_one (by omega), upL_one (by omega)]
  | n + 1, k, hn, hk => by
    by_cases h1 : k ≤ 1
    · rw [upL_one h1, upL_one h1]
    · have hx := xor1_lt k m hk
      have h2 : 2 ≤ k ^^^ 1 := by rw [xor_one]; split <;> omega
      rw [upL_more (l := A) (k := k) (by omega), upL_more (l := B) (k := k) (by omega), upL_congr h n (k / 2) (by omega) (by omega)]
      congr 1
      exact h _ h2 hx
theorem nds_nd (s : WS) (a : Int) (j : Nat) (h : j < 2 * s.n.toNat) : nd (s.nds a) j = s.ndF a j := by
  rw [nd, WS.nds, List.getD_eq_getElem?_getD, List.getElem?_map, List.getElem?_range h]; rfl
/-- One that stands there, and its neighbours. -/
theorem one_well {md : Bool} {s : WS} {k : Nat} {a : Int} {lv : List Lf} {top : Pr} (hs : s.Fit k) (hgo : s.pw.gone = false) (hl : (lv.length : Int) = s.n) (hw : ∀ x ∈ lv, x.Wf) (hok : lvOk lv 0 = true)
    {N : List Pr} (hT : Tree md s.S (lv.map leafB) N) (ht : nd N 1 = top) (hnd : ∀ j, 1 ≤ j → j < 2 * lv.length → s.ndF a j = nd N j) (i : Nat) (hi : i < lv.length) (hr : s.row a i = leafB lv[i]) : s.oneE md a i top = 0 ∧ s.oneL md a i top = lv[i] ∧ s.oneS md a i = s := by
  have hm : lv.length = s.n.toNat := by omega
  obtain ⟨e, he, hq, _⟩ := oneQ_len hs a i (by omega)
  have hQ : s.oneQ a i = upL N (2 ^ e + i) := by
    rw [WS.oneQ, he]
    refine upL_congr (m := lv.length) (fun j h1 h2 => ?_) _ _ (Nat.le_refl _) (by omega)
    rw [nds_nd _ _ _ (by omega), hnd j (by omega) h2]
  have hC : s.oneC md a i = (top, s.S) := by
    rw [WS.oneC, hQ, hr]
    have := ck_tree hT (e := e) (by rw [List.length_map]; omega) (i := i) (by rw [List.length_map]; exact hi)
    rw [List.getElem_map] at this
    rw [this, ht]
  have hL := lvOk_at lv 0 i hi hok
  rw [Nat.zero_add] at hL
  obtain ⟨g1, g2⟩ := leafG_B _ (hw _ (List.getElem_mem hi)) i hL
  have hE : s.oneE md a i top = 0 := by rw [WS.oneE, hgo, hC, hr, g1]; simp
  refine ⟨hE, ?_, ?_⟩
  · rw [WS.oneL, if_pos hE, WS.leaf, hr, g2]
  · rw [WS.oneS, hgo, hC]; rfl
end Go.Proofs.YtafkhpjnihnfpaaGreat


namespace Go.Proofs.YtafkhpjnihnfpaaGreat
open Go Go.Abs

def pick (K : List Int) (i : Nat) : Int := K.getD (i % K.length) 0
end Go.Proofs.YtafkhpjnihnfpaaGreat


namespace Go.Proofs.YtafkhpjnihnfpaaGreat
open Go Go.Abs

/-- No fuse, power on. -/
structure PwS.Free (w : PwS) : Prop where
  g : w.gone = false
  f : w.fuse = false
theorem PwS.Free.can {w : PwS} (h : w.Free) : w.can = true := by simp [PwS.can, h.g, h.f]
theorem PwS.Free.spend {w : PwS} (h : w.Free) : w.spend.Free := by
  have h1 := h.g
  have h2 := h.f
  refine ⟨?_, ?_⟩ <;> simp [PwS.spend, h1, h2]
theorem PwS.Ok.mono {w : PwS} {k k' : Nat} (h : w.Ok k) (hk : k ≤ k') : w.Ok k' := ⟨h.l0, h.l1, h.s0, by have := h.s1; omega⟩
theorem SdS.Ok.mono {x : SdS} {n k k' : Nat} (h : x.Ok n k) (hk : k ≤ k') : x.Ok n k' := ⟨h.len, h.w, Nat.le_trans h.kw hk, Nat.le_trans h.kt hk⟩
theorem WS.Fit.mono {s : WS} {k k' : Nat} (h : s.Fit k) (hk : k ≤ k') : s.Fit k' := ⟨h.g, h.pw.mono hk, h.sd.mono hk, Nat.le_trans h.ss hk, Nat.le_trans h.ll hk⟩
theorem fit_ws0 {n : Nat} (hg : isG n = true) (seed : Int) : (ws0 n seed).Fit 0 := by
  refine ⟨hg, ⟨fun h => by simp [ws0] at h, by simp [ws0], by simp [ws0], by simp [ws0]⟩, ⟨?_, by simp [ws0, sd0], by simp [ws0, sd0], by simp [ws0, sd0]⟩, by simp [ws0], by simp [ws0]⟩
  rw [show (ws0 n seed).n = n from rfl, sizeG_pos hg]
  simp only [ws0, sd0, List.length_replicate]; omega
theorem free_ws0 (n : Nat) (seed : Int) : (ws0 n seed).pw.Free := ⟨rfl, rfl⟩
theorem areaW_pw {md : Bool} {s : WS} (a : Int) (lv : List Lf) (hf : s.pw.Free) : (s.areaW md a lv).pw = s.pw.spend.spend := by rw [WS.areaW, hf.can]; rfl
theorem areaW_free {md : Bool} {s : WS} (a : Int) (lv : List Lf) (hf : s.pw.Free) : (s.areaW md a lv).pw.Free := by rw [areaW_pw a lv hf]; exact hf.spend.spend
theorem fit_readS {md : Bool} {s : WS} {k : Nat} (hs : s.Fit k) (a : Int) : (s.readS md a).Fit (k + 40) := by
  have hg := isG_cases hs.g
  have hbl := (buildF_len md (s.rows a s.n.toNat) s.S).2
  rw [rows_len] at hbl
  have hss := hs.ss
  rw [WS.readS]
  split
  · exact hs.mono (by omega)
  · exact ⟨hs.g, hs.pw.mono (by omega), hs.sd.mono (by omega), by show (buildF md (s.rows a s.n.toNat) s.S).2.length ≤ _; omega, Nat.le_trans hs.ll (by omega)⟩
theorem readS_sd (md : Bool) (s : WS) (a : Int) : (s.readS md a).sd = s.sd ∧ (s.readS md a).n = s.n ∧ (s.readS md a).pw = s.pw := by rw [WS.readS]; split <;> exact ⟨rfl, rfl, rfl⟩
theorem readS_pre (md : Bool) {s : WS} (a : Int) (h1 : 1 ≤ s.n.toNat) : Pre s.S (s.readS md a).S := by
  rw [WS.readS]; split
  · exact Pre.refl _
  · exact (buildF_tree md (s.rows a s.n.toNat) s.S (by rwa [rows_len])).1
theorem row_congr {s s' : WS} (h1 : s'.sd = s.sd) (h2 : s'.n = s.n) (a : Int) (i : Nat) : s'.row a i = s.row a i := by rw [WS.row_sub, WS.row_sub, h1, h2]
theorem nd_congr {s s' : WS} (h1 : s'.sd = s.sd) (h2 : s'.n = s.n) (a : Int) (i : Nat) : s'.ndF a i = s.ndF a i := by rw [WS.nd_sub, WS.nd_sub, h1, h2]

theorem settle_all : ∀ (l : List Wr) (i : Nat) (b : Bs), settleF (fun _ => true) i l b = l.foldl layO b
  | [], _, _ => rfl
  | x :: r, i, b => by rw [settleF, if_pos rfl, settle_all r]; rfl
/-- Leaves, written: all that the area's next calls need. -/
structure Laid (md : Bool) (s : WS) (a : Int) (lv : List Lf) (top : Pr) : Prop where
  f : s.pw.Free
  l : (lv.length : Int) = s.n
  w : ∀ x ∈ lv, x.Wf
  ok : lvOk lv 0 = true
  r : ∀ i (hi : i < lv.length), s.row a i = leafB lv[i]
  t : ∃ N, Tree md s.S (lv.map leafB) N ∧ nd N 1 = top ∧ ∀ j, 1 ≤ j → j < 2 * lv.length → s.ndF a j = nd N j
theorem Laid.same {md : Bool} {s s' : WS} {a : Int} {lv : List Lf} {top : Pr} (h : Laid md s a lv top) (h1 : s'.sd = s.sd) (h2 : s'.n = s.n) (h3 : s'.pw = s.pw) (h4 : Pre s.S s'.S) : Laid md s' a lv top := by
  obtain ⟨f, l, w, ok, r, N, t1, t2, t3⟩ := h
  exact ⟨h3 ▸ f, h2 ▸ l, w, ok, fun i hi => (row_congr h1 h2 a i).trans (r i hi), N, t1.pre h4, t2, fun j j1 j2 => (nd_congr h1 h2 a j).trans (t3 j j1 j2)⟩
theorem Laid.topOf {md : Bool} {s : WS} {a : Int} {lv : List Lf} {top : Pr} (h : Laid md s a lv top) : TopOf md s.S lv top := by
  obtain ⟨N, t1, t2, _⟩ := h.t
  exact ⟨N, t1, t2⟩
theorem Laid.read {md : Bool} {s : WS} {k : Nat} {a : Int} {lv : List Lf} {top : Pr} (h : Laid md s a lv top) (hs : s.Fit k) : s.readE md a top = 0 ∧ s.readL md a top = lv ∧ Laid md (s.readS md a) a lv top := by
  obtain ⟨h1, h2⟩ := read_well hs h.f.g h.l h.w h.ok h.r h.topOf
  obtain ⟨q1, q2, q3⟩ := readS_sd md s a
  have hg := isG_cases hs.g
  exact ⟨h1, h2, h.same q1 q2 q3 (readS_pre md a (by omega))⟩
theorem Laid.one {md : Bool} {s : WS} {k : Nat} {a : Int} {lv : List Lf} {top : Pr} (h : Laid md s a lv top) (hs : s.Fit k) (i : Nat) (hi : i < lv.length) : s.oneE md a i top = 0 ∧ s.oneL md a i top = lv[i] ∧ s.oneS md a i = s := by
  obtain ⟨N, t1, t2, t3⟩ := h.t
  exact one_well hs h.f.g h.l h.w h.ok t1 t2 t3 i hi (h.r i hi)
theorem Laid.other {md : Bool} {s : WS} {k : Nat} {a b : Int} {lv lw : List Lf} {top : Pr} (h : Laid md s b lw top) (hs : s.Fit k) (ha : 0 ≤ a ∧ a < 2) (hb : 0 ≤ b ∧ b < 2) (hne : b ≠ a) (hl : (lv.length : Int) = s.n) : TopOf md (s.areaW md a lv).S lw top ∧ (∀ i (hi : i < lw.length), (s.areaW md a lv).row b i = leafB lw[i]) := by
  have hg := isG_cases hs.g
  have hll := h.l
  refine ⟨h.topOf.pre (by rw [areaW_S]; exact (buildF_tree md (lv.map leafB) s.S (by rw [List.length_map]; omega)).1), fun i hi => ?_⟩
  rw [areaW_row2 hs h.f.can h.f.spend.can ha hl b hb hne i (by omega)]
  exact h.r i hi
/-- A block of cells that stays. -/
structure BoxAt (h : AHeap) (id : Nat) (x : AObj) : Prop where
  u : h.used id
  g : h.get id = some x
theorem BoxAt.kp {W : Nat → Prop} {h h' : AHeap} {id : Nat} {x : AObj} (hb : BoxAt h id x) (hk : Kp W h h') (hw : ¬ W id) : BoxAt h' id x := ⟨hk.us id hb.u, (hk.get id hb.u hw).trans hb.g⟩
end Go.Proofs.YtafkhpjnihnfpaaGreat


namespace Go.Abs
open Go
section
variable {P : Program} {N : Nat} {e : Env} {h : AHeap} {Φ : AHeap → Prop} {ws fs : List Nat} {K : Env → AHeap → Prop} {l : List CI} {j : Nat}
theorem vr_unit {m : Inj} {w : World} {c : Value} (hv : VR m h w (.tup []) c) : c = undef := by
  cases hv with
  | tup vs cs hl hs =>
    have : cs = #[] := Array.eq_empty_of_size_eq_zero hl.symm
    subst this; rfl
theorem FX.skipU {d s : Nat} {i : Ins} {b : Bool} (hsk : (∃ t, lk s e = some (.bool t) ∧ (!b) = t) ∨ lk s e = some (.tup [])) : FX P N ⟨some d, i, some (s, b)⟩ e h (some (.tup [])) h := by
  intro ops k o ho hc e2 hs m w a K Q hr he hk
  rcases compI_ok hc with ⟨hb1, hb2⟩ | ⟨hd, hdst, hcomp, hgd⟩
  · cases hb2
  · have hls : lk s e2 = lk s e := hs s (by simp [cslots])
    have hw : Region.wanted o (yielded ops a.tmps) = false := by
      rcases hsk with ⟨t, h1, h2⟩ | h1
      · obtain ⟨w1, w2⟩ := wanted_of he hgd
        rw [w2 s b t rfl (hls.trans h1)]; subst h2; cases b <;> rfl
      · have hu : a.tmps.getD s undef = undef := vr_unit (he.val s _ (hls.trans h1))
        cases hgo : o.guard with
        | none => simp only [hgo] at hgd; cases hgd
        | some jb =>
          obtain ⟨j0, b0⟩ := jb
          simp only [hgo] at hgd
          obtain ⟨s0, hs0, hg0⟩ := hgd
          cases hg0
          have hy : yielded ops a.tmps j0 = none := by
            unfold yielded
            rw [hs0]
            simp only [Option.bind_some]
            cases hx : a.tmps[s]? with
            | none => rfl
            | some x => simp [hx] at hu; subst hu; rfl
          simp only [Region.wanted, hgo, hy]
          cases b <;> rfl
    simp only [wpOp, ho]
    rw [hw]
    simp only [Bool.false_eq_true, if_false]
    refine hk m w _ hr ?_ (Step.refl _ _ _)
    rw [← hd]
    exact he.put (hdst d hd.symm) (.tup [] #[] rfl (fun _ _ h => by simp at h))
theorem DW.skipU {d s : Nat} {i : Ins} {b : Bool} (hsk : (∃ t, lk s e = some (.bool t) ∧ (!b) = t) ∨ lk s e = some (.tup [])) (k : DW P N Φ ws fs K (j + 1) l ((d, some (.tup [])) :: e) h) : DW P N Φ ws fs K j (⟨some d, i, some (s, b)⟩ :: l) e h :=
  DW.fx (FX.skipU hsk) (fun _ => ⟨rfl, fun _ => FX.skipU hsk⟩) (fun _ => rfl) (fun hp => hp) (fun _ _ _ => FX.skipU hsk) k
end
section
variable {P : Program} {f : Nat} {vs : List AV} {h h' h1 h2 : AHeap}
theorem Ext.trans (x1 : Ext h h1) (x2 : Ext h1 h2) : Ext h h2 := by
  have nm : ∀ id, Nm h h1 id → Nm h h2 id := fun id hn => hn.elim (fun hu => .inl (x2.used hu)) .inr
  have nm2 : ∀ id, Nm h1 h2 id → Nm h h2 id := fun id hn => by
    rcases hn with hu | ⟨x, hx⟩
    · exact .inl hu
    · rcases x1.obj id x hx with h5 | ⟨h5, _⟩
      · exact .inr ⟨x, h5⟩
      · exact nm id h5
  refine ⟨Nat.le_trans x1.next x2.next, fun id hg => x1.gap id (x2.gap id hg), fun id x hx => ?_⟩
  rcases x2.obj id x hx with h5 | ⟨h5, h6⟩
  · rcases x1.obj id x h5 with h7 | ⟨h7, h8⟩
    · exact .inl h7
    · exact .inr ⟨nm id h7, h8.mono nm⟩
  · exact .inr ⟨nm2 id h5, h6.mono nm2⟩
end
end Go.Abs


namespace Go.Proofs.YtafkhpjnihnfpaaGreat
open Go Go.Abs

def openP (md : Bool) (L : List Iss) (k : Pr) (n : Nn) (head b : Bs) (tg : Pr) : Option Bs := match md with
  | true => openO L k n head b tg
  | false => gcmO k n head b tg
theorem xorB_back : ∀ (a f : Bs), f.length = a.length → xorB (xorB a f) f = a
  | [], [], _ => rfl
  | x :: a, y :: f, h => by
    have ih := xorB_back a f (by simpa using h)
    simp only [xorB, List.zipWith_cons_cons] at ih ⊢
    rw [ih, UInt8.xor_assoc, UInt8.xor_self, UInt8.xor_zero]
  | [], _ :: _, h => by simp at h
  | _ :: _, [], h => by simp at h
theorem gcmO_back2 (k : Pr) (n : Nn) (head d : Bs) (h1 : head.length ≤ 4000) (h2 : d.length ≤ 4000) : gcmO k n head (gcmB k n d) (gcmT k n head (gcmB k n d)) = some d := by
  rw [gcmO_T h1 (by rw [gcmB_len]; exact h2) rfl]
  congr 1
  rw [gcmB, gcmB_len, gcmB, xorB_back _ _ (flowF_len _ _)]
/-- Where the record of a count stands. -/
def recAt (n c : Int) : Int := n * 160 + (c % 2) * 60
/-- The record that stands there, of a count, opened. -/
def WS.recOf (s : WS) (c : Int) : Bs := sub s.sd.snap (recAt s.n c).toNat 60
def openedR (md : Bool) (s : WS) (r : Rec) : Option Bs :=
  if r.e ∈ s.ks.epochs ∧ r.v / 4294967296 = s.ct.at' then openP md s.L (ofK s.ks.seed r.e) (r.e, 65535, r.v) [] r.b r.tg else none
def rootO (b : Bs) : Option Rt := if rootG b then some (rootD b) else none
/-- What Get tells of a count. -/
def WS.getR (md : Bool) (s : WS) (c : Int) : Option Rt :=
  ((openedR md s (recD (s.recOf c))).bind rootO).bind fun r => if r.c = c ∧ r.n = s.n then some r else none
def WS.getE (md : Bool) (s : WS) (c : Int) : Int := if s.pw.gone then 7 else if (s.getR md c).isSome then 0 else 3
def WS.getT (md : Bool) (s : WS) (c : Int) : Rt := if s.pw.gone then rt0 else (s.getR md c).getD rt0
end Go.Proofs.YtafkhpjnihnfpaaGreat


namespace Go.Proofs.YtafkhpjnihnfpaaGreat
open Go Go.Abs

def WS.logN (s : WS) (boot : Int) (j : Nat) : Nn := (s.ks.cur, 65535, boot * 4294967296 + ((j + 1 : Nat) : Int))
def WS.logP (md : Bool) (s : WS) (boot : Int) (j : Nat) (r : Rt) : Bs × Pr := sealP md s.L s.key (s.logN boot j) [] (rootB r)
def WS.logR (md : Bool) (s : WS) (boot : Int) (j : Nat) (r : Rt) : Wr := (recAt s.n r.c, recB s.ks.cur (boot * 4294967296 + ((j + 1 : Nat) : Int)) (s.logP md boot j r).1 (s.logP md boot j r).2)
def WS.logW (md : Bool) (s : WS) (boot : Int) (j : Nat) (r : Rt) : WS := { s with L := sealL md s.L s.key (s.logN boot j) [] (rootB r), pw := s.pw.spend, sd := s.sd.write (s.logR md boot j r) s.pw.can }
theorem sealP_len (md : Bool) (L : List Iss) (k : Pr) (n : Nn) (head data : Bs) : (sealP md L k n head data).1.length = data.length := by
  cases md with
  | true => simp only [sealP, newI, sealB, rep_len]
  | false => simp only [sealP, gcmB_len]
end Go.Proofs.YtafkhpjnihnfpaaGreat


namespace Go.Proofs.YtafkhpjnihnfpaaGreat
open Go Go.Abs

theorem recD_B (e v : Int) (b : Bs) (tg : Pr) (he : 0 ≤ e ∧ e < 4294967296) (hv : 0 ≤ v ∧ v < 18446744073709551616) (hb : b.length = 32) (ht : Wfp tg) : recD (recB e v b tg) = ⟨e, v, b, tg⟩ := by
  have e1 : (recB e v b tg).take 4 = putB e 4 := List.take_left' (putB_lenN _ 4 (by decide))
  have s4 : (recB e v b tg).drop 4 = putB v 8 ++ (b ++ pairB tg) := List.drop_left' (putB_lenN _ 4 (by decide))
  have s12 : (recB e v b tg).drop 12 = b ++ pairB tg := by
    rw [show 12 = 4 + 8 from rfl, ← List.drop_drop, s4]; exact List.drop_left' (putB_lenN _ 8 (by decide))
  have s44 : (recB e v b tg).drop 44 = pairB tg := by
    rw [show 44 = 12 + 32 from rfl, ← List.drop_drop, s12]; exact List.drop_left' hb
  have p16 : (pairB tg).take 16 = pairB tg := List.take_of_length_le (by simp [pairB])
  rw [recD, e1, s4, s12, s44, List.take_left' (putB_lenN _ 8 (by decide)), List.take_left' hb, p16, get_put4 _ he, get_put8 _ hv, pairF_B _ ht.1 ht.2]
theorem gcmT_wf (key : Pr) (n : Nn) (head b : Bs) : Wfp (gcmT key n head b) := ⟨x64_rng _ _, x64_rng _ _⟩
/-- Each that was sealed has its number for a tag. -/
def Seq (L : List Iss) : Prop := ∀ i (hi : i < L.length), L[i].tag = (ones, ((i + 1 : Nat) : Int))
theorem Seq.nil : Seq [] := fun i hi => by simp at hi
theorem Seq.put {L : List Iss} (h : Seq L) (k : Pr) (n : Nn) (hd d : Bs) : Seq (L ++ [newI (L.length + 1) k n hd d]) := fun i hi => by
  rw [List.getElem_append]
  split
  · exact h i _
  · have : i = L.length := by simp at hi; omega
    subst this
    simp [newI]
theorem Seq.sealL {md : Bool} {L : List Iss} (h : Seq L) (k : Pr) (n : Nn) (hd d : Bs) : Seq (sealL md L k n hd d) := by
  cases md with
  | true => exact h.put k n hd d
  | false => exact h
theorem Seq.found {L : List Iss} (h : Seq L) (i : Nat) (hi : i < L.length) : openO L L[i].key L[i].n L[i].head L[i].out L[i].tag = some L[i].data := by
  have hp : isI L[i].key L[i].n L[i].head L[i].out L[i].tag L[i] = true := by simp [isI]
  cases hf : L.find? (isI L[i].key L[i].n L[i].head L[i].out L[i].tag) with
  | none => exact absurd hp (by have := List.find?_eq_none.1 hf L[i] (List.getElem_mem hi); simpa using this)
  | some y =>
    have hy := List.find?_some hf
    obtain ⟨j, hj, rfl⟩ := List.mem_iff_getElem.1 (List.mem_of_find?_eq_some hf)
    have ht : L[j].tag = L[i].tag := by simp only [isI, Bool.and_eq_true, beq_iff_eq] at hy; exact hy.1.1.2
    rw [h j hj, h i hi] at ht
    have : j = i := by have := congrArg Prod.snd ht; simp at this; exact_mod_cast this
    subst this
    rw [openO, hf]; rfl
theorem openO_app {L M : List Iss} {k : Pr} {n : Nn} {hd b : Bs} {tg : Pr} {d : Bs} (h : openO L k n hd b tg = some d) : openO (L ++ M) k n hd b tg = some d := by
  rw [openO, Option.map_eq_some_iff] at h
  obtain ⟨x, hx, rfl⟩ := h
  rw [openO, List.find?_append, hx]; rfl
theorem openP_seal {md : Bool} {L : List Iss} {k : Pr} {n : Nn} {hd b : Bs} {tg : Pr} {d : Bs} (h : openP md L k n hd b tg = some d) (k2 : Pr) (n2 : Nn) (hd2 d2 : Bs) : openP md (sealL md L k2 n2 hd2 d2) k n hd b tg = some d := by
  cases md with
  | true => exact openO_app h
  | false => exact h
theorem openP_back {md : Bool} {L : List Iss} (hL : md = true → Seq L) (k : Pr) (n : Nn) (hd d : Bs) (h1 : hd.length ≤ 4000) (h2 : d.length ≤ 4000) : openP md (sealL md L k n hd d) k n hd (sealP md L k n hd d).1 (sealP md L k n hd d).2 = some d := by
  cases md with
  | true =>
    have := ((hL rfl).put k n hd d).found L.length (by simp)
    have hx : (L ++ [newI (L.length + 1) k n hd d])[L.length]'(by simp) = newI (L.length + 1) k n hd d := by simp
    rw [hx] at this
    exact this
  | false => exact gcmO_back2 k n hd d h1 h2
theorem sealP_wf {md : Bool} {L : List Iss} (hL : L.length ≤ 1000000) (k : Pr) (n : Nn) (hd d : Bs) : Wfp (sealP md L k n hd d).2 := by
  cases md with
  | true => simp only [sealP, newI, Wfp, ones]; omega
  | false => exact gcmT_wf _ _ _ _
theorem sealL_len (md : Bool) (L : List Iss) (k : Pr) (n : Nn) (hd d : Bs) : (sealL md L k n hd d).length ≤ L.length + 1 := by
  cases md with
  | true => simp [sealL]
  | false => simp [sealL]
theorem sealL_mem {md : Bool} {L : List Iss} {k : Pr} {n : Nn} {hd d : Bs} {P : Iss → Prop} (h : ∀ x ∈ L, P x) (h1 : P (newI (L.length + 1) k n hd d)) : ∀ x ∈ sealL md L k n hd d, P x := by
  cases md with
  | true =>
    intro x hx
    rcases List.mem_append.1 hx with hx | hx
    · exact h x hx
    · obtain rfl := List.mem_singleton.1 hx; exact h1
  | false => exact h
section
variable {md : Bool} {s : WS} {k : Nat} {boot : Int} {j : Nat} {r : Rt}
theorem logR_len : (s.logR md boot j r).2.length = 60 := recB_len _ _ _ _ ((sealP_len _ _ _ _ _ _).trans (rootB_len r))
theorem recAt_fit (hs : s.Fit k) (c : Int) : 0 ≤ recAt s.n c ∧ recAt s.n c + 60 ≤ s.n * 160 + 120 := by
  have hg := isG_cases hs.g
  unfold recAt; omega
theorem fit_logW (hs : s.Fit k) : (s.logW md boot j r).Fit (k + 1) := by
  have hp := recAt_fit hs r.c
  have hl := logR_len (md := md) (s := s) (boot := boot) (j := j) (r := r)
  have hll := hs.ll
  have h2 := sealL_len md s.L s.key (s.logN boot j) [] (rootB r)
  refine ⟨hs.g, hs.pw.spend, hs.sd.write (o := s.logR md boot j r) ⟨hp.1, ?_⟩ s.pw.can, Nat.le_succ_of_le hs.ss, by show (sealL md s.L s.key (s.logN boot j) [] (rootB r)).length ≤ _; omega⟩
  rw [hl, sizeG_pos hs.g]
  have hg := isG_cases hs.g
  show recAt s.n r.c + _ ≤ _
  omega
theorem logW_snap (hc : s.pw.can = true) : (s.logW md boot j r).sd.snap = layO s.sd.snap (s.logR md boot j r) := by
  simp [WS.logW, SdS.write, hc, SdS.snap, List.foldl_append]
theorem logW_rec (hs : s.Fit k) (hc : s.pw.can = true) (c : Int) : (s.logW md boot j r).recOf c = if c % 2 = r.c % 2 then (s.logR md boot j r).2 else s.recOf c := by
  have hp := recAt_fit hs c
  have hp2 := recAt_fit hs r.c
  have hl := logR_len (md := md) (s := s) (boot := boot) (j := j) (r := r)
  have hsl := snap_lenS hs
  have hg := isG_cases hs.g
  have e : (s.logW md boot j r).recOf c = sub (layO s.sd.snap (s.logR md boot j r)) (recAt s.n c).toNat 60 := by rw [WS.recOf, logW_snap hc]; rfl
  have h1 : (s.logR md boot j r).1 = recAt s.n r.c := rfl
  have hfit : (s.logR md boot j r).1.toNat + (s.logR md boot j r).2.length ≤ s.sd.snap.length := by rw [h1, hl]; omega
  rw [e]
  split
  · rename_i hh
    have : recAt s.n c = recAt s.n r.c := by unfold recAt; rw [hh]
    rw [this, sub_in hfit (by rw [h1]; omega) (by rw [h1, hl]; omega), h1, Nat.sub_self, sub, List.drop_zero, List.take_of_length_le (by omega)]
  · rename_i hh
    rw [sub_out hfit (by rw [h1, hl]; unfold recAt at *; omega)]; rfl
/-- The record of a count stands there. -/
structure Filed (md : Bool) (s : WS) (c : Int) (r : Rt) (e v : Int) (b : Bs) (tg : Pr) : Prop where
  rc : s.recOf c = recB e v b tg
  he : 0 ≤ e ∧ e < 4294967296
  hv : 0 ≤ v ∧ v < 18446744073709551616
  hb : b.length = 32
  ht : Wfp tg
  op : openP md s.L (ofK s.ks.seed e) (e, 65535, v) [] b tg = some (rootB r)
  wf : r.Wf
  g : isG r.n = true
  cc : r.c = c
theorem Filed.opened {c e v : Int} {b : Bs} {tg : Pr} (h : Filed md s c r e v b tg) (he : e ∈ s.ks.epochs) (ha : v / 4294967296 = s.ct.at') : (openedR md s (recD (s.recOf c))).bind rootO = some r := by
  rw [h.rc, recD_B e v b tg h.he h.hv h.hb h.ht, openedR, if_pos ⟨he, ha⟩, h.op, Option.bind_some, rootO, (rootG_B r h.wf h.g).1, if_pos rfl, (rootG_B r h.wf h.g).2]
theorem Filed.get {c e v : Int} {b : Bs} {tg : Pr} (h : Filed md s c r e v b tg) (he : e ∈ s.ks.epochs) (ha : v / 4294967296 = s.ct.at') (hn : r.n = s.n) : s.getR md c = some r := by
  rw [WS.getR, h.opened he ha, Option.bind_some, if_pos ⟨h.cc, hn⟩]
theorem filed_logW (hs : s.Fit k) (hk : k ≤ 9000) (hc : s.pw.can = true) (hcur : s.ks.cur ∈ s.ks.epochs ∧ 0 ≤ s.ks.cur ∧ s.ks.cur < 4294967296) (hb : 0 ≤ boot ∧ boot < 4294967296) (hj : j < 100) (hr : r.Wf) (hg : isG r.n = true) (hL : md = true → Seq s.L) :
    Filed md (s.logW md boot j r) r.c r s.ks.cur (boot * 4294967296 + ((j + 1 : Nat) : Int)) (s.logP md boot j r).1 (s.logP md boot j r).2 := by
  have hkey : s.key = ofK s.ks.seed s.ks.cur := by rw [WS.key, if_pos hcur.1]
  have hrb := rootB_len r
  refine ⟨by rw [logW_rec hs hc, if_pos rfl]; rfl, hcur.2, by omega, (sealP_len _ _ _ _ _ _).trans hrb, sealP_wf (Nat.le_trans hs.ll (by omega)) _ _ _ _, ?_, hr, hg, rfl⟩
  have t := openP_back (md := md) hL s.key (s.logN boot j) [] (rootB r) (by simp) (by omega)
  change openP md (sealL md s.L s.key (s.logN boot j) [] (rootB r)) (ofK s.ks.seed s.ks.cur) (s.logN boot j) [] (s.logP md boot j r).1 (s.logP md boot j r).2 = some (rootB r)
  rw [← hkey]
  exact t
theorem Filed.other {c e v : Int} {b : Bs} {tg : Pr} {q : Rt} (h : Filed md s c q e v b tg) (hs : s.Fit k) (hc : s.pw.can = true) (hne : c % 2 ≠ r.c % 2) : Filed md (s.logW md boot j r) c q e v b tg :=
  ⟨by rw [logW_rec hs hc, if_neg hne]; exact h.rc, h.he, h.hv, h.hb, h.ht, openP_seal h.op _ _ _ _, h.wf, h.g, h.cc⟩
end
end Go.Proofs.YtafkhpjnihnfpaaGreat


namespace Go.Proofs.YtafkhpjnihnfpaaGreat
open Go Go.Abs

theorem fit_cur (n : Nat) (seed : Int) : (ws0 n seed).ks.cur = 1 := by simp [ws0, KsS.cur]
/-- A world that records are written in. -/
structure LSt (md : Bool) (s : WS) (k : Nat) : Prop where
  fit : s.Fit k
  free : s.pw.Free
  cur : s.ks.cur ∈ s.ks.epochs ∧ 0 ≤ s.ks.cur ∧ s.ks.cur < 4294967296
  seq : md = true → Seq s.L
  dat : ∀ x ∈ s.L, x.data.length ≤ 4000
  at' : 0 ≤ s.ct.at'
theorem lst0 (md : Bool) {m : Nat} (hG : isG m = true) (seed : Int) : LSt md (ws0 m seed) 0 :=
  ⟨fit_ws0 hG seed, free_ws0 m seed, by rw [fit_cur]; simp [ws0], fun _ => Seq.nil, by simp [ws0], by simp [ws0]⟩
theorem LSt.log {md : Bool} {s : WS} {k : Nat} (h : LSt md s k) (boot : Int) (j : Nat) (r : Rt) : LSt md (s.logW md boot j r) (k + 1) :=
  ⟨fit_logW h.fit, h.free.spend, h.cur, fun e => (h.seq e).sealL _ _ _ _, sealL_mem h.dat (by simp only [newI, rootB_len]; omega), h.at'⟩
end Go.Proofs.YtafkhpjnihnfpaaGreat


namespace Go.Proofs.YtafkhpjnihnfpaaGreat
open Go Go.Abs

def WS.barS (s : WS) : WS := { s with pw := s.pw.spend, sd := s.sd.barrier s.pw.can }
def WS.bmpS (s : WS) : WS := { s with pw := s.pw.spend, ct := s.ct.bump s.pw.can }
def WS.doA (s : WS) : Int := (s.ct.value + 1) % 2
def WS.doR (md : Bool) (s : WS) (lv : List Lf) : Rt := ⟨s.ct.value + 1, s.ks.cur, s.n, (s.nodes md lv).getD 1 (0, 0)⟩
/-- What a commit answers, and what it makes of a world and its maker. -/
def WS.doC (md : Bool) (s : WS) (boot : Int) (j : Nat) (lv : List Lf) : Int × WS × Nat :=
  let s1 := s.areaW md s.doA lv
  if (s.pw.can && s.pw.spend.can) = false then (7, s1, j)
  else if s1.pw.can = false then (7, s1.barS, j)
  else if j = 100 then (6, s1.barS, j)
  else
    let s3 := s1.barS.logW md boot j (s.doR md lv)
    if s1.barS.pw.can = false then (7, s3, j + 1)
    else if s3.pw.can = false then (7, s3.barS, j + 1)
    else if s3.barS.pw.can = false then (7, s3.barS.bmpS, j + 1)
    else (0, s3.barS.bmpS, j + 1)
theorem SdS.Ok.barrier {x : SdS} {n k : Nat} (h : x.Ok n k) (ok : Bool) : (x.barrier ok).Ok n (k + 1) := by
  obtain ⟨h1, h2, h3, h4⟩ := h
  cases ok with
  | false => exact ⟨h1, h2, Nat.le_succ_of_le h3, Nat.le_succ_of_le h4⟩
  | true =>
    refine ⟨?_, fun y hy => by simp [SdS.barrier, SdS.settle] at hy, Nat.zero_le _, by simp [SdS.barrier, SdS.settle]; omega⟩
    exact settle_len _ n x.waits 0 x.lasts (fun y hy => h2 y hy) h1
theorem fit_barS {s : WS} {k : Nat} (hs : s.Fit k) : s.barS.Fit (k + 1) := ⟨hs.g, hs.pw.spend, hs.sd.barrier _, Nat.le_succ_of_le hs.ss, Nat.le_succ_of_le hs.ll⟩
theorem fit_bmpS {s : WS} {k : Nat} (hs : s.Fit k) : s.bmpS.Fit (k + 1) := ⟨hs.g, hs.pw.spend, hs.sd.mono (by omega), Nat.le_succ_of_le hs.ss, Nat.le_succ_of_le hs.ll⟩
theorem areaW1_fit {md : Bool} {s : WS} {k : Nat} (hs : s.Fit k) (a : Int) (ha : 0 ≤ a ∧ a < 2) (lv : List Lf) (hl : (lv.length : Int) = s.n) : (s.areaW md a lv).Fit (k + 40) := by
  have hg := isG_cases hs.g
  have ha' : a = 0 ∨ a = 1 := by omega
  have hbl := (buildF_len md (lv.map leafB) s.S).2
  rw [List.length_map] at hbl
  have hss := hs.ss
  have hll := hs.ll
  have hlb := lvB_len lv
  have hnb := nodesB_len (s.nodes md lv)
  rw [nodes_len] at hnb
  have o1 : 0 ≤ lfAt s.n a 0 ∧ lfAt s.n a 0 + ((lvB lv).length : Nat) ≤ (((sizeG s.n).toNat : Nat) : Int) := by
    rw [sizeG_pos hs.g]; unfold lfAt; rcases ha' with rfl | rfl <;> omega
  have o2 : 0 ≤ ndAt s.n a 0 ∧ ndAt s.n a 0 + ((nodesB (s.nodes md lv)).length : Nat) ≤ (((sizeG s.n).toNat : Nat) : Int) := by
    rw [sizeG_pos hs.g]; unfold ndAt; rcases ha' with rfl | rfl <;> omega
  have hsd := hs.sd.write (o := (lfAt s.n a 0, lvB lv)) o1 s.pw.can
  have hS : (buildF md (lv.map leafB) s.S).2.length ≤ k + 40 := by omega
  rw [WS.areaW]
  split
  · exact ⟨hs.g, hs.pw.spend.spend.mono (by omega), (hsd.write (o := (ndAt s.n a 0, nodesB (s.nodes md lv))) o2 s.pw.spend.can).mono (by omega), hS, by show s.L.length ≤ _; omega⟩
  · exact ⟨hs.g, hs.pw.spend.mono (by omega), hsd.mono (by omega), hS, by show s.L.length ≤ _; omega⟩
end Go.Proofs.YtafkhpjnihnfpaaGreat


namespace Go.Proofs.YtafkhpjnihnfpaaGreat
open Go Go.Abs

/-- A place that lasts, and that nothing that waits touches. -/
structure Kept (x : SdS) (o k : Nat) (X : Bs) : Prop where
  at' : sub x.lasts o k = X
  no : ∀ w ∈ x.waits, w.1.toNat + w.2.length ≤ o ∨ o + k ≤ w.1.toNat
theorem lay_out {N o k : Nat} : ∀ (l : List Wr) (b : Bs), b.length = N → (∀ w ∈ l, (0 ≤ w.1 ∧ w.1 + w.2.length ≤ N) ∧ (w.1.toNat + w.2.length ≤ o ∨ o + k ≤ w.1.toNat)) → sub (l.foldl layO b) o k = sub b o k
  | [], _, _, _ => rfl
  | w :: l, b, hb, h => by
    have hw := h w (by simp)
    rw [List.foldl_cons, lay_out l (layO b w) ((layO_len b w (by omega)).trans hb) fun y hy => h y (by simp [hy]), sub_out (by omega) (by omega)]
theorem settle_out {N o k : Nat} (K : Nat → Bool) : ∀ (l : List Wr) (i : Nat) (b : Bs), b.length = N → (∀ w ∈ l, (0 ≤ w.1 ∧ w.1 + w.2.length ≤ N) ∧ (w.1.toNat + w.2.length ≤ o ∨ o + k ≤ w.1.toNat)) → sub (settleF K i l b) o k = sub b o k
  | [], _, _, _, _ => rfl
  | w :: l, i, b, hb, h => by
    have hw := h w (by simp)
    rw [settleF]
    split
    · rw [settle_out K l (i + 1) (layO b w) ((layO_len b w (by omega)).trans hb) fun y hy => h y (by simp [hy]), sub_out (by omega) (by omega)]
    · exact settle_out K l (i + 1) b hb fun y hy => h y (by simp [hy])
section
variable {x : SdS} {o k N m : Nat} {X : Bs}
theorem Kept.snap (h : Kept x o k X) (hx : x.Ok N m) : sub x.snap o k = X := by
  rw [SdS.snap, lay_out x.waits x.lasts hx.len fun w hw => ⟨hx.w w hw, h.no w hw⟩, h.at']
theorem Kept.settle (h : Kept x o k X) (hx : x.Ok N m) (K : Nat → Bool) : Kept (x.settle K) o k X :=
  ⟨(settle_out K x.waits 0 x.lasts hx.len fun w hw => ⟨hx.w w hw, h.no w hw⟩).trans h.at', fun w hw => by simp [SdS.settle] at hw⟩
theorem Kept.write (h : Kept x o k X) (w : Wr) (hw : w.1.toNat + w.2.length ≤ o ∨ o + k ≤ w.1.toNat) (ok : Bool) : Kept (x.write w ok) o k X := by
  cases ok with
  | false => exact h
  | true =>
    refine ⟨h.at', fun y hy => ?_⟩
    simp only [SdS.write, if_true, List.mem_append, List.mem_singleton] at hy
    rcases hy with hy | rfl
    · exact h.no y hy
    · exact hw
theorem Kept.barrier (h : Kept x o k X) (hx : x.Ok N m) (ok : Bool) : Kept (x.barrier ok) o k X := by
  cases ok with
  | false => exact h
  | true => exact ⟨(h.settle hx fun _ => true).at', fun w hw => by simp [SdS.barrier, SdS.settle] at hw⟩
theorem kept_new (x : SdS) (o k : Nat) : Kept (x.barrier true) o k (sub x.snap o k) := by
  refine ⟨?_, fun w hw => by simp [SdS.barrier, SdS.settle] at hw⟩
  show sub (settleF (fun _ => true) 0 x.waits x.lasts) o k = _
  rw [settle_all]; rfl
end
/-- Leaves as they stand, in one row. -/
theorem row_of {s : WS} {k : Nat} {a : Int} (hs : s.Fit k) (ha : 0 ≤ a ∧ a < 2) {lv : List Lf} (hl : (lv.length : Int) = s.n) (h : sub s.sd.snap (lfAt s.n a 0).toNat (32 * s.n.toNat) = lvB lv) (i : Nat) (hi : i < lv.length) : s.row a i = leafB lv[i] := by
  have hg := isG_cases hs.g
  have ha' : a = 0 ∨ a = 1 := by omega
  have := flat_sub 32 (lv.map leafB) i (by simpa using hi) fun b hb => by obtain ⟨x, _, rfl⟩ := List.mem_map.1 hb; exact leafB_len x
  rw [List.getElem_map] at this
  rw [← this]
  show sub s.sd.snap (lfAt s.n a i).toNat 32 = sub (lvB lv) (32 * i) 32
  rw [← h]
  apply List.ext_getElem?; intro j
  simp only [sub, List.getElem?_take, List.getElem?_drop]
  split
  · rw [if_pos (by omega)]
    congr 1
    unfold lfAt; rcases ha' with rfl | rfl <;> omega
  · rfl
theorem area_leaves {md : Bool} {s : WS} {k : Nat} {a : Int} {lv : List Lf} (hs : s.Fit k) (hc : s.pw.can = true) (hc2 : s.pw.spend.can = true) (ha : 0 ≤ a ∧ a < 2) (hl : (lv.length : Int) = s.n) : sub (s.areaW md a lv).sd.snap (lfAt s.n a 0).toNat (32 * s.n.toNat) = lvB lv := by
  have hg := isG_cases hs.g
  have hsl := snap_lenS hs
  have hlb := lvB_len lv
  have hnb := nodesB_len (s.nodes md lv)
  rw [nodes_len] at hnb
  have ha' : a = 0 ∨ a = 1 := by omega
  rw [areaW_snap md a lv hc hc2]
  have e1 : (lfAt s.n a 0).toNat + (lvB lv).length ≤ s.sd.snap.length := by unfold lfAt; rcases ha' with rfl | rfl <;> omega
  have e2 : (layO s.sd.snap (lfAt s.n a 0, lvB lv)).length = s.sd.snap.length := layO_len _ _ (by dsimp only; omega)
  rw [sub_out (by rw [e2]; dsimp only; unfold ndAt; rcases ha' with rfl | rfl <;> omega) (.inl (by dsimp only; unfold lfAt ndAt; rcases ha' with rfl | rfl <;> omega))]
  rw [sub_in (by dsimp only; exact e1) (Nat.le_refl _) (by dsimp only; omega), Nat.sub_self]
  dsimp only
  rw [sub, List.drop_zero, List.take_of_length_le (by omega)]
/-- The leaves of count c are there for good, and their root. -/
structure Good (md : Bool) (s : WS) (lv : List Lf) (c : Int) (top : Pr) (e v : Int) (b : Bs) (tg : Pr) : Prop where
  c1 : 1 ≤ c ∧ c < 18446744073709551616
  l : (lv.length : Int) = s.n
  w : ∀ x ∈ lv, x.Wf
  ok : lvOk lv 0 = true
  kl : Kept s.sd (lfAt s.n (c % 2) 0).toNat (32 * s.n.toNat) (lvB lv)
  kr : Kept s.sd (recAt s.n c).toNat 60 (recB e v b tg)
  he : 0 ≤ e ∧ e < 4294967296
  hv : 0 ≤ v ∧ v < 18446744073709551616
  hb : b.length = 32
  ht : Wfp tg
  op : openP md s.L (ofK s.ks.seed e) (e, 65535, v) [] b tg = some (rootB ⟨c, e, s.n, top⟩)
  tw : Wfp top
  top : TopOf md s.S lv top
  ep : e ∈ s.ks.epochs
  boot : v / 4294967296 = s.ct.at'
section
variable {md : Bool} {s : WS} {k : Nat} {lv : List Lf} {c : Int} {top : Pr} {e v : Int} {b : Bs} {tg : Pr}
theorem Good.filed (h : Good md s lv c top e v b tg) (hs : s.Fit k) : Filed md s c ⟨c, e, s.n, top⟩ e v b tg :=
  ⟨h.kr.snap hs.sd, h.he, h.hv, h.hb, h.ht, h.op, ⟨⟨by have := h.c1; dsimp only; omega, h.c1.2⟩, h.he, h.tw.1, h.tw.2⟩, hs.g, rfl⟩
theorem Good.get (h : Good md s lv c top e v b tg) (hs : s.Fit k) (hgo : s.pw.gone = false) : s.getE md c = 0 ∧ s.getT md c = ⟨c, e, s.n, top⟩ := by
  have := (h.filed hs).get h.ep h.boot rfl
  exact ⟨by rw [WS.getE, hgo, this]; rfl, by rw [WS.getT, hgo, this]; rfl⟩
theorem Good.read (h : Good md s lv c top e v b tg) (hs : s.Fit k) (hgo : s.pw.gone = false) : s.readE md (c % 2) top = 0 ∧ s.readL md (c % 2) top = lv :=
  read_well hs hgo h.l h.w h.ok (row_of hs (by omega) h.l (h.kl.snap hs.sd)) h.top
end
end Go.Proofs.YtafkhpjnihnfpaaGreat


namespace Go.Proofs.YtafkhpjnihnfpaaGreat
open Go Go.Abs

/-- A world that commits are made in. -/
structure WSt (md : Bool) (s : WS) (k : Nat) : Prop where
  fit : s.Fit k
  cur : s.ks.cur ∈ s.ks.epochs ∧ 0 ≤ s.ks.cur ∧ s.ks.cur < 4294967296
  seq : md = true → Seq s.L
  dat : ∀ x ∈ s.L, x.data.length ≤ 4000
  ct : s.ct.Ok k
theorem CtS.Ok.mono {c : CtS} {k k' : Nat} (h : c.Ok k) (hk : k ≤ k') : c.Ok k' := ⟨⟨h.v.1, by have := h.v.2; omega⟩, ⟨h.b.1, by have := h.b.2; omega⟩, ⟨h.a.1, by have := h.a.2; omega⟩⟩
section
variable {md : Bool} {s : WS} {k : Nat} {boot : Int} {j : Nat} {lv : List Lf} {r : Rt}
theorem WSt.mono {k' : Nat} (h : WSt md s k) (hk : k ≤ k') : WSt md s k' := ⟨h.fit.mono hk, h.cur, h.seq, h.dat, h.ct.mono hk⟩
theorem WSt.area (h : WSt md s k) (a : Int) (ha : 0 ≤ a ∧ a < 2) (hl : (lv.length : Int) = s.n) : WSt md (s.areaW md a lv) (k + 40) := by
  have hf := areaW1_fit (md := md) h.fit a ha lv hl
  have e : (s.areaW md a lv).ks = s.ks ∧ (s.areaW md a lv).L = s.L ∧ (s.areaW md a lv).ct = s.ct := by rw [WS.areaW]; split <;> exact ⟨rfl, rfl, rfl⟩
  exact ⟨hf, by rw [e.1]; exact h.cur, by rw [e.2.1]; exact h.seq, by rw [e.2.1]; exact h.dat, by rw [e.2.2]; exact h.ct.mono (by omega)⟩
theorem WSt.bar (h : WSt md s k) : WSt md s.barS (k + 1) := ⟨fit_barS h.fit, h.cur, h.seq, h.dat, h.ct.mono (by omega)⟩
theorem WSt.bmp (h : WSt md s k) : WSt md s.bmpS (k + 1) := ⟨fit_bmpS h.fit, h.cur, h.seq, h.dat, h.ct.bump _⟩
theorem WSt.log (h : WSt md s k) (boot : Int) (j : Nat) (r : Rt) : WSt md (s.logW md boot j r) (k + 1) :=
  ⟨fit_logW h.fit, h.cur, fun e => (h.seq e).sealL _ _ _ _, sealL_mem h.dat (by simp only [newI, rootB_len]; omega), h.ct.mono (by omega)⟩
theorem doA_rng (s : WS) : 0 ≤ s.doA ∧ s.doA < 2 := by unfold WS.doA; omega
/-- All ways that a commit may go. -/
theorem doC_ind {P : Int × WS × Nat → Prop}
    (h1 : (s.pw.can && s.pw.spend.can) = false → P (7, s.areaW md s.doA lv, j))
    (h2 : (s.pw.can && s.pw.spend.can) = true → (s.areaW md s.doA lv).pw.can = false → P (7, (s.areaW md s.doA lv).barS, j))
    (h3 : (s.pw.can && s.pw.spend.can) = true → (s.areaW md s.doA lv).pw.can = true → j = 100 → P (6, (s.areaW md s.doA lv).barS, j))
    (h4 : (s.pw.can && s.pw.spend.can) = true → (s.areaW md s.doA lv).pw.can = true → j ≠ 100 → (s.areaW md s.doA lv).barS.pw.can = false → P (7, (s.areaW md s.doA lv).barS.logW md boot j (s.doR md lv), j + 1))
    (h5 : (s.pw.can && s.pw.spend.can) = true → (s.areaW md s.doA lv).pw.can = true → j ≠ 100 → (s.areaW md s.doA lv).barS.pw.can = true → ((s.areaW md s.doA lv).barS.logW md boot j (s.doR md lv)).pw.can = false → P (7, ((s.areaW md s.doA lv).barS.logW md boot j (s.doR md lv)).barS, j + 1))
    (h6 : (s.pw.can && s.pw.spend.can) = true → (s.areaW md s.doA lv).pw.can = true → j ≠ 100 → (s.areaW md s.doA lv).barS.pw.can = true → ((s.areaW md s.doA lv).barS.logW md boot j (s.doR md lv)).pw.can = true → ((s.areaW md s.doA lv).barS.logW md boot j (s.doR md lv)).barS.pw.can = false → P (7, ((s.areaW md s.doA lv).barS.logW md boot j (s.doR md lv)).barS.bmpS, j + 1))
    (h7 : (s.pw.can && s.pw.spend.can) = true → (s.areaW md s.doA lv).pw.can = true → j ≠ 100 → (s.areaW md s.doA lv).barS.pw.can = true → ((s.areaW md s.doA lv).barS.logW md boot j (s.doR md lv)).pw.can = true → ((s.areaW md s.doA lv).barS.logW md boot j (s.doR md lv)).barS.pw.can = true → P (0, ((s.areaW md s.doA lv).barS.logW md boot j (s.doR md lv)).barS.bmpS, j + 1)) :
    P (s.doC md boot j lv) := by
  have t : ∀ {b : Bool}, ¬ b = false → b = true := fun h => by simpa using h
  rw [WS.doC]
  dsimp only
  split
  · rename_i a1; exact h1 a1
  · rename_i a1
    split
    · rename_i a2; exact h2 (t a1) a2
    · rename_i a2
      split
      · rename_i a3; exact h3 (t a1) (t a2) a3
      · rename_i a3
        split
        · rename_i a4; exact h4 (t a1) (t a2) a3 a4
        · rename_i a4
          split
          · rename_i a5; exact h5 (t a1) (t a2) a3 (t a4) a5
          · rename_i a5
            split
            · rename_i a6; exact h6 (t a1) (t a2) a3 (t a4) (t a5) a6
            · rename_i a6; exact h7 (t a1) (t a2) a3 (t a4) (t a5) (t a6)
theorem doC_wst (h : WSt md s k) (hl : (lv.length : Int) = s.n) : WSt md (s.doC md boot j lv).2.1 (k + 50) := by
  have a1 := h.area s.doA (doA_rng s) hl
  have a2 := a1.bar
  have a3 := a2.log boot j (s.doR md lv)
  have a4 := a3.bar
  have a5 := a4.bmp
  refine doC_ind (P := fun d => WSt md d.2.1 (k + 50)) (fun _ => a1.mono (by omega)) (fun _ _ => a2.mono (by omega)) (fun _ _ _ => a2.mono (by omega)) (fun _ _ _ _ => a3.mono (by omega)) (fun _ _ _ _ _ => a4.mono (by omega)) (fun _ _ _ _ _ _ => a5.mono (by omega)) (fun _ _ _ _ _ _ => a5.mono (by omega))
theorem areaW_ks (md : Bool) (s : WS) (a : Int) (lv : List Lf) : (s.areaW md a lv).ks = s.ks ∧ (s.areaW md a lv).L = s.L ∧ (s.areaW md a lv).ct = s.ct ∧ (s.areaW md a lv).n = s.n := by rw [WS.areaW]; split <;> exact ⟨rfl, rfl, rfl, rfl⟩
theorem doC_n : (s.doC md boot j lv).2.1.n = s.n ∧ (s.doC md boot j lv).2.1.ks = s.ks := by
  obtain ⟨e1, _, _, e4⟩ := areaW_ks md s s.doA lv
  exact doC_ind (P := fun d => d.2.1.n = s.n ∧ d.2.1.ks = s.ks) (fun _ => ⟨e4, e1⟩) (fun _ _ => ⟨e4, e1⟩) (fun _ _ _ => ⟨e4, e1⟩) (fun _ _ _ _ => ⟨e4, e1⟩) (fun _ _ _ _ _ => ⟨e4, e1⟩) (fun _ _ _ _ _ _ => ⟨e4, e1⟩) (fun _ _ _ _ _ _ => ⟨e4, e1⟩)
theorem doC_j (hj : j ≤ 100) : (s.doC md boot j lv).2.2 ≤ 100 ∧ j ≤ (s.doC md boot j lv).2.2 := by
  exact doC_ind (P := fun d => d.2.2 ≤ 100 ∧ j ≤ d.2.2) (fun _ => ⟨hj, Nat.le_refl _⟩) (fun _ _ => ⟨hj, Nat.le_refl _⟩) (fun _ _ _ => ⟨hj, Nat.le_refl _⟩) (fun _ _ _ _ => by dsimp only; omega) (fun _ _ _ _ _ => by dsimp only; omega) (fun _ _ _ _ _ _ => by dsimp only; omega) (fun _ _ _ _ _ _ => by dsimp only; omega)
/-- A count that is not bumped stays. -/
theorem doC_ct : (s.doC md boot j lv).2.1.ct = if (s.doC md boot j lv).1 = 0 then s.ct.bump true else s.ct := by
  obtain ⟨_, _, e3, _⟩ := areaW_ks md s s.doA lv
  refine doC_ind (P := fun d => d.2.1.ct = if d.1 = 0 then s.ct.bump true else s.ct) (fun _ => e3) (fun _ _ => e3) (fun _ _ _ => e3) (fun _ _ _ _ => e3) (fun _ _ _ _ _ => e3) (fun _ _ _ _ _ hc => ?_) (fun _ _ _ _ _ hc => ?_)
  · show (CtS.bump (s.areaW md s.doA lv).ct _) = _
    rw [hc, e3]; rfl
  · show (CtS.bump (s.areaW md s.doA lv).ct _) = _
    rw [hc, e3]; rfl
end
section
variable {md : Bool} {s s' : WS} {k : Nat} {boot : Int} {j : Nat} {lv lw : List Lf} {c : Int} {top : Pr} {e v : Int} {b : Bs} {tg : Pr} {r : Rt}
theorem Good.to (h : Good md s lv c top e v b tg) (hn : s'.n = s.n) (hks : s'.ks = s.ks) (hat : s'.ct.at' = s.ct.at') (hL : openP md s'.L (ofK s.ks.seed e) (e, 65535, v) [] b tg = some (rootB ⟨c, e, s.n, top⟩)) (hS : Pre s.S s'.S)
    (hl : Kept s'.sd (lfAt s.n (c % 2) 0).toNat (32 * s.n.toNat) (lvB lv)) (hr : Kept s'.sd (recAt s.n c).toNat 60 (recB e v b tg)) : Good md s' lv c top e v b tg :=
  ⟨h.c1, by rw [hn]; exact h.l, h.w, h.ok, by rw [hn]; exact hl, by rw [hn]; exact hr, h.he, h.hv, h.hb, h.ht, by rw [hks, hn]; exact hL, h.tw, h.top.pre hS, by rw [hks]; exact h.ep, by rw [hat]; exact h.boot⟩
theorem Good.bar (h : Good md s lv c top e v b tg) (hs : s.Fit k) : Good md s.barS lv c top e v b tg := h.to rfl rfl rfl h.op (Pre.refl _) (h.kl.barrier hs.sd _) (h.kr.barrier hs.sd _)
theorem Good.settle (h : Good md s lv c top e v b tg) (hs : s.Fit k) (K : Nat → Bool) : Good md (s.crash K) lv c top e v b tg := h.to rfl rfl rfl h.op (Pre.refl _) (h.kl.settle hs.sd K) (h.kr.settle hs.sd K)
theorem Good.area (h : Good md s lv c top e v b tg) (hs : s.Fit k) (a : Int) (ha : 0 ≤ a ∧ a < 2) (hne : a ≠ c % 2) (hl : (lw.length : Int) = s.n) : Good md (s.areaW md a lw) lv c top e v b tg := by
  have hg := isG_cases hs.g
  obtain ⟨e1, e2, e3, e4⟩ := areaW_ks md s a lw
  have hlb := lvB_len lw
  have hnb := nodesB_len (s.nodes md lw)
  rw [nodes_len] at hnb
  have hc : (a = 0 ∧ c % 2 = 1) ∨ (a = 1 ∧ c % 2 = 0) := by omega
  have w1 : ∀ {o m : Nat} {X : Bs} {ok1 ok2 : Bool}, Kept s.sd o m X → ((lfAt s.n a 0).toNat + (lvB lw).length ≤ o ∨ o + m ≤ (lfAt s.n a 0).toNat) → ((ndAt s.n a 0).toNat + (nodesB (s.nodes md lw)).length ≤ o ∨ o + m ≤ (ndAt s.n a 0).toNat) → Kept (s.areaW md a lw).sd o m X := fun hk h1 h2 => by
    rw [WS.areaW]
    split
    · exact (hk.write (lfAt s.n a 0, lvB lw) h1 _).write (ndAt s.n a 0, nodesB (s.nodes md lw)) h2 _
    · exact hk.write (lfAt s.n a 0, lvB lw) h1 _
  refine h.to e4 e1 (by rw [e3]) (by rw [e2]; exact h.op) ?_ (w1 (ok1 := true) (ok2 := true) h.kl ?_ ?_) (w1 (ok1 := true) (ok2 := true) h.kr ?_ ?_)
  · rw [areaW_S]
    exact (buildF_tree md (lw.map leafB) s.S (by rw [List.length_map]; omega)).1
  · rw [hlb]; unfold lfAt; rcases hc with ⟨rfl, e⟩ | ⟨rfl, e⟩ <;> rw [e] <;> omega
  · rw [hnb]; unfold lfAt ndAt; rcases hc with ⟨rfl, e⟩ | ⟨rfl, e⟩ <;> rw [e] <;> omega
  · rw [hlb]; unfold lfAt recAt; rcases hc with ⟨rfl, e⟩ | ⟨rfl, e⟩ <;> rw [e] <;> omega
  · rw [hnb]; unfold ndAt recAt; rcases hc with ⟨rfl, e⟩ | ⟨rfl, e⟩ <;> rw [e] <;> omega
theorem Good.log (h : Good md s lv c top e v b tg) (hs : s.Fit k) (boot : Int) (j : Nat) (hne : r.c % 2 ≠ c % 2) : Good md (s.logW md boot j r) lv c top e v b tg := by
  have hg := isG_cases hs.g
  have hl := logR_len (md := md) (s := s) (boot := boot) (j := j) (r := r)
  have h1 : (s.logR md boot j r).1 = recAt s.n r.c := rfl
  refine h.to rfl rfl rfl (openP_seal h.op _ _ _ _) (Pre.refl _) (h.kl.write (s.logR md boot j r) ?_ _) (h.kr.write (s.logR md boot j r) ?_ _)
  · rw [hl, h1]; unfold recAt lfAt; have : c % 2 = 0 ∨ c % 2 = 1 := by omega
    rcases this with e | e <;> rw [e] <;> omega
  · rw [hl, h1]; unfold recAt; omega
theorem Good.bmpN (h : Good md s lv c top e v b tg) (hc : s.pw.can = false) : Good md s.bmpS lv c top e v b tg := h.to rfl rfl (by show (s.ct.bump s.pw.can).at' = _; rw [hc]; rfl) h.op (Pre.refl _) h.kl h.kr
/-- A commit that is not done leaves what was. -/
theorem Good.undone (h : Good md s lv s.ct.value top e v b tg) (hs : WSt md s k) (hl : (lw.length : Int) = s.n) (hno : (s.doC md boot j lw).1 ≠ 0) : Good md (s.doC md boot j lw).2.1 lv s.ct.value top e v b tg := by
  have hne : s.doA ≠ s.ct.value % 2 := by unfold WS.doA; omega
  have hrc : (s.doR md lw).c % 2 ≠ s.ct.value % 2 := by show (s.ct.value + 1) % 2 ≠ _; omega
  have g1 := h.area (md := md) hs.fit s.doA (doA_rng s) hne hl
  have f1 := hs.area (md := md) s.doA (doA_rng s) hl
  have g2 := g1.bar f1.fit
  have g3 := g2.log (r := s.doR md lw) f1.bar.fit boot j hrc
  have f3 := f1.bar.log boot j (s.doR md lw)
  have g4 := g3.bar f3.fit
  revert hno
  exact doC_ind (P := fun d => d.1 ≠ 0 → Good md d.2.1 lv s.ct.value top e v b tg) (fun _ _ => g1) (fun _ _ _ => g2) (fun _ _ _ _ => g2) (fun _ _ _ _ _ => g3) (fun _ _ _ _ _ _ => g4) (fun _ _ _ _ _ hc _ => g4.bmpN hc) (fun _ _ _ _ _ _ hn => absurd rfl hn)
/-- A commit that is done is there for good. -/
theorem good_done (hs : WSt md s k) (hk : k ≤ 8000) (hl : (lv.length : Int) = s.n) (hw : ∀ x ∈ lv, x.Wf) (hok : lvOk lv 0 = true) (hb : boot = s.ct.boots) (hj : j ≤ 100) (hd : (s.doC md boot j lv).1 = 0) :
    j < 100 ∧ Good md (s.doC md boot j lv).2.1 lv (s.ct.value + 1) ((s.nodes md lv).getD 1 (0, 0)) s.ks.cur (boot * 4294967296 + ((j + 1 : Nat) : Int)) ((s.areaW md s.doA lv).barS.logP md boot j (s.doR md lv)).1 ((s.areaW md s.doA lv).barS.logP md boot j (s.doR md lv)).2 := by
  have hg := isG_cases hs.fit.g
  have hss := hs.fit.ss
  obtain ⟨ct1, ct2, ct3⟩ := hs.ct
  revert hd
  refine doC_ind (P := fun d => d.1 = 0 → j < 100 ∧ Good md d.2.1 lv _ _ _ _ _ _) (fun _ h => by cases h) (fun _ _ h => by cases h) (fun _ _ _ h => by cases h) (fun _ _ _ _ h => by cases h) (fun _ _ _ _ _ h => by cases h) (fun _ _ _ _ _ _ h => by cases h) (fun c12 c3 hjn c4 c5 c6 _ => ⟨by omega, ?_⟩)
  rw [Bool.and_eq_true] at c12
  obtain ⟨e1, e2, e3, e4⟩ := areaW_ks md s s.doA lv
  have f1 := hs.area (md := md) s.doA (doA_rng s) hl
  have f3 := f1.bar.log boot j (s.doR md lv)
  have hT : TopOf md (s.areaW md s.doA lv).S lv ((s.nodes md lv).getD 1 (0, 0)) := by rw [areaW_S]; exact nodes_top md s lv (by omega)
  have hwt : Wfp ((s.nodes md lv).getD 1 (0, 0)) := by
    have ht := (buildF_tree md (lv.map leafB) s.S (by rw [List.length_map]; omega)).2
    have hbl := (buildF_len md (lv.map leafB) s.S).2
    rw [List.length_map] at hbl
    exact ht.wfG (j := 1) (by omega) (by omega) (by rw [List.length_map]; omega)
  have wr : (s.doR md lv).Wf := ⟨by show 0 ≤ s.ct.value + 1 ∧ s.ct.value + 1 < _; omega, hs.cur.2, hwt.1, hwt.2⟩
  have rg : isG (s.doR md lv).n = true := hs.fit.g
  have hb' : 0 ≤ boot ∧ boot < 4294967296 := by omega
  have F := filed_logW (md := md) (s := (s.areaW md s.doA lv).barS) (boot := boot) (j := j) (r := s.doR md lv) f1.bar.fit (by omega) c4 f1.bar.cur hb' (by omega) wr rg f1.bar.seq
  have kl1 : Kept (s.areaW md s.doA lv).barS.sd (lfAt s.n s.doA 0).toNat (32 * s.n.toNat) (lvB lv) := by
    have := kept_new (s.areaW md s.doA lv).sd (lfAt s.n s.doA 0).toNat (32 * s.n.toNat)
    rw [area_leaves hs.fit c12.1 c12.2 (doA_rng s) hl] at this
    show Kept ((s.areaW md s.doA lv).sd.barrier (s.areaW md s.doA lv).pw.can) _ _ _
    rw [c3]; exact this
  have hlen := logR_len (md := md) (s := (s.areaW md s.doA lv).barS) (boot := boot) (j := j) (r := s.doR md lv)
  have h1 : ((s.areaW md s.doA lv).barS.logR md boot j (s.doR md lv)).1 = recAt s.n (s.ct.value + 1) := by show recAt (s.areaW md s.doA lv).n _ = _; rw [e4]; rfl
  have ha := doA_rng s
  have kl2 := kl1.write ((s.areaW md s.doA lv).barS.logR md boot j (s.doR md lv)) (by
    rw [hlen, h1]; unfold recAt lfAt
    have : s.doA = 0 ∨ s.doA = 1 := by omega
    rcases this with e | e <;> rw [e] <;> omega) (s.areaW md s.doA lv).barS.pw.can
  have kl3 : Kept ((s.areaW md s.doA lv).barS.logW md boot j (s.doR md lv)).barS.sd (lfAt s.n s.doA 0).toNat (32 * s.n.toNat) (lvB lv) := Kept.barrier (x := ((s.areaW md s.doA lv).barS.logW md boot j (s.doR md lv)).sd) kl2 f3.fit.sd _
  have kr3 : Kept ((s.areaW md s.doA lv).barS.logW md boot j (s.doR md lv)).barS.sd (recAt s.n (s.ct.value + 1)).toNat 60 (recB s.ks.cur (boot * 4294967296 + ((j + 1 : Nat) : Int)) ((s.areaW md s.doA lv).barS.logP md boot j (s.doR md lv)).1 ((s.areaW md s.doA lv).barS.logP md boot j (s.doR md lv)).2) := by
    have := kept_new ((s.areaW md s.doA lv).barS.logW md boot j (s.doR md lv)).sd (recAt s.n (s.ct.value + 1)).toNat 60
    have hrc := F.rc
    rw [WS.recOf, show ((s.areaW md s.doA lv).barS.logW md boot j (s.doR md lv)).n = s.n from e4] at hrc
    rw [show (s.doR md lv).c = s.ct.value + 1 from rfl, show (s.areaW md s.doA lv).barS.ks = s.ks from e1] at hrc
    rw [hrc] at this
    show Kept (((s.areaW md s.doA lv).barS.logW md boot j (s.doR md lv)).sd.barrier _) _ _ _
    rw [c5]; exact this
  have hop := F.op
  rw [show ((s.areaW md s.doA lv).barS.logW md boot j (s.doR md lv)).ks = s.ks from e1, show (s.areaW md s.doA lv).barS.ks = s.ks from e1] at hop
  have hv := F.hv
  refine ⟨by omega, by show _ = (s.areaW md s.doA lv).n; rw [e4]; exact hl, hw, hok, ?_, ?_, hs.cur.2, by omega, F.hb, F.ht, ?_, hwt, hT, ?_, ?_⟩
  · show Kept _ (lfAt (s.areaW md s.doA lv).n _ 0).toNat (32 * (s.areaW md s.doA lv).n.toNat) _
    rw [e4]; exact kl3
  · show Kept _ (recAt (s.areaW md s.doA lv).n _).toNat _ _
    rw [e4]; exact kr3
  · show openP md _ (ofK (s.areaW md s.doA lv).ks.seed _) _ _ _ _ = some (rootB ⟨_, _, (s.areaW md s.doA lv).n, _⟩)
    rw [e1, e4]; exact hop
  · show _ ∈ (s.areaW md s.doA lv).ks.epochs
    rw [e1]; exact hs.cur.1
  · show _ = (CtS.bump (s.areaW md s.doA lv).ct _).at'
    rw [c6, e3, hb]
    show _ = s.ct.boots
    omega
end
end Go.Proofs.YtafkhpjnihnfpaaGreat


namespace Go.Proofs.YtafkhpjnihnfpaaGreat
open Go Go.Abs

/-- A commit's error, by the power and the maker alone. -/
def doE (p : PwS) (j : Nat) : Int :=
  if (p.can && p.spend.can) = false then 7
  else if p.spend.spend.can = false then 7
  else if j = 100 then 6
  else if p.spend.spend.spend.can = false then 7
  else if p.spend.spend.spend.spend.can = false then 7
  else if p.spend.spend.spend.spend.spend.can = false then 7
  else 0
section
variable {md : Bool} {s : WS} {k : Nat} {boot : Int} {j : Nat} {lv : List Lf} {r : Rt}
theorem areaW_pw2 (a : Int) (h : (s.pw.can && s.pw.spend.can) = true) : (s.areaW md a lv).pw = s.pw.spend.spend := by
  rw [Bool.and_eq_true] at h
  rw [WS.areaW, h.1]; rfl
theorem doC_e : (s.doC md boot j lv).1 = doE s.pw j := by
  refine doC_ind (P := fun d => d.1 = doE s.pw j) (fun a1 => ?_) (fun a1 a2 => ?_) (fun a1 a2 a3 => ?_) (fun a1 a2 a3 a4 => ?_) (fun a1 a2 a3 a4 a5 => ?_) (fun a1 a2 a3 a4 a5 a6 => ?_) (fun a1 a2 a3 a4 a5 a6 => ?_)
  · rw [doE, if_pos a1]
  all_goals
    have e := areaW_pw2 (md := md) (lv := lv) s.doA a1
    rw [doE, if_neg (by rw [a1]; simp)]
  · rw [e] at a2; rw [if_pos a2]
  · rw [e] at a2; rw [if_neg (by rw [a2]; simp), if_pos a3]
  · rw [e] at a2; have b4 : s.pw.spend.spend.spend.can = false := by rw [← e]; exact a4
    rw [if_neg (by rw [a2]; simp), if_neg a3, if_pos b4]
  · rw [e] at a2; have b4 : s.pw.spend.spend.spend.can = true := by rw [← e]; exact a4
    have b5 : s.pw.spend.spend.spend.spend.can = false := by rw [← e]; exact a5
    rw [if_neg (by rw [a2]; simp), if_neg a3, if_neg (by rw [b4]; simp), if_pos b5]
  · rw [e] at a2; have b4 : s.pw.spend.spend.spend.can = true := by rw [← e]; exact a4
    have b5 : s.pw.spend.spend.spend.spend.can = true := by rw [← e]; exact a5
    have b6 : s.pw.spend.spend.spend.spend.spend.can = false := by rw [← e]; exact a6
    rw [if_neg (by rw [a2]; simp), if_neg a3, if_neg (by rw [b4]; simp), if_neg (by rw [b5]; simp), if_pos b6]
  · rw [e] at a2; have b4 : s.pw.spend.spend.spend.can = true := by rw [← e]; exact a4
    have b5 : s.pw.spend.spend.spend.spend.can = true := by rw [← e]; exact a5
    have b6 : s.pw.spend.spend.spend.spend.spend.can = true := by rw [← e]; exact a6
    rw [if_neg (by rw [a2]; simp), if_neg a3, if_neg (by rw [b4]; simp), if_neg (by rw [b5]; simp), if_neg (by rw [b6]; simp)]
theorem doE_free {p : PwS} (h : p.Free) (j : Nat) : doE p j = if j = 100 then 6 else 0 := by
  have h0 := h.can
  have h1 := h.spend
  have h2 := h1.spend
  have h3 := h2.spend
  have h4 := h3.spend
  have h5 := h4.spend
  rw [doE, h0, h1.can, h2.can, h3.can, h4.can, h5.can]
  simp
theorem doC_free (h : s.pw.Free) : (s.doC md boot j lv).2.1.pw.Free := by
  have h1 := areaW_free (md := md) s.doA lv h
  have h2 := h1.spend
  exact doC_ind (P := fun d => d.2.1.pw.Free) (fun _ => h1) (fun _ _ => h2) (fun _ _ _ => h2) (fun _ _ _ _ => h2.spend) (fun _ _ _ _ _ => h2.spend.spend) (fun _ _ _ _ _ _ => h2.spend.spend.spend) (fun _ _ _ _ _ _ => h2.spend.spend.spend)
end
/-- What is loaded. -/
def WS.loadE (md : Bool) (s : WS) : Int := if s.pw.gone then 7 else if s.ct.value = 0 then 0 else if s.getE md s.ct.value ≠ 0 then s.getE md s.ct.value else s.readE md (s.ct.value % 2) (s.getT md s.ct.value).g
def WS.loadL (md : Bool) (s : WS) : List Lf := if s.pw.gone then [] else if s.ct.value = 0 then List.replicate s.n.toNat lf0 else if s.getE md s.ct.value ≠ 0 then [] else s.readL md (s.ct.value % 2) (s.getT md s.ct.value).g
def WS.loadS (md : Bool) (s : WS) : WS := if s.pw.gone then s else if s.ct.value = 0 then s else if s.getE md s.ct.value ≠ 0 then s else s.readS md (s.ct.value % 2)
section
variable {md : Bool} {s : WS} {k : Nat} {lv : List Lf} {top : Pr} {e v : Int} {b : Bs} {tg : Pr}
theorem Good.load (h : Good md s lv s.ct.value top e v b tg) (hs : s.Fit k) (hgo : s.pw.gone = false) : s.loadE md = 0 ∧ s.loadL md = lv := by
  obtain ⟨g1, g2⟩ := h.get hs hgo
  obtain ⟨r1, r2⟩ := h.read hs hgo
  have hc := h.c1.1
  have hv : s.ct.value ≠ 0 := by omega
  exact ⟨by rw [WS.loadE, hgo, g1, g2]; simp [hv, r1], by rw [WS.loadL, hgo, g1, g2]; simp [hv, r2]⟩
theorem loadS_sd (md : Bool) (s : WS) : (s.loadS md).sd = s.sd ∧ (s.loadS md).n = s.n ∧ (s.loadS md).pw = s.pw ∧ (s.loadS md).ct = s.ct ∧ (s.loadS md).ks = s.ks ∧ (s.loadS md).L = s.L := by
  have hr : ∀ a, (s.readS md a).sd = s.sd ∧ (s.readS md a).n = s.n ∧ (s.readS md a).pw = s.pw ∧ (s.readS md a).ct = s.ct ∧ (s.readS md a).ks = s.ks ∧ (s.readS md a).L = s.L := fun a => by
    rw [WS.readS]; split <;> exact ⟨rfl, rfl, rfl, rfl, rfl, rfl⟩
  rw [WS.loadS]
  repeat' split
  · exact ⟨rfl, rfl, rfl, rfl, rfl, rfl⟩
  · exact ⟨rfl, rfl, rfl, rfl, rfl, rfl⟩
  · exact ⟨rfl, rfl, rfl, rfl, rfl, rfl⟩
  · exact hr _
theorem WSt.load (h : WSt md s k) : WSt md (s.loadS md) (k + 40) := by
  obtain ⟨e1, e2, e3, e4, e5, e6⟩ := loadS_sd md s
  refine ⟨?_, by rw [e5]; exact h.cur, by rw [e6]; exact h.seq, by rw [e6]; exact h.dat, by rw [e4]; exact h.ct.mono (by omega)⟩
  rw [WS.loadS]
  repeat' split
  · exact h.fit.mono (by omega)
  · exact h.fit.mono (by omega)
  · exact h.fit.mono (by omega)
  · exact fit_readS h.fit _
end
end Go.Proofs.YtafkhpjnihnfpaaGreat


set_option maxRecDepth 100000
namespace Go.Proofs.YtafkhpjnihnfpaaGreat
open Go Go.Abs

def c_commit_Load : CC := .seq (.reg [⟨some 2, .mov (.c .nils), none⟩, ⟨some 3, .mov (.c (.int .i64 0)), none⟩]) (.seq (.block 0 (.seq (.reg [⟨some 8, .mov (.t 0), none⟩, ⟨some 9, .eqv .p false (.t 8) (.c .nilp), none⟩, ⟨some 7, .mov (.t 9), none⟩]) (.cond (.t 7) (.seq (.reg [⟨some 2, .mov (.c .nils), none⟩, ⟨some 3, .mov (.c (.int .i64 1)), none⟩]) .ret) (.seq (.reg [⟨some 11, .mov (.t 0), none⟩, ⟨some 12, .nilck (.t 11), none⟩, ⟨some 13, .faddr 1 (.t 12), none⟩, ⟨some 14, .load 1 false (.t 13), none⟩, ⟨some 15, .call 48 [.t 14], none⟩, ⟨some 16, .not (.t 15), none⟩, ⟨some 10, .mov (.t 16), none⟩]) (.cond (.t 10) (.seq (.reg [⟨some 2, .mov (.c .nils), none⟩, ⟨some 3, .mov (.c (.int .i64 7)), none⟩]) .ret) .skip))))) (.seq (.reg [⟨some 17, .mov (.t 0), none⟩, ⟨some 18, .nilck (.t 17), none⟩, ⟨some 19, .faddr 4 (.t 18), none⟩, ⟨some 20, .load 1 false (.t 19), none⟩, ⟨some 21, .call 78 [.t 20], none⟩, ⟨some 4, .mov (.t 21), none⟩]) (.seq (.seq (.reg [⟨some 22, .mov (.t 4), none⟩, ⟨some 23, .bin .eql (.t 22) (.c (.int .u64 0)), none⟩]) (.cond (.t 23) (.seq (.reg [⟨some 24, .mov (.t 0), none⟩, ⟨some 25, .nilck (.t 24), none⟩, ⟨some 26, .faddr 0 (.t 25), none⟩, ⟨some 27, .faddr 0 (.t 26), none⟩, ⟨some 28, .load 1 false (.t 27), none⟩, ⟨some 29, .mksl 8 [.int .i64 0, .bool false, .int .i64 0, .int .u32 0, .int .u32 0, .int .u64 0, .int .u64 0, .int .u64 0] 56 (.t 28) (.t 28), none⟩, ⟨some 2, .mov (.t 29), none⟩, ⟨some 3, .mov (.c (.int .i64 0)), none⟩]) .ret) .skip)) (.seq (.reg [⟨some 31, .mov (.t 0), none⟩, ⟨some 32, .mov (.t 4), none⟩, ⟨some 33, .call 79 [.t 31, .t 32], none⟩, ⟨some 30, .mov (.t 33), none⟩, ⟨some 34, .ext 0 (.t 30), none⟩, ⟨some 35, .ext 1 (.t 30), none⟩, ⟨some 5, .alloc [.int .u64 0, .int .u32 0, .int .i64 0, .int .u64 0, .int .u64 0], none⟩, ⟨none, .store 5 (.t 5) (.t 34), none⟩, ⟨some 6, .mov (.t 35), none⟩]) (.seq (.seq (.reg [⟨some 36, .mov (.t 6), none⟩, ⟨some 37, .bin .neq (.t 36) (.c (.int .i64 0)), none⟩]) (.cond (.t 37) (.seq (.reg [⟨some 38, .mov (.t 6), none⟩, ⟨some 2, .mov (.c .nils), none⟩, ⟨some 3, .mov (.t 38), none⟩]) .ret) .skip)) (.seq (.reg [⟨some 39, .mov (.t 0), none⟩, ⟨some 40, .mov (.t 4), none⟩, ⟨some 41, .bin .rem (.t 40) (.c (.int .u64 2)), none⟩, ⟨some 42, .conv .i64 (.t 41), none⟩, ⟨some 43, .faddr 3 (.t 5), none⟩, ⟨some 44, .load 2 true (.t 43), none⟩, ⟨some 45, .call 80 [.t 39, .t 42, .t 44], none⟩, ⟨some 46, .ext 0 (.t 45), none⟩, ⟨some 47, .ext 1 (.t 45), none⟩, ⟨some 2, .mov (.t 46), none⟩, ⟨some 3, .mov (.t 47), none⟩]) .ret))))))
theorem is_commit_Load : FnIs Tryz.prog 50 48 c_commit_Load [.t 2, .t 3] := ⟨Tryz.f50, _, Tryz.func50, rfl, rfl, by kernel_rfl, by kernel_rfl⟩

end Go.Proofs.YtafkhpjnihnfpaaGreat


namespace Go.Proofs.YtafkhpjnihnfpaaGreat
open Go Go.Abs

theorem wst0 (md : Bool) {m : Nat} (hG : isG m = true) (seed : Int) : WSt md (ws0 m seed) 0 := by
  have h := lst0 md hG seed
  exact ⟨h.fit, h.cur, h.seq, h.dat, ⟨by simp [ws0], by simp [ws0], by simp [ws0]⟩⟩
end Go.Proofs.YtafkhpjnihnfpaaGreat


namespace Go.Proofs.YtafkhpjnihnfpaaGreat
open Go Go.Abs

section
variable {md : Bool} {s : WS} {boot : Int} {j : Nat} {lv : List Lf}
theorem doC_j1 (hd : (s.doC md boot j lv).1 = 0) : (s.doC md boot j lv).2.2 = j + 1 := by
  revert hd
  exact doC_ind (P := fun d => d.1 = 0 → d.2.2 = j + 1) (fun _ h => by cases h) (fun _ _ h => by cases h) (fun _ _ _ h => by cases h) (fun _ _ _ _ _ => rfl) (fun _ _ _ _ _ _ => rfl) (fun _ _ _ _ _ _ _ => rfl) (fun _ _ _ _ _ _ _ => rfl)
end
/-- A world behind i commits of leaves. -/
structure EndI (lv : List Lf) (i : Nat) (s : WS) (j : Nat) : Prop where
  st : WSt true s (50 * i)
  fr : s.pw.Free
  n : s.n = 4
  jj : j = min i 100
  v : s.ct.value = ((min i 100 : Nat) : Int)
  b : s.ct.boots = 0
  g : 0 < i → ∃ top e v b tg, Good true s lv s.ct.value top e v b tg
theorem EndI.step {lv : List Lf} {i : Nat} {s : WS} {j : Nat} (h : EndI lv i s j) (hi : i < 120) (hl : lv.length = 4) (hw : ∀ x ∈ lv, x.Wf) (hok : lvOk lv 0 = true) :
    (s.doC true 0 j lv).1 = (if i < 100 then 0 else 6) ∧ EndI lv (i + 1) (s.doC true 0 j lv).2.1 (s.doC true 0 j lv).2.2 := by
  have hjj := h.jj
  have hln : (lv.length : Int) = s.n := by rw [hl, h.n]; rfl
  have he := doC_e (md := true) (s := s) (boot := 0) (j := j) (lv := lv)
  rw [doE_free h.fr] at he
  have hct := doC_ct (md := true) (s := s) (boot := 0) (j := j) (lv := lv)
  have hst := (doC_wst (md := true) (boot := 0) (j := j) h.st hln).mono (k' := 50 * (i + 1)) (by omega)
  have hfr := doC_free (md := true) (boot := 0) (j := j) (lv := lv) h.fr
  have hn := (doC_n (md := true) (s := s) (boot := 0) (j := j) (lv := lv)).1.trans h.n
  by_cases h100 : i < 100
  · rw [if_neg (by omega)] at he
    rw [he, if_pos rfl] at hct
    obtain ⟨_, G⟩ := good_done (md := true) h.st (by omega) hln hw hok h.b.symm (by omega) he
    have hv : (s.doC true 0 j lv).2.1.ct.value = s.ct.value + 1 := by rw [hct]; rfl
    have hhv := h.v
    refine ⟨by rw [if_pos h100, he], hst, hfr, hn, by rw [doC_j1 he]; omega, by rw [hv]; omega, by rw [hct]; exact h.b, fun _ => ?_⟩
    rw [hv]
    exact ⟨_, _, _, _, _, G⟩
  · have hj : j = 100 := by omega
    rw [if_pos hj] at he
    have hj2 := doC_j (md := true) (s := s) (boot := 0) (j := j) (lv := lv) (by omega)
    rw [he, if_neg (by decide)] at hct
    obtain ⟨top, e, v, b, tg, G⟩ := h.g (by omega)
    have G2 := G.undone (lw := lv) (boot := 0) (j := j) h.st hln (by rw [he]; decide)
    have hhv := h.v
    refine ⟨by rw [if_neg h100, he], hst, hfr, hn, by omega, by rw [hct]; omega, by rw [hct]; exact h.b, fun _ => ?_⟩
    rw [hct]
    exact ⟨_, _, _, _, _, G2⟩
end Go.Proofs.YtafkhpjnihnfpaaGreat


namespace Go.Proofs.YtafkhpjnihnfpaaGreat
open Go Go.Abs

theorem WSt.crash {md : Bool} {s : WS} {k : Nat} (h : WSt md s k) (K : Nat → Bool) : WSt md (s.crash K) k := by
  have hl := settle_len K s.sd.lasts.length s.sd.waits 0 s.sd.lasts (fun y hy => by have := h.fit.sd.w y hy; rw [h.fit.sd.len]; exact this) rfl
  obtain ⟨p1, p2, p3, p4⟩ := h.fit.pw
  refine ⟨⟨h.fit.g, ⟨fun hh => by simp [WS.crash] at hh, p2, p3, p4⟩, ⟨?_, fun y hy => by simp [WS.crash, SdS.settle] at hy, Nat.zero_le _, h.fit.sd.kt⟩, h.fit.ss, h.fit.ll⟩, h.cur, h.seq, h.dat, h.ct⟩
  show (settleF K 0 s.sd.waits s.sd.lasts).length = _
  rw [hl, h.fit.sd.len]; rfl
end Go.Proofs.YtafkhpjnihnfpaaGreat


namespace Go.Proofs.YtafkhpjnihnfpaaGreat
open Go Go.Abs

def WS.bootS (s : WS) : WS := { s with pw := s.pw.spend, ct := s.ct.boot s.pw.can }
theorem WSt.boot {md : Bool} {s : WS} {k : Nat} (h : WSt md s k) : WSt md s.bootS (k + 1) :=
  ⟨⟨h.fit.g, h.fit.pw.spend, h.fit.sd.mono (by omega), Nat.le_succ_of_le h.fit.ss, Nat.le_succ_of_le h.fit.ll⟩, h.cur, h.seq, h.dat, h.ct.boot _⟩
theorem boot_ct {s : WS} (h : s.pw.Free) : s.bootS.ct = ⟨s.ct.value, s.ct.boots + 1, s.ct.at'⟩ := by rw [WS.bootS, h.can]; rfl
end Go.Proofs.YtafkhpjnihnfpaaGreat


namespace Go.Proofs.YtafkhpjnihnfpaaGreat
open Go Go.Abs

theorem boot_ae {md : Bool} {h : AHeap} {n : WN} {s : WS} {k : Nat} (hg : WG md h n s) (hs : WSt md s k) (hk : k ≤ 9000) : AE Tryz.prog 49 [.ptr (n.a + 7) 0 0] h (.bool s.pw.can) ((h.set n.p (some (.mem 4 [s.pw.spend.row]))).set (n.a + 7) (some ((s.ct.boot s.pw.can).obj n.p))) :=
  count_Boot_ae (p := n.p) hg.w.sd.pw hg.w.ct hs.fit.pw hs.ct (by omega)
theorem WG.boot {md : Bool} {h : AHeap} {n : WN} {s : WS} (hg : WG md h n s) : WG md ((h.set n.p (some (.mem 4 [s.pw.spend.row]))).set (n.a + 7) (some ((s.ct.boot s.pw.can).obj n.p))) n s.bootS := hg.step (hg.w.putCt _ _) (kp_ct n _ _)
end Go.Proofs.YtafkhpjnihnfpaaGreat


set_option maxRecDepth 100000
namespace Go.Proofs.YtafkhpjnihnfpaaGreat
open Go Go.Abs

def c_law30_AuditTraces : CC := .seq (.reg [⟨some 6, .mov (.c (.bool false)), none⟩]) (.seq (.seq (.reg [⟨some 7, .mov (.t 0), none⟩, ⟨some 8, .len (.t 7), none⟩, ⟨some 9, .bin .gtr (.t 8) (.c (.int .i64 50)), none⟩, ⟨some 10, .mov (.t 9), none⟩, ⟨some 11, .mov (.t 1), some (10, false)⟩, ⟨some 12, .len (.t 11), some (10, false)⟩, ⟨some 13, .bin .gtr (.t 12) (.c (.int .i64 50)), some (10, false)⟩, ⟨some 14, .pick (.t 10) (.c (.bool true)) (.t 13), none⟩]) (.cond (.t 14) (.seq (.reg [⟨some 6, .mov (.c (.bool true)), none⟩]) .ret) .skip)) (.seq (.reg [⟨some 15, .mov (.t 0), none⟩, ⟨some 16, .mov (.t 1), none⟩, ⟨some 17, .mov (.t 2), none⟩, ⟨some 18, .call 9 [.t 15, .t 16, .t 17], none⟩, ⟨some 19, .mov (.t 0), none⟩, ⟨some 20, .mov (.t 1), none⟩, ⟨some 21, .mov (.t 2), none⟩, ⟨some 22, .call 10 [.t 19, .t 20, .t 21], none⟩, ⟨some 23, .eqv .b false (.t 18) (.t 22), none⟩, ⟨some 24, .mov (.t 23), none⟩, ⟨some 25, .mov (.t 0), some (24, true)⟩, ⟨some 26, .mov (.t 0), some (24, true)⟩, ⟨some 27, .mov (.t 2), some (24, true)⟩, ⟨some 28, .call 9 [.t 25, .t 26, .t 27], some (24, true)⟩, ⟨some 29, .pick (.t 24) (.t 28) (.c (.bool false)), none⟩, ⟨some 30, .mov (.t 29), none⟩, ⟨some 31, .call 11 [], some (30, true)⟩, ⟨some 32, .pick (.t 30) (.t 31) (.c (.bool false)), none⟩, ⟨some 6, .mov (.t 32), none⟩]) .ret))
theorem is_law30_AuditTraces : FnIs Tryz.prog 3 33 c_law30_AuditTraces [.t 6] := ⟨Tryz.f3, _, Tryz.func3, rfl, rfl, by kernel_rfl, by kernel_rfl⟩

def c_audit_SameTrace : CC := .seq (.reg [⟨some 5, .box 1 (.t 2), none⟩, ⟨some 6, .mov (.c (.bool false)), none⟩]) (.seq (.reg [⟨some 7, .mov (.t 0), none⟩, ⟨some 8, .mov (.t 1), none⟩, ⟨some 9, .mkf (.func 21) [] [.t 5], none⟩, ⟨some 10, .call 20 [.t 7, .t 8, .t 9], none⟩, ⟨some 6, .mov (.t 10), none⟩]) .ret)
theorem is_audit_SameTrace : FnIs Tryz.prog 9 11 c_audit_SameTrace [.t 6] := ⟨Tryz.f9, _, Tryz.func9, rfl, rfl, by kernel_rfl, by kernel_rfl⟩

def c_ref30_SameTrace : CC := .seq (.reg [⟨some 6, .mov (.c (.bool false)), none⟩]) (.seq (.seq (.reg [⟨some 8, .mov (.t 0), none⟩, ⟨some 9, .len (.t 8), none⟩, ⟨some 10, .mov (.t 1), none⟩, ⟨some 11, .len (.t 10), none⟩, ⟨some 12, .bin .neq (.t 9) (.t 11), none⟩]) (.cond (.t 12) (.seq (.reg [⟨some 6, .mov (.c (.bool false)), none⟩]) .ret) .skip)) (.seq (.seq (.reg [⟨some 7, .mov (.c (.int .i64 0)), none⟩]) (.block 0 (.loop (.seq (.seq (.reg [⟨some 13, .mov (.t 7), none⟩, ⟨some 14, .mov (.t 0), none⟩, ⟨some 15, .len (.t 14), none⟩, ⟨some 16, .bin .lss (.t 13) (.t 15), none⟩]) (.cond (.t 16) .skip (.exit 0))) (.seq (.block 1 (.seq (.dreg [⟨some 19, .mov (.t 0), none⟩, ⟨some 20, .mov (.t 7), none⟩, ⟨some 21, .iaddr 2 (.t 19) (.t 20), none⟩, ⟨some 22, .faddr 0 (.t 21), none⟩, ⟨some 23, .load 1 false (.t 22), none⟩, ⟨some 24, .mov (.t 1), none⟩, ⟨some 25, .mov (.t 7), none⟩, ⟨some 26, .iaddr 2 (.t 24) (.t 25), none⟩, ⟨some 27, .faddr 0 (.t 26), none⟩, ⟨some 28, .load 1 false (.t 27), none⟩, ⟨some 29, .bin .neq (.t 23) (.t 28), none⟩, ⟨some 30, .mov (.t 29), none⟩, ⟨some 31, .mov (.t 0), some (30, false)⟩, ⟨some 32, .mov (.t 7), some (30, false)⟩, ⟨some 33, .iaddr 2 (.t 31) (.t 32), some (30, false)⟩, ⟨some 34, .faddr 1 (.t 33), some (30, false)⟩, ⟨some 35, .load 1 false (.t 34), some (30, false)⟩, ⟨some 36, .len (.t 35), some (30, false)⟩, ⟨some 37, .mov (.t 1), some (30, false)⟩, ⟨some 38, .mov (.t 7), some (30, false)⟩, ⟨some 39, .iaddr 2 (.t 37) (.t 38), some (30, false)⟩, ⟨some 40, .faddr 1 (.t 39), some (30, false)⟩, ⟨some 41, .load 1 false (.t 40), some (30, false)⟩, ⟨some 42, .len (.t 41), some (30, false)⟩, ⟨some 43, .bin .neq (.t 36) (.t 42), some (30, false)⟩, ⟨some 44, .pick (.t 30) (.c (.bool true)) (.t 43), none⟩, ⟨some 45, .mov (.t 44), none⟩, ⟨some 46, .mov (.t 2), some (45, false)⟩, ⟨some 47, .mov (.t 46), some (45, false)⟩, ⟨some 48, .mov (.t 0), some (47, true)⟩, ⟨some 49, .mov (.t 7), some (47, true)⟩, ⟨some 50, .iaddr 2 (.t 48) (.t 49), some (47, true)⟩, ⟨some 51, .faddr 1 (.t 50), some (47, true)⟩, ⟨some 52, .load 1 false (.t 51), some (47, true)⟩, ⟨some 53, .b2s (.t 52), some (47, true)⟩, ⟨some 54, .mov (.t 1), some (47, true)⟩, ⟨some 55, .mov (.t 7), some (47, true)⟩, ⟨some 56, .iaddr 2 (.t 54) (.t 55), some (47, true)⟩, ⟨some 57, .faddr 1 (.t 56), some (47, true)⟩, ⟨some 58, .load 1 false (.t 57), some (47, true)⟩, ⟨some 59, .b2s (.t 58), some (47, true)⟩, ⟨some 60, .eqv .s true (.t 53) (.t 59), some (47, true)⟩, ⟨some 61, .pick (.t 47) (.t 60) (.c (.bool false)), some (45, false)⟩, ⟨some 62, .pick (.t 45) (.c (.bool true)) (.t 61), none⟩] [[], [], [0, 1], [2], [3], [], [], [5, 6], [7], [8], [4, 9], [10], [11], [11], [12, 13, 11], [14, 11], [15, 11], [16, 11], [11], [11], [18, 19, 11], [20, 11], [21, 11], [22, 11], [17, 23, 11], [11, 24], [25, 11], [26], [27, 26, 26], [28], [28], [29, 30, 28], [31, 28], [32, 28], [33, 28], [28], [28], [35, 36, 28], [37, 28], [38, 28], [39, 28], [34, 40, 28], [28, 41, 26], [26, 42]]) (.cond (.t 62) (.seq (.reg [⟨some 6, .mov (.c (.bool false)), none⟩]) .ret) .skip))) (.reg [⟨some 17, .mov (.t 7), none⟩, ⟨some 18, .bin .add (.t 17) (.c (.int .i64 1)), none⟩, ⟨some 7, .mov (.t 18), none⟩])))))) (.seq (.reg [⟨some 6, .mov (.c (.bool true)), none⟩]) .ret)))
theorem is_ref30_SameTrace : FnIs Tryz.prog 10 63 c_ref30_SameTrace [.t 6] := ⟨Tryz.f10, _, Tryz.func10, rfl, rfl, by kernel_rfl, by kernel_rfl⟩

def c_law30_known : CC := .seq (.reg [⟨some 0, .mov (.c (.bool false)), none⟩]) (.seq (.reg [⟨some 4, .call 12 [.c (.int .i64 4), .c (.int .u64 1), .c (.bool true)], none⟩, ⟨some 3, .mov (.t 4), none⟩, ⟨some 5, .ext 0 (.t 3), none⟩, ⟨some 6, .ext 1 (.t 3), none⟩, ⟨some 1, .mov (.t 5), none⟩, ⟨some 2, .mov (.t 6), none⟩]) (.seq (.reg [⟨some 7, .mov (.t 1), none⟩, ⟨some 8, .eqv .p true (.t 7) (.c .nilp), none⟩, ⟨some 9, .mov (.t 8), none⟩, ⟨some 10, .mov (.t 1), some (9, true)⟩, ⟨some 11, .call 16 [.t 10], some (9, true)⟩, ⟨some 12, .call 19 [.t 11], some (9, true)⟩, ⟨some 13, .len (.t 12), some (9, true)⟩, ⟨some 14, .bin .eql (.t 13) (.c (.int .i64 0)), some (9, true)⟩, ⟨some 15, .pick (.t 9) (.t 14) (.c (.bool false)), none⟩, ⟨some 16, .mov (.t 15), none⟩, ⟨some 17, .mov (.t 1), some (16, true)⟩, ⟨some 18, .call 16 [.t 17], some (16, true)⟩, ⟨some 19, .call 23 [.t 18], some (16, true)⟩, ⟨some 20, .pick (.t 16) (.t 19) (.c (.bool false)), none⟩, ⟨some 21, .mov (.t 20), none⟩, ⟨some 22, .mov (.t 1), some (21, true)⟩, ⟨some 23, .call 17 [.t 22], some (21, true)⟩, ⟨some 24, .call 24 [.t 23], some (21, true)⟩, ⟨some 25, .pick (.t 21) (.t 24) (.c (.bool false)), none⟩, ⟨some 26, .mov (.t 25), none⟩, ⟨some 27, .call 24 [.c .nilp], some (26, true)⟩, ⟨some 28, .pick (.t 26) (.t 27) (.c (.bool false)), none⟩, ⟨some 29, .mov (.t 28), none⟩, ⟨some 30, .call 23 [.c .nilp], some (29, true)⟩, ⟨some 31, .pick (.t 29) (.t 30) (.c (.bool false)), none⟩, ⟨some 32, .mov (.t 31), none⟩, ⟨some 33, .call 19 [.c .nilp], some (32, true)⟩, ⟨some 34, .len (.t 33), some (32, true)⟩, ⟨some 35, .bin .eql (.t 34) (.c (.int .i64 0)), some (32, true)⟩, ⟨some 36, .pick (.t 32) (.t 35) (.c (.bool false)), none⟩, ⟨some 0, .mov (.t 36), none⟩]) .ret))
theorem is_law30_known : FnIs Tryz.prog 11 37 c_law30_known [.t 0] := ⟨Tryz.f11, _, Tryz.func11, rfl, rfl, by kernel_rfl, by kernel_rfl⟩

def c_play_New : CC := .seq (.reg [⟨some 6, .mov (.c .nilp), none⟩, ⟨some 7, .mov (.c (.int .i64 0)), none⟩]) (.seq (.reg [⟨some 12, .mov (.t 0), none⟩, ⟨some 13, .mov (.t 1), none⟩, ⟨some 14, .mov (.t 2), none⟩, ⟨some 15, .call 25 [.t 12, .t 13, .t 14], none⟩, ⟨some 11, .mov (.t 15), none⟩, ⟨some 16, .ext 0 (.t 11), none⟩, ⟨some 17, .ext 1 (.t 11), none⟩, ⟨some 8, .mov (.t 16), none⟩, ⟨some 9, .mov (.t 17), none⟩]) (.seq (.seq (.reg [⟨some 18, .mov (.t 9), none⟩, ⟨some 19, .bin .neq (.t 18) (.c (.int .i64 0)), none⟩]) (.cond (.t 19) (.seq (.reg [⟨some 20, .mov (.t 9), none⟩, ⟨some 6, .mov (.c .nilp), none⟩, ⟨some 7, .mov (.t 20), none⟩]) .ret) .skip)) (.seq (.reg [⟨some 22, .mov (.t 8), none⟩, ⟨some 23, .call 26 [.t 22], none⟩, ⟨some 21, .mov (.t 23), none⟩, ⟨some 24, .ext 0 (.t 21), none⟩, ⟨some 25, .ext 1 (.t 21), none⟩, ⟨some 10, .mov (.t 24), none⟩, ⟨some 9, .mov (.t 25), none⟩]) (.seq (.seq (.reg [⟨some 26, .mov (.t 9), none⟩, ⟨some 27, .bin .neq (.t 26) (.c (.int .i64 0)), none⟩]) (.cond (.t 27) (.seq (.reg [⟨some 28, .mov (.t 9), none⟩, ⟨some 6, .mov (.c .nilp), none⟩, ⟨some 7, .mov (.t 28), none⟩]) .ret) .skip)) (.seq (.reg [⟨some 29, .mov (.t 8), none⟩, ⟨some 30, .mov (.t 10), none⟩, ⟨some 31, .build [.nilp, .nilp, .nils] [(0, 1, .t 29), (1, 1, .t 30)], none⟩, ⟨some 32, .box 3 (.t 31), none⟩, ⟨some 6, .mov (.t 32), none⟩, ⟨some 7, .mov (.c (.int .i64 0)), none⟩]) .ret)))))
theorem is_play_New : FnIs Tryz.prog 12 33 c_play_New [.t 6, .t 7] := ⟨Tryz.f12, _, Tryz.func12, rfl, rfl, by kernel_rfl, by kernel_rfl⟩

def c_play_Box_World : CC := .seq (.reg [⟨some 2, .mov (.c .nilp), none⟩]) (.seq (.seq (.reg [⟨some 3, .mov (.t 0), none⟩, ⟨some 4, .eqv .p false (.t 3) (.c .nilp), none⟩]) (.cond (.t 4) (.seq (.reg [⟨some 2, .mov (.c .nilp), none⟩]) .ret) .skip)) (.seq (.reg [⟨some 5, .mov (.t 0), none⟩, ⟨some 6, .nilck (.t 5), none⟩, ⟨some 7, .faddr 0 (.t 6), none⟩, ⟨some 8, .load 1 false (.t 7), none⟩, ⟨some 2, .mov (.t 8), none⟩]) .ret))
theorem is_play_Box_World : FnIs Tryz.prog 16 9 c_play_Box_World [.t 2] := ⟨Tryz.f16, _, Tryz.func16, rfl, rfl, by kernel_rfl, by kernel_rfl⟩

def c_play_Box_Cache : CC := .seq (.reg [⟨some 2, .mov (.c .nilp), none⟩]) (.seq (.seq (.reg [⟨some 3, .mov (.t 0), none⟩, ⟨some 4, .eqv .p false (.t 3) (.c .nilp), none⟩]) (.cond (.t 4) (.seq (.reg [⟨some 2, .mov (.c .nilp), none⟩]) .ret) .skip)) (.seq (.reg [⟨some 5, .mov (.t 0), none⟩, ⟨some 6, .nilck (.t 5), none⟩, ⟨some 7, .faddr 1 (.t 6), none⟩, ⟨some 8, .load 1 false (.t 7), none⟩, ⟨some 2, .mov (.t 8), none⟩]) .ret))
theorem is_play_Box_Cache : FnIs Tryz.prog 17 9 c_play_Box_Cache [.t 2] := ⟨Tryz.f17, _, Tryz.func17, rfl, rfl, by kernel_rfl, by kernel_rfl⟩

def c_audit_Secrets : CC := .seq (.reg [⟨some 2, .mov (.c .nils), none⟩]) (.seq (.seq (.reg [⟨some 8, .mov (.t 0), none⟩, ⟨some 9, .eqv .p false (.t 8) (.c .nilp), none⟩]) (.cond (.t 9) (.seq (.reg [⟨some 2, .mov (.c .nils), none⟩]) .ret) .skip)) (.seq (.reg [⟨some 3, .mov (.c .nils), none⟩]) (.seq (.seq (.reg [⟨some 10, .mov (.t 0), none⟩, ⟨some 11, .nilck (.t 10), none⟩, ⟨some 12, .faddr 6 (.t 11), none⟩, ⟨some 13, .load 1 false (.t 12), none⟩, ⟨some 14, .call 34 [.t 13], none⟩, ⟨some 15, .len (.t 14), none⟩, ⟨some 16, .mov (.c (.int .i64 0)), none⟩]) (.block 0 (.loop (.seq (.reg [⟨some 17, .bin .lss (.t 16) (.t 15), none⟩]) (.seq (.cond (.t 17) .skip (.exit 0)) (.seq (.block 1 (.seq (.reg [⟨some 18, .iaddr 10 (.t 14) (.t 16), none⟩, ⟨some 19, .load 10 true (.t 18), none⟩, ⟨some 5, .alloc [.int .u64 0, .int .u64 0, .int .u32 0, .int .u32 0, .int .u64 0, .nils, .nils, .nils, .int .u64 0, .int .u64 0], none⟩, ⟨none, .store 10 (.t 5) (.t 19), none⟩]) (.seq (.dreg [⟨some 21, .mov (.t 0), none⟩, ⟨some 22, .nilck (.t 21), none⟩, ⟨some 23, .faddr 5 (.t 22), none⟩, ⟨some 24, .load 1 false (.t 23), none⟩, ⟨some 25, .faddr 2 (.t 5), none⟩, ⟨some 26, .faddr 0 (.t 25), none⟩, ⟨some 27, .load 1 false (.t 26), none⟩, ⟨some 28, .call 35 [.t 24, .t 27], none⟩, ⟨some 20, .mov (.t 28), none⟩, ⟨some 29, .ext 0 (.t 20), none⟩, ⟨some 30, .ext 1 (.t 20), none⟩, ⟨some 6, .alloc [.int .u64 0, .int .u64 0], none⟩, ⟨none, .store 2 (.t 6) (.t 29), none⟩, ⟨some 7, .mov (.t 30), none⟩] [[], [0], [1], [2], [], [4], [5], [3, 6], [7], [8], [8], [], [11, 9, 7, 0, 1, 2, 3, 4, 5, 6, 7, 8, 9, 11], [10, 12, 0, 1, 2, 3, 4, 5, 6, 7, 8, 9, 10, 11, 12]]) (.seq (.reg [⟨some 31, .mov (.t 7), none⟩, ⟨some 32, .mov (.t 31), none⟩, ⟨some 33, .faddr 2 (.t 5), some (32, true)⟩, ⟨some 34, .faddr 1 (.t 33), some (32, true)⟩, ⟨some 35, .load 1 false (.t 34), some (32, true)⟩, ⟨some 36, .bin .neq (.t 35) (.c (.int .u32 65535)), some (32, true)⟩, ⟨some 37, .pick (.t 32) (.t 36) (.c (.bool false)), none⟩]) (.cond (.t 37) (.reg [⟨some 38, .mov (.t 3), none⟩, ⟨some 39, .faddr 6 (.t 5), none⟩, ⟨some 40, .load 1 false (.t 39), none⟩, ⟨some 41, .bsl 1 [.t 40], none⟩, ⟨some 42, .app 1 24 (.t 38) (.t 41), none⟩, ⟨some 3, .mov (.t 42), none⟩]) .skip))))) (.reg [⟨some 43, .bin .add (.t 16) (.c (.int .i64 1)), none⟩, ⟨some 16, .mov (.t 43), none⟩]))))))) (.seq (.reg [⟨some 44, .mov (.t 3), none⟩, ⟨some 2, .mov (.t 44), none⟩]) .ret))))
theorem is_audit_Secrets : FnIs Tryz.prog 19 45 c_audit_Secrets [.t 2] := ⟨Tryz.f19, _, Tryz.func19, rfl, rfl, by kernel_rfl, by kernel_rfl⟩

def c_slices_EqualFuncapi_Op_api_Op_api_Op_api_Op : CC := .seq (.reg [⟨some 6, .mov (.c (.bool false)), none⟩]) (.seq (.seq (.reg [⟨some 10, .mov (.t 0), none⟩, ⟨some 11, .len (.t 10), none⟩, ⟨some 12, .mov (.t 1), none⟩, ⟨some 13, .len (.t 12), none⟩, ⟨some 14, .bin .neq (.t 11) (.t 13), none⟩]) (.cond (.t 14) (.seq (.reg [⟨some 6, .mov (.c (.bool false)), none⟩]) .ret) .skip)) (.seq (.seq (.reg [⟨some 15, .mov (.t 0), none⟩, ⟨some 16, .len (.t 15), none⟩, ⟨some 17, .mov (.c (.int .i64 0)), none⟩]) (.block 0 (.loop (.seq (.reg [⟨some 18, .bin .lss (.t 17) (.t 16), none⟩]) (.seq (.cond (.t 18) .skip (.exit 0)) (.seq (.block 1 (.seq (.reg [⟨some 19, .mov (.t 17), none⟩, ⟨some 20, .iaddr 2 (.t 15) (.t 17), none⟩, ⟨some 21, .load 2 true (.t 20), none⟩, ⟨some 8, .alloc [.int .i64 0, .nils], none⟩, ⟨some 7, .mov (.t 19), none⟩, ⟨none, .store 2 (.t 8) (.t 21), none⟩]) (.seq (.reg [⟨some 22, .mov (.t 1), none⟩, ⟨some 23, .mov (.t 7), none⟩, ⟨some 24, .iaddr 2 (.t 22) (.t 23), none⟩, ⟨some 25, .load 2 true (.t 24), none⟩, ⟨some 9, .alloc [.int .i64 0, .nils], none⟩, ⟨none, .store 2 (.t 9) (.t 25), none⟩]) (.seq (.reg [⟨some 26, .mov (.t 2), none⟩, ⟨some 27, .load 2 true (.t 8), none⟩, ⟨some 28, .load 2 true (.t 9), none⟩, ⟨some 29, .callv (.t 26) [.t 27, .t 28], none⟩, ⟨some 30, .not (.t 29), none⟩]) (.cond (.t 30) (.seq (.reg [⟨some 6, .mov (.c (.bool false)), none⟩]) .ret) .skip))))) (.reg [⟨some 31, .bin .add (.t 17) (.c (.int .i64 1)), none⟩, ⟨some 17, .mov (.t 31), none⟩]))))))) (.seq (.reg [⟨some 6, .mov (.c (.bool true)), none⟩]) .ret)))
theorem is_slices_EqualFuncapi_Op_api_Op_api_Op_api_Op : FnIs Tryz.prog 20 32 c_slices_EqualFuncapi_Op_api_Op_api_Op_api_Op [.t 6] := ⟨Tryz.f20, _, Tryz.func20, rfl, rfl, by kernel_rfl, by kernel_rfl⟩

def c_audit_SameTrace_1 : CC := .seq (.reg [⟨some 3, .box 2 (.t 0), none⟩, ⟨some 4, .box 2 (.t 1), none⟩, ⟨some 5, .mov (.c (.bool false)), none⟩]) (.seq (.reg [⟨some 6, .faddr 0 (.t 3), none⟩, ⟨some 7, .load 1 false (.t 6), none⟩, ⟨some 8, .faddr 0 (.t 4), none⟩, ⟨some 9, .load 1 false (.t 8), none⟩, ⟨some 10, .bin .eql (.t 7) (.t 9), none⟩, ⟨some 11, .mov (.t 10), none⟩, ⟨some 12, .faddr 1 (.t 3), some (11, true)⟩, ⟨some 13, .load 1 false (.t 12), some (11, true)⟩, ⟨some 14, .len (.t 13), some (11, true)⟩, ⟨some 15, .faddr 1 (.t 4), some (11, true)⟩, ⟨some 16, .load 1 false (.t 15), some (11, true)⟩, ⟨some 17, .len (.t 16), some (11, true)⟩, ⟨some 18, .bin .eql (.t 14) (.t 17), some (11, true)⟩, ⟨some 19, .pick (.t 11) (.t 18) (.c (.bool false)), none⟩, ⟨some 20, .mov (.t 19), none⟩, ⟨some 21, .load 1 false (.t 2), some (20, true)⟩, ⟨some 22, .not (.t 21), some (20, true)⟩, ⟨some 23, .mov (.t 22), some (20, true)⟩, ⟨some 24, .faddr 1 (.t 3), some (23, false)⟩, ⟨some 25, .load 1 false (.t 24), some (23, false)⟩, ⟨some 26, .faddr 1 (.t 4), some (23, false)⟩, ⟨some 27, .load 1 false (.t 26), some (23, false)⟩, ⟨some 28, .call 22 [.t 25, .t 27], some (23, false)⟩, ⟨some 29, .pick (.t 23) (.c (.bool true)) (.t 28), some (20, true)⟩, ⟨some 30, .pick (.t 20) (.t 29) (.c (.bool false)), none⟩, ⟨some 5, .mov (.t 30), none⟩]) .ret)
theorem is_audit_SameTrace_1 : FnIs Tryz.prog 21 31 c_audit_SameTrace_1 [.t 5] := ⟨Tryz.f21, _, Tryz.func21, rfl, rfl, by kernel_rfl, by kernel_rfl⟩

def c_audit_Fresh : CC := .seq (.reg [⟨some 2, .mov (.c (.bool false)), none⟩]) (.seq (.reg [⟨some 3, .mov (.t 0), none⟩, ⟨some 4, .eqv .p false (.t 3) (.c .nilp), none⟩, ⟨some 5, .mov (.t 4), none⟩, ⟨some 6, .mov (.t 0), some (5, false)⟩, ⟨some 7, .nilck (.t 6), some (5, false)⟩, ⟨some 8, .faddr 6 (.t 7), some (5, false)⟩, ⟨some 9, .load 1 false (.t 8), some (5, false)⟩, ⟨some 10, .call 36 [.t 9], some (5, false)⟩, ⟨some 11, .not (.t 10), some (5, false)⟩, ⟨some 12, .pick (.t 5) (.c (.bool true)) (.t 11), none⟩, ⟨some 2, .mov (.t 12), none⟩]) .ret)
theorem is_audit_Fresh : FnIs Tryz.prog 23 13 c_audit_Fresh [.t 2] := ⟨Tryz.f23, _, Tryz.func23, rfl, rfl, by kernel_rfl, by kernel_rfl⟩

def c_audit_Sound : CC := .seq (.reg [⟨some 2, .mov (.c (.bool false)), none⟩]) (.seq (.reg [⟨some 6, .raw Ex.mkmap, none⟩, ⟨some 3, .mov (.t 6), none⟩]) (.seq (.seq (.reg [⟨some 7, .mov (.t 0), none⟩, ⟨some 8, .call 37 [.t 7], none⟩, ⟨some 9, .len (.t 8), none⟩, ⟨some 10, .mov (.c (.int .i64 0)), none⟩]) (.block 0 (.loop (.seq (.reg [⟨some 11, .bin .lss (.t 10) (.t 9), none⟩]) (.seq (.cond (.t 11) .skip (.exit 0)) (.seq (.block 1 (.seq (.reg [⟨some 12, .mov (.t 10), none⟩, ⟨some 13, .iaddr 8 (.t 8) (.t 10), none⟩, ⟨some 14, .load 8 true (.t 13), none⟩, ⟨some 5, .alloc [.int .i64 0, .bool false, .int .i64 0, .int .u32 0, .int .u32 0, .int .u64 0, .int .u64 0, .int .u64 0], none⟩, ⟨some 4, .mov (.t 12), none⟩, ⟨none, .store 8 (.t 5) (.t 14), none⟩]) (.seq (.seq (.reg [⟨some 15, .load 8 true (.t 5), none⟩, ⟨some 16, .mov (.t 4), none⟩, ⟨some 17, .call 38 [.t 15, .t 16], none⟩, ⟨some 18, .not (.t 17), none⟩, ⟨some 19, .mov (.t 18), none⟩, ⟨some 20, .faddr 0 (.t 5), some (19, false)⟩, ⟨some 21, .load 1 false (.t 20), some (19, false)⟩, ⟨some 22, .bin .neq (.t 21) (.c (.int .i64 0)), some (19, false)⟩, ⟨some 23, .mov (.t 22), some (19, false)⟩, ⟨some 24, .mov (.t 3), some (23, true)⟩, ⟨some 25, .faddr 2 (.t 5), some (23, true)⟩, ⟨some 26, .load 1 false (.t 25), some (23, true)⟩, ⟨some 27, .raw (Ex.look MK.i (.bool false) false (.t 24) (.t 26)), some (23, true)⟩, ⟨some 28, .pick (.t 23) (.t 27) (.c (.bool false)), some (19, false)⟩, ⟨some 29, .pick (.t 19) (.c (.bool true)) (.t 28), none⟩]) (.cond (.t 29) (.seq (.reg [⟨some 2, .mov (.c (.bool false)), none⟩]) .ret) .skip)) (.reg [⟨some 30, .mov (.t 3), none⟩, ⟨some 31, .faddr 2 (.t 5), none⟩, ⟨some 32, .load 1 false (.t 31), none⟩, ⟨some 33, .mov (.t 3), none⟩, ⟨some 34, .faddr 2 (.t 5), none⟩, ⟨some 35, .load 1 false (.t 34), none⟩, ⟨some 36, .raw (Ex.look MK.i (.bool false) false (.t 33) (.t 35)), none⟩, ⟨some 37, .mov (.t 36), none⟩, ⟨some 38, .faddr 0 (.t 5), some (37, false)⟩, ⟨some 39, .load 1 false (.t 38), some (37, false)⟩, ⟨some 40, .bin .neq (.t 39) (.c (.int .i64 0)), some (37, false)⟩, ⟨some 41, .pick (.t 37) (.c (.bool true)) (.t 40), none⟩, ⟨none, .raw (Ex.mput MK.i (.t 30) (.t 32) (.t 41)), none⟩])))) (.reg [⟨some 42, .bin .add (.t 10) (.c (.int .i64 1)), none⟩, ⟨some 10, .mov (.t 42), none⟩]))))))) (.seq (.reg [⟨some 2, .mov (.c (.bool true)), none⟩]) .ret)))
theorem is_audit_Sound : FnIs Tryz.prog 24 43 c_audit_Sound [.t 2] := ⟨Tryz.f24, _, Tryz.func24, rfl, rfl, by kernel_rfl, by kernel_rfl⟩

def c_cache_Open : CC := .seq (.reg [⟨some 2, .mov (.c .nilp), none⟩, ⟨some 3, .mov (.c (.int .i64 0)), none⟩]) (.seq (.block 0 (.seq (.reg [⟨some 12, .mov (.t 0), none⟩, ⟨some 13, .eqv .p false (.t 12) (.c .nilp), none⟩, ⟨some 11, .mov (.t 13), none⟩]) (.cond (.t 11) (.seq (.reg [⟨some 2, .mov (.c .nilp), none⟩, ⟨some 3, .mov (.c (.int .i64 1)), none⟩]) .ret) (.seq (.reg [⟨some 15, .mov (.t 0), none⟩, ⟨some 16, .nilck (.t 15), none⟩, ⟨some 17, .faddr 1 (.t 16), none⟩, ⟨some 18, .load 1 false (.t 17), none⟩, ⟨some 19, .call 48 [.t 18], none⟩, ⟨some 20, .not (.t 19), none⟩, ⟨some 21, .mov (.t 20), none⟩, ⟨some 22, .mov (.t 0), some (21, false)⟩, ⟨some 23, .nilck (.t 22), some (21, false)⟩, ⟨some 24, .faddr 4 (.t 23), some (21, false)⟩, ⟨some 25, .load 1 false (.t 24), some (21, false)⟩, ⟨some 26, .call 49 [.t 25], some (21, false)⟩, ⟨some 27, .not (.t 26), some (21, false)⟩, ⟨some 28, .pick (.t 21) (.c (.bool true)) (.t 27), none⟩, ⟨some 14, .mov (.t 28), none⟩]) (.cond (.t 14) (.seq (.reg [⟨some 2, .mov (.c .nilp), none⟩, ⟨some 3, .mov (.c (.int .i64 7)), none⟩]) .ret) .skip))))) (.seq (.reg [⟨some 30, .mov (.t 0), none⟩, ⟨some 31, .call 50 [.t 30], none⟩, ⟨some 29, .mov (.t 31), none⟩, ⟨some 32, .ext 0 (.t 29), none⟩, ⟨some 33, .ext 1 (.t 29), none⟩, ⟨some 4, .mov (.t 32), none⟩, ⟨some 5, .mov (.t 33), none⟩]) (.seq (.seq (.reg [⟨some 34, .mov (.t 5), none⟩, ⟨some 35, .bin .neq (.t 34) (.c (.int .i64 0)), none⟩]) (.cond (.t 35) (.seq (.reg [⟨some 36, .mov (.t 5), none⟩, ⟨some 2, .mov (.c .nilp), none⟩, ⟨some 3, .mov (.t 36), none⟩]) .ret) .skip)) (.seq (.reg [⟨some 38, .mov (.t 0), none⟩, ⟨some 39, .nilck (.t 38), none⟩, ⟨some 40, .faddr 4 (.t 39), none⟩, ⟨some 41, .load 1 false (.t 40), none⟩, ⟨some 42, .call 52 [.t 41], none⟩, ⟨some 43, .call 51 [.t 42], none⟩, ⟨some 37, .mov (.t 43), none⟩, ⟨some 44, .ext 0 (.t 37), none⟩, ⟨some 45, .ext 1 (.t 37), none⟩, ⟨some 6, .mov (.t 44), none⟩, ⟨some 5, .mov (.t 45), none⟩]) (.seq (.seq (.reg [⟨some 46, .mov (.t 5), none⟩, ⟨some 47, .bin .neq (.t 46) (.c (.int .i64 0)), none⟩]) (.cond (.t 47) (.seq (.reg [⟨some 48, .mov (.t 5), none⟩, ⟨some 2, .mov (.c .nilp), none⟩, ⟨some 3, .mov (.t 48), none⟩]) .ret) .skip)) (.seq (.reg [⟨some 49, .mov (.t 0), none⟩, ⟨some 50, .mov (.t 6), none⟩, ⟨some 51, .mov (.t 4), none⟩, ⟨some 52, .mov (.t 4), none⟩, ⟨some 53, .call 53 [.t 52], none⟩, ⟨some 54, .call 54 [], none⟩, ⟨some 55, .build [.nilp, .nilp, .nils, .nils, .nilp, .bool false] [(0, 1, .t 49), (1, 1, .t 50), (2, 1, .t 51), (3, 1, .t 53), (4, 1, .t 54)], none⟩, ⟨some 56, .box 6 (.t 55), none⟩, ⟨some 7, .mov (.t 56), none⟩]) (.seq (.seq (.reg [⟨some 57, .mov (.t 4), none⟩, ⟨some 58, .len (.t 57), none⟩, ⟨some 59, .mov (.c (.int .i64 0)), none⟩]) (.block 1 (.loop (.seq (.reg [⟨some 60, .bin .lss (.t 59) (.t 58), none⟩]) (.seq (.cond (.t 60) .skip (.exit 1)) (.seq (.block 2 (.seq (.reg [⟨some 61, .mov (.t 59), none⟩, ⟨some 62, .iaddr 8 (.t 57) (.t 59), none⟩, ⟨some 63, .load 8 true (.t 62), none⟩, ⟨some 9, .alloc [.int .i64 0, .bool false, .int .i64 0, .int .u32 0, .int .u32 0, .int .u64 0, .int .u64 0, .int .u64 0], none⟩, ⟨some 8, .mov (.t 61), none⟩, ⟨none, .store 8 (.t 9) (.t 63), none⟩]) (.seq (.reg [⟨some 64, .faddr 0 (.t 9), none⟩, ⟨some 65, .load 1 false (.t 64), none⟩, ⟨some 66, .bin .neq (.t 65) (.c (.int .i64 0)), none⟩]) (.cond (.t 66) (.reg [⟨some 67, .mov (.t 7), none⟩, ⟨some 68, .nilck (.t 67), none⟩, ⟨some 69, .faddr 4 (.t 68), none⟩, ⟨some 70, .load 1 false (.t 69), none⟩, ⟨some 71, .mov (.t 8), none⟩, ⟨some 72, .call 55 [.t 70, .t 71], none⟩]) .skip)))) (.reg [⟨some 73, .bin .add (.t 59) (.c (.int .i64 1)), none⟩, ⟨some 59, .mov (.t 73), none⟩]))))))) (.seq (.seq (.reg [⟨some 74, .mov (.t 7), none⟩, ⟨some 75, .call 56 [.t 74], none⟩, ⟨some 10, .mov (.t 75), none⟩]) (.seq (.reg [⟨some 76, .mov (.t 10), none⟩, ⟨some 77, .bin .neq (.t 76) (.c (.int .i64 0)), none⟩]) (.cond (.t 77) (.seq (.reg [⟨some 78, .mov (.t 10), none⟩, ⟨some 2, .mov (.c .nilp), none⟩, ⟨some 3, .mov (.t 78), none⟩]) .ret) .skip))) (.seq (.reg [⟨some 79, .mov (.t 7), none⟩, ⟨some 2, .mov (.t 79), none⟩, ⟨some 3, .mov (.c (.int .i64 0)), none⟩]) .ret)))))))))
theorem is_cache_Open : FnIs Tryz.prog 26 80 c_cache_Open [.t 2, .t 3] := ⟨Tryz.f26, _, Tryz.func26, rfl, rfl, by kernel_rfl, by kernel_rfl⟩

def c_cache_Cache_Leaves : CC := .seq (.reg [⟨some 2, .mov (.c .nils), none⟩]) (.seq (.seq (.reg [⟨some 3, .mov (.t 0), none⟩, ⟨some 4, .eqv .p false (.t 3) (.c .nilp), none⟩]) (.cond (.t 4) (.seq (.reg [⟨some 2, .mov (.c .nils), none⟩]) .ret) .skip)) (.seq (.reg [⟨some 5, .mov (.t 0), none⟩, ⟨some 6, .nilck (.t 5), none⟩, ⟨some 7, .faddr 2 (.t 6), none⟩, ⟨some 8, .load 1 false (.t 7), none⟩, ⟨some 9, .call 53 [.t 8], none⟩, ⟨some 2, .mov (.t 9), none⟩]) .ret))
theorem is_cache_Cache_Leaves : FnIs Tryz.prog 37 10 c_cache_Cache_Leaves [.t 2] := ⟨Tryz.f37, _, Tryz.func37, rfl, rfl, by kernel_rfl, by kernel_rfl⟩

def c_slices_Cloneapi_Leaf_api_Leaf : CC := .seq (.reg [⟨some 2, .mov (.c .nils), none⟩]) (.seq (.seq (.reg [⟨some 3, .mov (.t 0), none⟩, ⟨some 4, .isnil false (.t 3), none⟩]) (.cond (.t 4) (.seq (.reg [⟨some 2, .mov (.c .nils), none⟩]) .ret) .skip)) (.seq (.reg [⟨some 5, .bsl0, none⟩, ⟨some 6, .mov (.t 0), none⟩, ⟨some 7, .app 8 56 (.t 5) (.t 6), none⟩, ⟨some 2, .mov (.t 7), none⟩]) .ret))
theorem is_slices_Cloneapi_Leaf_api_Leaf : FnIs Tryz.prog 53 8 c_slices_Cloneapi_Leaf_api_Leaf [.t 2] := ⟨Tryz.f53, _, Tryz.func53, rfl, rfl, by kernel_rfl, by kernel_rfl⟩

def c_age_New : CC := .seq (.reg [⟨some 0, .mov (.c .nilp), none⟩]) (.seq (.reg [⟨some 2, .build [.int .i64 0, .int .i64 0, .int .i64 0, .int .i64 0, .int .i64 0, .int .i64 0, .int .i64 0, .int .i64 0, .int .i64 0, .int .i64 0, .int .i64 0, .int .i64 0, .int .i64 0, .int .i64 0, .int .i64 0, .int .i64 0, .int .i64 0, .nilp] [], none⟩, ⟨some 3, .box 18 (.t 2), none⟩, ⟨some 1, .mov (.t 3), none⟩]) (.seq (.reg [⟨some 4, .mov (.t 1), none⟩, ⟨some 5, .mov (.t 1), none⟩, ⟨some 6, .mkf (.func 81) [.t 5] [], none⟩, ⟨some 7, .build [.nils, .nilf] [(1, 1, .t 6)], none⟩, ⟨some 8, .box 2 (.t 7), none⟩, ⟨some 9, .nilck (.t 4), none⟩, ⟨some 10, .faddr 17 (.t 9), none⟩, ⟨none, .store 1 (.t 10) (.t 8), none⟩]) (.seq (.reg [⟨some 11, .mov (.t 1), none⟩, ⟨some 0, .mov (.t 11), none⟩]) .ret)))
theorem is_age_New : FnIs Tryz.prog 54 12 c_age_New [.t 0] := ⟨Tryz.f54, _, Tryz.func54, rfl, rfl, by kernel_rfl, by kernel_rfl⟩

def c_cache_Cache_finish : CC := .seq (.reg [⟨some 2, .mov (.c (.int .i64 0)), none⟩]) (.seq (.seq (.reg [⟨some 4, .mov (.t 0), none⟩, ⟨some 5, .nilck (.t 4), none⟩, ⟨some 6, .faddr 0 (.t 5), none⟩, ⟨some 7, .load 1 false (.t 6), none⟩, ⟨some 8, .nilck (.t 7), none⟩, ⟨some 9, .faddr 5 (.t 8), none⟩, ⟨some 10, .load 1 false (.t 9), none⟩, ⟨some 11, .call 64 [.t 10], none⟩, ⟨some 12, .len (.t 11), none⟩, ⟨some 13, .bin .lss (.t 12) (.c (.int .i64 2)), none⟩]) (.cond (.t 13) (.seq (.reg [⟨some 2, .mov (.c (.int .i64 0)), none⟩]) .ret) .skip)) (.seq (.seq (.reg [⟨some 14, .mov (.t 0), none⟩, ⟨some 15, .call 84 [.t 14], none⟩, ⟨some 3, .mov (.t 15), none⟩]) (.seq (.reg [⟨some 16, .mov (.t 3), none⟩, ⟨some 17, .bin .neq (.t 16) (.c (.int .i64 0)), none⟩]) (.cond (.t 17) (.seq (.reg [⟨some 18, .mov (.t 3), none⟩, ⟨some 2, .mov (.t 18), none⟩]) .ret) .skip))) (.seq (.reg [⟨some 19, .mov (.t 0), none⟩, ⟨some 20, .call 85 [.t 19], none⟩, ⟨some 2, .mov (.t 20), none⟩]) .ret)))
theorem is_cache_Cache_finish : FnIs Tryz.prog 56 21 c_cache_Cache_finish [.t 2] := ⟨Tryz.f56, _, Tryz.func56, rfl, rfl, by kernel_rfl, by kernel_rfl⟩

end Go.Proofs.YtafkhpjnihnfpaaGreat


namespace Go.Abs
open Go
section
variable {P : Program} {N : Nat} {e : Env} {h : AHeap} {m : Inj} {w : World} {nm : Nat}
theorem cx_clr {o : Oper} {sz : Nat} {zs : List AV} {x : Opd} (hc : compileX P N o = some (.clr sz zs x)) : ∃ c xo t el i z, o.op = .call c ∧ c.callee = .builtin .clear ∧ c.args.toList = [xo] ∧ c.argTypes[0]? = some t ∧ P.underlying t = some (.slice el) ∧ ofOpd N xo = some x ∧ P.info? el = some i ∧ i.zero = some z ∧ ofL ofV z.cells.toList = some zs ∧ sz = i.size := by
  obtain ⟨c, hop⟩ := cx_call hc trivial
  simp only [compileX, hop] at hc
  split at hc
  case h_4 hcal =>
    repeat' split at hc
    all_goals first
      | (cases hc; exact ⟨_, _, _, _, _, _, hop, hcal, ‹_›, ‹_›, ‹_›, ‹_›, ‹_›, ‹_›, ‹_›, rfl⟩)
      | (cases hc; done)
  all_goals
    (repeat' split at hc
     all_goals (cases hc; done))
theorem XOK.clr {sz : Nat} {zs : List AV} {x : Opd} {id off n : Nat} {c : List (List AV)} (hx : ev e x = some (.ref id off n)) (hg : h.get id = some (.mem sz c)) (hz : zs.length = sz) (h0 : 0 < sz) : XOK P N (.clr sz zs x) e h (some (.tup [])) (.set id (.mem sz (c.take off ++ List.replicate n zs ++ c.drop (off + n)))) := by
  intro o hc e2 hs m w act hr he
  obtain ⟨cl, xo, t, el, i, z, hop, hcal, ha, hat, hu, h1, hinf, hzz, hzs, rfl⟩ := cx_clr hc
  have hx2 : ev e2 x = some (.ref id off n) := (ev_congr fun s h => hs s (by simp [xslots, h])).trans hx
  have ha' : cl.args = #[xo] := by rw [← Array.toArray_toList (xs := cl.args), ha]
  have e1 := he.eval h1 hx2
  generalize hcx : act.eval xo = cx at e1
  obtain ⟨q1, q2, q3⟩ := ofL_ofV (m := m) (h := h) (w := w) hzs
  have hsz : z.cells.size = i.size := by rw [← hz]; simpa using q1.symm
  cases e1 with
  | ref _ _ _ cap a hu' hcp hra =>
    obtain ⟨b, hmb, hle, had, cc, T, hcc, hsz2⟩ := hra _ _ hg
    obtain ⟨b', cc', T', p1, p2, p3, p4⟩ := hr.obj _ _ hg
    rw [hmb] at p1; cases p1
    rw [p2] at hcc; cases hcc
    have hcl : (c.take off ++ List.replicate n zs ++ c.drop (off + n)).length = c.length := by simp; omega
    rcases Nat.eq_zero_or_pos n with hn0 | hn0
    · subst hn0
      have hcc2 : c.take off ++ List.replicate 0 zs ++ c.drop (off + 0) = c := by simp
      rw [hcc2]
      refine ⟨m, w, by show HR m (h.set id _) w; rw [set_same hg]; exact hr, by show Step m h w m (h.set id _) w; rw [set_same hg]; exact Step.refl _ _ _, .tuple #[], ?_, .tup _ _ rfl (by simp)⟩
      simp [execOp, hop, resolve, hcal, ha', invoke, builtin, Builtin.clear_, hat, hcx, run_underlying hu]
    · rcases had with h00 | rfl
      · omega
      · have hmul : (off + n) * i.size ≤ c.length * i.size := Nat.mul_le_mul_right _ hle
        rw [Nat.add_mul] at hmul
        have hzl : (Builtin.zeroCells z.cells n).toList.length = n * i.size := by rw [Array.length_toList, size_zeroCells, hsz]
        have hone : ∀ u ∈ (Builtin.zeroCells z.cells n).toList, u.oneCell' = true := by
          intro u hu2
          obtain ⟨k, hk, rfl⟩ := List.mem_iff_getElem.1 hu2
          rw [hzl] at hk
          have hg2 := zeroCells_get (z := z.cells) (n := n) (k := k) (by rw [hsz]; exact hk)
          have hg3 : (Builtin.zeroCells z.cells n)[k]? = some (Builtin.zeroCells z.cells n).toList[k] := by rw [← Array.getElem?_toList, List.getElem?_eq_getElem]
          rw [hg3] at hg2
          have hm2 : k % z.cells.size < z.cells.size := Nat.mod_lt _ (by omega)
          have hlt : k % z.cells.size < zs.length := by omega
          have := q3 (k % z.cells.size) _ (List.getElem?_eq_getElem hlt)
          have hv2 : z.cells.toList.getD (k % z.cells.size) undef = z.cells.getD (k % z.cells.size) undef := by simp [Array.getD_eq_getD_getElem?, List.getD_eq_getElem?_getD]
          rw [Option.some.inj hg2, ← hv2]
          exact this.scalar_one (q2 _ (List.getElem_mem hlt))
        have hst := run_storeCells_at P b (off * i.size) T (Builtin.zeroCells z.cells n).toList 0 cc w p2 (by rw [hzl]; omega) hone
        simp only [Nat.add_zero] at hst
        generalize hnew : (cc.toList.take (off * i.size) ++ (Builtin.zeroCells z.cells n).toList ++ cc.toList.drop (off * i.size + (Builtin.zeroCells z.cells n).toList.length)).toArray = c2 at hst
        have hsz' : c2.size = cc.size := by rw [← hnew]; simp only [List.size_toArray, List.length_append, List.length_take, List.length_drop, hzl, Array.length_toList]; omega
        have hget : ∀ k, c2.getD k undef = if off * i.size ≤ k ∧ k < off * i.size + n * i.size then (Builtin.zeroCells z.cells n).toList.getD (k - off * i.size) undef else cc.getD k undef := by
          intro k
          rw [← hnew, getD_splice cc _ _ (by rw [hzl]; omega), hzl]
        have hrow : RowF m h w i.size (c.take off ++ List.replicate n zs ++ c.drop (off + n)) (fun k => c2.getD k undef) := by
          have r1 := p4.take off
          have r2 : RowF m h w i.size (List.replicate n zs) (fun k => c2.getD (off * i.size + k) undef) := rowF_zero hzs hsz h0 fun k hk => by
            rw [hget, if_pos ⟨by omega, by omega⟩, Nat.add_sub_cancel_left]
            have hg2 := zeroCells_get (z := z.cells) (n := n) (k := k) (by rw [hsz]; exact hk)
            rw [List.getD_eq_getElem?_getD, Array.getElem?_toList, hg2, hsz]; rfl
          have r3 := p4.drop (off + n)
          have r12 := RowF.append r1 r2
          have hl1 : (c.take off).length = off := by simp; omega
          have hl12 : (c.take off ++ List.replicate n zs).length = off + n := by simp; omega
          refine (RowF.append r12 r3).congr fun k hk => ?_
          rw [hl12, hl1, Nat.add_mul]
          rw [hcl] at hk
          by_cases k1 : k < off * i.size + n * i.size
          · rw [if_pos k1]
            by_cases k2 : k < off * i.size
            · rw [if_pos k2, hget, if_neg (by omega)]
            · rw [if_neg k2, show off * i.size + (k - off * i.size) = k by omega]
          · rw [if_neg k1, hget, if_neg (by omega)]
            congr 1; omega
        obtain ⟨r1, r2⟩ := write_row hr hg hmb p2 hsz' hcl p3 hrow
        refine ⟨_, _, r1, r2, .tuple #[], ?_, .tup _ _ rfl (by simp)⟩
        obtain ⟨n', rfl⟩ : ∃ n', n = n' + 1 := ⟨n - 1, by omega⟩
        simp [execOp, hop, resolve, hcal, ha', invoke, builtin, Builtin.clear_, hat, hcx, run_underlying hu, zeroValue, run_typeInfo' hinf, hzz, hst]
end
end Go.Abs


namespace Go.Abs
open Go
section
variable {P : Program} {N : Nat} {e : Env} {h : AHeap} {m : Inj} {w : World} {nm : Nat}
theorem cx_mkif {o : Oper} {t : Nat} {x : Opd} (hc : compileX P N o = some (.mkif t x)) : ∃ xo u, o.op = .makeInterface t xo ∧ P.underlying t = some u ∧ (∀ ms, u ≠ .interface ms) ∧ ofOpd N xo = some x := by
  cases hop : o.op <;> simp only [compileX, hop] at hc <;> try (cases hc; done)
  case makeInterface t2 xo =>
    split at hc
    · cases hc
    · rename_i u hn hu hx
      cases hc
      exact ⟨_, _, rfl, ‹_›, fun ms e => by subst e; exact hn _ rfl, ‹_›⟩
    · cases hc
  all_goals
    (repeat' split at hc
     all_goals first
       | (cases hc; done)
       | (rw [Option.map_eq_some_iff] at hc; obtain ⟨_, _, h⟩ := hc; cases h; done)
       | contradiction)
theorem XOK.mkif {t : Nat} {x : Opd} {v : AV} (hx : ev e x = some v) : XOK P N (.mkif t x) e h (some (.iface t v)) .none := by
  intro o hc e2 hs m w a hr he
  obtain ⟨xo, u, hop, hu, hn, h1⟩ := cx_mkif hc
  have hx2 : ev e2 x = some v := (ev_congr fun s h => hs s (by simp [xslots, h])).trans hx
  have e1 := he.eval h1 hx2
  refine OpOK.pure hr (cv := .iface t (a.eval xo)) ?_ (.iface _ _ _ e1)
  simp only [execOp, hop, Instr.makeInterface, Sem.run_bind, run_underlying hu, Result.andThen_ok]
  cases u <;> first | rfl | exact absurd rfl (hn _)
theorem cx_asrt {o : Oper} {t : Nat} {ok : Bool} {z : AV} {x : Opd} (hc : compileX P N o = some (.asrt t ok z x)) : ∃ xo xt k, o.op = .typeAssert xo xt t ok ∧ P.underlying t = some (.int k) ∧ ofOpd N xo = some x := by
  cases hop : o.op <;> simp only [compileX, hop] at hc <;> try (cases hc; done)
  case typeAssert xo xt t2 ok2 =>
    repeat' split at hc
    all_goals first
      | (cases hc; exact ⟨_, _, _, rfl, ‹_›, ‹_›⟩)
      | (cases hc; done)
  all_goals
    (repeat' split at hc
     all_goals first
       | (cases hc; done)
       | (rw [Option.map_eq_some_iff] at hc; obtain ⟨_, _, h⟩ := hc; cases h; done)
       | contradiction)
theorem XOK.asrt {t : Nat} {z : AV} {x : Opd} {v : AV} (hx : ev e x = some (.iface t v)) : XOK P N (.asrt t true z x) e h (some (.tup [v, .bool true])) .none := by
  intro o hc e2 hs m w a hr he
  obtain ⟨xo, xt, k, hop, hu, h1⟩ := cx_asrt hc
  have hx2 : ev e2 x = some (.iface t v) := (ev_congr fun s h => hs s (by simp [xslots, h])).trans hx
  have e1 := he.eval h1 hx2
  generalize hcx : a.eval xo = cx at e1
  cases e1 with
  | iface _ _ c q =>
    refine OpOK.pure hr (cv := .tuple #[c, .bool true]) ?_ (.tup _ _ rfl fun i v hi => ?_)
    · simp [execOp, hop, Instr.typeAssert, Sem.run_bind, run_underlying hu, hcx]
    · rcases i with _ | _ | i
      · cases hi; exact q
      · cases hi; exact .bool _
      · simp at hi
/-- The method of a dynamic type, by its name: a pointer's own. -/
def methF (P : Program) (t : Nat) (nm : String) : Option Nat :=
  match P.info? t, P.underlying t with
  | some i, some (.pointer _) => match i.methods.find? (·.name == nm) with
    | some m => if m.path.toList.isEmpty then match m.func with
      | some (f, true) => some f
      | _ => none
      else none
    | none => none
  | _, _ => none
theorem run_method {t f : Nat} {s : String} (hm : methF P t s = some f) (fuel : Nat) (v : Value) (w : World) : (method (fuel + 1) t v s).run P w = .ok (f, v) w := by
  unfold methF at hm
  split at hm
  · rename_i i q hi hu
    split at hm
    · rename_i mt hmt
      split at hm
      · rename_i hp
        split at hm
        · rename_i g hg
          cases hm
          have hp2 : mt.path.toList = [] := by simpa using hp
          simp [method, run_typeInfo' hi, hmt, hp2, follow, hg, receiverAt, run_underlying hu, Place.get]
        · cases hm
      · cases hm
    · cases hm
  · cases hm
theorem cx_inv {o : Oper} {s : String} {x : Opd} {xs : List Opd} (hc : compileX P N o = some (.inv s x xs)) : ∃ c xo, o.op = .call c ∧ c.callee = .invoke xo s ∧ ofOpd N xo = some x ∧ ofL (ofOpd N) c.args.toList = some xs := by
  obtain ⟨c, hop⟩ := cx_call hc trivial
  simp only [compileX, hop] at hc
  repeat' split at hc
  all_goals first
    | (cases hc; exact ⟨_, _, hop, ‹_›, ‹_›, ‹_›⟩)
    | (cases hc; done)
/-- A call of an interface value's method. -/
theorem FX.inv {h' : AHeap} {d : Option Nat} {f t : Nat} {s : String} {x : Opd} {xs : List Opd} {g : Option (Nat × Bool)} {v : AV} {vs : List AV} {r : AV} (hx : ev e x = some (.iface t v)) (hv : evL e xs = some vs) (hg : met e g) (hm : methF P t s = some f) (hb : bodied P f = true) (hac : AE P f (v :: vs) h r h') : FX P N ⟨d, .raw (.inv s x xs), g⟩ e h (some r) h' := by
  intro ops i o ho hc e2 hs m w a K Q hr he hk
  have hraw := compI_raw hc rfl
  rcases compI_ok hc with ⟨hb1, hb2⟩ | ⟨hd, hdst, _, hgd⟩
  · cases hb1
  · obtain ⟨w1, w2⟩ := wanted_of he hgd
    have hi : ∀ s2 ∈ xslots (.inv s x xs), lk s2 e2 = lk s2 e := fun s2 h => hs s2 (by unfold cslots; split <;> simp [islots, h])
    have hw : Region.wanted o (yielded ops a.tmps) = true := by
      cases g with
      | none => exact w1 rfl
      | some sb =>
        obtain ⟨s2, b⟩ := sb
        have hl : lk s2 e2 = some (.bool b) := (hs s2 (by simp [cslots])).trans hg
        rw [w2 s2 b b rfl hl]; simp
    simp only [wpOp, ho]
    rw [if_pos hw]
    left
    obtain ⟨c, y, hop, hcal, hy, hxs⟩ := cx_inv hraw
    have hi1 : ∀ s2 ∈ lslots xs, lk s2 e2 = lk s2 e := fun s2 h => hi s2 (by unfold xslots; simp [h])
    have hi2 : ∀ s2 ∈ oslots x, lk s2 e2 = lk s2 e := fun s2 h => hi s2 (by unfold xslots; simp [h])
    obtain ⟨hl1, hl2⟩ := he.evalL hxs ((evL_congr hi1).trans hv)
    have hfv := he.eval hy ((ev_congr hi2).trans hx)
    generalize hcx : a.eval y = cx at hfv
    cases hfv with
    | iface _ _ cv q =>
      have hx1 : ∀ (u : Value) (X : Array Value), (#[u] ++ X)[0]? = some u := fun u X => by rw [Array.getElem?_append_left (by simp)]; rfl
      have hx2 : ∀ (u : Value) (X : Array Value), (#[u] ++ X).extract 1 (#[u] ++ X).size = X := fun u X => by
        apply Array.ext'
        simp
      have hx3 : P.types.size + Made.depth = (P.types.size + 99) + 1 := rfl
      have hrun : (execOp a.eval o).run P w = .ok (.enter f (#[cv] ++ c.args.map a.eval)) w := by
        simp only [execOp, hop, resolve, hcal, hcx, Sem.run_bind, Sem.run_pure, Result.andThen_ok, invoke, hx1, hx2, callMethod, run_program, hx3, run_method hm, run_callFunc hb]
      refine call_wp hrun hr (by have : vs.length = c.args.size := by simpa using hl1
                                 simp; omega) (fun j v2 hj => ?_) hac fun v2 w' m' r1 h1 g1 g2 g3 ⟨g4, g5⟩ => ?_
      · simp only [Array.getD_eq_getD_getElem?]
        rcases j with _ | j
        · cases hj
          rw [hx1]
          exact q
        · have := hl2 j v2 (by simpa using hj)
          rw [Array.getElem?_append_right (by simp)]
          simpa [List.getD_eq_getElem?_getD] using this
      · subst g4; subst g5
        refine hk m' w' _ g1 ?_ g3
        have hd' : d = o.dst := hd
        show ER N m' h1 w' (putR d (some r1) e2) _
        rw [hd']
        exact (he.step g3).putR hdst g2
/-- What is live is used. -/
theorem WW.live {c : CC} {Q : Exit → Env → AHeap → Prop} (k : (∀ id x, h.get id = some x → h.used id) → WW P N c Q e h) : WW P N c Q e h := ⟨fun code hc m w a hr he => (k hr.live).out code hc m w a hr he⟩
theorem WL.live {l : List CI} {Q : Exit → Env → AHeap → Prop} (k : (∀ id x, h.get id = some x → h.used id) → WL P N l Q e h) : WL P N l Q e h := ⟨fun ops idx h1 h2 m w a hr he => (k hr.live).out ops idx h1 h2 m w a hr he⟩
end
end Go.Abs


namespace Go.Proofs.YtafkhpjnihnfpaaGreat
open Go Go.Abs

def encSl (n : Nat) : List AV := [.int .i64 n]
/-- Ages: when each was used last, ticks, the queue's slots. -/
structure AgS where
  last : List Int
  ticks : Int
  arr : List Nat
def ag0 : AgS := ⟨List.replicate 16 0, 0, []⟩
def AgS.row (s : AgS) (q : Nat) : List AV := s.last.map (.int .i64 ·) ++ [.int .i64 s.ticks, .ptr q 0 0]
/-- The queue's slots, at E if there are any. -/
def SlV (h : AHeap) (v : AV) (arr : List Nat) (E : Nat) : Prop := (v = .nils ∧ arr = []) ∨ (v = .ref E 0 arr.length ∧ BoxAt h E (.mem 1 (arr.map encSl)))
def agF (a : Nat) : AV := .func (.func 81) [.ptr a 0 0] []
structure AgAt (h : AHeap) (a q E : Nat) (s : AgS) : Prop where
  ob : BoxAt h a (.mem 18 [s.row q])
  qo : ∃ v, SlV h v s.arr E ∧ BoxAt h q (.mem 2 [[v, agF a]])
/-- A row of leaves: at E if it may be written. -/
def RowV (h : AHeap) (v : AV) (lv : List Lf) (E : Nat) : Prop := v = .imm 8 (lv.map encL) ∨ (v = .ref E 0 lv.length ∧ BoxAt h E (.mem 8 (lv.map encL)))
/-- A cache's names. -/
structure CaN where
  w : WN
  c : Nat
  k : Nat
  a : Nat
  q : Nat
  nE : Nat
  sE : Nat
/-- What a cache is: its world, numbers, leaves as they are and as they were, ages; is it poisoned? -/
structure CaS where
  s : WS
  boot : Int
  j : Nat
  now : List Lf
  was : List Lf
  ag : AgS
  bad : Bool
def CaN.own (n : CaN) (id : Nat) : Prop := id = n.c ∨ id = n.k ∨ id = n.a ∨ id = n.q ∨ id = n.nE ∨ id = n.sE
structure CaG (md : Bool) (h : AHeap) (n : CaN) (x : CaS) : Prop where
  w : WG md h n.w x.s
  mr : BoxAt h n.k (mkO x.boot x.j)
  c : ∃ v, RowV h v x.now n.nE ∧ BoxAt h n.c (.mem 6 [[.ptr (n.w.a + 10) 0 0, .ptr n.k 0 0, v, .imm 8 (x.was.map encL), .ptr n.a 0 0, .bool x.bad]])
  ag : AgAt h n.a n.q n.sE x.ag
  nm : ∀ id, n.own id → ¬ n.w.nm md id
  lt : ∀ id, n.own id → id < h.next
  dj : n.c ≠ n.k ∧ n.c ≠ n.a ∧ n.c ≠ n.q ∧ n.k ≠ n.a ∧ n.k ≠ n.q ∧ n.a ≠ n.q ∧ (n.nE = n.c ∨ (n.nE ≠ n.k ∧ n.nE ≠ n.a ∧ n.nE ≠ n.q)) ∧ (n.sE = n.q ∨ (n.sE ≠ n.k ∧ n.sE ≠ n.a ∧ n.sE ≠ n.c)) ∧ n.nE ≠ n.sE
section
variable {W : Nat → Prop} {md : Bool} {h h' : AHeap} {n : CaN} {x : CaS}
theorem SlV.kp {v : AV} {arr : List Nat} {E : Nat} (hs : SlV h v arr E) (hk : Kp W h h') (hw : ¬ W E) : SlV h' v arr E := hs.imp id fun q => ⟨q.1, q.2.kp hk hw⟩
theorem RowV.kp {v : AV} {lv : List Lf} {E : Nat} (hs : RowV h v lv E) (hk : Kp W h h') (hw : ¬ W E) : RowV h' v lv E := hs.imp id fun q => ⟨q.1, q.2.kp hk hw⟩
theorem AgAt.kp {a q E : Nat} {s : AgS} (hs : AgAt h a q E s) (hk : Kp W h h') (h1 : ¬ W a) (h2 : ¬ W q) (h3 : ¬ W E) : AgAt h' a q E s := by
  obtain ⟨h4, v, h5, h6⟩ := hs
  exact ⟨h4.kp hk h1, v, h5.kp hk h3, h6.kp hk h2⟩
theorem CaG.kp (hg : CaG md h n x) (hk : Kp W h h') (h1 : ∀ id, n.w.nm md id → ¬ W id) (h2 : ∀ id, n.own id → ¬ W id) : CaG md h' n x := by
  obtain ⟨g1, g2, ⟨v, g3, g4⟩, g5, g6, g8, g7⟩ := hg
  exact ⟨g1.kp hk h1, g2.kp hk (h2 _ (.inr (.inl rfl))), ⟨v, g3.kp hk (h2 _ (.inr (.inr (.inr (.inr (.inl rfl)))))), g4.kp hk (h2 _ (.inl rfl))⟩, g5.kp hk (h2 _ (.inr (.inr (.inl rfl)))) (h2 _ (.inr (.inr (.inr (.inl rfl))))) (h2 _ (.inr (.inr (.inr (.inr (.inr rfl)))))), g6, fun id hi => Nat.lt_of_lt_of_le (g8 id hi) hk.next, g7⟩
theorem CaG.new (hg : CaG md h n x) (hk : Kp (fun _ => False) h h') : CaG md h' n x := hg.kp hk (fun _ _ h => h) fun _ _ h => h
end
theorem clo_encL {u : Nat → Prop} (x : Lf) : ∀ v ∈ encL x, Clo u v := by
  intro v hv
  simp only [encL, List.mem_cons, List.not_mem_nil, or_false] at hv
  rcases hv with rfl | rfl | rfl | rfl | rfl | rfl | rfl | rfl <;> first | exact .int _ _ | exact .bool _
theorem slices_CloneL_ae (l : List Lf) (hl : l.length ≤ 1000000) (h : AHeap) : AE Tryz.prog 53 [.imm 8 (l.map encL)] h (.imm 8 (l.map encL)) h := by
  refine AE.pureW is_slices_Cloneapi_Leaf_api_Leaf (by simp) ?_
  unfold c_slices_Cloneapi_Leaf_api_Leaf
  (repeat first | refine WW.seq ?_ | refine WW.reg ?_ | refine WL.nil ?_ | refine WW.skip ?_ | refine WW.block ?_ | refine thenN ?_ | refine blkN ?_); iterate 1 (refine WL.go ?_)
  (repeat first | refine WW.seq ?_ | refine WW.reg ?_ | refine WL.nil ?_ | refine WW.skip ?_ | refine WW.block ?_ | refine thenN ?_ | refine blkN ?_); iterate 1 (refine WL.go ?_)
  refine WL.fq1 (FQ.isnil rfl (by first | exact True.intro | exact rfl)) ?_
  rintro _ h2 ⟨b, rfl, e2, hb⟩
  subst e2
  (repeat first | refine WW.seq ?_ | refine WW.reg ?_ | refine WL.nil ?_ | refine WW.skip ?_ | refine WW.block ?_ | refine thenN ?_ | refine blkN ?_)
  (refine WW.ifB rfl (fun hz1 => ?_) (fun hz1 => ?_))
  · have : l = [] := by simpa using hb hz1
    subst this
    (refine go ?_)
    refine WW.ret (PureQ.finD ?_)
    exact .nil _
  (refine go ?_)
  refine WW.ret (PureQ.finD ?_)
  exact .app _ _ _ _ fun y hy v hv => by
    obtain ⟨z, _, rfl⟩ := List.mem_map.1 hy
    exact clo_encL z v hv
theorem slices_CloneLR_ae {h : AHeap} {E : Nat} {l : List Lf} (hE : h.get E = some (.mem 8 (l.map encL))) (hl : l.length ≤ 1000000) : AE Tryz.prog 53 [.ref E 0 l.length] h (.imm 8 (l.map encL)) h := by
  refine AE.wf fun hwf => ?_
  have h0 := hwf _ _ hE
  refine AE.pureW is_slices_Cloneapi_Leaf_api_Leaf (by simp) ?_
  unfold c_slices_Cloneapi_Leaf_api_Leaf
  (repeat first | refine WW.seq ?_ | refine WW.reg ?_ | refine WL.nil ?_ | refine WW.skip ?_ | refine WW.block ?_ | refine thenN ?_ | refine blkN ?_); iterate 1 (refine WL.go ?_)
  (repeat first | refine WW.seq ?_ | refine WW.reg ?_ | refine WL.nil ?_ | refine WW.skip ?_ | refine WW.block ?_ | refine thenN ?_ | refine blkN ?_); iterate 1 (refine WL.go ?_)
  refine WL.go (hs := Stp.isnil (t := false) rfl rfl (by first | exact True.intro | exact rfl)) ?_
  (repeat first | refine WW.seq ?_ | refine WW.reg ?_ | refine WL.nil ?_ | refine WW.skip ?_ | refine WW.block ?_ | refine thenN ?_ | refine blkN ?_)
  refine WW.condF rfl ?_
  (refine go ?_)
  refine WW.ret (PureQ.finD ?_)
  rw [List.drop_zero, List.take_of_length_le (by simp)]
  exact .app _ _ _ _ fun y hy v hv => by
    obtain ⟨z, _, rfl⟩ := List.mem_map.1 hy
    exact clo_encL z v hv
theorem age_New_ac (h : AHeap) : AC Tryz.prog 54 [] h (fun r h' => ∃ a q, r = .ptr a 0 0 ∧ AgAt h' a q q ag0 ∧ a ≠ q ∧ h.next ≤ a ∧ h.next ≤ q ∧ Kp (fun _ => False) h h') := by
  refine AC.introW is_age_New (by simp) ?_
  unfold c_age_New
  (refine go ?_)
  refine WW.live fun hl => ?_
  have g1 : (((h.put h.next (.mem 18 [List.replicate 17 (AV.int .i64 0) ++ [.nilp]])).put (h.next + 1) (.mem 2 [[.nils, agF h.next]])).set h.next (some (.mem 18 [ag0.row (h.next + 1)]))).get h.next = some (.mem 18 [ag0.row (h.next + 1)]) := gH
  have g2 : (((h.put h.next (.mem 18 [List.replicate 17 (AV.int .i64 0) ++ [.nilp]])).put (h.next + 1) (.mem 2 [[.nils, agF h.next]])).set h.next (some (.mem 18 [ag0.row (h.next + 1)]))).get (h.next + 1) = some (.mem 2 [[.nils, agF h.next]]) := gH
  exact WW.ret ⟨.inl rfl, _, gRES, h.next, h.next + 1, rfl, ⟨⟨hl _ _ g1, g1⟩, _, .inl ⟨rfl, rfl⟩, ⟨hl _ _ g2, g2⟩⟩, by omega, Nat.le_refl _, by omega, (by repeat first | exact Kp.refl | assumption | with_reducible refine Kp.put ?_ (by omega) _ | with_reducible refine Kp.setN ?_ (by omega) _ | with_reducible refine Kp.keep ?_ _ | with_reducible refine Kp.setW ?_ (by rfl) _)⟩
end Go.Proofs.YtafkhpjnihnfpaaGreat


namespace Go.Proofs.YtafkhpjnihnfpaaGreat
open Go Go.Abs

/-- What is loaded where nothing was committed: a row that may be written. -/
theorem commit_Load0_ac {md : Bool} {h : AHeap} {n : WN} {s : WS} {k : Nat} (hg : WG md h n s) (hs : WSt md s k) (hgo : s.pw.gone = false) (hv : s.ct.value = 0) :
    AC Tryz.prog 50 [.ptr (n.a + 10) 0 0] h
      (fun r h' => ∃ E m, r = .tup [.ref E 0 m, .int .i64 0] ∧ (m : Int) = s.n ∧ BoxAt h' E (.mem 8 ((List.replicate m lf0).map encL)) ∧ h.next ≤ E ∧ Kp (fun _ => False) h h') := by
  refine AC.introW is_commit_Load (by simp) ?_
  unfold c_commit_Load
  have hob := hg.w.w
  simp only [wRow] at hob
  have hgg := isG_cases hs.fit.g
  obtain ⟨m, hm⟩ : ∃ m : Nat, s.n = m := ⟨s.n.toNat, by omega⟩
  rw [hm] at hob
  (refine go ?_)
  refine WL.call rfl (by first | exact True.intro | exact rfl) gSL (power_On_ae hg.w.sd.pw) ?_
  rw [hgo]
  (refine go ?_)
  refine WL.call rfl (by first | exact True.intro | exact rfl) gSL (count_Value_ae (p := n.p) hg.w.ct) ?_
  rw [hv]
  (refine go ?_)
  refine WW.live fun hl => ?_
  refine WW.ret ⟨.inl rfl, _, gRES, h.next, m, rfl, hm.symm, ?_, Nat.le_refl _, (by repeat first | exact Kp.refl | assumption | with_reducible refine Kp.put ?_ (by omega) _ | with_reducible refine Kp.setN ?_ (by omega) _ | with_reducible refine Kp.keep ?_ _ | with_reducible refine Kp.setW ?_ (by rfl) _)⟩
  rw [List.map_replicate]
  exact ⟨hl _ _ gH, gH⟩
theorem cache_finish_ae {md : Bool} {h : AHeap} {n : CaN} {x : CaS} (hg : CaG md h n x) (he : x.s.ks.epochs.length < 2) : AE Tryz.prog 56 [.ptr n.c 0 0] h (.int .i64 0) h := by
  obtain ⟨g1, g2, ⟨v, g3, g4⟩, g5, g6, g8, g7⟩ := hg
  have hc := g4.g
  have hob := g1.w.w
  simp only [wRow] at hob
  refine AE.pureW is_cache_Cache_finish (by simp) ?_
  unfold c_cache_Cache_finish
  (refine go ?_)
  refine WL.call rfl (by first | exact True.intro | exact rfl) gSL (keys_Epochs_ae g1.w.ks) ?_
  (refine go ?_)
  (refine WW.ifB rfl (fun hz1 => ?_) (fun hz1 => ?_))
  · (refine go ?_)
    refine WW.ret (PureQ.finD ?_)
    exact fz_i rfl
  · exfalso
    first | (simp at hz1; omega) | omega | (rw [List.length_map] at hz1; omega)
/-- A cache where nothing was committed. -/
def caNew (s : WS) (m : Nat) : CaS := ⟨s.bootS, s.ct.boots + 1, 0, List.replicate m lf0, List.replicate m lf0, ag0, false⟩
set_option maxHeartbeats 4000000 in
theorem cache_Open0_ac {md : Bool} {h : AHeap} {n : WN} {s : WS} {k : Nat} (hg : WG md h n s) (hs : WSt md s k) (hk : k ≤ 8000) (hf : s.pw.Free) (hv : s.ct.value = 0) (he : s.ks.epochs.length < 2) :
    AC Tryz.prog 26 [.ptr (n.a + 10) 0 0] h
      (fun r h' => ∃ (N : CaN) (m : Nat), r = .tup [.ptr N.c 0 0, .int .i64 0] ∧ N.w = n ∧ (m : Int) = s.n ∧ CaG md h' N (caNew s m) ∧ (∀ id, N.own id → h.next ≤ id) ∧ Kp (n.own md) h h') := by
  refine AC.introW is_cache_Open (by simp) ?_
  unfold c_cache_Open
  have hob := hg.w.w
  simp only [wRow] at hob
  have hna : n.a + 11 ≤ h.next := hg.w.nx
  have hlt : ∀ id, n.nm md id → id < h.next := fun id hi => (hg.us id hi).1
  have hgg := isG_cases hs.fit.g
  obtain ⟨ct1, ct2, ct3⟩ := hs.ct
  (refine go ?_)
  refine WL.call rfl (by first | exact True.intro | exact rfl) gSL (power_On_ae hg.w.sd.pw) ?_
  rw [show s.pw.gone = false from hf.g]
  (refine go ?_)
  refine WL.call rfl (by first | exact True.intro | exact rfl) gSL (boot_ae hg hs (by omega)) ?_
  have hcan := hf.can
  have hbc := boot_ct hf
  refine WL.named (fun h2 => WG md h2 n s.bootS ∧ Kp (n.own md) h h2) ⟨hg.boot, kp_ct n _ _⟩ ?_
  rintro h2 ⟨g2, k2⟩
  have hx2 := k2.next
  have hs2 := hs.boot
  have hf2 : s.bootS.pw.Free := hf.spend
  rw [hcan]
  clear hob
  have hob := g2.w.w
  simp only [wRow] at hob
  (refine go ?_)
  refine WL.callA rfl (by first | exact True.intro | exact rfl) gSL (commit_Load0_ac g2 hs2 hf2.g (by rw [hbc]; exact hv)) ?_
  rintro _ h3 ⟨E, m, rfl, hm, bE, hE, k3⟩
  have hm' : (m : Int) = s.n := hm
  have g3 := g2.new k3
  have hx3 := k3.next
  have hct := g3.w.ct
  rw [hbc] at hct
  clear hob g2
  have hob := g3.w.w
  simp only [wRow] at hob
  (refine go ?_)
  refine WL.call rfl (by first | exact True.intro | exact rfl) gSL (count_Boots_ae (p := n.p) hct) ?_
  (refine go ?_)
  refine WL.call rfl (by first | exact True.intro | exact rfl) gSL (nonce_New_ae rfl (s.ct.boots + 1) (by omega)) ?_
  have hElt : E < h3.next := bE.u.1
  refine WL.named (fun h4 => WG md h4 n s.bootS ∧ Kp (fun _ => False) h3 h4 ∧ BoxAt h4 h3.next (mkO (s.ct.boots + 1) 0) ∧ BoxAt h4 E (.mem 8 ((List.replicate m lf0).map encL))) ⟨g3.new (by repeat first | exact Kp.refl | assumption | with_reducible refine Kp.put ?_ (by omega) _ | with_reducible refine Kp.setN ?_ (by omega) _ | with_reducible refine Kp.keep ?_ _ | with_reducible refine Kp.setW ?_ (by rfl) _), (by repeat first | exact Kp.refl | assumption | with_reducible refine Kp.put ?_ (by omega) _ | with_reducible refine Kp.setN ?_ (by omega) _ | with_reducible refine Kp.keep ?_ _ | with_reducible refine Kp.setW ?_ (by rfl) _), ⟨put_used_nm, gH⟩, bE.kp (W := fun _ => False) (by repeat first | exact Kp.refl | assumption | with_reducible refine Kp.put ?_ (by omega) _ | with_reducible refine Kp.setN ?_ (by omega) _ | with_reducible refine Kp.keep ?_ _ | with_reducible refine Kp.setW ?_ (by rfl) _) (fun h => h)⟩ ?_
  have hmkN : ∀ id, n.nm md id → id < h3.next := fun id hi => by have := hlt id hi; omega
  rintro h4 ⟨g4, k4, b4, e4⟩
  have hx4 := k4.next
  generalize h3.next = mk at *
  have hmk4 : mk < h4.next := b4.u.1
  clear hob g3
  have hob := g4.w.w
  simp only [wRow] at hob
  (refine go ?_)
  have e4' := e4.g
  have hCl := slices_CloneLR_ae e4.g (by simp; omega)
  rw [List.length_replicate] at hCl
  refine WL.call rfl (by first | exact True.intro | exact rfl) gSL (hCl) ?_
  (refine go ?_)
  refine WL.callA rfl (by first | exact True.intro | exact rfl) gSL (age_New_ac _) ?_
  rintro _ h5 ⟨a, q, rfl, ag5, haq, ha, hq, k5⟩
  have hx5 := k5.next
  have hap : a < h5.next := ag5.ob.u.1
  have hqp : q < h5.next := by obtain ⟨v, _, h6⟩ := ag5.qo; exact h6.u.1
  have g5 := g4.new k5
  have b5 := b4.kp k5 (fun h => h)
  have e5 := e4.kp k5 (fun h => h)
  clear hob e4'
  (repeat first | refine WW.seq ?_ | refine WW.reg ?_ | refine WL.nil ?_ | refine WW.skip ?_ | refine WW.block ?_ | refine thenN ?_ | refine blkN ?_); iterate 3 (refine WL.go ?_)
  refine WL.named (fun h6 => CaG md h6 ⟨n, h5.next, mk, a, q, E, q⟩ (caNew s m) ∧ Kp (fun _ => False) h5 h6 ∧ BoxAt h6 E (.mem 8 ((List.replicate m lf0).map encL))) ⟨⟨g5.new (by repeat first | exact Kp.refl | assumption | with_reducible refine Kp.put ?_ (by omega) _ | with_reducible refine Kp.setN ?_ (by omega) _ | with_reducible refine Kp.keep ?_ _ | with_reducible refine Kp.setW ?_ (by rfl) _), b5.kp (W := fun _ => False) (by repeat first | exact Kp.refl | assumption | with_reducible refine Kp.put ?_ (by omega) _ | with_reducible refine Kp.setN ?_ (by omega) _ | with_reducible refine Kp.keep ?_ _ | with_reducible refine Kp.setW ?_ (by rfl) _) (fun h => h), ⟨.ref E 0 m, .inr ⟨by simp [caNew], e5.kp (W := fun _ => False) (by repeat first | exact Kp.refl | assumption | with_reducible refine Kp.put ?_ (by omega) _ | with_reducible refine Kp.setN ?_ (by omega) _ | with_reducible refine Kp.keep ?_ _ | with_reducible refine Kp.setW ?_ (by rfl) _) (fun h => h)⟩, ⟨put_used_nm, gH⟩⟩, ag5.kp (W := fun _ => False) (by repeat first | exact Kp.refl | assumption | with_reducible refine Kp.put ?_ (by omega) _ | with_reducible refine Kp.setN ?_ (by omega) _ | with_reducible refine Kp.keep ?_ _ | with_reducible refine Kp.setW ?_ (by rfl) _) (fun h => h) (fun h => h) (fun h => h), ?_, ?_, ?_⟩, (by repeat first | exact Kp.refl | assumption | with_reducible refine Kp.put ?_ (by omega) _ | with_reducible refine Kp.setN ?_ (by omega) _ | with_reducible refine Kp.keep ?_ _ | with_reducible refine Kp.setW ?_ (by rfl) _), e5.kp (W := fun _ => False) (by repeat first | exact Kp.refl | assumption | with_reducible refine Kp.put ?_ (by omega) _ | with_reducible refine Kp.setN ?_ (by omega) _ | with_reducible refine Kp.keep ?_ _ | with_reducible refine Kp.setW ?_ (by rfl) _) (fun h => h)⟩ ?_
  · intro id hid hn
    have := hlt id hn
    rcases hid with rfl | rfl | rfl | rfl | rfl | rfl <;> (dsimp only at *; omega)
  · intro id hid
    have hL : h5.next < (((h5.put h5.next (.mem 6 [[.ptr (n.a + 10) 0 0, .ptr mk 0 0, .ref E 0 m, .imm 8 ((List.replicate m lf0).map encL), .ptr a 0 0, .bool false]])))).next := (ltN gN (by omega))
    rcases hid with rfl | rfl | rfl | rfl | rfl | rfl <;> first | omega | (dsimp only; omega)
  · dsimp only
    refine ⟨by omega, by omega, by omega, by omega, by omega, haq, .inr ⟨by omega, by omega, by omega⟩, .inl rfl, by omega⟩
  have hc5 : h.next ≤ h5.next := by omega
  generalize h5.next = c at *
  clear g5 b5 e5 ag5 g4 b4 e4 bE
  rintro h6 ⟨g6, k6, e6⟩
  have k7 : Kp (n.own md) h h6 := k2.trans ((k3.trans (k4.trans (k5.trans k6))).mono fun _ _ h => h.elim)
  clear k2 k3 k4 k5 k6
  (refine go ?_)
  refine WW.loopE (fun (i : Nat) => [(7, some (.ptr c 0 0)), (57, some (.ref E 0 m)), (58, some (.int .i64 m)), (59, some (.int .i64 i))])
    (fun i h' => Kp (fun _ => False) h6 h' ∧ i ≤ m) (fun i => m - i) 0 gSUB ⟨Kp.refl, Nat.zero_le _⟩ ?_
  rintro i h7 ⟨k8, hi⟩
  have g7 := g6.new k8
  have hx6 := k8.next
  (refine go ?_)
  (refine WW.ifB rfl (fun hz1 => ?_) (fun hz1 => ?_))
  · have hi2 : i < m := by omega
    have e7 := (e6.kp k8 (fun h => h)).g
    have hlr : (List.replicate m lf0).length = m := by simp
    have hlf : ∀ (j : Nat) (hj : j < (List.replicate m lf0).length), (List.replicate m lf0)[j] = lf0 := fun j hj => List.getElem_replicate _
    (refine go ?_)
    (refine WW.ifB rfl (fun hz2 => ?_) (fun hz2 => ?_))
    · exfalso
      rw [hlf] at hz2
      simp [lf0] at hz2
    (refine go ?_)
    exact ⟨i + 1, gSUB, ⟨(by repeat first | exact Kp.refl | assumption | with_reducible refine Kp.put ?_ (by omega) _ | with_reducible refine Kp.setN ?_ (by omega) _ | with_reducible refine Kp.keep ?_ _ | with_reducible refine Kp.setW ?_ (by rfl) _), by omega⟩, by omega⟩
  · have hi2 : i = m := by omega
    (refine go ?_)
    refine WL.call rfl (by first | exact True.intro | exact rfl) gSL (cache_finish_ae g7 he) ?_
    (refine go ?_)
    exact WW.ret ⟨.inl rfl, _, gRES, ⟨n, c, mk, a, q, E, q⟩, m, rfl, rfl, hm', g7, fun id hid => by rcases hid with rfl | rfl | rfl | rfl | rfl | rfl <;> first | omega | (dsimp only; omega), k7.trans (k8.mono fun _ _ h => h.elim)⟩
end Go.Proofs.YtafkhpjnihnfpaaGreat


namespace Go.Proofs.YtafkhpjnihnfpaaGreat
open Go Go.Abs

/-- A box: its world, its cache, its copies. -/
def boxO (w : Nat) (c : AV) (snaps : AV) : AObj := .mem 3 [[.ptr w 0 0, c, snaps]]
set_option maxHeartbeats 1000000 in
theorem play_New_ac (md : Bool) (m : Nat) (hk : isG m = true) (seed : Int) (h : AHeap) : AC Tryz.prog 12 [.int .i64 m, .int .u64 seed, .bool md] h
    (fun r h' => ∃ (N : CaN) (b : Nat), r = .tup [.ptr b 0 0, .int .i64 0] ∧ CaG md h' N (caNew (ws0 m seed) m) ∧ BoxAt h' b (boxO (N.w.a + 10) (.ptr N.c 0 0) .nils) ∧ (∀ id, N.w.nm md id → h.next ≤ id) ∧ (∀ id, N.own id → h.next ≤ id) ∧ h.next ≤ b ∧ (¬ N.w.nm md b ∧ ¬ N.own b) ∧ Kp (fun id => h.next ≤ id) h h') := by
  refine AC.introW is_play_New (by simp) ?_
  unfold c_play_New
  (refine go ?_)
  refine WL.callA rfl (by first | exact True.intro | exact rfl) gSL (world_NewG_ac md m hk seed h) ?_
  rintro _ h1 ⟨n, rfl, g1, hn, k1⟩
  have hx1 := k1.next
  have S0 := wst0 md hk seed
  have hf0 := free_ws0 m seed
  (refine go ?_)
  refine WL.callA rfl (by first | exact True.intro | exact rfl) gSL (cache_Open0_ac g1 S0 (by omega) hf0 rfl (by simp [ws0])) ?_
  rintro _ h2 ⟨N, m', rfl, rfl, hm', g2, hN, k2⟩
  have hmm : m' = m := by have : (m' : Int) = m := hm'; omega
  subst hmm
  have hx2 := k2.next
  have hNlt := g2.lt
  have hwlt : ∀ id, N.w.nm md id → id < h2.next := fun id hi => (g2.w.us id hi).1
  (refine go ?_)
  refine WW.ret ⟨.inl rfl, _, gRES, N, h2.next, rfl, g2.new (by repeat first | exact Kp.refl | assumption | with_reducible refine Kp.put ?_ (by omega) _ | with_reducible refine Kp.setN ?_ (by omega) _ | with_reducible refine Kp.keep ?_ _ | with_reducible refine Kp.setW ?_ (by rfl) _), ⟨put_used_nm, gH⟩, hn, fun id hi => Nat.le_trans hx1 (hN id hi), by omega, ⟨fun hi => by have := hwlt _ hi; omega, fun hi => by have := hNlt _ hi; omega⟩, ?_⟩
  exact k1.trans ((k2.mono fun id _ hi => hn id (.inl (WN.own_all hi))).trans (((by repeat first | exact Kp.refl | assumption | with_reducible refine Kp.put ?_ (by omega) _ | with_reducible refine Kp.setN ?_ (by omega) _ | with_reducible refine Kp.keep ?_ _ | with_reducible refine Kp.setW ?_ (by rfl) _) : Kp (fun _ => False) h2 _).mono fun _ _ h => h.elim))
theorem box_World_ae {h : AHeap} {b : Nat} {w : Nat} {c s : AV} (hb : h.get b = some (.mem 3 [[.ptr w 0 0, c, s]])) (hw : h.used w) : AE Tryz.prog 16 [.ptr b 0 0] h (.ptr w 0 0) h := by
  refine AE.pureW is_play_Box_World (by simp) ?_
  unfold c_play_Box_World
  (refine go ?_)
  refine WW.ret (PureQ.finD ?_)
  exact .clo _ (.ptr _ _ _ hw)
theorem box_Cache_ae {h : AHeap} {b : Nat} {c : Nat} {w s : AV} (hb : h.get b = some (.mem 3 [[w, .ptr c 0 0, s]])) (hw : h.used c) : AE Tryz.prog 17 [.ptr b 0 0] h (.ptr c 0 0) h := by
  refine AE.pureW is_play_Box_Cache (by simp) ?_
  unfold c_play_Box_Cache
  (refine go ?_)
  refine WW.ret (PureQ.finD ?_)
  exact .clo _ (.ptr _ _ _ hw)
end Go.Proofs.YtafkhpjnihnfpaaGreat


namespace Go.Proofs.YtafkhpjnihnfpaaGreat
open Go Go.Abs

theorem slB_of {row : List CS} {cells : List AV} (h : TypL (.sl [.i .u8] :: row) cells) : ∃ (l : Bs) (vs : List AV), cells = .imm 1 (l.map encB) :: vs ∧ TypL row vs ∧ l.length ≤ maxLen := by
  obtain ⟨v, vs, rfl, h1, h2⟩ := h.cons_inv
  obtain ⟨c, rfl, hl, hc⟩ := h1.sl_inv
  obtain ⟨l, rfl⟩ := map_of (f := encB) (fun _ => byte_of) hc
  exact ⟨l, vs, rfl, h2, by simpa using hl⟩
theorem intC_of {k : IntKind} {row : List CS} {cells : List AV} (h : TypL (.i k :: row) cells) : ∃ (n : Int) (vs : List AV), cells = .int k n :: vs ∧ TypL row vs ∧ (Lit.int k n).wf = true := by
  obtain ⟨v, vs, rfl, h1, h2⟩ := h.cons_inv
  obtain ⟨x, rfl, hw⟩ := h1.int_inv
  exact ⟨x, vs, rfl, h2, hw⟩
end Go.Proofs.YtafkhpjnihnfpaaGreat


namespace Go.Proofs.YtafkhpjnihnfpaaGreat
open Go Go.Abs

def sameO (all : Bool) (x y : Wr) : Bool := (x.1 == y.1) && (((x.2.length : Int) == (y.2.length : Int)) && (!all || x.2 == y.2))
def eqF (p : Wr → Wr → Bool) : List Wr → List Wr → Bool
  | [], [] => true
  | x :: a, y :: b => p x y && eqF p a b
  | _, _ => false
theorem eqF_len {p : Wr → Wr → Bool} : ∀ {a b : List Wr}, a.length ≠ b.length → eqF p a b = false
  | [], [], h => absurd rfl h
  | [], _ :: _, _ => rfl
  | _ :: _, [], _ => rfl
  | x :: a, y :: b, h => by
    simp only [List.length_cons] at h
    rw [eqF, eqF_len (by omega), Bool.and_false]
theorem eqF_refl {p : Wr → Wr → Bool} (hp : ∀ x, p x x = true) : ∀ a : List Wr, eqF p a a = true
  | [] => rfl
  | x :: a => by rw [eqF, hp, eqF_refl hp a]; rfl
theorem eqF_drop {p : Wr → Wr → Bool} {a b : List Wr} {i : Nat} (ha : i < a.length) (hb : i < b.length) : eqF p (a.drop i) (b.drop i) = (p a[i] b[i] && eqF p (a.drop (i + 1)) (b.drop (i + 1))) := by
  rw [List.drop_eq_getElem_cons ha, List.drop_eq_getElem_cons hb, eqF]
theorem sameO_refl (all : Bool) (x : Wr) : sameO all x x = true := by simp [sameO]
theorem sameTrace_1_ae {h : AHeap} {p : Nat} {all : Bool} (hp : h.get p = some (.mem 1 [[.bool all]])) (x y : Wr) : AE Tryz.prog 21 [.agg (encO x), .agg (encO y), .ptr p 0 0] h (.bool (sameO all x y)) h := by
  refine AE.wf fun hwf => ?_
  have h0 := hwf _ _ hp
  refine AE.pureW is_audit_SameTrace_1 (by simp) ?_
  unfold c_audit_SameTrace_1
  (refine go ?_)
  (refine WL.spB rfl (fun hz1 => ?_) (fun hz1 => ?_))
  · (refine go ?_)
    (refine WL.spB rfl (fun hz2 => ?_) (fun hz2 => ?_))
    · (refine go ?_)
      cases all with
      | false =>
        (refine go ?_)
        refine WW.ret (PureQ.finD ?_)
        refine fz_b ?_
        simp [sameO, hz1, hz2]
      | true =>
        (refine go ?_)
        refine WL.call rfl (by first | exact True.intro | exact rfl) gSL (bytes_Equal_ae _ _ _) ?_
        (refine go ?_)
        refine WW.ret (PureQ.finD ?_)
        refine fz_b ?_
        simp [sameO, hz1, hz2]
    · (refine go ?_)
      refine WW.ret (PureQ.finD ?_)
      refine fz_b ?_
      simp [sameO, hz2]
  · (refine go ?_)
    refine WW.ret (PureQ.finD ?_)
    refine fz_b ?_
    simp [sameO, hz1]
theorem slices_EqualFuncO_ae {h : AHeap} {f : Nat} {us ts : List AV} {p : Wr → Wr → Bool} (a b : List Wr) (ha : a.length ≤ 1000000) (hb : Bodied f) (hK : ∀ h2, Keeps h h2 → ∀ x y, AE Tryz.prog f (us ++ [.agg (encO x), .agg (encO y)] ++ ts) h2 (.bool (p x y)) h2) :
    AE Tryz.prog 20 [.imm 2 (a.map encO), .imm 2 (b.map encO), .func (.func f) us ts] h (.bool (eqF p a b)) h := by
  refine AE.pureW is_slices_EqualFuncapi_Op_api_Op_api_Op_api_Op (by simp) ?_
  unfold c_slices_EqualFuncapi_Op_api_Op_api_Op_api_Op
  (refine go ?_)
  (refine WW.ifB rfl (fun hz1 => ?_) (fun hz1 => ?_))
  · (refine go ?_)
    refine WW.ret (PureQ.finD ?_)
    refine fz_b ?_
    rw [eqF_len (by omega)]
  (refine go ?_)
  refine WW.loopE (fun (i : Nat) => [(1, some (.imm 2 (b.map encO))), (2, some (.func (.func f) us ts)), (15, some (.imm 2 (a.map encO))), (16, some (.int .i64 a.length)), (17, some (.int .i64 i))])
    (fun i h' => Keeps h h' ∧ i ≤ a.length ∧ eqF p a b = eqF p (a.drop i) (b.drop i)) (fun i => a.length - i) 0 gSUB ⟨gK, Nat.zero_le _, rfl⟩ ?_
  rintro i h' ⟨k1, c1, c2⟩
  have hx := k1.1
  (refine go ?_)
  (refine WW.ifB rfl (fun hz2 => ?_) (fun hz2 => ?_))
  · have hi : i < a.length := by omega
    have hi2 : i < b.length := by omega
    (refine go ?_)
    refine WL.fx1 (FX.callv rfl rfl (by first | exact True.intro | exact rfl) hb.ok (hK _ gK a[i] b[i])) ?_
    cases hp : p a[i] b[i] with
    | true =>
      (refine go ?_)
      refine ⟨i + 1, gSUB, ⟨gK, by omega, ?_⟩, by omega⟩
      rw [c2, eqF_drop hi hi2, hp]; rfl
    | false =>
      (refine go ?_)
      refine WW.ret (PureQ.finD ?_)
      refine fz_b ?_
      rw [c2, eqF_drop hi hi2, hp]; rfl
  · (refine go ?_)
    refine WW.ret (PureQ.finD ?_)
    refine fz_b ?_
    have e1 : i = a.length := by omega
    have e2 : i = b.length := by omega
    rw [c2, List.drop_eq_nil_of_le (by omega), List.drop_eq_nil_of_le (by omega)]; rfl
theorem audit_SameTrace_ae (a b : List Wr) (ha : a.length ≤ 1000000) (all : Bool) (h : AHeap) : AE Tryz.prog 9 [.imm 2 (a.map encO), .imm 2 (b.map encO), .bool all] h (.bool (eqF (sameO all) a b)) h := by
  refine AE.pureW is_audit_SameTrace (by simp) ?_
  unfold c_audit_SameTrace
  (refine go ?_)
  refine WL.call rfl (by first | exact True.intro | exact rfl) gSL (slices_EqualFuncO_ae a b ha (p := sameO all) (f := 21) (us := []) (ts := [.ptr h.next 0 0]) ⟨by kernel_rfl⟩ (fun h2 hk x y => sameTrace_1_ae ((hk.2 _ put_used_nm).trans gH) x y)) ?_
  (refine go ?_)
  refine WW.ret (PureQ.finD ?_)
  exact fz_b rfl
set_option maxHeartbeats 1000000 in
theorem ref30_SameTrace_ae (a b : List Wr) (ha : a.length ≤ 1000000) (all : Bool) (h : AHeap) : AE Tryz.prog 10 [.imm 2 (a.map encO), .imm 2 (b.map encO), .bool all] h (.bool (eqF (sameO all) a b)) h := by
  refine AE.pureW is_ref30_SameTrace (by simp) ?_
  unfold c_ref30_SameTrace
  (refine go ?_)
  (refine WW.ifB rfl (fun hz1 => ?_) (fun hz1 => ?_))
  · (refine go ?_)
    refine WW.ret (PureQ.finD ?_)
    refine fz_b ?_
    rw [eqF_len (by omega)]
  (refine go ?_)
  refine WW.loopE (fun (i : Nat) => [(0, some (.imm 2 (a.map encO))), (1, some (.imm 2 (b.map encO))), (2, some (.bool all)), (7, some (.int .i64 i))])
    (fun i h' => Keeps h h' ∧ i ≤ a.length ∧ eqF (sameO all) a b = eqF (sameO all) (a.drop i) (b.drop i)) (fun i => a.length - i) 0 gSUB ⟨gK, Nat.zero_le _, rfl⟩ ?_
  rintro i h' ⟨k1, c1, c2⟩
  have hx := k1.1
  (refine go ?_)
  (refine WW.ifB rfl (fun hz2 => ?_) (fun hz2 => ?_))
  · have hi : i < a.length := by omega
    have hi2 : i < b.length := by omega
    have e3 := eqF_drop (p := sameO all) hi hi2
    (refine go ?_)
    (refine DW.spB rfl (fun hz3 => ?_) (fun hz3 => ?_))
    · iterate 15 (refine DW.go ?_)
      (repeat first | refine DW.skipU (.inl ⟨_, rfl, rfl⟩) ?_ | refine DW.skipU (.inr rfl) ?_)
      (refine go ?_)
      refine WW.ret (PureQ.finD ?_)
      refine fz_b ?_
      rw [c2, e3, sameO]; simp at hz3; simp [hz3]
    (refine go ?_)
    (refine DW.spB rfl (fun hz4 => ?_) (fun hz4 => ?_))
    · (repeat first | refine DW.skipU (.inl ⟨_, rfl, rfl⟩) ?_ | refine DW.skipU (.inr rfl) ?_)
      (refine go ?_)
      refine WW.ret (PureQ.finD ?_)
      refine fz_b ?_
      rw [c2, e3, sameO]; simp at hz4; simp [hz4]
    (refine go ?_)
    cases all with
    | false =>
      (refine go ?_)
      refine ⟨i + 1, gSUB, ⟨gK, by omega, ?_⟩, by omega⟩
      rw [c2, e3, sameO]; simp [hz3, hz4]
    | true =>
      (refine go ?_)
      (refine WW.ifB rfl (fun hz5 => ?_) (fun hz5 => ?_))
      · (refine go ?_)
        refine WW.ret (PureQ.finD ?_)
        refine fz_b ?_
        rw [c2, e3, sameO]; simp at hz5; simp [hz5]
      · (refine go ?_)
        refine ⟨i + 1, gSUB, ⟨gK, by omega, ?_⟩, by omega⟩
        rw [c2, e3, sameO]; simp [hz3, hz4, hz5]
  · (refine go ?_)
    refine WW.ret (PureQ.finD ?_)
    refine fz_b ?_
    rw [c2, List.drop_eq_nil_of_le (by omega), List.drop_eq_nil_of_le (by omega)]; rfl
end Go.Proofs.YtafkhpjnihnfpaaGreat


namespace Go.Proofs.YtafkhpjnihnfpaaGreat
open Go Go.Abs

theorem cache_Leaves_ae {md : Bool} {h : AHeap} {n : CaN} {x : CaS} (hg : CaG md h n x) (hl : x.now.length ≤ 1000000) : AE Tryz.prog 37 [.ptr n.c 0 0] h (.imm 8 (x.now.map encL)) h := by
  obtain ⟨g1, g2, ⟨v, g3, g4⟩, g5, g6, g8, g7⟩ := hg
  have hc := g4.g
  have hcl : AE Tryz.prog 53 [v] h (.imm 8 (x.now.map encL)) h := by
    rcases g3 with rfl | ⟨rfl, hb⟩
    · exact slices_CloneL_ae _ hl _
    · exact slices_CloneLR_ae hb.g hl
  refine AE.pureW is_cache_Cache_Leaves (by simp) ?_
  unfold c_cache_Cache_Leaves
  (refine go ?_)
  refine WL.call rfl (by first | exact True.intro | exact rfl) gSL (hcl) ?_
  (refine go ?_)
  refine WW.ret (PureQ.finD ?_)
  exact .clo _ (.imm _ _ fun y hy u hu => by
    obtain ⟨z, _, rfl⟩ := List.mem_map.1 hy
    exact clo_encL z u hu)
theorem cache_LeavesN_ae (h : AHeap) : AE Tryz.prog 37 [.nilp] h (.imm 8 []) h := by
  refine AE.pureW is_cache_Cache_Leaves (by simp) ?_
  unfold c_cache_Cache_Leaves
  (refine go ?_)
  refine WW.ret (PureQ.finD ?_)
  exact .nil _
theorem audit_SecretsN_ae (h : AHeap) : AE Tryz.prog 19 [.nilp] h (.imm 1 []) h := by
  refine AE.pureW is_audit_Secrets (by simp) ?_
  unfold c_audit_Secrets
  (refine go ?_)
  refine WW.ret (PureQ.finD ?_)
  exact .nil _
theorem audit_Secrets0_ae {md : Bool} {h : AHeap} {n : WN} {s : WS} (hg : WG md h n s) (hL : s.L = []) : AE Tryz.prog 19 [.ptr (n.a + 10) 0 0] h (.imm 1 []) h := by
  have hob := hg.w.w
  simp only [wRow] at hob
  refine AE.pureW is_audit_Secrets (by simp) ?_
  unfold c_audit_Secrets
  (refine go ?_)
  have hI := lock_IssuedW_ae hg.w.lk (fun _ => hL) (by rw [hL]; simp) (by rw [hL]; simp)
  rw [hL] at hI
  refine WL.call rfl (by first | exact True.intro | exact rfl) gSL (hI) ?_
  (refine go ?_)
  refine WW.loopE (fun (_ : Unit) => [(3, some .nils), (15, some (.int .i64 0)), (16, some (.int .i64 0))]) (fun _ h' => h' = h) (fun _ => 0) () gSUB rfl ?_
  rintro i h' rfl
  (refine go ?_)
  refine WW.ret (PureQ.finD ?_)
  exact .nil _
theorem audit_FreshN_ae (h : AHeap) : AE Tryz.prog 23 [.nilp] h (.bool true) h := by
  refine AE.pureW is_audit_Fresh (by simp) ?_
  unfold c_audit_Fresh
  (refine go ?_)
  refine WW.ret (PureQ.finD ?_)
  exact fz_b rfl
theorem audit_Fresh_ae {h : AHeap} {n : WN} {s : WS} (hg : WG true h n s) (hL : s.L.length ≤ 1000000) : AE Tryz.prog 23 [.ptr (n.a + 10) 0 0] h (.bool (!dupB (s.L.map kn))) h := by
  have hob := hg.w.w
  simp only [wRow] at hob
  refine AE.pureW is_audit_Fresh (by simp) ?_
  unfold c_audit_Fresh
  (refine go ?_)
  refine WL.call rfl (by first | exact True.intro | exact rfl) gSL (lock_TwiceI_ae (hg.w.lk.id rfl) hL) ?_
  (refine go ?_)
  refine WW.ret (PureQ.finD ?_)
  exact fz_b rfl
theorem audit_SoundN_ae (h : AHeap) : AE Tryz.prog 24 [.nilp] h (.bool true) h := by
  refine AE.pureW is_audit_Sound (by simp) ?_
  unfold c_audit_Sound
  (refine go ?_)
  refine WL.call rfl (by first | exact True.intro | exact rfl) gSL (cache_LeavesN_ae _) ?_
  (refine go ?_)
  refine WW.loopE (fun (_ : Unit) => [(9, some (.int .i64 0)), (10, some (.int .i64 0))]) (fun _ h' => Keeps h h') (fun _ => 0) () gSUB gK ?_
  rintro i h' k1
  (refine go ?_)
  refine WW.ret (PureQ.finD ?_)
  exact fz_b rfl
set_option maxHeartbeats 1000000 in
theorem audit_Sound0_ae {md : Bool} {h : AHeap} {n : CaN} {x : CaS} {m : Nat} (hg : CaG md h n x) (hm : x.now = List.replicate m lf0) (hm2 : m ≤ 16) : AE Tryz.prog 24 [.ptr n.c 0 0] h (.bool true) h := by
  refine AE.pureW is_audit_Sound (by simp) ?_
  unfold c_audit_Sound
  (refine go ?_)
  have g2 : CaG md (h.put h.next (.map [])) n x := hg.new (by repeat first | exact Kp.refl | assumption | with_reducible refine Kp.put ?_ (by omega) _ | with_reducible refine Kp.setN ?_ (by omega) _ | with_reducible refine Kp.keep ?_ _ | with_reducible refine Kp.setW ?_ (by rfl) _)
  have hL := cache_Leaves_ae g2 (by rw [hm]; simp; omega)
  rw [hm] at hL
  refine WL.call rfl (by first | exact True.intro | exact rfl) gSL (hL) ?_
  (refine go ?_)
  have hlr : (List.replicate m lf0).length = m := by simp
  have hlf : ∀ (j : Nat) (hj : j < (List.replicate m lf0).length), (List.replicate m lf0)[j] = lf0 := fun j hj => List.getElem_replicate _
  refine WW.loopE (fun (i : Nat) => [(3, some (.map h.next)), (8, some (.imm 8 ((List.replicate m lf0).map encL))), (9, some (.int .i64 m)), (10, some (.int .i64 i))])
    (fun i h' => Keeps h h' ∧ h.next < h'.next ∧ i ≤ m ∧ h'.get h.next = some (.map (if i = 0 then [] else [(.int .i64 0, .bool false)]))) (fun i => m - i) 0 gSUB ⟨gK, (ltN gN (by omega)), Nat.zero_le _, gH⟩ ?_
  rintro i h' ⟨k1, hx, c1, c2⟩
  (refine go ?_)
  (refine WW.ifB rfl (fun hz1 => ?_) (fun hz1 => ?_))
  · have hi : i < m := by omega
    (refine go ?_)
    rw [hlf]
    refine WL.call rfl (by first | exact True.intro | exact rfl) gSL (leaf_Is_ae lf0 i _) ?_
    have hli : leafIs lf0 i = true := by rw [leafIs, if_neg (by omega), if_pos (show lf0.k = 0 from rfl)]; simp
    rw [hli]
    (refine go ?_)
    by_cases h0 : i = 0
    · subst h0
      simp only [if_true] at c2
      refine WL.fx1 (FX.look (r := none) rfl rfl gH trivial rfl rfl (by first | exact True.intro | exact rfl)) ?_
      simp only [lookR, Option.map_none, Option.getD_none, Option.isSome_none, if_true, if_false, Bool.false_eq_true]
      (refine go ?_)
      refine WL.fx0 (FX.mput (r := none) rfl rfl rfl gH trivial rfl (by first | exact True.intro | exact rfl)) ?_
      (refine go ?_)
      exact ⟨1, gSUB, ⟨gK, (ltN gN (by omega)), by omega, gH⟩, by omega⟩
    · rw [if_neg h0] at c2
      refine WL.fx1 (FX.look (r := some (0, .bool false)) rfl rfl gH trivial rfl rfl (by first | exact True.intro | exact rfl)) ?_
      simp only [lookR, Option.map_some, Option.getD_some, Option.isSome_some, if_true, if_false, Bool.false_eq_true]
      (refine go ?_)
      refine WL.fx0 (FX.mput (r := some (0, .bool false)) rfl rfl rfl gH trivial rfl (by first | exact True.intro | exact rfl)) ?_
      (refine go ?_)
      exact ⟨i + 1, gSUB, ⟨gK, (ltN gN (by omega)), by omega, by rw [if_neg (by omega)]; exact gH⟩, by omega⟩
  · (refine go ?_)
    refine WW.ret (PureQ.finD ?_)
    exact fz_b rfl
set_option maxHeartbeats 1000000 in
theorem law30_known_ae (h : AHeap) : AE Tryz.prog 11 [] h (.bool true) h := by
  refine AE.pureW is_law30_known (by simp) ?_
  unfold c_law30_known
  (refine go ?_)
  refine WL.callA rfl (by first | exact True.intro | exact rfl) gSL (play_New_ac true 4 rfl 1 h) ?_
  rintro _ h1 ⟨N, b, rfl, g1, b1, hn, hN, hb, hnb, k1⟩
  have hbg := b1.g
  simp only [boxO] at hbg
  have hL : (caNew (ws0 4 1) 4).s.L = [] := rfl
  have hw := g1.w.us (N.w.a + 10) (.inl (.inr (.inr (.inl (by omega)))))
  have hc : h1.used N.c := by obtain ⟨_, _, ⟨v, _, q⟩, _⟩ := g1; exact q.u
  have hF := audit_Fresh_ae g1.w (by rw [hL]; simp)
  rw [hL] at hF
  (refine go ?_)
  refine WL.call rfl (by first | exact True.intro | exact rfl) gSL (box_World_ae hbg hw) ?_
  (refine go ?_)
  refine WL.call rfl (by first | exact True.intro | exact rfl) gSL (audit_Secrets0_ae g1.w hL) ?_
  (refine go ?_)
  refine WL.call rfl (by first | exact True.intro | exact rfl) gSL (box_World_ae hbg hw) ?_
  (refine go ?_)
  refine WL.call rfl (by first | exact True.intro | exact rfl) gSL (hF) ?_
  (refine go ?_)
  refine WL.call rfl (by first | exact True.intro | exact rfl) gSL (box_Cache_ae hbg hc) ?_
  (refine go ?_)
  refine WL.call rfl (by first | exact True.intro | exact rfl) gSL (audit_Sound0_ae g1 rfl (by decide)) ?_
  (refine go ?_)
  refine WL.call rfl (by first | exact True.intro | exact rfl) gSL (audit_SoundN_ae _) ?_
  (refine go ?_)
  refine WL.call rfl (by first | exact True.intro | exact rfl) gSL (audit_FreshN_ae _) ?_
  (refine go ?_)
  refine WL.call rfl (by first | exact True.intro | exact rfl) gSL (audit_SecretsN_ae _) ?_
  (refine go ?_)
  have k2 := k1.keeps (fun _ h => h)
  refine WW.ret (PureQ.finD ?_)
  exact fz_b rfl
theorem law30_AuditTraces_ae (a b : List Wr) (all : Bool) (h : AHeap) : AE Tryz.prog 3 [.imm 2 (a.map encO), .imm 2 (b.map encO), .bool all] h (.bool true) h := by
  refine AE.pureW is_law30_AuditTraces (by simp) ?_
  unfold c_law30_AuditTraces
  (refine go ?_)
  (apply WL.orB; exact rfl; exact rfl; exact rfl; exact BP.of; intro hz1)
  · (repeat first | (apply GW.goS; exact Stp.auto) | apply GW.nil | exact rfl)
  (refine go ?_)
  (refine WW.ifB rfl (fun hz2 => ?_) (fun hz2 => ?_))
  · (refine go ?_)
    refine WW.ret (PureQ.finD ?_)
    exact fz_b rfl
  have ha : a.length ≤ 50 ∧ b.length ≤ 50 := by simp at hz2; omega
  (refine go ?_)
  refine WL.call rfl (by first | exact True.intro | exact rfl) gSL (audit_SameTrace_ae a b (by omega) all _) ?_
  (refine go ?_)
  refine WL.call rfl (by first | exact True.intro | exact rfl) gSL (ref30_SameTrace_ae a b (by omega) all _) ?_
  (refine go ?_)
  refine WL.spB rfl (fun hz5 => ?_) (fun hz5 => ?_)
  rotate_left
  · simp at hz5
  (refine go ?_)
  refine WL.call rfl (by first | exact True.intro | exact rfl) gSL (audit_SameTrace_ae a a (by omega) all _) ?_
  rw [eqF_refl (sameO_refl all)]
  (refine go ?_)
  refine WL.call rfl (by first | exact True.intro | exact rfl) gSL (law30_known_ae _) ?_
  (refine go ?_)
  refine WW.ret (PureQ.finD ?_)
  exact fz_b rfl
theorem op_of {cells : List AV} (h : TypL [.i .i64, .sl [.i .u8]] cells) : ∃ x : Wr, cells = encO x := by
  obtain ⟨x0, _, rfl, t0, _⟩ := intC_of h
  obtain ⟨x1, _, rfl, t1, _⟩ := slB_of t0
  obtain rfl := t1.nil_inv
  exact ⟨(x0, x1), rfl⟩
theorem ops_of {cells : List AV} (h : TypL [.sl [.i .i64, .sl [.i .u8]]] cells) : ∃ l : List Wr, cells = [.imm 2 (l.map encO)] := by
  obtain ⟨v, vs, rfl, h1, h2⟩ := h.cons_inv
  obtain rfl := h2.nil_inv
  obtain ⟨c, rfl, hl, hc⟩ := h1.sl_inv
  obtain ⟨l, rfl⟩ := map_of (f := encO) (fun cells => op_of) hc
  exact ⟨l, rfl⟩
theorem top_AuditTraces (c0 : List AV) (t0 : TypL [.sl [.i .i64, .sl [.i .u8]]] c0) (c1 : List AV) (t1 : TypL [.sl [.i .i64, .sl [.i .u8]]] c1) (c2 : List AV) (t2 : TypL [.b] c2) :
    AE Tryz.prog 3 [c0.headD .nilp, c1.headD .nilp, c2.headD .nilp] noHeap (.bool true) noHeap := by
  obtain ⟨a, rfl⟩ := ops_of t0
  obtain ⟨b, rfl⟩ := ops_of t1
  obtain ⟨v, rfl⟩ := bool_of20 t2
  exact law30_AuditTraces_ae a b v noHeap
end Go.Proofs.YtafkhpjnihnfpaaGreat


