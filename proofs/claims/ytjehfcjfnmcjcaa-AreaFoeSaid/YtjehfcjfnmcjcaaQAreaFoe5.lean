/- What the statement's proof needs, part 5. -/
import Derived.Test.YtjehfcjfnmcjcaaQAreaFoe4
set_option linter.all false
namespace Go.Proofs.Ytjehfcjfnmcjcaa
open Go Go.Abs

def WS.row (s : WS) (a : Int) (i : Nat) : Bs := (s.sd.snap.drop (lfAt s.n a i).toNat).take 32
def WS.rows (s : WS) (a : Int) (m : Nat) : List Bs := (List.range m).map (s.row a)
def WS.leaf (s : WS) (a : Int) (i : Nat) : Lf := leafD (s.row a i) i
def WS.leaves (s : WS) (a : Int) (m : Nat) : List Lf := (List.range m).map (s.leaf a)
def WS.allG (s : WS) (a : Int) (m : Nat) : Bool := (List.range m).all fun i => leafG (s.row a i) i
def WS.readS (md : Bool) (s : WS) (a : Int) : WS := if s.pw.gone then s else { s with S := (buildF md (s.rows a s.n.toNat) s.S).2 }
def WS.readT (md : Bool) (s : WS) (a : Int) : Pr := (buildF md (s.rows a s.n.toNat) s.S).1.getD 1 (0, 0)
def WS.readE (md : Bool) (s : WS) (a : Int) (top : Pr) : Int := if s.pw.gone then 7 else if s.readT md a = top ∧ s.allG a s.n.toNat = true then 0 else 3
def WS.readL (md : Bool) (s : WS) (a : Int) (top : Pr) : List Lf := if s.readE md a top = 0 then s.leaves a s.n.toNat else []
theorem rows_succ (s : WS) (a : Int) (i : Nat) : s.rows a (i + 1) = s.rows a i ++ [s.row a i] := by
  rw [WS.rows, List.range_succ, List.map_append]; rfl
theorem rows_len (s : WS) (a : Int) (m : Nat) : (s.rows a m).length = m := by simp [WS.rows]
theorem leaves_succ (s : WS) (a : Int) (i : Nat) : s.leaves a (i + 1) = s.leaves a i ++ [s.leaf a i] := by
  rw [WS.leaves, List.range_succ, List.map_append]; rfl
theorem snap_lenS {s : WS} {k : Nat} (hs : s.Fit k) : s.sd.snap.length = (s.n * 160 + 120).toNat := by
  have := hs.sd.len
  rw [sizeG_pos hs.g] at this
  rw [← this]
  exact snap_len (fun o ho => by have := hs.sd.w o ho; rw [sizeG_pos hs.g] at this; omega)
theorem row_len {s : WS} {k : Nat} (hs : s.Fit k) (a : Int) (ha : 0 ≤ a ∧ a < 2) (i : Nat) (hi : (i : Int) < s.n) : (s.row a i).length = 32 := by
  have hg := isG_cases hs.g
  have ha' : a = 0 ∨ a = 1 := by omega
  have hp : 0 ≤ lfAt s.n a i ∧ lfAt s.n a i + 32 ≤ s.n * 160 + 120 := by
    unfold lfAt; rcases ha' with rfl | rfl <;> omega
  rw [WS.row, List.length_take, List.length_drop, snap_lenS hs]; omega
set_option maxHeartbeats 1000000 in
theorem area_Read_ac {md : Bool} {h : AHeap} {n : WN} {s : WS} {k : Nat} (hg : WG md h n s) (hs : s.Fit k) (hk : k ≤ 9000) (a : Int) (ha : 0 ≤ a ∧ a < 2) (top : Pr) :
    AC Try.prog 47 [.ptr (n.a + 10) 0 0, .int .i64 a, .agg (encP top)] h
      (fun r h' => r = .tup [.imm 8 ((s.readL md a top).map encL), .int .i64 (s.readE md a top)] ∧ WG md h' n (s.readS md a) ∧ Kp (n.own md) h h') := by
  refine AC.introW is_area_Read (by simp) ?_
  unfold c_area_Read
  have hob := hg.w.w
  simp only [wRow] at hob
  have hlt : ∀ id, n.nm md id → id < h.next := fun id hi => (hg.us id hi).1
  have hq : n.q < h.next := hlt _ (.inr rfl)
  have hgg := isG_cases hs.g
  have hna : n.a + 11 ≤ h.next := hg.w.nx
  have hop := hg.w.op
  obtain ⟨m, hm⟩ : ∃ m : Nat, s.n = m := ⟨s.n.toNat, by omega⟩
  (refine go ?_)
  refine WL.call rfl (by first | exact True.intro | exact rfl) gSL (area_is_ae _ a _) ?_
  rw [show (decide (0 ≤ a) && decide (a < 2)) = true by simp [ha.1, ha.2]]
  (refine go ?_)
  refine WW.cvt (Cvt.adopt 1 (s := 8) rfl gN) ?_
  rw [hm]
  refine WW.loopE (fun (i : Nat) => [(0, some (.ptr (n.a + 10) 0 0)), (1, some (.int .i64 a)), (5, some (.ptr h.next 0 0)), (8, some (.app (h.next + 1) 0 1 ((s.rows a i).map encR))), (27, some (.int .i64 m)), (28, some (.int .i64 i))])
    (fun i h' => h'.get h.next = some (.mem 2 [encP top]) ∧ h'.get (h.next + 1) = some (.tail 0 i) ∧ Kp (fun _ => False) h h' ∧ h.next + 2 ≤ h'.next ∧ i ≤ m ∧ (0 < i → s.pw.gone = false)) (fun i => m - i) 0 gSUB ⟨gH, gH, (by repeat first | exact Kp.refl | assumption | with_reducible refine Kp.put ?_ (by omega) _ | with_reducible refine Kp.setN ?_ (by omega) _ | with_reducible refine Kp.keep ?_ _ | with_reducible refine Kp.setW ?_ (by rfl) _), (leN gN (by omega)), Nat.zero_le _, by omega⟩ ?_
  rintro i h' ⟨g1, g2, g3, g4, g5, g6⟩
  obtain ⟨nx, hnx⟩ : ∃ nx, h'.next = nx := ⟨_, rfl⟩
  have w2 := hg.new g3
  have hrl := rows_len s a i
  have hob2 := w2.w.w
  simp only [wRow] at hob2
  (refine go ?_)
  (refine WW.ifB rfl (fun hz1 => ?_) (fun hz1 => ?_))
  · have hi : i < m := by omega
    have hll : s.sd.lasts.length = (s.n * 160 + 120).toNat := by rw [hs.sd.len, sizeG_pos hs.g]
    (refine go ?_)
    refine DW.callS rfl (by first | exact True.intro | exact rfl) gSL rfl (geom_Leaf_ae s.n a i hs.g ha (by omega) _) ?_
    (refine go ?_)
    refine DW.callS rfl (by first | exact True.intro | exact rfl) gSL rfl (ssd_Read_ae w2.w.sd (by omega) (fun e => by rw [e] at hll; simp at hll; omega) (Nat.le_trans hs.sd.kw (by omega)) (fun o ho => by have := hs.sd.w o ho; rw [sizeG_pos hs.g] at this; omega) (lfAt s.n a i) 32 (by omega)) ?_
    rw [show inB s.sd.lasts.length (lfAt s.n a i) 32 = true by
      have ha' : a = 0 ∨ a = 1 := by omega
      have hp : 0 ≤ lfAt s.n a i ∧ lfAt s.n a i + 32 ≤ s.n * 160 + 120 := by
        unfold lfAt; rcases ha' with rfl | rfl <;> omega
      rw [hll]; simp [inB]; omega]
    rw [Bool.true_and]
    cases hgo : s.pw.gone with
    | true =>
      have hrl0 : s.readL md a top = [] := by rw [WS.readL, WS.readE, hgo, if_pos rfl, if_neg (by decide)]
      have hre0 : s.readE md a top = 7 := by rw [WS.readE, hgo, if_pos rfl]
      have hrs0 : s.readS md a = s := by rw [WS.readS, hgo, if_pos rfl]
      rw [hrl0, hre0, hrs0]
      (refine go ?_)
      refine WW.cvt (Cvt.sub1 (s := 6) (v := .imm 8 []) rfl SubV.nil) ?_
      refine WW.ret ⟨.inl rfl, _, gRES, rfl, w2, g3.mono fun _ _ h => h.elim⟩
    | false =>
      simp only [Bool.not_false, if_true]
      (refine go ?_)
      have e8 : ((s.rows a (i + 1)).map encR) = ((s.rows a i).map encR) ++ [[.imm 1 ((s.row a i).map encB)]] := by
        rw [rows_succ, List.map_append]; rfl
      refine ⟨i + 1, ?_, ⟨(by repeat first | exact get_put_tl (by first | rfl | exact List.length_map _ | (simp; done) | (simp; omega)) | exact get_set_tl (by first | rfl | exact List.length_map _ | (simp; done) | (simp; omega)) | assumption | with_reducible apply get_put_neE (by omega) | with_reducible apply get_set_neE (by omega)), (by repeat first | exact get_put_tl (by first | rfl | exact List.length_map _ | (simp; done) | (simp; omega)) | exact get_set_tl (by first | rfl | exact List.length_map _ | (simp; done) | (simp; omega)) | assumption | with_reducible apply get_put_neE (by omega) | with_reducible apply get_set_neE (by omega)), (by repeat first | exact Kp.refl | assumption | with_reducible refine Kp.put ?_ (by omega) _ | with_reducible refine Kp.setN ?_ (by omega) _ | with_reducible refine Kp.keep ?_ _ | with_reducible refine Kp.setW ?_ (by rfl) _), (leN gN (by omega)), by omega, fun _ => True.intro⟩, by omega⟩
      rw [e8]
      exact gSUB
  · have hi : i = m := by omega
    subst hi
    have hgo : s.pw.gone = false := g6 (by omega)
    have hmi : s.n.toNat = i := by omega
    have hGl : isG ((s.rows a i).length : Nat) = true := by rw [hrl, ← hm]; exact hs.g
    have hrw : ∀ b ∈ s.rows a i, b.length ≤ 100000 := fun b hb => by
      obtain ⟨j, hj, rfl⟩ := List.mem_map.1 hb
      rw [row_len hs a ha j (by have := List.mem_range.1 hj; omega)]; omega
    have hrs0 : s.readS md a = { s with S := (buildF md (s.rows a i) s.S).2 } := by rw [WS.readS, hgo, hmi]; rfl
    have hre0 : s.readE md a top = if s.readT md a = top ∧ s.allG a i = true then 0 else 3 := by rw [WS.readE, hgo, hmi]; rfl
    have hNl : (buildF md (s.rows a i) s.S).1.length = 2 * i := by
      have := upF_len md ((s.rows a i).length - 1) (lfF md (s.rows a i) (s.rows a i).length (List.replicate (2 * (s.rows a i).length) (0, 0)) s.S).1 (lfF md (s.rows a i) (s.rows a i).length (List.replicate (2 * (s.rows a i).length) (0, 0)) s.S).2
      have h2 := lfF_len md (s.rows a i) (s.rows a i).length (List.replicate (2 * (s.rows a i).length) (0, 0)) s.S
      rw [buildF, this.1, h2.1, List.length_replicate, hrl]
    have hT : s.readT md a = (buildF md (s.rows a i) s.S).1.getD 1 (0, 0) := by rw [WS.readT, hmi]
    rw [hrs0]
    (refine go ?_)
    refine WL.call rfl (by first | exact True.intro | exact rfl) gSL (tree_Build_ae w2.g (Nat.le_trans hs.ss (by omega)) (s.rows a i) hGl hrw) ?_
    refine WL.named (fun h3 => WG md h3 n { s with S := (buildF md (s.rows a i) s.S).2 } ∧ Kp (n.own md) h h3 ∧ h3.get h.next = some (.mem 2 [encP top]) ∧ h3.get (h.next + 1) = some (.tail 0 i) ∧ h.next + 2 ≤ h3.next)
      ⟨w2.putS _, (g3.mono fun _ _ h => h.elim).trans (kp_s w2 _), get_set_neE (by omega) g1, get_set_neE (by omega) g2, next_le_set g4⟩ ?_
    clear w2 g1 g2 g3 g4 hob2
    rintro h3 ⟨w3, k3, g1, g2, g4⟩
    generalize hN : (buildF md (s.rows a i) s.S).1 = N at hNl hT ⊢
    have hT1 : s.readT md a = N[1]'(by omega) := by
      rw [hT, List.getD_eq_getElem?_getD, List.getElem?_eq_getElem (by omega)]; rfl
    (repeat first | refine WL.go ?_ | refine WW.seq ?_ | refine WW.reg ?_ | refine WL.nil ?_ | refine WW.skip ?_ | refine WW.block ?_ | refine WW.exit ?_ | refine WW.condT rfl ?_ | refine WW.condF rfl ?_ | refine WL.gox ?_ | refine thenN ?_ | refine blkN ?_)
    refine WW.dregX [] [] [] gN (by decide +kernel) ?_
    (refine go ?_)
    refine DW.go (hs := Stp.loadi rfl (map_at (List.getElem?_eq_getElem (show 1 < N.length by omega))) (by first | exact getC_at rfl rfl | exact getC_all rfl | exact getC_sub (Nat.le_of_ble_eq_true rfl) (by first | (simp only [putC, AV.cs, encP, encN, encI, encS, encA, List.take_succ_cons, List.take_zero, List.take_nil, List.drop_succ_cons, List.drop_zero, List.drop_nil, List.cons_append, List.nil_append, List.append_nil, List.length_cons, List.length_nil, Nat.zero_add, Nat.add_zero, Nat.reduceAdd]; exact rfl) | exact rfl) | exact getC_sub (by simp) (by first | (simp only [putC, AV.cs, encP, encN, encI, encS, encA, List.take_succ_cons, List.take_zero, List.take_nil, List.drop_succ_cons, List.drop_zero, List.drop_nil, List.cons_append, List.nil_append, List.append_nil, List.length_cons, List.length_nil, Nat.zero_add, Nat.add_zero, Nat.reduceAdd]; exact rfl) | exact rfl)) (by first | exact True.intro | exact rfl)) ?_
    (refine go ?_)
    have hbe : (!(fun r => N[1].fst == top.fst && r) ((fun r => N[1].snd == top.snd && r) true)) = !(N[1] == top) := by rw [← pr_beq]
    rw [hbe]
    (refine WW.ifB rfl (fun hz7 => ?_) (fun hz7 => ?_))
    · have hne : ¬ s.readT md a = top := fun e => by rw [hT1] at e; simp [e] at hz7
      have hE : s.readE md a top = 3 := by rw [hre0, if_neg (fun h => hne h.1)]
      have hL : s.readL md a top = [] := by rw [WS.readL, hE, if_neg (by decide)]
      rw [hE, hL]
      (refine go ?_)
      refine WW.cvt (Cvt.sub1 (s := 6) (v := .imm 8 []) rfl SubV.nil) ?_
      refine WW.ret ⟨.inl rfl, _, gRES, rfl, w3, k3⟩
    · have heq : s.readT md a = top := by rw [hT1]; simpa using hz7
      (refine go ?_)
      refine WW.cvt (Cvt.adopt 8 (s := 14) rfl gN) ?_
      refine WW.cvt (Cvt.sub1 (s := 71) rfl SubV.app) ?_
      have hrowj : ∀ j (hj : j < (s.rows a i).length), (s.rows a i)[j] = s.row a j := fun j hj => by simp [WS.rows]
      refine WW.loopE (fun (j : Nat) => [(14, some (.app h3.next 0 8 ((s.leaves a j).map encL))), (71, some (.imm 1 ((s.rows a i).map encR))), (72, some (.int .i64 (s.rows a i).length)), (73, some (.int .i64 j))])
        (fun j h' => h'.get h3.next = some (.tail 0 j) ∧ Kp (fun _ => False) h3 h' ∧ h3.next + 1 ≤ h'.next ∧ j ≤ i ∧ s.allG a j = true) (fun j => i - j) 0 gSUB ⟨gH, (by repeat first | exact Kp.refl | assumption | with_reducible refine Kp.put ?_ (by omega) _ | with_reducible refine Kp.setN ?_ (by omega) _ | with_reducible refine Kp.keep ?_ _ | with_reducible refine Kp.setW ?_ (by rfl) _), (leN gN (by omega)), Nat.zero_le _, rfl⟩ ?_
      rintro j h' ⟨f1, f2, f3, f4, f5⟩
      obtain ⟨nx, hnx⟩ : ∃ nx, h'.next = nx := ⟨_, rfl⟩
      have w4 := w3.new f2
      have k4 : Kp (n.own md) h h' := k3.trans (f2.mono fun _ _ h => h.elim)
      have hlj : (s.leaves a j).length = j := by simp [WS.leaves]
      (refine go ?_)
      (refine WW.ifB rfl (fun hz8 => ?_) (fun hz8 => ?_))
      · have hj : j < i := by omega
        have hj2 : j < (s.rows a i).length := by omega
        have hrj := hrowj j hj2
        have hL := leaf_Get_ae (s.row a j) (by rw [row_len hs a ha j (by omega)]; omega) (j : Int) (by omega)
        rw [← hrj] at hL
        (refine go ?_)
        refine WL.call rfl (by first | exact True.intro | exact rfl) gSL (hL _) ?_
        rw [hrj]
        cases hG : leafG (s.row a j) j with
        | false =>
          have hA : s.allG a i = false := by
            rw [Bool.eq_false_iff]; intro h
            rw [WS.allG, List.all_eq_true] at h
            have := h j (List.mem_range.2 hj)
            rw [hG] at this; cases this
          have hE : s.readE md a top = 3 := by rw [hre0, if_neg (fun h => by rw [hA] at h; simp at h)]
          have hLL : s.readL md a top = [] := by rw [WS.readL, hE, if_neg (by decide)]
          rw [hE, hLL]
          (refine go ?_)
          refine WW.cvt (Cvt.sub1 (s := 6) (v := .imm 8 []) rfl SubV.nil) ?_
          refine WW.ret ⟨.inl rfl, _, gRES, rfl, w4.kp (W := fun _ => False) (by repeat first | exact Kp.refl | assumption | with_reducible refine Kp.put ?_ (by omega) _ | with_reducible refine Kp.setN ?_ (by omega) _ | with_reducible refine Kp.keep ?_ _ | with_reducible refine Kp.setW ?_ (by rfl) _) (fun _ _ h => h), ?_⟩
          exact k4.trans (((by repeat first | exact Kp.refl | assumption | with_reducible refine Kp.put ?_ (by omega) _ | with_reducible refine Kp.setN ?_ (by omega) _ | with_reducible refine Kp.keep ?_ _ | with_reducible refine Kp.setW ?_ (by rfl) _) : Kp (fun _ => False) h' _).mono fun _ _ h => h.elim)
        | true =>
          simp only [if_true]
          (refine go ?_)
          have e8 : ((s.leaves a (j + 1)).map encL) = ((s.leaves a j).map encL) ++ [encL (leafD (s.row a j) j)] := by
            rw [leaves_succ, List.map_append]; rfl
          refine ⟨j + 1, ?_, ⟨(by repeat first | exact get_put_tl (by first | rfl | exact List.length_map _ | (simp; done) | (simp; omega)) | exact get_set_tl (by first | rfl | exact List.length_map _ | (simp; done) | (simp; omega)) | assumption | with_reducible apply get_put_neE (by omega) | with_reducible apply get_set_neE (by omega)), (by repeat first | exact Kp.refl | assumption | with_reducible refine Kp.put ?_ (by omega) _ | with_reducible refine Kp.setN ?_ (by omega) _ | with_reducible refine Kp.keep ?_ _ | with_reducible refine Kp.setW ?_ (by rfl) _), (leN gN (by omega)), by omega, ?_⟩, by omega⟩
          · rw [e8]
            exact gSUB
          · rw [WS.allG, List.range_succ, List.all_append, Bool.and_eq_true]
            exact ⟨f5, by simpa using hG⟩
      · have hj : j = i := by omega
        subst hj
        have hE : s.readE md a top = 0 := by rw [hre0, if_pos ⟨heq, f5⟩]
        have hLL : s.readL md a top = s.leaves a j := by rw [WS.readL, if_pos hE, hmi]
        rw [hE, hLL]
        (refine go ?_)
        refine WW.cvt (Cvt.sub1 (s := 6) rfl SubV.app) ?_
        refine WW.ret ⟨.inl rfl, _, gRES, rfl, w4, k4⟩
end Go.Proofs.Ytjehfcjfnmcjcaa


namespace Go.Proofs.Ytjehfcjfnmcjcaa
open Go Go.Abs

/-- The way up: the sum, what was summed. -/
def ckF (md : Bool) : List Pr → Nat → Pr → List Bs → Pr × List Bs
  | [], _, p, S => (p, S)
  | x :: r, i, p, S => ckF md r (i / 2) (gP md S (if i % 2 = 1 then nodeK x p else nodeK p x)) (gS md S (if i % 2 = 1 then nodeK x p else nodeK p x))
theorem shl_one {n : Nat} (hn : n ≤ 60) : shA .shl .i64 1 (n : Int) = some (.int .i64 ((2 ^ n : Nat) : Int)) := by
  have h0 : (0 : Int) ≤ (n : Int) := Int.natCast_nonneg _
  show req (0 ≤ (n : Int)) _ = _
  rw [req_pos h0]
  have h1 : min ((n : Int).toNat) IntKind.i64.bits = n := by
    have : IntKind.i64.bits = 64 := rfl
    rw [this]; simp; omega
  have h2 : (2 : Nat) ^ n ≤ 2 ^ 60 := Nat.pow_le_pow_right (by decide) hn
  have h3 : ((1 : Int) * 2 ^ n) = ((2 ^ n : Nat) : Int) := by simp
  rw [h1, h3]
  generalize 2 ^ n = m at *
  have h4 : m ≤ 1152921504606846976 := h2
  rw [wrap_in (by constructor <;> omega)]
def ckOk (slots i : Int) (n : Nat) : Bool := isG slots && decide (0 ≤ i) && decide (i < slots) && decide (slots = ((2 ^ n : Nat) : Int))
set_option maxHeartbeats 4000000 in
theorem path_Check_ae {md : Bool} {h : AHeap} {l s : Nat} {S : List Bs} (hl : GAt md h l s S) (hS : S.length ≤ 10000) (slots i : Nat) (b : Bs) (hb : b.length ≤ 100000) (q : List Pr) (hq : q.length ≤ 60) (top : Pr) (hok : ckOk slots i q.length = true) :
    AE Try.prog 98 [.ptr l 0 0, .int .i64 slots, .int .i64 i, .imm 1 (b.map encB), .imm 2 (q.map encP), .agg (encP top)] h (.bool ((ckF md q i (gP md S (leafK b)) (gS md S (leafK b))).1 == top)) (h.set s (gO md (ckF md q i (gP md S (leafK b)) (gS md S (leafK b))).2)) := by
  have hk : isG slots = true ∧ i < slots ∧ slots = 2 ^ q.length := by
    simp [ckOk] at hok
    obtain ⟨⟨h1, h2⟩, h3⟩ := hok
    exact ⟨h1, h2, by exact_mod_cast h3⟩
  obtain ⟨hG, hi, hn⟩ := hk
  have hsl : slots ≤ 16 := by simp [isG] at hG; omega
  refine AE.wfU fun hwu => ?_
  obtain ⟨w1, w4, w5, w6⟩ := hl.lt
  refine AE.effW is_path_Check (by simp) (hl.ext hwu _) ?_
  unfold c_path_Check
  (refine go ?_)
  refine WL.call rfl (by first | exact True.intro | exact rfl) gSL (geom_Is_ae _ _) ?_
  (refine go ?_)
  (apply WL.orB; exact rfl; exact rfl; exact rfl; exact BP.of; intro hz1)
  · (repeat first | (apply GW.goS; exact Stp.auto) | apply GW.nil | exact rfl)
  (refine go ?_)
  (apply WL.orB; exact rfl; exact rfl; exact rfl; exact BP.of; intro hz2)
  · (repeat first | (apply GW.goS; exact Stp.auto) | apply GW.nil | exact rfl)
  (refine go ?_)
  (apply WL.orB; exact rfl; exact rfl; exact rfl; exact BP.of; intro hz3)
  · iterate 3 (apply GW.goS; exact Stp.auto)
    apply GW.goS
    · exact Stp.sh rfl rfl (shl_one hq) (by first | exact True.intro | exact rfl)
    (repeat first | (apply GW.goS; exact Stp.auto) | apply GW.nil | exact rfl)
  (refine go ?_)
  (refine WW.ifB rfl (fun hz4 => ?_) (fun hz4 => ?_))
  · exfalso
    rw [← hn] at hz4
    simp [hG] at hz4
    omega
  (refine go ?_)
  have hcon := lock_SumG_ae (h := h.put h.next (.mem 2 [encP top])) (hl.frame hwu gKB gH) (by omega) [[0], b] (by simp) (by simp; omega)
  rw [show [[(0 : UInt8)], b].flatten = leafK b by simp [leafK]] at hcon
  refine WL.call rfl (by first | exact True.intro | exact rfl) gSL (hcon) ?_
  (refine go ?_)
  refine WW.loopE (fun (r : Nat × Nat × Pr × List Bs) => [(0, some (.ptr l 0 0)), (2, some (.int .i64 r.2.1)), (11, some (.ptr h.next 0 0)), (13, some (.ptr (h.next + 1) 0 0)), (42, some (.imm 2 (q.map encP))), (43, some (.int .i64 q.length)), (44, some (.int .i64 r.1))])
    (fun r h' => h'.get h.next = some (.mem 2 [encP top]) ∧ h'.get (h.next + 1) = some (.mem 2 [encP r.2.2.1]) ∧ h'.get s = gO md r.2.2.2 ∧ KeepsB [s] h h' ∧ h.next + 2 ≤ h'.next ∧ r.1 ≤ q.length ∧ r.2.1 ≤ slots ∧ r.2.2.2.length ≤ S.length + 1 + r.1 ∧ ckF md (q.drop r.1) r.2.1 r.2.2.1 r.2.2.2 = ckF md q i (gP md S (leafK b)) (gS md S (leafK b)))
    (fun r => q.length - r.1) (0, i, gP md S (leafK b), gS md S (leafK b)) gSUB ⟨gH, gH, gH, gKB, (leN gN (by omega)), Nat.zero_le _, by dsimp only; omega, by have := gS_le md S (leafK b); dsimp only; omega, by simp⟩ ?_
  rintro ⟨j, i2, p, S2⟩ h' ⟨g1, g2, g3, g4, g5, c1, c2, c3, c4⟩
  dsimp only at g1 g2 g3 g4 g5 c1 c2 c3 c4 ⊢
  obtain ⟨nx, hnx⟩ : ∃ nx, h'.next = nx := ⟨_, rfl⟩
  (refine go ?_)
  (refine WW.ifB rfl (fun hz5 => ?_) (fun hz5 => ?_))
  · have hj : j < q.length := by omega
    (repeat first | refine WL.go ?_ | refine WW.seq ?_ | refine WW.reg ?_ | refine WL.nil ?_ | refine WW.skip ?_ | refine WW.block ?_ | refine WW.exit ?_ | refine WW.condT rfl ?_ | refine WW.condF rfl ?_ | refine WL.gox ?_ | refine thenN ?_ | refine blkN ?_)
    refine WW.named (fun h5 => h5.get h.next = some (.mem 2 [encP top]) ∧ h5.get (h.next + 1) = some (.mem 2 [encP p]) ∧ h5.get s = gO md S2 ∧ h5.get nx = some (.mem 2 [encP q[j]]) ∧ KeepsB [s] h h5 ∧ h5.next = nx + 1) ⟨gH, gH, gH, gH, gKB, gN⟩ ?_
    clear g1 g2 g3 g4
    rintro h5 ⟨g1, g2, g3, g6, g4, hn5⟩
    refine WW.dregA [2, 3] [4, 5] [] [0, 1] [] gN (by decide +kernel) ?_
    (repeat first | refine DA.go ?_ | refine DA.goF ?_ | refine DA.new ?_ | refine DA.set ?_ | refine DA.endL ?_ | refine thenN ?_ | refine blkN ?_)
    refine WW.named (fun h6 => h6.get h.next = some (.mem 2 [encP top]) ∧ h6.get (h.next + 1) = some (.mem 2 [encP p]) ∧ h6.get s = gO md S2 ∧ h6.get nx = some (.mem 2 [encP q[j]]) ∧ h6.get (nx + 1) = some (.mem 2 [encP p]) ∧ h6.get (nx + 2) = some (.mem 2 [encP q[j]]) ∧ KeepsB [s] h h6 ∧ h6.next = nx + 3) ⟨gH, gH, gH, gH, gH, gH, gKB, next_setE (next_setE (next_putK (by omega) (next_putK (by omega) (next_keepE hn5))))⟩ ?_
    clear g1 g2 g3 g4 g6 hn5
    rintro h6 ⟨g1, g2, g3, g6, g7, g8, g4, hn6⟩
    refine WW.seqM (fun e7 h7 => subE [(0, some (.ptr l 0 0)), (2, some (.int .i64 i2)), (11, some (.ptr h.next 0 0)), (13, some (.ptr (h.next + 1) 0 0)), (16, some (.ptr (nx + 1) 0 0)), (17, some (.ptr (nx + 2) 0 0)), (42, some (.imm 2 (q.map encP))), (43, some (.int .i64 q.length)), (44, some (.int .i64 j))] e7 ∧
      h7.get h.next = some (.mem 2 [encP top]) ∧ h7.get (h.next + 1) = some (.mem 2 [encP p]) ∧ h7.get s = gO md S2 ∧ h7.get (nx + 1) = some (.mem 2 [encP (if i2 % 2 = 1 then q[j] else p)]) ∧ h7.get (nx + 2) = some (.mem 2 [encP (if i2 % 2 = 1 then p else q[j])]) ∧ KeepsB [s] h h7 ∧ h7.next = nx + 3) ?_ ?_
    · (refine go ?_)
      (refine WW.ifB rfl (fun hz6 => ?_) (fun hz6 => ?_))
      · have hp : i2 % 2 = 1 := by omega
        (repeat first | refine WL.go ?_ | refine WW.seq ?_ | refine WW.reg ?_ | refine WL.nil ?_ | refine WW.skip ?_ | refine WW.block ?_ | refine WW.exit ?_ | refine WW.condT rfl ?_ | refine WW.condF rfl ?_ | refine WL.gox ?_ | refine thenN ?_ | refine blkN ?_)
        refine WW.dregX [2, 3] [0, 1] [nx + 1, nx + 2] gN (by decide +kernel) ?_
        (refine go ?_)
        rw [if_pos hp, if_pos hp]
        exact ⟨rfl, gSUB, gH, gH, gH, gH, gH, gKB, gN⟩
      · have hp : ¬ i2 % 2 = 1 := by omega
        (refine go ?_)
        rw [if_neg hp, if_neg hp]
        exact ⟨rfl, gSUB, gH, gH, gH, gH, gH, gKB, gN⟩
    · clear g1 g2 g3 g4 g6 g7 g8 hn6
      rintro e7 h7 ⟨hs7, g1, g2, g3, g7, g8, g4, hn7⟩
      refine WW.cvt (Cvt.sub hs7) ?_
      have hkey : nodeK (if i2 % 2 = 1 then q[j] else p) (if i2 % 2 = 1 then p else q[j]) = (if i2 % 2 = 1 then nodeK q[j] p else nodeK p q[j]) := by split <;> rfl
      generalize (if i2 % 2 = 1 then q[j] else p) = x1 at *
      generalize (if i2 % 2 = 1 then p else q[j]) = x2 at *
      (repeat first | refine WL.go ?_ | refine WW.seq ?_ | refine WW.reg ?_ | refine WL.nil ?_ | refine WW.skip ?_ | refine WW.block ?_ | refine WW.exit ?_ | refine WW.condT rfl ?_ | refine WW.condF rfl ?_ | refine WL.gox ?_ | refine thenN ?_ | refine blkN ?_)
      refine WW.dregX [7, 8] [] [s, h.next + 1] gN (by decide +kernel) ?_
      (refine go ?_)
      refine DW.callS rfl (by first | exact True.intro | exact rfl) gSL rfl (wire_Bytes_ae x1 _) ?_
      (refine go ?_)
      refine DW.callS rfl (by first | exact True.intro | exact rfl) gSL rfl (wire_Bytes_ae x2 _) ?_
      (refine go ?_)
      have hcon := lock_SumG_ae (h := h7) (hl.frame hwu g4 g3) (by omega) [[1], pairB x1, pairB x2] (by simp) (by simp [pairB_len])
      rw [show [[(1 : UInt8)], pairB x1, pairB x2].flatten = nodeK x1 x2 by simp [nodeK], hkey] at hcon
      generalize hkk : (if i2 % 2 = 1 then nodeK q[j] p else nodeK p q[j]) = kk at *
      refine DW.callSW rfl (by first | exact True.intro | exact rfl) gSL rfl rfl (fun hp => by repeat first | exact hp | refine PhiW.put (by omega) ?_ | refine PhiW.setN (by omega) ?_ | refine PhiW.setW (by simp; done) ?_) (hcon) ?_
      (refine go ?_)
      refine ⟨(j + 1, i2 / 2, gP md S2 kk, gS md S2 kk), gSUB, ⟨gH, gH, gH, gKB, (leN gN (by omega)), by dsimp only; omega, by dsimp only; omega, ?_, ?_⟩, by dsimp only; omega⟩
      · have := gS_le md S2 kk; dsimp only; omega
      · rw [← c4, List.drop_eq_getElem_cons hj, ckF, hkk]
  · have hj : j = q.length := by omega
    subst hj
    simp only [List.drop_length, ckF] at c4
    (refine go ?_)
    rw [← c4]
    refine WW.ret (EffQ.finD ?_ ?_)
    · exact KeepsB_finO g4 g3
    · exact fz_b (by rw [← pr_beq])
end Go.Proofs.Ytjehfcjfnmcjcaa


namespace Go.Proofs.Ytjehfcjfnmcjcaa
open Go Go.Abs

/-- S comes behind S0: what was summed has its number still. -/
def Pre (S0 S : List Bs) : Prop := ∃ R, S = S0 ++ R
theorem Pre.refl (S : List Bs) : Pre S S := ⟨[], by simp⟩
theorem Pre.trans {A B C : List Bs} (h1 : Pre A B) (h2 : Pre B C) : Pre A C := by
  obtain ⟨R, rfl⟩ := h1; obtain ⟨R', rfl⟩ := h2; exact ⟨R ++ R', by simp⟩
theorem sumS_pre (S : List Bs) (k : Bs) : Pre S (sumS S k) := by
  unfold sumS; split
  · exact Pre.refl _
  · exact ⟨_, rfl⟩
theorem idxS_app (k : Bs) : ∀ (S R : List Bs) (m : Nat), idxS k S = some m → idxS k (S ++ R) = some m
  | [], _, _, h => by simp [idxS] at h
  | s :: S, R, m, h => by
    simp only [idxS, List.cons_append] at h ⊢
    split
    · rename_i e; rw [if_pos e] at h; exact h
    · rename_i e
      rw [if_neg e] at h
      cases hi : idxS k S with
      | none => rw [hi] at h; simp at h
      | some j => rw [hi] at h; rw [idxS_app k S R j hi]; exact h
theorem idxS_snoc (k : Bs) : ∀ (S : List Bs), idxS k S = none → idxS k (S ++ [k]) = some S.length
  | [], _ => by simp [idxS]
  | s :: S, h => by
    simp only [idxS, List.cons_append] at h ⊢
    split
    · rename_i e; rw [if_pos e] at h; cases h
    · rename_i e
      rw [if_neg e] at h
      cases hi : idxS k S with
      | none => rw [idxS_snoc k S hi]; simp
      | some j => rw [hi] at h; simp at h
/-- Behind its sum a key is there, with that number. -/
theorem sum_there (S : List Bs) (k : Bs) : ∃ m, idxS k (sumS S k) = some m ∧ sumN S k = m + 1 := by
  unfold sumS sumN
  cases hi : idxS k S with
  | some m => exact ⟨m, by simp [hi], by simp⟩
  | none => exact ⟨S.length, by simp [idxS_snoc k S hi], by simp⟩
theorem idxS_inj {a b : Bs} : ∀ {S : List Bs} {m : Nat}, idxS a S = some m → idxS b S = some m → a = b
  | [], _, h, _ => by simp [idxS] at h
  | s :: S, m, h1, h2 => by
    simp only [idxS] at h1 h2
    split at h1
    · rename_i e
      split at h2
      · rename_i e2; rw [e, e2]
      · cases h1
        cases hi : idxS b S with
        | none => rw [hi] at h2; simp at h2
        | some j => rw [hi] at h2; simp at h2
    · split at h2
      · cases h2
        cases hi : idxS a S with
        | none => rw [hi] at h1; simp at h1
        | some j => rw [hi] at h1; simp at h1
      · cases hi : idxS a S with
        | none => rw [hi] at h1; simp at h1
        | some j =>
          cases hj : idxS b S with
          | none => rw [hj] at h2; simp at h2
          | some j' =>
            rw [hi] at h1; rw [hj] at h2
            simp at h1 h2
            exact idxS_inj hi (by rw [hj]; congr 1; omega)
/-- p is k's sum, as far as S knows. -/
def IsSum (S : List Bs) (k : Bs) (p : Pr) : Prop := ∃ m, idxS k S = some m ∧ p = (eees, ((m + 1 : Nat) : Int))
theorem IsSum.pre {S S' : List Bs} {k : Bs} {p : Pr} (h : IsSum S k p) (hp : Pre S S') : IsSum S' k p := by
  obtain ⟨m, h1, h2⟩ := h; obtain ⟨R, rfl⟩ := hp
  exact ⟨m, idxS_app k S R m h1, h2⟩
theorem isSum_sum (S : List Bs) (k : Bs) : IsSum (sumS S k) k (sumP S k) := by
  obtain ⟨m, h1, h2⟩ := sum_there S k
  exact ⟨m, h1, by rw [sumP, h2]⟩
theorem IsSum.inj {S : List Bs} {a b : Bs} {p : Pr} (h1 : IsSum S a p) (h2 : IsSum S b p) : a = b := by
  obtain ⟨m, h1, rfl⟩ := h1
  obtain ⟨m', h2, e⟩ := h2
  have : m = m' := by simp at e; omega
  subst this
  exact idxS_inj h1 h2
theorem IsSum.fn {S : List Bs} {a : Bs} {p q : Pr} (h1 : IsSum S a p) (h2 : IsSum S a q) : p = q := by
  obtain ⟨m, h1, rfl⟩ := h1
  obtain ⟨m', h2, rfl⟩ := h2
  rw [h1] at h2; cases h2; rfl
theorem IsSum.rng {S : List Bs} {a : Bs} {p : Pr} (h : IsSum S a p) : p.1 = eees ∧ 0 ≤ p.2 ∧ p.2 ≤ S.length := by
  obtain ⟨m, h1, rfl⟩ := h
  have : ∀ (S : List Bs) (m : Nat), idxS a S = some m → m < S.length := by
    intro S
    induction S with
    | nil => intro m h; simp [idxS] at h
    | cons s S ih =>
      intro m h
      simp only [idxS] at h
      split at h
      · cases h; simp
      · cases hi : idxS a S with
        | none => rw [hi] at h; simp at h
        | some j => rw [hi] at h; have := ih j hi; simp at h; simp; omega
  have := this S m h1
  exact ⟨rfl, by simp; omega, by simp; omega⟩
theorem putB8_inj {v w : Int} (hv : 0 ≤ v ∧ v < 18446744073709551616) (hw : 0 ≤ w ∧ w < 18446744073709551616) (h : putB v 8 = putB w 8) : v = w := by
  have h2 : ∀ i, i < 8 → (v / 2 ^ (8 * (8 - 1 - i))) % 256 = (w / 2 ^ (8 * (8 - 1 - i))) % 256 := by
    intro i hi
    have h3 := congrArg (fun l => l[i]?) h
    simp only [putB, show ¬ ((8 : Nat) < 1 ∨ 8 < 8) by decide, if_false, List.getElem?_map, List.getElem?_range hi, Option.map_some, Option.some.injEq, byteOf] at h3
    have h4 := congrArg UInt8.toNat h3
    rw [UInt8.toNat_ofNat', UInt8.toNat_ofNat'] at h4
    have h5 := Int.emod_nonneg (v / 2 ^ (8 * (8 - 1 - i))) (show (256 : Int) ≠ 0 by decide)
    have h6 := Int.emod_lt_of_pos (v / 2 ^ (8 * (8 - 1 - i))) (show (0 : Int) < 256 by decide)
    have h7 := Int.emod_nonneg (w / 2 ^ (8 * (8 - 1 - i))) (show (256 : Int) ≠ 0 by decide)
    have h8 := Int.emod_lt_of_pos (w / 2 ^ (8 * (8 - 1 - i))) (show (0 : Int) < 256 by decide)
    omega
  have a0 := h2 0 (by decide); have a1 := h2 1 (by decide); have a2 := h2 2 (by decide); have a3 := h2 3 (by decide)
  have a4 := h2 4 (by decide); have a5 := h2 5 (by decide); have a6 := h2 6 (by decide); have a7 := h2 7 (by decide)
  simp only [Nat.reduceSub, Nat.reduceMul, Nat.sub_zero, Int.reducePow] at a0 a1 a2 a3 a4 a5 a6 a7
  omega
def Wfp (p : Pr) : Prop := (0 ≤ p.1 ∧ p.1 < 18446744073709551616) ∧ (0 ≤ p.2 ∧ p.2 < 18446744073709551616)
theorem pairB_inj {p q : Pr} (hp : Wfp p) (hq : Wfp q) (h : pairB p = pairB q) : p = q := by
  obtain ⟨h1, h2⟩ := List.append_inj h (by simp)
  exact Prod.ext (putB8_inj hp.1 hq.1 h1) (putB8_inj hp.2 hq.2 h2)
theorem nodeK_inj {a b c d : Pr} (ha : Wfp a) (hb : Wfp b) (hc : Wfp c) (hd : Wfp d) (h : nodeK a b = nodeK c d) : a = c ∧ b = d := by
  simp only [nodeK, List.cons.injEq, true_and] at h
  obtain ⟨h1, h2⟩ := List.append_inj h (by simp [pairB_len])
  exact ⟨pairB_inj ha hc h1, pairB_inj hb hd h2⟩
theorem leafK_inj {a b : Bs} (h : leafK a = leafK b) : a = b := by simpa [leafK] using h
theorem IsSum.wf {S : List Bs} {a : Bs} {p : Pr} (h : IsSum S a p) (hS : S.length ≤ 1000000) : Wfp p := by
  obtain ⟨h1, h2, h3⟩ := h.rng
  exact ⟨by rw [h1]; decide, by omega, by omega⟩

/-- By either lock: p is k's sum, as far as S knows. -/
def IsG (md : Bool) (S : List Bs) (k : Bs) (p : Pr) : Prop := match md with | true => IsSum S k p | false => p = digestF k
theorem gS_pre (md : Bool) (S : List Bs) (k : Bs) : Pre S (gS md S k) := by
  cases md
  · exact Pre.refl _
  · exact sumS_pre S k
theorem IsG.pre {md : Bool} {S S' : List Bs} {k : Bs} {p : Pr} (h : IsG md S k p) (hp : Pre S S') : IsG md S' k p := by
  cases md
  · exact h
  · exact IsSum.pre h hp
theorem isG_sum (md : Bool) (S : List Bs) (k : Bs) : IsG md (gS md S k) k (gP md S k) := by
  cases md
  · exact rfl
  · exact isSum_sum S k
theorem IsG.fn {md : Bool} {S : List Bs} {a : Bs} {p q : Pr} (h1 : IsG md S a p) (h2 : IsG md S a q) : p = q := by
  cases md
  · exact Eq.trans h1 (Eq.symm h2)
  · exact IsSum.fn h1 h2

abbrev nd (N : List Pr) (i : Nat) : Pr := N.getD i (0, 0)
theorem nd_set {N : List Pr} {i j : Nat} {p : Pr} : nd (N.set i p) j = if i = j ∧ j < N.length then p else nd N j := by
  simp only [nd, List.getD_eq_getElem?_getD, List.getElem?_set]
  by_cases h : i = j
  · subst h
    by_cases h2 : i < N.length
    · simp [h2]
    · simp [h2]
  · simp [h]
/-- The nodes N are the tree of leaves lv, as far as S knows. -/
structure Tree (md : Bool) (S : List Bs) (lv : List Bs) (N : List Pr) : Prop where
  len : N.length = 2 * lv.length
  leaf : ∀ i (hi : i < lv.length), IsG md S (leafK lv[i]) (nd N (lv.length + i))
  node : ∀ j, 1 ≤ j → j < lv.length → IsG md S (nodeK (nd N (2 * j)) (nd N (2 * j + 1))) (nd N j)
theorem Tree.pre {md : Bool} {S S' : List Bs} {lv : List Bs} {N : List Pr} (h : Tree md S lv N) (hp : Pre S S') : Tree md S' lv N :=
  ⟨h.len, fun i hi => (h.leaf i hi).pre hp, fun j h1 h2 => (h.node j h1 h2).pre hp⟩
theorem lfF_tree (md : Bool) : ∀ (r : List Bs) (k : Nat) (N : List Pr) (S : List Bs), k + r.length ≤ N.length → Pre S (lfF md r k N S).2 ∧ (∀ j, j < k → nd (lfF md r k N S).1 j = nd N j) ∧ ∀ i (hi : i < r.length), IsG md (lfF md r k N S).2 (leafK r[i]) (nd (lfF md r k N S).1 (k + i))
  | [], _, _, S, _ => ⟨Pre.refl _, fun _ _ => rfl, fun i hi => absurd hi (by simp)⟩
  | b :: r, k, N, S, hk => by
    simp only [List.length_cons] at hk
    obtain ⟨h1, h2, h3⟩ := lfF_tree md r (k + 1) (N.set k (gP md S (leafK b))) (gS md S (leafK b)) (by simp; omega)
    simp only [lfF]
    refine ⟨(gS_pre md _ _).trans h1, fun j hj => ?_, fun i hi => ?_⟩
    · rw [h2 j (by omega), nd_set, if_neg (by omega)]
    · cases i with
      | zero =>
        rw [show k + 0 = k from rfl, h2 k (by omega), nd_set, if_pos ⟨rfl, by omega⟩]
        exact (isG_sum md S (leafK b)).pre h1
      | succ i =>
        have := h3 i (by simpa using hi)
        rw [show k + 1 + i = k + (i + 1) by omega] at this
        exact this
theorem upF_tree (md : Bool) : ∀ (i : Nat) (N : List Pr) (S : List Bs), i < N.length → Pre S (upF md i N S).2 ∧ (∀ j, i < j → nd (upF md i N S).1 j = nd N j) ∧ ∀ j, 1 ≤ j → j ≤ i → IsG md (upF md i N S).2 (nodeK (nd (upF md i N S).1 (2 * j)) (nd (upF md i N S).1 (2 * j + 1))) (nd (upF md i N S).1 j)
  | 0, _, S, _ => ⟨Pre.refl _, fun _ _ => rfl, fun j h1 h2 => absurd h1 (by omega)⟩
  | i + 1, N, S, hi => by
    obtain ⟨h1, h2, h3⟩ := upF_tree md i (N.set (i + 1) (gP md S (kidK N (i + 1)))) (gS md S (kidK N (i + 1))) (by simp; omega)
    simp only [upF]
    refine ⟨(gS_pre md _ _).trans h1, fun j hj => ?_, fun j j1 j2 => ?_⟩
    · rw [h2 j (by omega), nd_set, if_neg (by omega)]
    · by_cases e : j = i + 1
      · subst e
        rw [h2 (i + 1) (by omega), h2 (2 * (i + 1)) (by omega), h2 (2 * (i + 1) + 1) (by omega), nd_set (j := 2 * (i + 1)), if_neg (by omega), nd_set (j := 2 * (i + 1) + 1), if_neg (by omega), nd_set (j := i + 1), if_pos ⟨rfl, hi⟩]
        exact (isG_sum md S (kidK N (i + 1))).pre h1
      · exact h3 j j1 (by omega)
theorem buildF_tree (md : Bool) (lv : List Bs) (S : List Bs) (hl : 1 ≤ lv.length) : Pre S (buildF md lv S).2 ∧ Tree md (buildF md lv S).2 lv (buildF md lv S).1 := by
  have l1 := lfF_len md lv lv.length (List.replicate (2 * lv.length) (0, 0)) S
  obtain ⟨a1, a2, a3⟩ := lfF_tree md lv lv.length (List.replicate (2 * lv.length) (0, 0)) S (by simp; omega)
  unfold buildF
  generalize lfF md lv lv.length (List.replicate (2 * lv.length) (0, 0)) S = q at *
  simp only [List.length_replicate] at l1
  have l2 := upF_len md (lv.length - 1) q.1 q.2
  obtain ⟨b1, b2, b3⟩ := upF_tree md (lv.length - 1) q.1 q.2 (by omega)
  refine ⟨a1.trans b1, ⟨by omega, fun i hi => ?_, fun j h1 h2 => b3 j h1 (by omega)⟩⟩
  rw [b2 _ (by omega)]
  exact (a3 i hi).pre b1
theorem buildF_len (md : Bool) (lv : List Bs) (S : List Bs) : (buildF md lv S).1.length = 2 * lv.length ∧ (buildF md lv S).2.length ≤ S.length + 2 * lv.length := by
  have l1 := lfF_len md lv lv.length (List.replicate (2 * lv.length) (0, 0)) S
  unfold buildF
  generalize lfF md lv lv.length (List.replicate (2 * lv.length) (0, 0)) S = q at *
  simp only [List.length_replicate] at l1
  have l2 := upF_len md (lv.length - 1) q.1 q.2
  omega
/-- One top, one tree. -/
theorem Tree.one {S : List Bs} {a b : List Bs} {N M : List Pr} (hS : S.length ≤ 1000000) (hN : Tree true S a N) (hM : Tree true S b M) (hl : a.length = b.length) (ht : nd N 1 = nd M 1) : ∀ j, 1 ≤ j → j < 2 * a.length → nd N j = nd M j := by
  have wN : ∀ j, 1 ≤ j → j < 2 * a.length → Wfp (nd N j) := fun j h1 h2 => by
    by_cases h : j < a.length
    · exact (hN.node j h1 h).wf hS
    · have := hN.leaf (j - a.length) (by omega)
      rw [show a.length + (j - a.length) = j by omega] at this
      exact this.wf hS
  have wM : ∀ j, 1 ≤ j → j < 2 * a.length → Wfp (nd M j) := fun j h1 h2 => by
    by_cases h : j < a.length
    · exact (hM.node j h1 (by omega)).wf hS
    · have := hM.leaf (j - a.length) (by omega)
      rw [show b.length + (j - a.length) = j by omega] at this
      exact this.wf hS
  intro j
  induction j using Nat.strongRecOn with
  | ind j ih =>
    intro h1 h2
    by_cases e : j = 1
    · rw [e]; exact ht
    · have hp := ih (j / 2) (by omega) (by omega) (by omega)
      have k1 := hN.node (j / 2) (by omega) (by omega)
      have k2 := hM.node (j / 2) (by omega) (by omega)
      rw [hp] at k1
      obtain ⟨e1, e2⟩ := nodeK_inj (wN _ (by omega) (by omega)) (wN _ (by omega) (by omega)) (wM _ (by omega) (by omega)) (wM _ (by omega) (by omega)) (k1.inj k2)
      rcases Nat.mod_two_eq_zero_or_one j with hm | hm
      · rw [show j = 2 * (j / 2) by omega]; exact e1
      · rw [show j = 2 * (j / 2) + 1 by omega]; exact e2
theorem Tree.leaves {S : List Bs} {a b : List Bs} {N M : List Pr} (hS : S.length ≤ 1000000) (hN : Tree true S a N) (hM : Tree true S b M) (hl : a.length = b.length) (ha : 1 ≤ a.length) (ht : nd N 1 = nd M 1) : a = b := by
  have key := Tree.one hS hN hM hl ht
  refine List.ext_getElem hl fun i h1 h2 => ?_
  have k1 := hN.leaf i h1
  have k2 := hM.leaf i h2
  rw [key (a.length + i) (by omega) (by omega), hl] at k1
  exact leafK_inj (k1.inj k2)
/-- One row of leaves, one tree. -/
theorem Tree.same {md : Bool} {S : List Bs} {a : List Bs} {N M : List Pr} (hN : Tree md S a N) (hM : Tree md S a M) : ∀ n j, 2 * a.length - j ≤ n → 1 ≤ j → j < 2 * a.length → nd N j = nd M j := by
  intro n
  induction n with
  | zero => intro j h1 h2 h3; omega
  | succ n ih =>
    intro j h1 h2 h3
    by_cases h : j < a.length
    · have k1 := hN.node j h2 h
      have k2 := hM.node j h2 h
      rw [ih (2 * j) (by omega) (by omega) (by omega), ih (2 * j + 1) (by omega) (by omega) (by omega)] at k1
      exact k1.fn k2
    · have k1 := hN.leaf (j - a.length) (by omega)
      have k2 := hM.leaf (j - a.length) (by omega)
      rw [show a.length + (j - a.length) = j by omega] at k1 k2
      exact k1.fn k2
end Go.Proofs.Ytjehfcjfnmcjcaa


namespace Go.Proofs.Ytjehfcjfnmcjcaa
open Go Go.Abs

theorem sum_known {md : Bool} {S : List Bs} {k : Bs} {p : Pr} (h : IsG md S k p) : gP md S k = p ∧ gS md S k = S := by
  cases md with
  | true =>
    obtain ⟨m, h1, rfl⟩ := h
    exact ⟨by show sumP S k = _; rw [sumP, sumN, h1]; rfl, by show sumS S k = _; rw [sumS, h1]; rfl⟩
  | false => exact ⟨Eq.symm h, rfl⟩
theorem xor_one (k : Nat) : k ^^^ 1 = if k % 2 = 1 then k - 1 else k + 1 := by
  have h1 : (k ^^^ 1) / 2 = k / 2 := by rw [Nat.xor_div_two]; simp
  have h2 : (k ^^^ 1) % 2 = (k + 1) % 2 := by
    have h3 := Nat.testBit_xor k 1 0
    simp only [Nat.testBit_zero] at h3
    rcases Nat.mod_two_eq_zero_or_one k with h | h <;> rcases Nat.mod_two_eq_zero_or_one (k ^^^ 1) with h' | h' <;> simp [h, h'] at h3 <;> omega
  split <;> omega
theorem upL_len (N : List Pr) : ∀ (e i : Nat), i < 2 ^ e → (upL N (2 ^ e + i)).length = e
  | 0, i, h => by
    have : i = 0 := by omega
    subst this; rw [upL_one (by simp)]; rfl
  | e + 1, i, h => by
    have hp : 2 ^ (e + 1) = 2 * 2 ^ e := by rw [Nat.pow_succ]; omega
    have hpos : 0 < 2 ^ e := Nat.two_pow_pos e
    rw [upL_more (by omega), List.length_cons, show (2 ^ (e + 1) + i) / 2 = 2 ^ e + i / 2 by omega, upL_len N e (i / 2) (by omega)]
/-- Its own neighbours lead to the top, and nothing new is summed. -/
theorem ck_up {md : Bool} {S : List Bs} {lv : List Bs} {N : List Pr} (hT : Tree md S lv N) : ∀ (e i : Nat), i < 2 ^ e → 2 ^ e + i < 2 * lv.length → ckF md (upL N (2 ^ e + i)) i (nd N (2 ^ e + i)) S = (nd N 1, S)
  | 0, i, h, _ => by
    have : i = 0 := by omega
    subst this; rw [upL_one (by simp)]; rfl
  | e + 1, i, h, hk => by
    have hp : 2 ^ (e + 1) = 2 * 2 ^ e := by rw [Nat.pow_succ]; omega
    have hpos : 0 < 2 ^ e := Nat.two_pow_pos e
    rw [upL_more (by omega), ckF]
    have hd : (2 ^ (e + 1) + i) / 2 = 2 ^ e + i / 2 := by omega
    have key : (if i % 2 = 1 then nodeK (N.getD ((2 ^ (e + 1) + i) ^^^ 1) (0, 0)) (nd N (2 ^ (e + 1) + i)) else nodeK (nd N (2 ^ (e + 1) + i)) (N.getD ((2 ^ (e + 1) + i) ^^^ 1) (0, 0))) = nodeK (nd N (2 * (2 ^ e + i / 2))) (nd N (2 * (2 ^ e + i / 2) + 1)) := by
      rw [xor_one]
      split
      · rw [if_pos (by omega), show 2 ^ (e + 1) + i - 1 = 2 * (2 ^ e + i / 2) by omega, show 2 ^ (e + 1) + i = 2 * (2 ^ e + i / 2) + 1 by omega]
      · rw [if_neg (by omega), show 2 ^ (e + 1) + i = 2 * (2 ^ e + i / 2) by omega]
    rw [key]
    obtain ⟨k1, k2⟩ := sum_known (hT.node (2 ^ e + i / 2) (by omega) (by omega))
    rw [k1, k2, hd]
    exact ck_up hT e (i / 2) (by omega) (by omega)
theorem Tree.wf {S : List Bs} {lv : List Bs} {N : List Pr} (hT : Tree true S lv N) (hS : S.length ≤ 1000000) {j : Nat} (h1 : 1 ≤ j) (h2 : j < 2 * lv.length) : Wfp (nd N j) := by
  by_cases h : j < lv.length
  · exact (hT.node j h1 h).wf hS
  · have := hT.leaf (j - lv.length) (by omega)
    rw [show lv.length + (j - lv.length) = j by omega] at this
    exact this.wf hS
/-- Another leaf, or another neighbour, does not come to the top. -/
theorem ck_odd {S : List Bs} {lv : List Bs} {N : List Pr} (hT : Tree true S lv N) (hS0 : S.length ≤ 1000000) : ∀ (e i : Nat) (q : List Pr) (p : Pr) (S2 : List Bs), i < 2 ^ e → 2 ^ e + i < 2 * lv.length → q.length = e → (∀ x ∈ q, Wfp x) → Wfp p → Pre S S2 → S2.length + e ≤ 1000000 →
    (p ≠ nd N (2 ^ e + i) ∨ q ≠ upL N (2 ^ e + i)) → (ckF true q i p S2).1 ≠ nd N 1
  | 0, i, q, p, S2, h, _, hq, _, _, _, _, hne => by
    have : i = 0 := by omega
    subst this
    obtain rfl := List.length_eq_zero_iff.1 hq
    rcases hne with hne | hne
    · simpa [ckF] using hne
    · exact absurd (upL_one (by simp)).symm hne
  | e + 1, i, [], p, S2, h, _, hq, _, _, _, _, _ => by simp at hq
  | e + 1, i, x :: r, p, S2, h, hk, hq, hw, hpw, hpre, hlen, hne => by
    have hp : 2 ^ (e + 1) = 2 * 2 ^ e := by rw [Nat.pow_succ]; omega
    have hpos : 0 < 2 ^ e := Nat.two_pow_pos e
    rw [ckF]
    obtain ⟨k', hk'⟩ : ∃ k', (if i % 2 = 1 then nodeK x p else nodeK p x) = k' := ⟨_, rfl⟩
    rw [hk']
    have hsl := gS_le true S2 k'
    have hpre2 : Pre S (gS true S2 k') := hpre.trans (gS_pre true S2 k')
    have hnode := (hT.node (2 ^ e + i / 2) (by omega) (by omega)).pre hpre2
    have hmine := isG_sum true S2 k'
    simp only [List.length_cons] at hq
    refine ck_odd hT hS0 e (i / 2) r _ _ (by omega) (by omega) (by omega) (fun y hy => hw y (List.mem_cons_of_mem _ hy)) (hmine.wf (by omega)) hpre2 (by omega) ?_
    rw [upL_more (by omega), show (2 ^ (e + 1) + i) / 2 = 2 ^ e + i / 2 by omega] at hne
    by_cases hall : p = nd N (2 ^ (e + 1) + i) ∧ x = N.getD ((2 ^ (e + 1) + i) ^^^ 1) (0, 0)
    · obtain ⟨h1, h2⟩ := hall
      right
      rcases hne with hne | hne
      · exact absurd h1 hne
      · intro h3; exact hne (by rw [h2, h3])
    · left
      intro heq
      rw [heq] at hmine
      have hkeq := hmine.inj hnode
      apply hall
      have hx := hw x (List.mem_cons_self ..)
      have w1 := hT.wf hS0 (j := 2 * (2 ^ e + i / 2)) (by omega) (by omega)
      have w2 := hT.wf hS0 (j := 2 * (2 ^ e + i / 2) + 1) (by omega) (by omega)
      rw [xor_one]
      rw [← hk'] at hkeq
      by_cases hi : i % 2 = 1
      · rw [if_pos hi] at hkeq
        obtain ⟨e1, e2⟩ := nodeK_inj hx hpw w1 w2 hkeq
        rw [if_pos (by omega), show 2 ^ (e + 1) + i - 1 = 2 * (2 ^ e + i / 2) by omega, show 2 ^ (e + 1) + i = 2 * (2 ^ e + i / 2) + 1 by omega]
        exact ⟨e2, e1⟩
      · rw [if_neg hi] at hkeq
        obtain ⟨e1, e2⟩ := nodeK_inj hpw hx w1 w2 hkeq
        rw [if_neg (by omega), show 2 ^ (e + 1) + i = 2 * (2 ^ e + i / 2) by omega]
        exact ⟨e1, e2⟩
theorem ck_tree {md : Bool} {S : List Bs} {lv : List Bs} {N : List Pr} (hT : Tree md S lv N) {e : Nat} (he : lv.length = 2 ^ e) {i : Nat} (hi : i < lv.length) : ckF md (upL N (2 ^ e + i)) i (gP md S (leafK lv[i])) (gS md S (leafK lv[i])) = (nd N 1, S) := by
  obtain ⟨k1, k2⟩ := sum_known (hT.leaf i hi)
  rw [k1, k2, he]
  exact ck_up hT e i (by omega) (by omega)
end Go.Proofs.Ytjehfcjfnmcjcaa


namespace Go.Proofs.Ytjehfcjfnmcjcaa
open Go Go.Abs

/-- The nodes that stand there. -/
def WS.ndF (s : WS) (a : Int) (j : Nat) : Pr := pairF ((s.sd.snap.drop (ndAt s.n a j).toNat).take 16)
def WS.nds (s : WS) (a : Int) : List Pr := (List.range (2 * s.n.toNat)).map (s.ndF a)
def WS.oneQ (s : WS) (a : Int) (i : Nat) : List Pr := upL (s.nds a) (s.n.toNat + i)
def WS.oneC (md : Bool) (s : WS) (a : Int) (i : Nat) : Pr × List Bs := ckF md (s.oneQ a i) i (gP md s.S (leafK (s.row a i))) (gS md s.S (leafK (s.row a i)))
def WS.oneS (md : Bool) (s : WS) (a : Int) (i : Nat) : WS := if s.pw.gone then s else { s with S := (s.oneC md a i).2 }
def WS.oneE (md : Bool) (s : WS) (a : Int) (i : Nat) (top : Pr) : Int := if s.pw.gone then 7 else if (s.oneC md a i).1 = top ∧ leafG (s.row a i) i = true then 0 else 3
def WS.oneL (md : Bool) (s : WS) (a : Int) (i : Nat) (top : Pr) : Lf := if s.oneE md a i top = 0 then s.leaf a i else lf0
theorem oneQ_len {s : WS} {k : Nat} (hs : s.Fit k) (a : Int) (i : Nat) (hi : (i : Int) < s.n) : ∃ e, s.n.toNat = 2 ^ e ∧ (s.oneQ a i).length = e ∧ e ≤ 4 := by
  have hg := isG_cases hs.g
  have : s.n.toNat = 2 ^ 2 ∨ s.n.toNat = 2 ^ 3 ∨ s.n.toNat = 2 ^ 4 := by omega
  rcases this with h | h | h
  · exact ⟨2, h, by rw [WS.oneQ, h]; exact upL_len _ _ _ (by omega), by omega⟩
  · exact ⟨3, h, by rw [WS.oneQ, h]; exact upL_len _ _ _ (by omega), by omega⟩
  · exact ⟨4, h, by rw [WS.oneQ, h]; exact upL_len _ _ _ (by omega), by omega⟩
set_option maxHeartbeats 1000000 in
theorem area_One_ac {md : Bool} {h : AHeap} {n : WN} {s : WS} {k : Nat} (hg : WG md h n s) (hs : s.Fit k) (hk : k ≤ 9000) (a : Int) (ha : 0 ≤ a ∧ a < 2) (i : Nat) (hi : (i : Int) < s.n) (top : Pr) :
    AC Try.prog 56 [.ptr (n.a + 10) 0 0, .int .i64 a, .int .i64 i, .agg (encP top)] h
      (fun r h' => r = .tup [.agg (encL (s.oneL md a i top)), .int .i64 (s.oneE md a i top)] ∧ WG md h' n (s.oneS md a i) ∧ Kp (n.own md) h h') := by
  refine AC.introW is_area_One (by simp) ?_
  unfold c_area_One
  have hob := hg.w.w
  simp only [wRow] at hob
  have hlt : ∀ id, n.nm md id → id < h.next := fun id hi => (hg.us id hi).1
  have hq : n.q < h.next := hlt _ (.inr rfl)
  have hgg := isG_cases hs.g
  have hna : n.a + 11 ≤ h.next := hg.w.nx
  have hop := hg.w.op
  obtain ⟨m, hm⟩ : ∃ m : Nat, s.n = m := ⟨s.n.toNat, by omega⟩
  have hmn : s.n.toNat = m := by omega
  have hll : s.sd.lasts.length = (s.n * 160 + 120).toNat := by rw [hs.sd.len, sizeG_pos hs.g]
  have ha' : a = 0 ∨ a = 1 := by omega
  have hal : encL lf0 = [.int .i64 0, .bool false, .int .i64 0, .int .u32 0, .int .u32 0, .int .u64 0, .int .u64 0, .int .u64 0] := rfl
  (refine go ?_)
  refine WL.call rfl (by first | exact True.intro | exact rfl) gSL (area_is_ae _ a _) ?_
  rw [show (decide (0 ≤ a) && decide (a < 2)) = true by simp [ha.1, ha.2]]
  (refine go ?_)
  (refine WW.ifB rfl (fun hz1 => ?_) (fun hz1 => ?_))
  · exfalso; omega
  have hin : inB s.sd.lasts.length (lfAt s.n a i) 32 = true := by
    have hp : 0 ≤ lfAt s.n a i ∧ lfAt s.n a i + 32 ≤ s.n * 160 + 120 := by
      unfold lfAt; rcases ha' with rfl | rfl <;> omega
    rw [hll]; simp [inB]; omega
  have hfit : ∀ o ∈ s.sd.waits, 0 ≤ o.1 ∧ o.1 + o.2.length ≤ s.sd.lasts.length := fun o ho => by have := hs.sd.w o ho; rw [sizeG_pos hs.g] at this; omega
  have hrlen := row_len hs a ha i hi
  refine WW.named (fun h1 => WG md h1 n s ∧ Kp (fun _ => False) h h1 ∧ h1.get h.next = some (.mem 2 [encP top]) ∧ h1.get (h.next + 1) = some (.mem 8 [encL lf0]) ∧ h1.next = h.next + 2) ⟨hg.new (by repeat first | exact Kp.refl | assumption | with_reducible refine Kp.put ?_ (by omega) _ | with_reducible refine Kp.setN ?_ (by omega) _ | with_reducible refine Kp.keep ?_ _ | with_reducible refine Kp.setW ?_ (by rfl) _), (by repeat first | exact Kp.refl | assumption | with_reducible refine Kp.put ?_ (by omega) _ | with_reducible refine Kp.setN ?_ (by omega) _ | with_reducible refine Kp.keep ?_ _ | with_reducible refine Kp.setW ?_ (by rfl) _), gH, gH, (gN : _ = h.next + 1 + 1)⟩ ?_
  clear hob
  rintro h1 ⟨w1, k1, g1, g2, hn1⟩
  have hob := w1.w.w
  simp only [wRow] at hob
  (refine go ?_)
  refine DW.callS rfl (by first | exact True.intro | exact rfl) gSL rfl (geom_Leaf_ae s.n a i hs.g ha (by omega) _) ?_
  (refine go ?_)
  refine DW.callS rfl (by first | exact True.intro | exact rfl) gSL rfl (ssd_Read_ae w1.w.sd (by omega) (fun e => by rw [e] at hll; simp at hll; omega) (Nat.le_trans hs.sd.kw (by omega)) hfit (lfAt s.n a i) 32 (by omega)) ?_
  rw [hin, Bool.true_and]
  cases hgo : s.pw.gone with
  | true =>
    have hE : s.oneE md a i top = 7 := by rw [WS.oneE, hgo, if_pos rfl]
    have hL : s.oneL md a i top = lf0 := by rw [WS.oneL, hE, if_neg (by decide)]
    have hS : s.oneS md a i = s := by rw [WS.oneS, hgo, if_pos rfl]
    rw [hE, hL, hS]
    (refine go ?_)
    refine WW.ret ⟨.inl rfl, _, gRES, rfl, hg.new (by repeat first | exact Kp.refl | assumption | with_reducible refine Kp.put ?_ (by omega) _ | with_reducible refine Kp.setN ?_ (by omega) _ | with_reducible refine Kp.keep ?_ _ | with_reducible refine Kp.setW ?_ (by rfl) _), ?_⟩
    exact ((by repeat first | exact Kp.refl | assumption | with_reducible refine Kp.put ?_ (by omega) _ | with_reducible refine Kp.setN ?_ (by omega) _ | with_reducible refine Kp.keep ?_ _ | with_reducible refine Kp.setW ?_ (by rfl) _) : Kp (fun _ => False) h _).mono fun _ _ h => h.elim
  | false =>
    simp only [Bool.not_false, if_true]
    rw [show (s.sd.snap.drop (lfAt s.n a i).toNat).take (Int.toNat 32) = s.row a i from rfl]
    (refine go ?_)
    refine WW.cvt (Cvt.adopt 2 (s := 12) rfl gN) ?_
    obtain ⟨e, he, hQl, he4⟩ := oneQ_len hs a i hi
    rw [hm]
    rw [show (m : Int) + (i : Int) = ((m + i : Nat) : Int) by omega]
    have hnl : (s.nds a).length = 2 * m := by simp [WS.nds, hmn]
    have hQd : s.oneQ a i = upL (s.nds a) (m + i) := by rw [WS.oneQ, hmn]
    refine WW.loopE (fun (r : List Pr × Nat) => [(0, some (.ptr (n.a + 10) 0 0)), (1, some (.int .i64 a)), (2, some (.int .i64 i)), (7, some (.ptr h.next 0 0)), (8, some (.ptr (h.next + 1) 0 0)), (10, some (.imm 1 ((s.row a i).map encB))), (12, some (.app (h.next + 2) 0 2 (r.1.map encP))), (13, some (.int .i64 r.2))])
      (fun r h' => h'.get (h.next + 2) = some (.tail 0 r.1.length) ∧ h'.get h.next = some (.mem 2 [encP top]) ∧ h'.get (h.next + 1) = some (.mem 8 [encL lf0]) ∧ Kp (fun _ => False) h h' ∧ h.next + 3 ≤ h'.next ∧ r.2 < 2 * m ∧ r.1 ++ upL (s.nds a) r.2 = s.oneQ a i ∧ r.1.length + r.2 ≤ 4 * m)
      (fun r => r.2) ([], m + i) gSUB ⟨(by repeat first | exact get_put_tl (by first | rfl | exact List.length_map _ | (simp; done) | (simp; omega)) | exact get_set_tl (by first | rfl | exact List.length_map _ | (simp; done) | (simp; omega)) | assumption | with_reducible apply get_put_neE (by omega) | with_reducible apply get_set_neE (by omega)), gH, gH, (by repeat first | exact Kp.refl | assumption | with_reducible refine Kp.put ?_ (by omega) _ | with_reducible refine Kp.setN ?_ (by omega) _ | with_reducible refine Kp.keep ?_ _ | with_reducible refine Kp.setW ?_ (by rfl) _), (leN gN (by omega)), by dsimp only; omega, by rw [hQd]; rfl, by simp; omega⟩ ?_
    clear g1 g2 k1 w1 hob
    rintro ⟨acc, q⟩ h' ⟨g0, g1, g2, k1, hn, c1, c2, c3⟩
    dsimp only at g0 g1 g2 k1 hn c1 c2 c3 ⊢
    obtain ⟨nx, hnx⟩ : ∃ nx, h'.next = nx := ⟨_, rfl⟩
    have w1 := hg.new k1
    have hob := w1.w.w
    simp only [wRow] at hob
    (refine go ?_)
    (refine WW.ifB rfl (fun hz2 => ?_) (fun hz2 => ?_))
    · have hx := xor1_lt q m c1
      (refine go ?_)
      refine DW.callS rfl (by first | exact True.intro | exact rfl) gSL rfl (geom_Node_ae s.n a ((q ^^^ 1 : Nat) : Int) hs.g ha (by omega) _) ?_
      (refine go ?_)
      refine DW.callS rfl (by first | exact True.intro | exact rfl) gSL rfl (ssd_Read_ae w1.w.sd (by omega) (fun e => by rw [e] at hll; simp at hll; omega) (Nat.le_trans hs.sd.kw (by omega)) hfit (ndAt s.n a ((q ^^^ 1 : Nat) : Int)) 16 (by omega)) ?_
      have hpn : 0 ≤ ndAt s.n a ((q ^^^ 1 : Nat) : Int) ∧ ndAt s.n a ((q ^^^ 1 : Nat) : Int) + 16 ≤ s.n * 160 + 120 := by
        unfold ndAt; rcases ha' with rfl | rfl <;> omega
      have hin2 : inB s.sd.lasts.length (ndAt s.n a ((q ^^^ 1 : Nat) : Int)) 16 = true := by
        rw [hll]; simp [inB]; omega
      have hnlen : ((s.sd.snap.drop (ndAt s.n a ((q ^^^ 1 : Nat) : Int)).toNat).take 16).length = 16 := by
        rw [List.length_take, List.length_drop, snap_lenS hs]; omega
      rw [hin2, hgo]
      simp only [Bool.not_false, Bool.true_and, if_true]
      (refine go ?_)
      refine WL.call rfl (by first | exact True.intro | exact rfl) gSL (wire_Pair_ae ((s.sd.snap.drop (ndAt s.n a ((q ^^^ 1 : Nat) : Int)).toNat).take 16) hnlen _) ?_
      (refine go ?_)
      have hnd : nd (s.nds a) (q ^^^ 1) = pairF ((s.sd.snap.drop (ndAt s.n a ((q ^^^ 1 : Nat) : Int)).toNat).take 16) := by
        rw [nd, WS.nds, List.getD_eq_getElem?_getD, List.getElem?_map, List.getElem?_range (by omega)]; rfl
      have e8 : (acc ++ [nd (s.nds a) (q ^^^ 1)]).map encP = acc.map encP ++ [encP (pairF ((s.sd.snap.drop (ndAt s.n a ((q ^^^ 1 : Nat) : Int)).toNat).take 16))] := by
        rw [List.map_append, hnd]; rfl
      refine ⟨(acc ++ [nd (s.nds a) (q ^^^ 1)], q / 2), ?_, ⟨by rw [List.length_append]; exact (by repeat first | exact get_put_tl (by first | rfl | exact List.length_map _ | (simp; done) | (simp; omega)) | exact get_set_tl (by first | rfl | exact List.length_map _ | (simp; done) | (simp; omega)) | assumption | with_reducible apply get_put_neE (by omega) | with_reducible apply get_set_neE (by omega)), gH, gH, (by repeat first | exact Kp.refl | assumption | with_reducible refine Kp.put ?_ (by omega) _ | with_reducible refine Kp.setN ?_ (by omega) _ | with_reducible refine Kp.keep ?_ _ | with_reducible refine Kp.setW ?_ (by rfl) _), (leN gN (by omega)), by dsimp only; omega, ?_, by simp; omega⟩, by dsimp only; omega⟩
      · dsimp only
        rw [e8]
        exact gSUB
      · rw [← c2, upL_more (k := q) (by omega)]
        simp [nd]
    · rw [upL_one (by omega), List.append_nil] at c2
      subst c2
      (repeat first | refine WL.go ?_ | refine WW.seq ?_ | refine WW.reg ?_ | refine WL.nil ?_ | refine WW.skip ?_ | refine WW.block ?_ | refine WW.exit ?_ | refine WW.condT rfl ?_ | refine WW.condF rfl ?_ | refine WL.gox ?_ | refine thenN ?_ | refine blkN ?_)
      refine WW.dregX [13] [] [n.q] gN (by decide +kernel) ?_
      (refine go ?_)
      have hck : ckOk m i (s.oneQ a i).length = true := by
        rw [hQl]
        have h2 : (m : Int) = ((2 ^ e : Nat) : Int) := by rw [← he, hmn]
        have h3 : isG m = true := by rw [← hm]; exact hs.g
        simp only [ckOk, h3, Bool.true_and, Bool.and_eq_true, decide_eq_true_eq]
        exact ⟨⟨by omega, by omega⟩, h2⟩
      have hcon := path_Check_ae w1.g (Nat.le_trans hs.ss (by omega)) m i (s.row a i) (by rw [hrlen]; omega) (s.oneQ a i) (by omega) top hck
      rw [show ckF md (s.oneQ a i) i (gP md s.S (leafK (s.row a i))) (gS md s.S (leafK (s.row a i))) = s.oneC md a i from rfl, ← hm] at hcon
      refine DW.callSW rfl (by first | exact True.intro | exact rfl) gSL rfl rfl (fun hp => by repeat first | exact hp | refine PhiW.put (by omega) ?_ | refine PhiW.setN (by omega) ?_ | refine PhiW.setW (by simp; done) ?_) (hcon) ?_
      refine DW.named (fun h3 => WG md h3 n { s with S := (s.oneC md a i).2 } ∧ Kp (n.own md) h h3 ∧ h3.get h.next = some (.mem 2 [encP top]) ∧ h3.get (h.next + 1) = some (.mem 8 [encL lf0]) ∧ h3.next = nx)
        ⟨w1.putS _, (k1.mono fun _ _ h => h.elim).trans (kp_s w1 _), get_set_neE (by omega) g1, get_set_neE (by omega) g2, hnx⟩ ?_
      clear w1 g0 g1 g2 k1 hob
      rintro h3 ⟨w3, k3, g1, g2, hn3⟩
      have hS : s.oneS md a i = { s with S := (s.oneC md a i).2 } := by rw [WS.oneS, hgo]; rfl
      rw [hS]
      cases hT : ((s.oneC md a i).1 == top) with
      | false =>
        have hne : ¬ (s.oneC md a i).1 = top := by simpa using hT
        have hE : s.oneE md a i top = 3 := by rw [WS.oneE, hgo, if_neg (by simp), if_neg (fun h => hne h.1)]
        have hL : s.oneL md a i top = lf0 := by rw [WS.oneL, hE, if_neg (by decide)]
        rw [hE, hL]
        (refine go ?_)
        refine WW.ret ⟨.inl rfl, _, gRES, rfl, w3.kp (W := fun id => id = h.next + 1) (by repeat first | exact Kp.refl | assumption | with_reducible refine Kp.put ?_ (by omega) _ | with_reducible refine Kp.setN ?_ (by omega) _ | with_reducible refine Kp.keep ?_ _ | with_reducible refine Kp.setW ?_ (by rfl) _) (fun id hi e => by have := hlt id hi; omega), ?_⟩
        exact k3.setN (by omega) _
      | true =>
        have heq : (s.oneC md a i).1 = top := by simpa using hT
        (refine go ?_)
        refine WL.call rfl (by first | exact True.intro | exact rfl) gSL (leaf_Get_ae (s.row a i) (by rw [hrlen]; omega) i (by omega) _) ?_
        cases hG : leafG (s.row a i) i with
        | false =>
          have hE : s.oneE md a i top = 3 := by rw [WS.oneE, hgo, if_neg (by simp), if_neg (fun h => by rw [hG] at h; simp at h)]
          have hL : s.oneL md a i top = lf0 := by rw [WS.oneL, hE, if_neg (by decide)]
          rw [hE, hL]
          (refine go ?_)
          refine WW.ret ⟨.inl rfl, _, gRES, rfl, w3.kp (W := fun id => id = h.next + 1) (by repeat first | exact Kp.refl | assumption | with_reducible refine Kp.put ?_ (by omega) _ | with_reducible refine Kp.setN ?_ (by omega) _ | with_reducible refine Kp.keep ?_ _ | with_reducible refine Kp.setW ?_ (by rfl) _) (fun id hi e => by have := hlt id hi; omega), ?_⟩
          exact Kp.setN (k3.trans (((by repeat first | exact Kp.refl | assumption | with_reducible refine Kp.put ?_ (by omega) _ | with_reducible refine Kp.setN ?_ (by omega) _ | with_reducible refine Kp.keep ?_ _ | with_reducible refine Kp.setW ?_ (by rfl) _) : Kp (fun _ => False) h3 _).mono fun _ _ h => h.elim)) (by omega) _
        | true =>
          have hE : s.oneE md a i top = 0 := by rw [WS.oneE, hgo, if_neg (by simp), if_pos ⟨heq, hG⟩]
          have hL : s.oneL md a i top = leafD (s.row a i) i := by rw [WS.oneL, if_pos hE]; rfl
          rw [hE, hL]
          simp only [if_true]
          (refine go ?_)
          refine WW.ret ⟨.inl rfl, _, gRES, rfl, w3.kp (W := fun id => id = h.next + 1) (by repeat first | exact Kp.refl | assumption | with_reducible refine Kp.put ?_ (by omega) _ | with_reducible refine Kp.setN ?_ (by omega) _ | with_reducible refine Kp.keep ?_ _ | with_reducible refine Kp.setW ?_ (by rfl) _) (fun id hi e => by have := hlt id hi; omega), ?_⟩
          exact Kp.setN (k3.trans (((by repeat first | exact Kp.refl | assumption | with_reducible refine Kp.put ?_ (by omega) _ | with_reducible refine Kp.setN ?_ (by omega) _ | with_reducible refine Kp.keep ?_ _ | with_reducible refine Kp.setW ?_ (by rfl) _) : Kp (fun _ => False) h3 _).mono fun _ _ h => h.elim)) (by omega) _
end Go.Proofs.Ytjehfcjfnmcjcaa


namespace Go.Proofs.Ytjehfcjfnmcjcaa
open Go Go.Abs

theorem x64_rng (a b : Int) : 0 ≤ x64 a b ∧ x64 a b < 18446744073709551616 := by
  have h1 : x64 a b = (((BitVec.ofInt 64 a ^^^ BitVec.ofInt 64 b).toNat : Nat) : Int) := by
    show IntKind.u64.wrap (((BitVec.ofInt 64 a ^^^ BitVec.ofInt 64 b).toNat : Nat) : Int) = _
    have := (BitVec.ofInt 64 a ^^^ BitVec.ofInt 64 b).isLt
    exact IntWalk.u64_in _ (by omega)
  have := (BitVec.ofInt 64 a ^^^ BitVec.ofInt 64 b).isLt
  omega
theorem stepF_wf (s m : Pr) : Wfp (stepF s m) := ⟨x64_rng _ _, x64_rng _ _⟩
theorem steps_wf : ∀ (l : List Bs) (s : Pr), Wfp s → Wfp (l.foldl sumS6 s)
  | [], _, h => h
  | r :: l, s, _ => steps_wf l _ (stepF_wf s (pairF r))
theorem digestF_wf (p : Bs) : Wfp (digestF p) := by
  rw [digestF_S]
  exact steps_wf _ _ ⟨⟨by decide, by decide⟩, ⟨by decide, by decide⟩⟩
theorem IsG.wf {md : Bool} {S : List Bs} {a : Bs} {p : Pr} (h : IsG md S a p) (hS : S.length ≤ 1000000) : Wfp p := by
  cases md with
  | true => exact IsSum.wf h hS
  | false => rw [show p = digestF a from h]; exact digestF_wf a
theorem Tree.wfG {md : Bool} {S : List Bs} {lv : List Bs} {N : List Pr} (hT : Tree md S lv N) (hS : S.length ≤ 1000000) {j : Nat} (h1 : 1 ≤ j) (h2 : j < 2 * lv.length) : Wfp (nd N j) := by
  by_cases h : j < lv.length
  · exact (hT.node j h1 h).wf hS
  · have := hT.leaf (j - lv.length) (by omega)
    rw [show lv.length + (j - lv.length) = j by omega] at this
    exact this.wf hS
theorem pairF_wf (b : Bs) (hb : b.length ≤ 16) : Wfp (pairF b) :=
  ⟨getB_rngLe _ 8 (by simp; omega) (by decide), getB_rngLe _ 8 (by simp; omega) (by decide)⟩

/-- So many bytes from a place on. -/
def sub (b : Bs) (o k : Nat) : Bs := (b.drop o).take k
theorem layO_get {b : Bs} {x : Wr} (h : x.1.toNat + x.2.length ≤ b.length) (j : Nat) : (layO b x)[j]? = if x.1.toNat ≤ j ∧ j < x.1.toNat + x.2.length then x.2[j - x.1.toNat]? else b[j]? := by
  have hm : min x.2.length (b.length - x.1.toNat) = x.2.length := by omega
  have ht : min x.1.toNat b.length = x.1.toNat := by omega
  rw [layO, hm, List.take_length]
  simp only [List.getElem?_append, List.length_append, List.length_take, List.getElem?_take, List.getElem?_drop, ht]
  by_cases h1 : j < x.1.toNat
  · rw [if_pos (by omega), if_pos h1, if_pos h1, if_neg (by omega)]
  · by_cases h2 : j < x.1.toNat + x.2.length
    · rw [if_pos h2, if_neg h1, if_pos (by omega)]
    · rw [if_neg h2, if_neg (by omega)]
      congr 1; omega
theorem sub_in {b : Bs} {x : Wr} (h : x.1.toNat + x.2.length ≤ b.length) {o k : Nat} (h1 : x.1.toNat ≤ o) (h2 : o + k ≤ x.1.toNat + x.2.length) : sub (layO b x) o k = sub x.2 (o - x.1.toNat) k := by
  apply List.ext_getElem?; intro j
  simp only [sub, List.getElem?_take, List.getElem?_drop]
  split
  · rw [layO_get h, if_pos (by omega), show o + j - x.1.toNat = o - x.1.toNat + j by omega]
  · rfl
theorem sub_out {b : Bs} {x : Wr} (h : x.1.toNat + x.2.length ≤ b.length) {o k : Nat} (h1 : o + k ≤ x.1.toNat ∨ x.1.toNat + x.2.length ≤ o) : sub (layO b x) o k = sub b o k := by
  apply List.ext_getElem?; intro j
  simp only [sub, List.getElem?_take, List.getElem?_drop]
  split
  · rw [layO_get h, if_neg (by omega)]
  · rfl
theorem flat_sub (k : Nat) : ∀ (L : List Bs) (i : Nat) (hi : i < L.length), (∀ b ∈ L, b.length = k) → sub L.flatten (k * i) k = L[i]
  | b :: r, 0, _, h => by
    rw [sub, List.flatten_cons]; exact List.take_left' (h b (by simp))
  | b :: r, i + 1, hi, h => by
    have hb := h b (by simp)
    have : k * (i + 1) = b.length + k * i := by rw [hb, Nat.mul_add, Nat.mul_one, Nat.add_comm]
    rw [sub, List.flatten_cons, this, List.drop_length_add_append]
    exact flat_sub k r i (by simpa using hi) fun x hx => h x (by simp [hx])
theorem WS.row_sub (s : WS) (a : Int) (i : Nat) : s.row a i = sub s.sd.snap (lfAt s.n a i).toNat 32 := rfl
theorem WS.nd_sub (s : WS) (a : Int) (j : Nat) : s.ndF a j = pairF (sub s.sd.snap (ndAt s.n a j).toNat 16) := rfl

theorem areaW_n (md : Bool) (s : WS) (a : Int) (lv : List Lf) : (s.areaW md a lv).n = s.n := by unfold WS.areaW; split <;> rfl
theorem areaW_S (md : Bool) (s : WS) (a : Int) (lv : List Lf) : (s.areaW md a lv).S = (buildF md (lv.map leafB) s.S).2 := by unfold WS.areaW; split <;> rfl
theorem areaW_snap (md : Bool) {s : WS} (a : Int) (lv : List Lf) (hc : s.pw.can = true) (hc2 : s.pw.spend.can = true) : (s.areaW md a lv).sd.snap = layO (layO s.sd.snap (lfAt s.n a 0, lvB lv)) (ndAt s.n a 0, nodesB (s.nodes md lv)) := by
  simp [WS.areaW, WS.areaW1, SdS.write, hc, hc2, SdS.snap, List.foldl_append]
theorem nodes_len (md : Bool) (s : WS) (lv : List Lf) : (s.nodes md lv).length = 2 * lv.length := by
  have := (buildF_len md (lv.map leafB) s.S).1
  rwa [List.length_map] at this
section
variable {md : Bool} {s : WS} {k : Nat} {a : Int} {lv : List Lf}
theorem areaW_row (hs : s.Fit k) (hc : s.pw.can = true) (hc2 : s.pw.spend.can = true) (ha : 0 ≤ a ∧ a < 2) (hl : (lv.length : Int) = s.n) (i : Nat) (hi : i < lv.length) : (s.areaW md a lv).row a i = leafB lv[i] := by
  have hg := isG_cases hs.g
  have hsl := snap_lenS hs
  have hlb := lvB_len lv
  have hnb := nodesB_len (s.nodes md lv)
  rw [nodes_len] at hnb
  have ha' : a = 0 ∨ a = 1 := by omega
  rw [WS.row_sub, areaW_n, areaW_snap md a lv hc hc2]
  have e1 : (lfAt s.n a 0).toNat + (lvB lv).length ≤ s.sd.snap.length := by unfold lfAt; rcases ha' with rfl | rfl <;> omega
  have e2 : (layO s.sd.snap (lfAt s.n a 0, lvB lv)).length = s.sd.snap.length := layO_len _ _ (by dsimp only; omega)
  rw [sub_out (by rw [e2]; dsimp only; unfold ndAt; rcases ha' with rfl | rfl <;> omega) (.inl (by dsimp only; unfold lfAt ndAt; rcases ha' with rfl | rfl <;> omega))]
  rw [sub_in (by dsimp only; exact e1) (by dsimp only; unfold lfAt; rcases ha' with rfl | rfl <;> omega) (by dsimp only; unfold lfAt; rcases ha' with rfl | rfl <;> omega)]
  have := flat_sub 32 (lv.map leafB) i (by simpa using hi) fun b hb => by obtain ⟨x, _, rfl⟩ := List.mem_map.1 hb; exact leafB_len x
  rw [List.getElem_map] at this
  rw [← this]
  dsimp only
  congr 1
  unfold lfAt; rcases ha' with rfl | rfl <;> omega
theorem areaW_nd (hs : s.Fit k) (hc : s.pw.can = true) (hc2 : s.pw.spend.can = true) (ha : 0 ≤ a ∧ a < 2) (hl : (lv.length : Int) = s.n) (hk : k ≤ 9000) (j : Nat) (h1 : 1 ≤ j) (hj : j < 2 * lv.length) : (s.areaW md a lv).ndF a j = nd (s.nodes md lv) j := by
  have hg := isG_cases hs.g
  have hsl := snap_lenS hs
  have hlb := lvB_len lv
  have hnl := nodes_len md s lv
  have hnb := nodesB_len (s.nodes md lv)
  rw [hnl] at hnb
  have ha' : a = 0 ∨ a = 1 := by omega
  rw [WS.nd_sub, areaW_n, areaW_snap md a lv hc hc2]
  have e2 : (layO s.sd.snap (lfAt s.n a 0, lvB lv)).length = s.sd.snap.length := layO_len _ _ (by dsimp only; unfold lfAt; rcases ha' with rfl | rfl <;> omega)
  rw [sub_in (by rw [e2]; dsimp only; unfold ndAt; rcases ha' with rfl | rfl <;> omega) (by dsimp only; unfold ndAt; rcases ha' with rfl | rfl <;> omega) (by dsimp only; unfold ndAt; rcases ha' with rfl | rfl <;> omega)]
  have := flat_sub 16 ((s.nodes md lv).map pairB) j (by simpa [hnl] using hj) fun b hb => by obtain ⟨x, _, rfl⟩ := List.mem_map.1 hb; exact pairB_len x
  rw [List.getElem_map] at this
  have ht := (buildF_tree md (lv.map leafB) s.S (by rw [List.length_map]; omega)).2
  have hbl := (buildF_len md (lv.map leafB) s.S).2
  rw [List.length_map] at hbl
  have hss := hs.ss
  have hw := ht.wfG (by omega) h1 (by rw [List.length_map]; exact hj)
  have hnd : nd (s.nodes md lv) j = (s.nodes md lv)[j]'(by omega) := by rw [nd, List.getD_eq_getElem?_getD, List.getElem?_eq_getElem (by omega)]; rfl
  have hoff : (ndAt s.n a j).toNat - (ndAt s.n a 0).toNat = 16 * j := by unfold ndAt; rcases ha' with rfl | rfl <;> omega
  rw [hoff]
  show pairF (sub (((s.nodes md lv).map pairB).flatten) (16 * j) 16) = _
  rw [this, hnd]
  have hw' : Wfp (nd (s.nodes md lv) j) := hw
  rw [hnd] at hw'
  exact pairF_B _ hw'.1 hw'.2
theorem areaW_row2 (hs : s.Fit k) (hc : s.pw.can = true) (hc2 : s.pw.spend.can = true) (ha : 0 ≤ a ∧ a < 2) (hl : (lv.length : Int) = s.n) (b : Int) (hb : 0 ≤ b ∧ b < 2) (hne : b ≠ a) (i : Nat) (hi : i < lv.length) : (s.areaW md a lv).row b i = s.row b i := by
  have hg := isG_cases hs.g
  have hsl := snap_lenS hs
  have hlb := lvB_len lv
  have hnb := nodesB_len (s.nodes md lv)
  rw [nodes_len] at hnb
  have hc' : (a = 0 ∧ b = 1) ∨ (a = 1 ∧ b = 0) := by omega
  rw [WS.row_sub, areaW_n, areaW_snap md a lv hc hc2, WS.row_sub]
  have e1 : (lfAt s.n a 0).toNat + (lvB lv).length ≤ s.sd.snap.length := by unfold lfAt; rcases hc' with ⟨rfl, rfl⟩ | ⟨rfl, rfl⟩ <;> omega
  have e2 : (layO s.sd.snap (lfAt s.n a 0, lvB lv)).length = s.sd.snap.length := layO_len _ _ (by dsimp only; omega)
  rw [sub_out (by rw [e2]; dsimp only; unfold ndAt; rcases hc' with ⟨rfl, rfl⟩ | ⟨rfl, rfl⟩ <;> omega) (by dsimp only; unfold lfAt ndAt; rcases hc' with ⟨rfl, rfl⟩ | ⟨rfl, rfl⟩ <;> omega), sub_out (by dsimp only; exact e1) (by dsimp only; unfold lfAt; rcases hc' with ⟨rfl, rfl⟩ | ⟨rfl, rfl⟩ <;> omega)]
end

/-- A top is leaves', as far as S knows. -/
def TopOf (md : Bool) (S : List Bs) (lv : List Lf) (top : Pr) : Prop := ∃ N, Tree md S (lv.map leafB) N ∧ nd N 1 = top
theorem TopOf.pre {md : Bool} {S S' : List Bs} {lv : List Lf} {top : Pr} (h : TopOf md S lv top) (hp : Pre S S') : TopOf md S' lv top := by
  obtain ⟨N, hT, ht⟩ := h; exact ⟨N, hT.pre hp, ht⟩
theorem rows_of {s : WS} {a : Int} {lv : List Lf} (hr : ∀ i (hi : i < lv.length), s.row a i = leafB lv[i]) (m : Nat) (hm : lv.length = m) : s.rows a m = lv.map leafB := by
  subst hm
  refine List.ext_getElem (by simp [WS.rows]) fun i h1 h2 => ?_
  simp only [WS.rows, List.getElem_map, List.getElem_range]
  exact hr i (by simpa using h2)
/-- What stands there and comes to its top is read. -/
theorem read_well {md : Bool} {s : WS} {k : Nat} {a : Int} {lv : List Lf} {top : Pr} (hs : s.Fit k) (hgo : s.pw.gone = false) (hl : (lv.length : Int) = s.n) (hw : ∀ x ∈ lv, x.Wf) (hok : lvOk lv 0 = true)
    (hr : ∀ i (hi : i < lv.length), s.row a i = leafB lv[i]) (ht : TopOf md s.S lv top) : s.readE md a top = 0 ∧ s.readL md a top = lv := by
  have hg := isG_cases hs.g
  have hm : lv.length = s.n.toNat := by omega
  have hro := rows_of hr s.n.toNat hm
  have hT : s.readT md a = top := by
    obtain ⟨N, hN, rfl⟩ := ht
    obtain ⟨p, hM⟩ := buildF_tree md (lv.map leafB) s.S (by rw [List.length_map]; omega)
    rw [WS.readT, hro]
    exact Tree.same hM (hN.pre p) _ 1 (Nat.le_refl _) (by omega) (by rw [List.length_map]; omega)
  have hL : ∀ i (hi : i < lv.length), leafG (s.row a i) i = true ∧ leafD (s.row a i) i = lv[i] := fun i hi => by
    rw [hr i hi]
    have := lvOk_at lv 0 i hi hok
    rw [Nat.zero_add] at this
    exact leafG_B _ (hw _ (List.getElem_mem hi)) i this
  have hA : s.allG a s.n.toNat = true := by
    rw [WS.allG, List.all_eq_true]
    intro i hi
    exact (hL i (by have := List.mem_range.1 hi; omega)).1
  have hE : s.readE md a top = 0 := by rw [WS.readE, hgo, hT, hA]; simp
  refine ⟨hE, ?_⟩
  rw [WS.readL, if_pos hE]
  refine List.ext_getElem (by simp [WS.leaves, hm]) fun i h1 h2 => ?_
  simp only [WS.leaves, List.getElem_map, List.getElem_range]
  exact (hL i h2).2
/-- By an ideal lock what comes to a top is its leaves. -/
theorem read_foe {s : WS} {k : Nat} {a : Int} {lv : List Lf} {top : Pr} (hs : s.Fit k) (hk : k ≤ 9000) (hl : (lv.length : Int) = s.n) (hw : ∀ x ∈ lv, x.Wf) (hok : lvOk lv 0 = true) (hgo : s.pw.gone = false)
    (ht : TopOf true s.S lv top) : (s.readE true a top = 0 ∧ s.readL true a top = lv) ∨ (s.readE true a top = 3 ∧ s.readL true a top = []) := by
  have hg := isG_cases hs.g
  by_cases hT : s.readT true a = top
  · refine .inl (read_well hs hgo hl hw hok (fun i hi => ?_) ht)
    obtain ⟨N, hN, h1⟩ := ht
    obtain ⟨p, hM⟩ := buildF_tree true (s.rows a s.n.toNat) s.S (by rw [rows_len]; omega)
    have hbl := (buildF_len true (s.rows a s.n.toNat) s.S).2
    rw [rows_len] at hbl
    have hss := hs.ss
    have := Tree.leaves (by omega) hM (hN.pre p) (by rw [rows_len, List.length_map]; omega) (by rw [rows_len]; omega) (hT.trans h1.symm)
    have h2 : (s.rows a s.n.toNat)[i]? = (lv.map leafB)[i]? := by rw [this]
    rw [List.getElem?_map, List.getElem?_eq_getElem hi, WS.rows, List.getElem?_map, List.getElem?_range (by omega)] at h2
    exact Option.some.inj h2
  · have hE : s.readE true a top = 3 := by rw [WS.readE, hgo, if_neg (by simp), if_neg (fun h => hT h.1)]
    exact .inr ⟨hE, by rw [WS.readL, hE, if_neg (by decide)]⟩
theorem upL_congr {A B : List Pr} {m : Nat} (h : ∀ j, 2 ≤ j → j < 2 * m → nd A j = nd B j) : ∀ (n k : Nat), k ≤ n → k < 2 * m → upL A k = upL B k
  | 0, k, hn, _ => by rw [upL_one (by omega), upL_one (by omega)]
  | n + 1, k, hn, hk => by
    by_cases h1 : k ≤ 1
    · rw [upL_one h1, upL_one h1]
    · have hx := xor1_lt k m hk
      have h2 : 2 ≤ k ^^^ 1 := by rw [xor_one]; split <;> omega
      rw [upL_more (l := A) (k := k) (by omega), upL_more (l := B) (k := k) (by omega), upL_congr h n (k / 2) (by omega) (by omega)]
      congr 1
      exact h _ h2 hx
theorem nds_nd (s : WS) (a : Int) (j : Nat) (h : j < 2 * s.n.toNat) : nd (s.nds a) j = s.ndF a j := by
  rw [nd, WS.nds, List.getD_eq_getElem?_getD, List.getElem?_map, List.getElem?_range h]; rfl
/-- One that stands there, and its neighbours. -/
theorem one_well {md : Bool} {s : WS} {k : Nat} {a : Int} {lv : List Lf} {top : Pr} (hs : s.Fit k) (hgo : s.pw.gone = false) (hl : (lv.length : Int) = s.n) (hw : ∀ x ∈ lv, x.Wf) (hok : lvOk lv 0 = true)
    {N : List Pr} (hT : Tree md s.S (lv.map leafB) N) (ht : nd N 1 = top) (hnd : ∀ j, 1 ≤ j → j < 2 * lv.length → s.ndF a j = nd N j) (i : Nat) (hi : i < lv.length) (hr : s.row a i = leafB lv[i]) : s.oneE md a i top = 0 ∧ s.oneL md a i top = lv[i] ∧ s.oneS md a i = s := by
  have hm : lv.length = s.n.toNat := by omega
  obtain ⟨e, he, hq, _⟩ := oneQ_len hs a i (by omega)
  have hQ : s.oneQ a i = upL N (2 ^ e + i) := by
    rw [WS.oneQ, he]
    refine upL_congr (m := lv.length) (fun j h1 h2 => ?_) _ _ (Nat.le_refl _) (by omega)
    rw [nds_nd _ _ _ (by omega), hnd j (by omega) h2]
  have hC : s.oneC md a i = (top, s.S) := by
    rw [WS.oneC, hQ, hr]
    have := ck_tree hT (e := e) (by rw [List.length_map]; omega) (i := i) (by rw [List.length_map]; exact hi)
    rw [List.getElem_map] at this
    rw [this, ht]
  have hL := lvOk_at lv 0 i hi hok
  rw [Nat.zero_add] at hL
  obtain ⟨g1, g2⟩ := leafG_B _ (hw _ (List.getElem_mem hi)) i hL
  have hE : s.oneE md a i top = 0 := by rw [WS.oneE, hgo, hC, hr, g1]; simp
  refine ⟨hE, ?_, ?_⟩
  · rw [WS.oneL, if_pos hE, WS.leaf, hr, g2]
  · rw [WS.oneS, hgo, hC]; rfl
theorem one_foe {s : WS} {k : Nat} {a : Int} {lv : List Lf} {top : Pr} (hs : s.Fit k) (hk : k ≤ 9000) (hl : (lv.length : Int) = s.n) (hw : ∀ x ∈ lv, x.Wf) (hok : lvOk lv 0 = true) (hgo : s.pw.gone = false)
    (ht : TopOf true s.S lv top) (i : Nat) (hi : i < lv.length) : (s.oneE true a i top = 0 ∧ s.oneL true a i top = lv[i]) ∨ (s.oneE true a i top = 3 ∧ s.oneL true a i top = lf0) := by
  have hg := isG_cases hs.g
  have hss := hs.ss
  have hm : lv.length = s.n.toNat := by omega
  obtain ⟨N, hN, h1⟩ := ht
  obtain ⟨e, he, hq, he4⟩ := oneQ_len hs a i (by omega)
  by_cases hT : (s.oneC true a i).1 = top
  · have hsum := isG_sum true s.S (leafK (s.row a i))
    have hpre := gS_pre true s.S (leafK (s.row a i))
    have hle := gS_le true s.S (leafK (s.row a i))
    have hwq : ∀ x ∈ s.oneQ a i, Wfp x := by
      have : ∀ (n k : Nat), k ≤ n → ∀ x ∈ upL (s.nds a) k, Wfp x := by
        intro n
        induction n with
        | zero => intro k hk x hx; rw [upL_one (by omega)] at hx; simp at hx
        | succ n ih =>
          intro k hk x hx
          by_cases h1 : k ≤ 1
          · rw [upL_one h1] at hx; simp at hx
          · rw [upL_more (by omega), List.mem_cons] at hx
            rcases hx with rfl | hx
            · by_cases hj : (k ^^^ 1) < 2 * s.n.toNat
              · have := nds_nd s a (k ^^^ 1) hj
                rw [nd] at this
                rw [this]
                exact pairF_wf _ (by simp; omega)
              · rw [List.getD_eq_getElem?_getD, List.getElem?_eq_none (by simp [WS.nds]; omega)]
                exact ⟨⟨by decide, by decide⟩, ⟨by decide, by decide⟩⟩
            · exact ih _ (by omega) x hx
      exact this _ _ (Nat.le_refl _)
    have hp : gP true s.S (leafK (s.row a i)) = nd N (2 ^ e + i) := by
      refine Decidable.byContradiction fun hne => ?_
      exact ck_odd hN (by omega) e i (s.oneQ a i) _ _ (by omega) (by rw [List.length_map]; omega) hq hwq (hsum.wf (by omega)) hpre (by omega) (.inl hne) (hT.trans h1.symm)
    have hlf := (hN.leaf i (by rw [List.length_map]; exact hi)).pre hpre
    have e2 : nd N ((lv.map leafB).length + i) = nd N (2 ^ e + i) := by rw [List.length_map, hm, he]
    rw [e2, ← hp, List.getElem_map] at hlf
    have hr : s.row a i = leafB lv[i] := leafK_inj (IsSum.inj hsum hlf)
    have hL := lvOk_at lv 0 i hi hok
    rw [Nat.zero_add] at hL
    obtain ⟨g1, g2⟩ := leafG_B _ (hw _ (List.getElem_mem hi)) i hL
    have hE : s.oneE true a i top = 0 := by rw [WS.oneE, hgo, hr, g1, if_neg (by simp), if_pos ⟨hT, rfl⟩]
    exact .inl ⟨hE, by rw [WS.oneL, if_pos hE, WS.leaf, hr, g2]⟩
  · have hE : s.oneE true a i top = 3 := by rw [WS.oneE, hgo, if_neg (by simp), if_neg (fun h => hT h.1)]
    exact .inr ⟨hE, by rw [WS.oneL, hE, if_neg (by decide)]⟩
end Go.Proofs.Ytjehfcjfnmcjcaa


namespace Go.Proofs.Ytjehfcjfnmcjcaa
open Go Go.Abs

theorem ref15_Same_ae (a b : List Lf) (ha : a.length ≤ 1000000) (hb : b.length ≤ 1000000) (h : AHeap) : AE Try.prog 48 [.imm 8 (a.map encL), .imm 8 (b.map encL)] h (.bool (decide (a = b))) h := by
  refine AE.pureW is_ref15_Same (by simp) ?_
  unfold c_ref15_Same
  (refine go ?_)
  (refine WW.ifB rfl (fun hz1 => ?_) (fun hz1 => ?_)) <;> (refine go ?_)
  · refine WW.ret (PureQ.finD ?_)
    refine fz_b ?_
    have : a ≠ b := fun e => hz1 (by rw [e])
    simp [this]
  refine WW.loopE (fun (s : Nat) => [(0, some (.imm 8 (a.map encL))), (1, some (.imm 8 (b.map encL))), (5, some (.int .i64 s))])
    (fun s h' => h' = h ∧ s ≤ a.length ∧ a.take s = b.take s) (fun s => a.length - s) 0 gSUB ⟨rfl, by simp, rfl⟩ ?_
  rintro i h' ⟨g1, g2, g3⟩
  subst g1
  (refine go ?_)
  (refine WW.ifB rfl (fun hz2 => ?_) (fun hz2 => ?_)) <;> (refine go ?_)
  · (refine WW.ifB rfl (fun hz3 => ?_) (fun hz3 => ?_)) <;> (refine go ?_)
    · refine WW.ret (PureQ.finD ?_)
      refine fz_b ?_
      have : a ≠ b := fun e => by subst e; simp at hz3
      simp [this]
    · refine ⟨i + 1, gSUB, ⟨rfl, by omega, ?_⟩, by omega⟩
      rw [List.take_add_one, List.take_add_one, g3, List.getElem?_eq_getElem (by omega), List.getElem?_eq_getElem (by omega)]
      have : a[i] = b[i] := by
        generalize a[i]'(by omega) = x at *
        generalize b[i]'(by omega) = y at *
        obtain ⟨x1, x2, x3, x4, x5, x6, x7, x8⟩ := x
        obtain ⟨y1, y2, y3, y4, y5, y6, y7, y8⟩ := y
        simp at hz3
        simp [hz3]
      rw [this]
  · refine WW.ret (PureQ.finD ?_)
    refine fz_b ?_
    rw [List.take_of_length_le (by omega), List.take_of_length_le (by omega)] at g3
    simp [g3]

def encJ (k : Int) : List AV := [.int .i64 k]
def encU (t : Int) : List AV := [.int .u64 t]
theorem and3 (i : Int) : ∃ c : Nat, c < 4 ∧ bits .and .i64 i 3 = (c : Int) := by
  have h1 : (BitVec.ofInt 64 i &&& BitVec.ofInt 64 3).toNat < 4 := by
    rw [BitVec.toNat_and]
    have : (BitVec.ofInt 64 3).toNat = 3 := by decide
    rw [this]
    have := Nat.and_le_right (n := (BitVec.ofInt 64 i).toNat) (m := 3)
    omega
  refine ⟨(BitVec.ofInt 64 i &&& BitVec.ofInt 64 3).toNat, h1, ?_⟩
  show IntKind.i64.wrap (((BitVec.ofInt 64 i &&& BitVec.ofInt 64 3).toNat : Nat) : Int) = _
  rw [IntWalk.i64_in]
  omega
def pick (K : List Int) (i : Nat) : Int := K.getD (i % K.length) 0
def someF (K T : List Int) (i : Nat) : Lf :=
  if bits .and .i64 (pick K i) 3 = 1 then ⟨2, true, i, 0, 0, 0, (0, 0)⟩
  else if bits .and .i64 (pick K i) 3 = 2 ∨ bits .and .i64 (pick K i) 3 = 3 then ⟨1, decide (bits .and .i64 (pick K i) 3 = 2), ((i + 16 : Nat) : Int), 1, i, pick T i, (pick T i, i)⟩ else lf0
def someL (n : Nat) (K T : List Int) : List Lf := (List.range n).map (someF K T)
def partL (n : Nat) (K T : List Int) (i : Nat) : List Lf := (List.range n).map fun j => if j < i then someF K T j else lf0
theorem partL_len (n : Nat) (K T : List Int) (i : Nat) : (partL n K T i).length = n := by simp [partL]
theorem partL_zero (n : Nat) (K T : List Int) : List.replicate n (encL lf0) = (partL n K T 0).map encL := by
  refine List.ext_getElem (by simp [partL]) fun i h1 h2 => ?_
  simp [partL]
theorem partL_set (n : Nat) (K T : List Int) (i : Nat) : ((partL n K T i).map encL).set i (encL (someF K T i)) = (partL n K T (i + 1)).map encL := by
  refine List.ext_getElem (by simp [partL]) fun j h1 h2 => ?_
  rw [List.getElem_set]
  simp only [partL, List.getElem_map, List.getElem_range]
  by_cases h : i = j
  · subst h; rw [if_pos rfl, if_pos (by omega)]
  · rw [if_neg h]
    by_cases h3 : j < i
    · rw [if_pos h3, if_pos (by omega)]
    · rw [if_neg h3, if_neg (by omega)]
theorem partL_next (n : Nat) (K T : List Int) (i : Nat) (h : someF K T i = lf0) : (partL n K T i).map encL = (partL n K T (i + 1)).map encL := by
  refine congrArg _ (List.ext_getElem (by simp [partL]) fun j h1 h2 => ?_)
  simp only [partL, List.getElem_map, List.getElem_range]
  by_cases h4 : i = j
  · subst h4; rw [if_neg (by omega), if_pos (by omega), h]
  · by_cases h3 : j < i
    · rw [if_pos h3, if_pos (by omega)]
    · rw [if_neg h3, if_neg (by omega)]
theorem partL_end (n : Nat) (K T : List Int) : partL n K T n = someL n K T := by
  refine List.ext_getElem (by simp [partL, someL]) fun j h1 h2 => ?_
  simp only [partL, someL, List.getElem_map, List.getElem_range]
  rw [if_pos (by simpa [partL] using h1)]
theorem pick_nil {K : List Int} (h : ¬ 0 < K.length) (i : Nat) : pick K i = 0 := by
  have : K = [] := List.length_eq_zero_iff.1 (by omega)
  subst this; rfl
theorem pick_at {K : List Int} (i : Nat) (h : i % K.length < K.length) : K[i % K.length] = pick K i := by
  rw [pick, List.getD_eq_getElem?_getD, List.getElem?_eq_getElem h]; rfl
theorem pick_mem {K : List Int} {P : Int → Prop} (h0 : P 0) (h : ∀ k ∈ K, P k) (i : Nat) : P (pick K i) := by
  by_cases hk : i % K.length < K.length
  · rw [← pick_at i hk]; exact h _ (List.getElem_mem hk)
  · rw [pick, List.getD_eq_getElem?_getD, List.getElem?_eq_none (by omega)]; exact h0
theorem flatC_L {l : List Lf} : flatC (l.map encL) := flatC_map fun x => by simp [encL, AV.flat]
set_option maxHeartbeats 1000000 in
theorem law21_some_ae (n : Nat) (hn : n ≤ 1000) (K T : List Int) (hK : K.length ≤ maxLen) (hT : T.length ≤ maxLen) (h : AHeap) : AE Try.prog 46 [.int .i64 n, .imm 1 (K.map encJ), .imm 1 (T.map encU)] h (.imm 8 ((someL n K T).map encL)) h := by
  refine AE.pureW is_law21_some (by simp) ?_
  unfold c_law21_some
  (refine go ?_)
  rw [show List.replicate n [AV.int .i64 0, .bool false, .int .i64 0, .int .u32 0, .int .u32 0, .int .u64 0, .int .u64 0, .int .u64 0] = (partL n K T 0).map encL from partL_zero n K T]
  refine WW.loopE (fun (i : Nat) => [(0, some (.int .i64 n)), (1, some (.imm 1 (K.map encJ))), (2, some (.imm 1 (T.map encU))), (7, some (.ref h.next 0 n)), (8, some (.int .i64 i))])
    (fun i h' => h' = h.put h.next (.mem 8 ((partL n K T i).map encL)) ∧ i ≤ n) (fun i => n - i) 0 gSUB ⟨rfl, Nat.zero_le _⟩ ?_
  rintro i _ ⟨rfl, g2⟩
  have hpl := partL_len n K T i
  (refine go ?_)
  (refine WW.ifB rfl (fun hz1 => ?_) (fun hz1 => ?_))
  · have hi : i < n := by omega
    (refine go ?_)
    refine WW.thenI (fun e' F' => subE [(0, some (.int .i64 n)), (1, some (.imm 1 (K.map encJ))), (2, some (.imm 1 (T.map encU))), (7, some (.ref h.next 0 n)), (8, some (.int .i64 i)), (9, some (.int .i64 (pick K i))), (10, some (.int .u64 0))] e' ∧ F' = h.put h.next (.mem 8 ((partL n K T i).map encL))) ?_ ?_
    · (refine WW.ifB rfl (fun hz2 => ?_) (fun hz2 => ?_))
      · have hm : i % K.length < K.length := Nat.mod_lt _ (by omega)
        have hmod : ((i : Int) % (K.length : Int)) = ((i % K.length : Nat) : Int) := by simp
        (refine go ?_)
        rw [Int.natAbs_natCast]
        refine WL.go (hs := Stp.loadi rfl (map_at (List.getElem?_eq_getElem hm)) (by first | exact getC_at rfl rfl | exact getC_all rfl | exact getC_sub (Nat.le_of_ble_eq_true rfl) (by first | (simp only [putC, AV.cs, encP, encN, encI, encS, encA, List.take_succ_cons, List.take_zero, List.take_nil, List.drop_succ_cons, List.drop_zero, List.drop_nil, List.cons_append, List.nil_append, List.append_nil, List.length_cons, List.length_nil, Nat.zero_add, Nat.add_zero, Nat.reduceAdd]; exact rfl) | exact rfl) | exact getC_sub (by simp) (by first | (simp only [putC, AV.cs, encP, encN, encI, encS, encA, List.take_succ_cons, List.take_zero, List.take_nil, List.drop_succ_cons, List.drop_zero, List.drop_nil, List.cons_append, List.nil_append, List.append_nil, List.length_cons, List.length_nil, Nat.zero_add, Nat.add_zero, Nat.reduceAdd]; exact rfl) | exact rfl)) (by first | exact True.intro | exact rfl)) ?_
        rw [pick_at i hm]
        (refine go ?_)
        exact ⟨rfl, gSUB, rfl⟩
      · rw [pick_nil (by omega)]
        (refine go ?_)
        exact ⟨rfl, gSUB, rfl⟩
    rintro e7 _ ⟨hs7, rfl⟩
    refine WW.cvt (Cvt.sub hs7) ?_
    clear hs7
    (refine go ?_)
    refine WW.thenI (fun e' F' => subE [(0, some (.int .i64 n)), (1, some (.imm 1 (K.map encJ))), (2, some (.imm 1 (T.map encU))), (7, some (.ref h.next 0 n)), (8, some (.int .i64 i)), (9, some (.int .i64 (pick K i))), (10, some (.int .u64 (pick T i)))] e' ∧ F' = h.put h.next (.mem 8 ((partL n K T i).map encL))) ?_ ?_
    · (refine WW.ifB rfl (fun hz3 => ?_) (fun hz3 => ?_))
      · have hm : i % T.length < T.length := Nat.mod_lt _ (by omega)
        (refine go ?_)
        rw [Int.natAbs_natCast]
        refine WL.go (hs := Stp.loadi rfl (map_at (List.getElem?_eq_getElem hm)) (by first | exact getC_at rfl rfl | exact getC_all rfl | exact getC_sub (Nat.le_of_ble_eq_true rfl) (by first | (simp only [putC, AV.cs, encP, encN, encI, encS, encA, List.take_succ_cons, List.take_zero, List.take_nil, List.drop_succ_cons, List.drop_zero, List.drop_nil, List.cons_append, List.nil_append, List.append_nil, List.length_cons, List.length_nil, Nat.zero_add, Nat.add_zero, Nat.reduceAdd]; exact rfl) | exact rfl) | exact getC_sub (by simp) (by first | (simp only [putC, AV.cs, encP, encN, encI, encS, encA, List.take_succ_cons, List.take_zero, List.take_nil, List.drop_succ_cons, List.drop_zero, List.drop_nil, List.cons_append, List.nil_append, List.append_nil, List.length_cons, List.length_nil, Nat.zero_add, Nat.add_zero, Nat.reduceAdd]; exact rfl) | exact rfl)) (by first | exact True.intro | exact rfl)) ?_
        rw [pick_at i hm]
        (refine go ?_)
        exact ⟨rfl, gSUB, rfl⟩
      · rw [pick_nil (K := T) (by omega)]
        (refine go ?_)
        exact ⟨rfl, gSUB, rfl⟩
    rintro e7 _ ⟨hs7, rfl⟩
    refine WW.cvt (Cvt.sub hs7) ?_
    clear hs7
    obtain ⟨c, hc, hb⟩ := and3 (pick K i)
    (refine go ?_)
    rw [hb]
    have hfit : i < (partL n K T i).length := by omega
    have hd : ∀ x : Lf, List.drop 8 (encL x) = [] := fun _ => rfl
    have hc4 : c = 0 ∨ c = 1 ∨ c = 2 ∨ c = 3 := by omega
    rcases hc4 with rfl | rfl | rfl | rfl
    · (refine go ?_)
      refine ⟨i + 1, gSUB, ⟨?_, by omega⟩, by omega⟩
      rw [partL_next n K T i (by simp [someF, hb])]
    · (refine go ?_)
      refine ⟨i + 1, gSUB, ⟨?_, by omega⟩, by omega⟩
      rw [← partL_set, hd, Nat.zero_add, put_set, show encL (someF K T i) = [.int .i64 2, .bool true, .int .i64 i, .int .u32 0, .int .u32 0, .int .u64 0, .int .u64 0, .int .u64 0] by simp [someF, hb, encL]]
    · (refine go ?_)
      refine ⟨i + 1, gSUB, ⟨?_, by omega⟩, by omega⟩
      rw [← partL_set, hd, Nat.zero_add, put_set, show encL (someF K T i) = [.int .i64 1, .bool (bits .and .i64 (pick K i) 3 == 2), .int .i64 ((i : Int) + 16), .int .u32 1, .int .u32 i, .int .u64 (pick T i), .int .u64 (pick T i), .int .u64 i] by simp [someF, hb, encL]]
    · (refine go ?_)
      refine ⟨i + 1, gSUB, ⟨?_, by omega⟩, by omega⟩
      rw [← partL_set, hd, Nat.zero_add, put_set, show encL (someF K T i) = [.int .i64 1, .bool (bits .and .i64 (pick K i) 3 == 2), .int .i64 ((i : Int) + 16), .int .u32 1, .int .u32 i, .int .u64 (pick T i), .int .u64 (pick T i), .int .u64 i] by simp [someF, hb, encL]]
  · have hi : i = n := by omega
    subst hi
    (refine go ?_)
    refine WW.ret (PureQ.finD ?_)
    exact fz_ref gH (Nat.le_refl _) (by simp [hpl]) (by rw [partL_end]) flatC_L
end Go.Proofs.Ytjehfcjfnmcjcaa


namespace Go.Proofs.Ytjehfcjfnmcjcaa
open Go Go.Abs

/-- No fuse, power on. -/
structure PwS.Free (w : PwS) : Prop where
  g : w.gone = false
  f : w.fuse = false
theorem PwS.Free.can {w : PwS} (h : w.Free) : w.can = true := by simp [PwS.can, h.g, h.f]
theorem PwS.Free.spend {w : PwS} (h : w.Free) : w.spend.Free := by
  have h1 := h.g
  have h2 := h.f
  refine ⟨?_, ?_⟩ <;> simp [PwS.spend, h1, h2]
theorem PwS.Ok.mono {w : PwS} {k k' : Nat} (h : w.Ok k) (hk : k ≤ k') : w.Ok k' := ⟨h.l0, h.l1, h.s0, by have := h.s1; omega⟩
theorem SdS.Ok.mono {x : SdS} {n k k' : Nat} (h : x.Ok n k) (hk : k ≤ k') : x.Ok n k' := ⟨h.len, h.w, Nat.le_trans h.kw hk, Nat.le_trans h.kt hk⟩
theorem WS.Fit.mono {s : WS} {k k' : Nat} (h : s.Fit k) (hk : k ≤ k') : s.Fit k' := ⟨h.g, h.pw.mono hk, h.sd.mono hk, Nat.le_trans h.ss hk, Nat.le_trans h.ll hk⟩
theorem fit_ws0 {n : Nat} (hg : isG n = true) (seed : Int) : (ws0 n seed).Fit 0 := by
  refine ⟨hg, ⟨fun h => by simp [ws0] at h, by simp [ws0], by simp [ws0], by simp [ws0]⟩, ⟨?_, by simp [ws0, sd0], by simp [ws0, sd0], by simp [ws0, sd0]⟩, by simp [ws0], by simp [ws0]⟩
  rw [show (ws0 n seed).n = n from rfl, sizeG_pos hg]
  simp only [ws0, sd0, List.length_replicate]; omega
theorem free_ws0 (n : Nat) (seed : Int) : (ws0 n seed).pw.Free := ⟨rfl, rfl⟩
theorem areaW_pw {md : Bool} {s : WS} (a : Int) (lv : List Lf) (hf : s.pw.Free) : (s.areaW md a lv).pw = s.pw.spend.spend := by rw [WS.areaW, hf.can]; rfl
theorem areaW_free {md : Bool} {s : WS} (a : Int) (lv : List Lf) (hf : s.pw.Free) : (s.areaW md a lv).pw.Free := by rw [areaW_pw a lv hf]; exact hf.spend.spend
theorem fit_areaW {md : Bool} {s : WS} {k : Nat} (hs : s.Fit k) (hf : s.pw.Free) (a : Int) (ha : 0 ≤ a ∧ a < 2) (lv : List Lf) (hl : (lv.length : Int) = s.n) : (s.areaW md a lv).Fit (k + 40) := by
  have hg := isG_cases hs.g
  have ha' : a = 0 ∨ a = 1 := by omega
  have hbl := (buildF_len md (lv.map leafB) s.S).2
  rw [List.length_map] at hbl
  have hss := hs.ss
  have hll := hs.ll
  have hlb := lvB_len lv
  have hnb := nodesB_len (s.nodes md lv)
  rw [nodes_len] at hnb
  have e : s.areaW md a lv = { s.areaW1 md a lv with pw := s.pw.spend.spend, sd := (s.areaW1 md a lv).sd.write (ndAt s.n a 0, nodesB (s.nodes md lv)) s.pw.spend.can } := by rw [WS.areaW, hf.can]; rfl
  rw [e]
  refine ⟨hs.g, (hs.pw.spend.spend).mono (by omega), ?_, by show (buildF md (lv.map leafB) s.S).2.length ≤ _; omega, by show s.L.length ≤ _; omega⟩
  have o1 : 0 ≤ lfAt s.n a 0 ∧ lfAt s.n a 0 + ((lvB lv).length : Nat) ≤ (((sizeG s.n).toNat : Nat) : Int) := by
    rw [sizeG_pos hs.g]; unfold lfAt; rcases ha' with rfl | rfl <;> omega
  have o2 : 0 ≤ ndAt s.n a 0 ∧ ndAt s.n a 0 + ((nodesB (s.nodes md lv)).length : Nat) ≤ (((sizeG s.n).toNat : Nat) : Int) := by
    rw [sizeG_pos hs.g]; unfold ndAt; rcases ha' with rfl | rfl <;> omega
  exact ((hs.sd.write (o := (lfAt s.n a 0, lvB lv)) o1 s.pw.can).write (o := (ndAt s.n a 0, nodesB (s.nodes md lv))) o2 s.pw.spend.can).mono (by omega)
theorem fit_readS {md : Bool} {s : WS} {k : Nat} (hs : s.Fit k) (a : Int) : (s.readS md a).Fit (k + 40) := by
  have hg := isG_cases hs.g
  have hbl := (buildF_len md (s.rows a s.n.toNat) s.S).2
  rw [rows_len] at hbl
  have hss := hs.ss
  rw [WS.readS]
  split
  · exact hs.mono (by omega)
  · exact ⟨hs.g, hs.pw.mono (by omega), hs.sd.mono (by omega), by show (buildF md (s.rows a s.n.toNat) s.S).2.length ≤ _; omega, Nat.le_trans hs.ll (by omega)⟩
theorem readS_sd (md : Bool) (s : WS) (a : Int) : (s.readS md a).sd = s.sd ∧ (s.readS md a).n = s.n ∧ (s.readS md a).pw = s.pw := by rw [WS.readS]; split <;> exact ⟨rfl, rfl, rfl⟩
theorem readS_pre (md : Bool) {s : WS} (a : Int) (h1 : 1 ≤ s.n.toNat) : Pre s.S (s.readS md a).S := by
  rw [WS.readS]; split
  · exact Pre.refl _
  · exact (buildF_tree md (s.rows a s.n.toNat) s.S (by rwa [rows_len])).1
theorem row_congr {s s' : WS} (h1 : s'.sd = s.sd) (h2 : s'.n = s.n) (a : Int) (i : Nat) : s'.row a i = s.row a i := by rw [WS.row_sub, WS.row_sub, h1, h2]
theorem nd_congr {s s' : WS} (h1 : s'.sd = s.sd) (h2 : s'.n = s.n) (a : Int) (i : Nat) : s'.ndF a i = s.ndF a i := by rw [WS.nd_sub, WS.nd_sub, h1, h2]

def WS.smash (s : WS) (o : Wr) : WS := { s with sd := s.sd.smash o }
theorem settle_all : ∀ (l : List Wr) (i : Nat) (b : Bs), settleF (fun _ => true) i l b = l.foldl layO b
  | [], _, _ => rfl
  | x :: r, i, b => by rw [settleF, if_pos rfl, settle_all r]; rfl
theorem smash_snap {x : SdS} {o : Wr} (h : inB x.lasts.length o.1 o.2.length = true) : (x.smash o).snap = layO x.snap o := by
  rw [SdS.smash, if_pos h]
  simp [SdS.snap, SdS.settle, settle_all]
theorem fit_smash {s : WS} {k : Nat} (hs : s.Fit k) (o : Wr) : (s.smash o).Fit k := by
  refine ⟨hs.g, hs.pw, ?_, hs.ss, hs.ll⟩
  show (s.sd.smash o).Ok _ _
  rw [SdS.smash]
  split
  · rename_i hin
    have hl := settle_len (fun _ => true) s.sd.lasts.length s.sd.waits 0 s.sd.lasts (fun y hy => by have := hs.sd.w y hy; rw [hs.sd.len]; exact this) rfl
    refine ⟨?_, fun y hy => by simp [SdS.settle] at hy, Nat.zero_le _, hs.sd.kt⟩
    show (layO (settleF (fun _ => true) 0 s.sd.waits s.sd.lasts) o).length = _
    rw [layO_len _ _ (by rw [hl]; simp [inB] at hin; omega), hl, hs.sd.len]; rfl
  · exact hs.sd

theorem someL_len (n : Nat) (K T : List Int) : (someL n K T).length = n := by simp [someL]
theorem lvOk_of {l : List Lf} : ∀ j, (∀ i (hi : i < l.length), leafIs l[i] ((j + i : Nat) : Int) = true) → lvOk l j = true := by
  induction l with
  | nil => intro j _; rfl
  | cons x r ih =>
    intro j h
    rw [lvOk, Bool.and_eq_true]
    refine ⟨by have := h 0 (by simp); simpa using this, ih (j + 1) fun i hi => ?_⟩
    have := h (i + 1) (by simpa using hi)
    rw [show j + 1 + i = j + (i + 1) by omega]
    simpa using this
theorem someF_is (K T : List Int) (i : Nat) (hi : i < 16) : leafIs (someF K T i) i = true := by
  have h0 : ¬ ((i : Int) < 0 ∨ 16 ≤ (i : Int)) := by omega
  rw [leafIs, if_neg h0, someF]
  split
  · have : lbaOk (i : Int) = true := by simp [lbaOk]; omega
    simp [this, lf0]
  · split
    · have : lbaOk ((i + 16 : Nat) : Int) = true := by simp only [lbaOk, Bool.and_eq_true, decide_eq_true_eq]; omega
      simp only [this]
      simp
    · simp [lf0]
theorem someL_ok (n : Nat) (hn : n ≤ 16) (K T : List Int) : lvOk (someL n K T) 0 = true :=
  lvOk_of 0 fun i hi => by
    rw [someL_len] at hi
    simp only [someL, List.getElem_map, List.getElem_range, Nat.zero_add]
    exact someF_is K T i (by omega)
theorem someL_wf (n : Nat) (hn : n ≤ 16) (K T : List Int) (hT : ∀ t ∈ T, Wf64 t) : ∀ x ∈ someL n K T, x.Wf := by
  intro x hx
  obtain ⟨i, hi, rfl⟩ := List.mem_map.1 hx
  have hi' := List.mem_range.1 hi
  have ht : Wf64 (pick T i) := pick_mem (P := Wf64) ⟨by decide, by decide⟩ hT i
  obtain ⟨t1, t2⟩ := ht
  unfold someF
  split
  · constructor <;> dsimp only <;> omega
  · split
    · constructor <;> dsimp only <;> omega
    · constructor <;> decide
theorem int_ofJ {cells : List AV} (h : TypL [.i .i64] cells) : ∃ k : Int, cells = encJ k := by
  obtain ⟨n, rfl, _⟩ := int_of h; exact ⟨n, rfl⟩
theorem ints_of {cells : List AV} (h : TypL [.sl [.i .i64]] cells) : ∃ b : List Int, cells = [.imm 1 (b.map encJ)] ∧ b.length ≤ maxLen := by
  obtain ⟨v, vs, rfl, h1, h2⟩ := h.cons_inv
  obtain rfl := h2.nil_inv
  obtain ⟨c, rfl, hl, hc⟩ := h1.sl_inv
  obtain ⟨l, rfl⟩ := map_of (f := encJ) (fun cells => int_ofJ) hc
  exact ⟨l, rfl, by simpa using hl⟩
theorem map_ofP {f : Int → List AV} {Q : Int → Prop} {R : List AV → Prop} (h1 : ∀ c, R c → ∃ x, c = f x ∧ Q x) : ∀ {c : List (List AV)}, (∀ x ∈ c, R x) → ∃ l : List Int, c = l.map f ∧ ∀ x ∈ l, Q x
  | [], _ => ⟨[], rfl, by simp⟩
  | x :: r, h => by
    obtain ⟨y, rfl, hy⟩ := h1 x (h x (by simp))
    obtain ⟨l, rfl, hl⟩ := map_ofP h1 (c := r) fun z hz => h z (by simp [hz])
    exact ⟨y :: l, rfl, fun z hz => by rcases List.mem_cons.1 hz with rfl | hz; exact hy; exact hl z hz⟩
theorem u64s_of {cells : List AV} (h : TypL [.sl [.i .u64]] cells) : ∃ b : List Int, cells = [.imm 1 (b.map encU)] ∧ b.length ≤ maxLen ∧ ∀ t ∈ b, Wf64 t := by
  obtain ⟨v, vs, rfl, h1, h2⟩ := h.cons_inv
  obtain rfl := h2.nil_inv
  obtain ⟨c, rfl, hl, hc⟩ := h1.sl_inv
  obtain ⟨l, rfl, hq⟩ := map_ofP (f := encU) (Q := Wf64) (R := TypL [.i .u64]) (fun _ h => by obtain ⟨n, rfl, hw⟩ := int_of h; exact ⟨n, rfl, wf64 hw⟩) hc
  exact ⟨l, rfl, by simpa using hl, hq⟩
/-- Leaves, written: all that the area's next calls need. -/
structure Laid (md : Bool) (s : WS) (a : Int) (lv : List Lf) (top : Pr) : Prop where
  f : s.pw.Free
  l : (lv.length : Int) = s.n
  w : ∀ x ∈ lv, x.Wf
  ok : lvOk lv 0 = true
  r : ∀ i (hi : i < lv.length), s.row a i = leafB lv[i]
  t : ∃ N, Tree md s.S (lv.map leafB) N ∧ nd N 1 = top ∧ ∀ j, 1 ≤ j → j < 2 * lv.length → s.ndF a j = nd N j
theorem laid_areaW {md : Bool} {s : WS} {k : Nat} (hs : s.Fit k) (hk : k ≤ 9000) (hf : s.pw.Free) (a : Int) (ha : 0 ≤ a ∧ a < 2) (lv : List Lf) (hl : (lv.length : Int) = s.n) (hw : ∀ x ∈ lv, x.Wf) (hok : lvOk lv 0 = true) : Laid md (s.areaW md a lv) a lv ((s.nodes md lv).getD 1 (0, 0)) := by
  have hg := isG_cases hs.g
  refine ⟨areaW_free a lv hf, by rw [areaW_n]; exact hl, hw, hok, fun i hi => areaW_row hs hf.can hf.spend.can ha hl i hi, s.nodes md lv, ?_, rfl, fun j h1 h2 => areaW_nd hs hf.can hf.spend.can ha hl hk j h1 h2⟩
  rw [areaW_S]
  exact (buildF_tree md (lv.map leafB) s.S (by rw [List.length_map]; omega)).2
theorem Laid.same {md : Bool} {s s' : WS} {a : Int} {lv : List Lf} {top : Pr} (h : Laid md s a lv top) (h1 : s'.sd = s.sd) (h2 : s'.n = s.n) (h3 : s'.pw = s.pw) (h4 : Pre s.S s'.S) : Laid md s' a lv top := by
  obtain ⟨f, l, w, ok, r, N, t1, t2, t3⟩ := h
  exact ⟨h3 ▸ f, h2 ▸ l, w, ok, fun i hi => (row_congr h1 h2 a i).trans (r i hi), N, t1.pre h4, t2, fun j j1 j2 => (nd_congr h1 h2 a j).trans (t3 j j1 j2)⟩
theorem Laid.topOf {md : Bool} {s : WS} {a : Int} {lv : List Lf} {top : Pr} (h : Laid md s a lv top) : TopOf md s.S lv top := by
  obtain ⟨N, t1, t2, _⟩ := h.t
  exact ⟨N, t1, t2⟩
theorem Laid.read {md : Bool} {s : WS} {k : Nat} {a : Int} {lv : List Lf} {top : Pr} (h : Laid md s a lv top) (hs : s.Fit k) : s.readE md a top = 0 ∧ s.readL md a top = lv ∧ Laid md (s.readS md a) a lv top := by
  obtain ⟨h1, h2⟩ := read_well hs h.f.g h.l h.w h.ok h.r h.topOf
  obtain ⟨q1, q2, q3⟩ := readS_sd md s a
  have hg := isG_cases hs.g
  exact ⟨h1, h2, h.same q1 q2 q3 (readS_pre md a (by omega))⟩
theorem Laid.one {md : Bool} {s : WS} {k : Nat} {a : Int} {lv : List Lf} {top : Pr} (h : Laid md s a lv top) (hs : s.Fit k) (i : Nat) (hi : i < lv.length) : s.oneE md a i top = 0 ∧ s.oneL md a i top = lv[i] ∧ s.oneS md a i = s := by
  obtain ⟨N, t1, t2, t3⟩ := h.t
  exact one_well hs h.f.g h.l h.w h.ok t1 t2 t3 i hi (h.r i hi)
theorem Laid.other {md : Bool} {s : WS} {k : Nat} {a b : Int} {lv lw : List Lf} {top : Pr} (h : Laid md s b lw top) (hs : s.Fit k) (ha : 0 ≤ a ∧ a < 2) (hb : 0 ≤ b ∧ b < 2) (hne : b ≠ a) (hl : (lv.length : Int) = s.n) : TopOf md (s.areaW md a lv).S lw top ∧ (∀ i (hi : i < lw.length), (s.areaW md a lv).row b i = leafB lw[i]) := by
  have hg := isG_cases hs.g
  have hll := h.l
  refine ⟨h.topOf.pre (by rw [areaW_S]; exact (buildF_tree md (lv.map leafB) s.S (by rw [List.length_map]; omega)).1), fun i hi => ?_⟩
  rw [areaW_row2 hs h.f.can h.f.spend.can ha hl b hb hne i (by omega)]
  exact h.r i hi
/-- A block of cells that stays. -/
structure BoxAt (h : AHeap) (id : Nat) (x : AObj) : Prop where
  u : h.used id
  g : h.get id = some x
theorem BoxAt.kp {W : Nat → Prop} {h h' : AHeap} {id : Nat} {x : AObj} (hb : BoxAt h id x) (hk : Kp W h h') (hw : ¬ W id) : BoxAt h' id x := ⟨hk.us id hb.u, (hk.get id hb.u hw).trans hb.g⟩
theorem turned_row {s : WS} {k : Nat} (hs : s.Fit k) (h4 : s.n = 4) : (s.smash (130, [9])).row 0 0 ≠ leafB lf0 := by
  have hsl := snap_lenS hs
  have hl : s.sd.lasts.length = (s.n * 160 + 120).toNat := by rw [hs.sd.len, sizeG_pos hs.g]
  have hin : inB s.sd.lasts.length (130 : Int) ([9] : Bs).length = true := by rw [hl, h4]; decide
  intro e
  have h2 : ((s.smash (130, [9])).row 0 0)[2]? = some 9 := by
    rw [WS.row_sub]
    show (sub (s.sd.smash (130, [9])).snap (lfAt s.n 0 0).toNat 32)[2]? = some 9
    rw [smash_snap hin, h4, show (lfAt 4 0 0).toNat = 128 from rfl, sub, List.getElem?_take, if_pos (by decide), List.getElem?_drop, layO_get (by rw [hsl, h4]; decide)]
    rfl
  rw [e] at h2
  revert h2
  decide +kernel
set_option maxHeartbeats 1000000 in
theorem law21_known_ae (h : AHeap) : AE Try.prog 49 [] h (.bool true) h := by
  refine AE.pureW is_law21_known (by simp) ?_
  unfold c_law21_known
  (refine go ?_)
  refine WL.callA rfl (by first | exact True.intro | exact rfl) gSL (world_NewG_ac true 4 rfl 1 h) ?_
  rintro _ h1 ⟨n, rfl, g1, hn, k1⟩
  have hx1 := k1.next
  (refine go ?_)
  refine WL.cvt (Cvt.frzE (s := 17) (c' := (List.replicate 4 lf0).map encL) rfl gH rfl) ?_
  refine WL.named (fun h2 => WG true h2 n (ws0 4 1) ∧ Kp (fun id => h.next ≤ id) h h2) ⟨g1.new (by repeat first | exact Kp.refl | assumption | with_reducible refine Kp.put ?_ (by omega) _ | with_reducible refine Kp.setN ?_ (by omega) _ | with_reducible refine Kp.keep ?_ _ | with_reducible refine Kp.setW ?_ (by rfl) _), (by repeat first | exact Kp.refl | assumption | with_reducible refine Kp.put ?_ (by omega) _ | with_reducible refine Kp.setN ?_ (by omega) _ | with_reducible refine Kp.keep ?_ _ | with_reducible refine Kp.setW ?_ (by rfl) _)⟩ ?_
  clear g1 k1 hx1
  rintro h2 ⟨g2, k2⟩
  have hnm : ∀ id, n.own true id → h.next ≤ id := fun id hi => hn id (.inl (WN.own_all hi))
  have hf0 := free_ws0 4 1
  have hF0 := fit_ws0 (n := 4) rfl 1
  have hw0 : ∀ x ∈ List.replicate 4 lf0, x.Wf := by intro x hx; obtain ⟨_, rfl⟩ := List.mem_replicate.1 hx; constructor <;> decide
  have hL1 := laid_areaW (md := true) hF0 (by omega) hf0 0 (by decide) (List.replicate 4 lf0) rfl hw0 (by decide)
  have hF1 := fit_areaW (md := true) hF0 hf0 0 (by decide) (List.replicate 4 lf0) rfl
  refine WL.callA rfl (by first | exact True.intro | exact rfl) gSL (area_Write_ac g2 hF0 (by omega) 0 (by decide) (List.replicate 4 lf0) rfl hw0 (by decide)) ?_
  rintro _ h3 ⟨rfl, g3, k3⟩
  rw [hf0.can, hf0.spend.can]
  simp only [Bool.and_self, if_true]
  generalize (ws0 4 1).areaW true 0 (List.replicate 4 lf0) = s1 at *
  generalize ((ws0 4 1).nodes true (List.replicate 4 lf0)).getD 1 (0, 0) = top at *
  have k4 : Kp (fun id => h.next ≤ id) h h3 := k2.trans (k3.mono fun id _ hi => hnm id hi)
  have hx3 := k4.next
  clear k2 k3 g2
  (refine go ?_)
  refine WL.named (fun h4 => WG true h4 n s1 ∧ Kp (fun id => h.next ≤ id) h h4 ∧ BoxAt h4 h3.next (.mem 2 [encP top])) ⟨g3.new (by repeat first | exact Kp.refl | assumption | with_reducible refine Kp.put ?_ (by omega) _ | with_reducible refine Kp.setN ?_ (by omega) _ | with_reducible refine Kp.keep ?_ _ | with_reducible refine Kp.setW ?_ (by rfl) _), (by repeat first | exact Kp.refl | assumption | with_reducible refine Kp.put ?_ (by omega) _ | with_reducible refine Kp.setN ?_ (by omega) _ | with_reducible refine Kp.keep ?_ _ | with_reducible refine Kp.setW ?_ (by rfl) _), put_used_nm (x := .mem 2 [[.int .u64 0, .int .u64 0]]), gH⟩ ?_
  have hlt : ∀ id, n.nm true id → id < h3.next := fun id hi => (g3.us id hi).1
  generalize h3.next = tp at *
  clear g3 k4
  rintro h4 ⟨g4, k4, bt⟩
  have gt := bt.g
  obtain ⟨r1, r2, hL2⟩ := hL1.read hF1
  have hF2 := fit_readS (md := true) hF1 0
  have hn1 : s1.n = 4 := hL1.l.symm
  refine WL.callA rfl (by first | exact True.intro | exact rfl) gSL (area_Read_ac g4 hF1 (by omega) 0 (by decide) top) ?_
  rintro _ h5 ⟨rfl, g5, k5⟩
  rw [r1, r2]
  have hown : ∀ id, n.own true id → id ≠ tp := fun id hi e => by have := hlt id (.inl (WN.own_all hi)); omega
  have bt5 := bt.kp k5 (fun hi => hown _ hi rfl)
  have k6 : Kp (fun id => h.next ≤ id) h h5 := k4.trans (k5.mono fun id _ hi => hnm id hi)
  have hob := g5.w.w
  simp only [wRow] at hob
  have hn2 : (s1.readS true 0).n = 4 := (readS_sd true s1 0).2.1.trans hn1
  generalize s1.readS true 0 = s2 at *
  have hll : s2.sd.lasts.length = (s2.n * 160 + 120).toNat := by rw [hF2.sd.len, sizeG_pos hF2.g]
  have hfit : ∀ o ∈ s2.sd.waits, 0 ≤ o.1 ∧ o.1 + o.2.length ≤ s2.sd.lasts.length := fun o ho => by have := hF2.sd.w o ho; rw [sizeG_pos hF2.g] at this; omega
  (refine go ?_)
  refine WL.call rfl (by first | exact True.intro | exact rfl) gSL (ssd_Smash_ae g5.w.sd (by omega) (Nat.le_trans hF2.sd.kw (by omega)) hfit 130 [9] (by decide)) ?_
  refine WL.named (fun h6 => WG true h6 n (s2.smash (130, [9])) ∧ Kp (fun id => h.next ≤ id) h h6 ∧ BoxAt h6 tp (.mem 2 [encP top])) ⟨g5.step (g5.w.putSd _ _) (kp_sd n _ _), k6.trans ((kp_sd n _ _).mono fun id _ hi => hnm id hi), bt5.kp (kp_sd n _ _) (fun hi => hown _ hi rfl)⟩ ?_
  clear g5 k6 bt5 k5 hob
  rintro h6 ⟨g6, k6, bt6⟩
  have gt6 := bt6.g
  (refine go ?_)
  refine WL.callA rfl (by first | exact True.intro | exact rfl) gSL (area_Read_ac g6 (fit_smash hF2 _) (by omega) 0 (by decide) top) ?_
  rintro _ h7 ⟨rfl, g7, k7⟩
  have hR : (s2.smash (130, [9])).readE true 0 top = 3 := by
    rcases read_foe (s := s2.smash (130, [9])) (fit_smash hF2 _) (by omega) (hL2.l) hw0 (by decide) hL2.f.g hL2.topOf with ⟨e0, e1⟩ | ⟨e0, _⟩
    · exfalso
      refine turned_row hF2 hn2 ?_
      have e2 := e1
      rw [WS.readL, if_pos e0] at e2
      rw [WS.readE, show (s2.smash (130, [9])).pw.gone = false from hL2.f.g, if_neg (by simp)] at e0
      split at e0
      · rename_i hh
        have hA := hh.2
        rw [WS.allG, List.all_eq_true] at hA
        have hm : (s2.smash (130, [9])).n.toNat = 4 := by show s2.n.toNat = 4; omega
        rw [hm] at hA e2
        have h0 := hA 0 (by decide)
        have h1 : (s2.smash (130, [9])).leaf 0 0 = lf0 := by
          have := congrArg (fun l => l[0]?) e2
          simpa [WS.leaves] using this
        rw [leafG, Bool.and_eq_true] at h0
        have h2 := eq_of_beq h0.2
        rw [← h2]
        exact congrArg leafB h1
      · cases e0
    · exact e0
  rw [hR]
  have k8 : Keeps h h7 := (k6.trans (k7.mono fun id _ hi => hnm id hi)).keeps fun _ h => h
  (refine go ?_)
  refine WW.ret (PureQ.finD ?_)
  exact fz_b rfl
end Go.Proofs.Ytjehfcjfnmcjcaa


namespace Go.Abs
open Go
section
variable {P : Program} {N : Nat} {e : Env} {h : AHeap} {Φ : AHeap → Prop} {ws fs : List Nat} {K : Env → AHeap → Prop} {l : List CI} {j : Nat}
theorem vr_unit {m : Inj} {w : World} {c : Value} (hv : VR m h w (.tup []) c) : c = undef := by
  cases hv with
  | tup vs cs hl hs =>
    have : cs = #[] := Array.eq_empty_of_size_eq_zero hl.symm
    subst this; rfl
theorem FX.skipU {d s : Nat} {i : Ins} {b : Bool} (hsk : (∃ t, lk s e = some (.bool t) ∧ (!b) = t) ∨ lk s e = some (.tup [])) : FX P N ⟨some d, i, some (s, b)⟩ e h (some (.tup [])) h := by
  intro ops k o ho hc e2 hs m w a K Q hr he hk
  rcases compI_ok hc with ⟨hb1, hb2⟩ | ⟨hd, hdst, hcomp, hgd⟩
  · cases hb2
  · have hls : lk s e2 = lk s e := hs s (by simp [cslots])
    have hw : Region.wanted o (yielded ops a.tmps) = false := by
      rcases hsk with ⟨t, h1, h2⟩ | h1
      · obtain ⟨w1, w2⟩ := wanted_of he hgd
        rw [w2 s b t rfl (hls.trans h1)]; subst h2; cases b <;> rfl
      · have hu : a.tmps.getD s undef = undef := vr_unit (he.val s _ (hls.trans h1))
        cases hgo : o.guard with
        | none => simp only [hgo] at hgd; cases hgd
        | some jb =>
          obtain ⟨j0, b0⟩ := jb
          simp only [hgo] at hgd
          obtain ⟨s0, hs0, hg0⟩ := hgd
          cases hg0
          have hy : yielded ops a.tmps j0 = none := by
            unfold yielded
            rw [hs0]
            simp only [Option.bind_some]
            cases hx : a.tmps[s]? with
            | none => rfl
            | some x => simp [hx] at hu; subst hu; rfl
          simp only [Region.wanted, hgo, hy]
          cases b <;> rfl
    simp only [wpOp, ho]
    rw [hw]
    simp only [Bool.false_eq_true, if_false]
    refine hk m w _ hr ?_ (Step.refl _ _ _)
    rw [← hd]
    exact he.put (hdst d hd.symm) (.tup [] #[] rfl (fun _ _ h => by simp at h))
theorem DW.skipU {d s : Nat} {i : Ins} {b : Bool} (hsk : (∃ t, lk s e = some (.bool t) ∧ (!b) = t) ∨ lk s e = some (.tup [])) (k : DW P N Φ ws fs K (j + 1) l ((d, some (.tup [])) :: e) h) : DW P N Φ ws fs K j (⟨some d, i, some (s, b)⟩ :: l) e h :=
  DW.fx (FX.skipU hsk) (fun _ => ⟨rfl, fun _ => FX.skipU hsk⟩) (fun _ => rfl) (fun hp => hp) (fun _ _ _ => FX.skipU hsk) k
end
end Go.Abs


namespace Go.Proofs.Ytjehfcjfnmcjcaa
open Go Go.Abs

theorem Laid.smash {md : Bool} {s : WS} {a : Int} {lv : List Lf} {top : Pr} (h : Laid md s a lv top) (o : Wr) : (s.smash o).pw.Free ∧ (lv.length : Int) = (s.smash o).n ∧ TopOf md (s.smash o).S lv top := ⟨h.f, h.l, h.topOf⟩
set_option maxHeartbeats 4000000 in
theorem law21_AreaFoe_ae (A T : List Int) (off : Int) (by' : Bs) (i : Int) (hA : A.length ≤ maxLen) (hT : T.length ≤ maxLen) (hTw : ∀ t ∈ T, Wf64 t) (h : AHeap) : AE Try.prog 12 [.imm 1 (A.map encJ), .imm 1 (T.map encU), .int .i64 off, .imm 1 (by'.map encB), .int .i64 i] h (.bool true) h := by
  refine AE.pureW is_law21_AreaFoe (by simp) ?_
  unfold c_law21_AreaFoe
  (refine go ?_)
  (apply WL.orB; exact rfl; exact rfl; exact rfl; exact BP.of; intro hz1)
  · (repeat first | (apply GW.goS; exact Stp.auto) | apply GW.nil | exact rfl)
  (refine go ?_)
  (apply WL.orB; exact rfl; exact rfl; exact rfl; exact BP.of; intro hz2)
  · (repeat first | (apply GW.goS; exact Stp.auto) | apply GW.nil | exact rfl)
  (refine go ?_)
  (apply WL.orB; exact rfl; exact rfl; exact rfl; exact BP.of; intro hz3)
  · have : 0 ≤ off ∧ off ≤ 700 := by simp at hz3; omega
    (repeat first | (apply GW.goS; exact Stp.auto) | apply GW.nil | exact rfl)
  (refine go ?_)
  (apply WL.orB; exact rfl; exact rfl; exact rfl; exact BP.of; intro hz4)
  · (repeat first | (apply GW.goS; exact Stp.auto) | apply GW.nil | exact rfl)
  (refine go ?_)
  (apply WL.orB; exact rfl; exact rfl; exact rfl; exact BP.of; intro hz5)
  · (repeat first | (apply GW.goS; exact Stp.auto) | apply GW.nil | exact rfl)
  (refine go ?_)
  (refine WW.ifB rfl (fun hz6 => ?_) (fun hz6 => ?_))
  · (refine go ?_)
    refine WW.ret (PureQ.finD ?_)
    exact fz_b rfl
  have hgd : by'.length ≤ 80 ∧ 0 ≤ off ∧ off ≤ 700 ∧ (by'.length : Int) ≤ 760 - off ∧ 0 ≤ i ∧ i ≤ 3 := by simp at hz6; omega
  clear hz6
  obtain ⟨hb1, hb2, hb3, hb4, hi1, hi2⟩ := hgd
  obtain ⟨j, rfl⟩ : ∃ j : Nat, i = j := ⟨i.toNat, by omega⟩
  (refine go ?_)
  refine WL.callA rfl (by first | exact True.intro | exact rfl) gSL (world_NewG_ac true 4 rfl 7 h) ?_
  rintro _ h1 ⟨n, rfl, g1, hn, k1⟩
  have hx1 := k1.next
  have hnm : ∀ id, n.own true id → h.next ≤ id := fun id hi => hn id (.inl (WN.own_all hi))
  have hf0 := free_ws0 4 7
  have hF0 := fit_ws0 (n := 4) rfl 7
  have lA := someL_len 4 A T
  have oA := someL_ok 4 (by decide) A T
  have wA := someL_wf 4 (by decide) A T hTw
  have hn0 : (ws0 4 7).n = 4 := rfl
  (refine go ?_)
  refine WL.call rfl (by first | exact True.intro | exact rfl) gSL (law21_some_ae 4 (by omega) A T hA hT _) ?_
  (refine go ?_)
  have hL1 := laid_areaW (md := true) hF0 (by omega) hf0 1 (by decide) (someL 4 A T) (by rw [lA]; rfl) wA oA
  have hF1 := fit_areaW (md := true) hF0 hf0 1 (by decide) (someL 4 A T) (by rw [lA]; rfl)
  refine WL.callA rfl (by first | exact True.intro | exact rfl) gSL (area_Write_ac g1 hF0 (by omega) 1 (by decide) (someL 4 A T) (by rw [lA]; rfl) wA oA) ?_
  rintro _ h2 ⟨rfl, g2, k2⟩
  rw [hf0.can, hf0.spend.can]
  simp only [Bool.and_self, if_true]
  have hn1 : ((ws0 4 7).areaW true 1 (someL 4 A T)).n = 4 := areaW_n _ _ _ _
  generalize (ws0 4 7).areaW true 1 (someL 4 A T) = s1 at *
  generalize ((ws0 4 7).nodes true (someL 4 A T)).getD 1 (0, 0) = ta at *
  have k3 : Kp (fun id => h.next ≤ id) h h2 := k1.trans (k2.mono fun id _ hi => hnm id hi)
  have hx3 := k3.next
  clear k1 k2 g1
  (refine go ?_)
  refine WL.named (fun h4 => WG true h4 n s1 ∧ Kp (fun id => h.next ≤ id) h h4 ∧ BoxAt h4 h2.next (.mem 2 [encP ta])) ⟨g2.new (by repeat first | exact Kp.refl | assumption | with_reducible refine Kp.put ?_ (by omega) _ | with_reducible refine Kp.setN ?_ (by omega) _ | with_reducible refine Kp.keep ?_ _ | with_reducible refine Kp.setW ?_ (by rfl) _), (by repeat first | exact Kp.refl | assumption | with_reducible refine Kp.put ?_ (by omega) _ | with_reducible refine Kp.setN ?_ (by omega) _ | with_reducible refine Kp.keep ?_ _ | with_reducible refine Kp.setW ?_ (by rfl) _), put_used_nm (x := .mem 2 [[.int .u64 0, .int .u64 0]]), gH⟩ ?_
  have hxa : ∀ id, n.own true id → id ≠ h2.next := fun id hi e => by have := (g2.us id (.inl (WN.own_all hi))).1; omega
  generalize h2.next = pa at *
  clear g2 k3
  rintro h4 ⟨g4, k4, b4⟩
  have hob := g4.w.w
  simp only [wRow] at hob
  have hll : s1.sd.lasts.length = (s1.n * 160 + 120).toNat := by rw [hF1.sd.len, sizeG_pos hF1.g]
  have hfit : ∀ o ∈ s1.sd.waits, 0 ≤ o.1 ∧ o.1 + o.2.length ≤ s1.sd.lasts.length := fun o ho => by have := hF1.sd.w o ho; rw [sizeG_pos hF1.g] at this; omega
  have hin : inB s1.sd.lasts.length off by'.length = true := by rw [hll, hn1]; simp [inB]; omega
  (refine go ?_)
  refine WL.call rfl (by first | exact True.intro | exact rfl) gSL (ssd_Smash_ae g4.w.sd (by omega) (Nat.le_trans hF1.sd.kw (by omega)) hfit off by' (by omega)) ?_
  rw [hin]
  refine WL.named (fun h6 => WG true h6 n (s1.smash (off, by')) ∧ Kp (fun id => h.next ≤ id) h h6 ∧ BoxAt h6 pa (.mem 2 [encP ta])) ⟨g4.step (g4.w.putSd _ _) (kp_sd n _ _), k4.trans ((kp_sd n _ _).mono fun id _ hi => hnm id hi), b4.kp (kp_sd n _ _) (fun hi => hxa _ hi rfl)⟩ ?_
  clear g4 k4 b4 hob
  rintro h5 ⟨g5, k5, b5⟩
  have q1 := b5.g
  have hF2 := fit_smash hF1 (off, by')
  obtain ⟨f2, l2, t2⟩ := hL1.smash (off, by')
  have hn2 : (s1.smash (off, by')).n = 4 := hn1
  generalize s1.smash (off, by') = s2 at *
  have hR := read_foe (a := 1) hF2 (by omega) l2 wA oA f2.g t2
  (refine go ?_)
  refine WL.callA rfl (by first | exact True.intro | exact rfl) gSL (area_Read_ac g5 hF2 (by omega) 1 (by decide) ta) ?_
  rintro _ h6 ⟨rfl, g6, k6⟩
  obtain ⟨p1, p2, p3⟩ := readS_sd true s2 1
  have hF3 := fit_readS (md := true) hF2 1
  have t3 := t2.pre (readS_pre true (s := s2) 1 (by omega))
  have f3 : (s2.readS true 1).pw.Free := by rw [p3]; exact f2
  have l3 : ((someL 4 A T).length : Int) = (s2.readS true 1).n := by rw [p2]; exact l2
  have b6 := b5.kp k6 (fun hi => hxa _ hi rfl)
  have k7 : Kp (fun id => h.next ≤ id) h h6 := k5.trans (k6.mono fun id _ hi => hnm id hi)
  generalize s2.readS true 1 = s3 at *
  clear g5 k5 b5 k6 q1
  have q1 := b6.g
  have hj : j < (someL 4 A T).length := by omega
  have hO := one_foe (a := 1) hF3 (by omega) l3 wA oA f3.g t3 j hj
  (refine go ?_)
  refine WL.callA rfl (by first | exact True.intro | exact rfl) gSL (area_One_ac g6 hF3 (by omega) 1 (by decide) j (by omega) ta) ?_
  rintro _ h7 ⟨rfl, g7, k8⟩
  have k9 : Kp (fun id => h.next ≤ id) h h7 := k7.trans (k8.mono fun id _ hi => hnm id hi)
  have kk : Keeps h h7 := k9.keeps fun _ h => h
  have hx9 := k9.next
  obtain ⟨nx, hnx⟩ : ∃ nx, h7.next = nx := ⟨_, rfl⟩
  have hl0 : encL lf0 = [.int .i64 0, .bool false, .int .i64 0, .int .u32 0, .int .u32 0, .int .u64 0, .int .u64 0, .int .u64 0] := rfl
  clear g6 k7 b6 g7 k8 k9 q1
  rcases hR with ⟨e1, e2⟩ | ⟨e1, e2⟩ <;> rcases hO with ⟨e3, e4⟩ | ⟨e3, e4⟩ <;> rw [e1, e2, e3, e4]
  · (refine go ?_)
    refine DW.callS rfl (by first | exact True.intro | exact rfl) gSL rfl (ref15_Same_ae (someL 4 A T) (someL 4 A T) (by omega) (by omega) _) ?_
    rw [decide_eq_true rfl]
    iterate 2 (refine DW.go ?_)
    (repeat first | refine DW.skipU (.inl ⟨_, rfl, rfl⟩) ?_ | refine DW.skipU (.inr rfl) ?_)
    iterate 12 (refine DW.go ?_)
    simp only [beq_self_eq_true, Bool.and_true]
    refine DW.go ?_
    (repeat first | refine DW.skipU (.inl ⟨_, rfl, rfl⟩) ?_ | refine DW.skipU (.inr rfl) ?_)
    (refine go ?_)
    refine DW.callS rfl (by first | exact True.intro | exact rfl) gSL rfl (law21_known_ae _) ?_
    (refine go ?_)
    refine WW.ret (PureQ.finD ?_)
    exact fz_b rfl
  · (refine go ?_)
    refine DW.callS rfl (by first | exact True.intro | exact rfl) gSL rfl (ref15_Same_ae (someL 4 A T) (someL 4 A T) (by omega) (by omega) _) ?_
    rw [decide_eq_true rfl]
    iterate 2 (refine DW.go ?_)
    (repeat first | refine DW.skipU (.inl ⟨_, rfl, rfl⟩) ?_ | refine DW.skipU (.inr rfl) ?_)
    (refine go ?_)
    refine DW.callS rfl (by first | exact True.intro | exact rfl) gSL rfl (law21_known_ae _) ?_
    (refine go ?_)
    refine WW.ret (PureQ.finD ?_)
    exact fz_b rfl
  · (refine go ?_)
    simp only [beq_self_eq_true, Bool.and_true]
    (repeat first | refine DW.skipU (.inl ⟨_, rfl, rfl⟩) ?_ | refine DW.skipU (.inr rfl) ?_)
    (refine go ?_)
    refine DW.callS rfl (by first | exact True.intro | exact rfl) gSL rfl (law21_known_ae _) ?_
    (refine go ?_)
    refine WW.ret (PureQ.finD ?_)
    exact fz_b rfl
  · (refine go ?_)
    refine DW.callS rfl (by first | exact True.intro | exact rfl) gSL rfl (law21_known_ae _) ?_
    (refine go ?_)
    refine WW.ret (PureQ.finD ?_)
    exact fz_b rfl
theorem top_AreaFoe (c0 : List AV) (t0 : TypL [.sl [.i .i64]] c0) (c1 : List AV) (t1 : TypL [.sl [.i .u64]] c1) (c2 : List AV) (t2 : TypL [.i .i64] c2) (c3 : List AV) (t3 : TypL [.sl [.i .u8]] c3) (c4 : List AV) (t4 : TypL [.i .i64] c4) :
    AE Try.prog 12 [c0.headD .nilp, c1.headD .nilp, c2.headD .nilp, c3.headD .nilp, c4.headD .nilp] noHeap (.bool true) noHeap := by
  obtain ⟨A, rfl, hA⟩ := ints_of t0
  obtain ⟨T, rfl, hT, hTw⟩ := u64s_of t1
  obtain ⟨off, rfl, _⟩ := int_of t2
  obtain ⟨b, rfl⟩ := bytes_of t3
  obtain ⟨i, rfl, _⟩ := int_of t4
  exact law21_AreaFoe_ae A T off b i hA hT hTw noHeap
end Go.Proofs.Ytjehfcjfnmcjcaa


