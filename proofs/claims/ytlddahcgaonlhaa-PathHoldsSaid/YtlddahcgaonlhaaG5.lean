/- A leaf by its neighbours, by either lock: Check. -/
import Derived.Test.YtlddahcgaonlhaaG3
set_option linter.all false
namespace Go.Proofs.Ytlddahcgaonlhaa
open Go Go.Abs

/-- The way up: the sum, what was summed. -/
def ckF (md : Bool) : List Pr → Nat → Pr → List Bs → Pr × List Bs
  | [], _, p, S => (p, S)
  | x :: r, i, p, S => ckF md r (i / 2) (gP md S (if i % 2 = 1 then nodeK x p else nodeK p x)) (gS md S (if i % 2 = 1 then nodeK x p else nodeK p x))
theorem ckF_len (md : Bool) : ∀ (q : List Pr) (i : Nat) (p : Pr) (S : List Bs), (ckF md q i p S).2.length ≤ S.length + q.length
  | [], _, _, _ => Nat.le_refl _
  | x :: r, i, p, S => by
    have h1 := ckF_len md r (i / 2) (gP md S (if i % 2 = 1 then nodeK x p else nodeK p x)) (gS md S (if i % 2 = 1 then nodeK x p else nodeK p x))
    have h2 := gS_le md S (if i % 2 = 1 then nodeK x p else nodeK p x)
    simp only [ckF, List.length_cons]
    omega
theorem shl_one {n : Nat} (hn : n ≤ 60) : shA .shl .i64 1 (n : Int) = some (.int .i64 ((2 ^ n : Nat) : Int)) := by
  have h0 : (0 : Int) ≤ (n : Int) := Int.natCast_nonneg _
  show req (0 ≤ (n : Int)) _ = _
  rw [req_pos h0]
  have h1 : min ((n : Int).toNat) IntKind.i64.bits = n := by
    have : IntKind.i64.bits = 64 := rfl
    rw [this]; simp; omega
  have h2 : (2 : Nat) ^ n ≤ 2 ^ 60 := Nat.pow_le_pow_right (by decide) hn
  have h3 : ((1 : Int) * 2 ^ n) = ((2 ^ n : Nat) : Int) := by simp
  rw [h1, h3]
  generalize 2 ^ n = m at *
  have h4 : m ≤ 1152921504606846976 := h2
  rw [wrap_in (by constructor <;> omega)]
def ckOk (slots i : Int) (n : Nat) : Bool := isG slots && decide (0 ≤ i) && decide (i < slots) && decide (slots = ((2 ^ n : Nat) : Int))
theorem path_Check_no {p v : AV} (slots i : Int) (q : List Pr) (hq : q.length ≤ 60) (top : Pr) (hno : ckOk slots i q.length = false) (h : AHeap) :
    AE Try.prog 27 [p, .int .i64 slots, .int .i64 i, v, .imm 2 (q.map encP), .agg (encP top)] h (.bool false) h := by
  refine AE.pureW is_path_Check (by simp) ?_
  unfold c_path_Check
  (refine go ?_)
  refine WL.call rfl (by first | exact True.intro | exact rfl) (by repeat first | exact SubL.nil | refine SubL.cons (SubV.refl _) ?_ | refine SubL.cons SubV.app ?_ | refine SubL.cons SubV.nil ?_) (geom_Is_ae _ _) ?_
  (refine go ?_)
  (apply WL.orB; exact rfl; exact rfl; exact rfl; exact BP.of; intro hz1)
  · (repeat first | (apply GW.goS; exact Stp.auto) | apply GW.nil | exact rfl)
  (refine go ?_)
  (apply WL.orB; exact rfl; exact rfl; exact rfl; exact BP.of; intro hz2)
  · (repeat first | (apply GW.goS; exact Stp.auto) | apply GW.nil | exact rfl)
  (refine go ?_)
  (apply WL.orB; exact rfl; exact rfl; exact rfl; exact BP.of; intro hz3)
  · iterate 3 (apply GW.goS; exact Stp.auto)
    apply GW.goS
    · exact Stp.sh rfl rfl (shl_one hq) (by first | exact True.intro | exact rfl)
    (repeat first | (apply GW.goS; exact Stp.auto) | apply GW.nil | exact rfl)
  (refine go ?_)
  (refine WW.ifB rfl (fun hz4 => ?_) (fun hz4 => ?_))
  · (refine go ?_)
    refine WW.ret (PureQ.finD ?_)
    exact fz_b rfl
  · exfalso
    simp [ckOk] at hz4 hno
    have := hno hz4.1.1.1 hz4.1.1.2 hz4.1.2
    omega

set_option maxHeartbeats 4000000 in
theorem path_Check_ae {md : Bool} {h : AHeap} {l s : Nat} {S : List Bs} (hl : GAt md h l s S) (hS : S.length ≤ 10000) (slots i : Nat) (b : Bs) (hb : b.length ≤ 100000) (q : List Pr) (hq : q.length ≤ 60) (top : Pr) (hok : ckOk slots i q.length = true) :
    AE Try.prog 27 [.ptr l 0 0, .int .i64 slots, .int .i64 i, .imm 1 (b.map encB), .imm 2 (q.map encP), .agg (encP top)] h (.bool ((ckF md q i (gP md S (leafK b)) (gS md S (leafK b))).1 == top)) (h.set s (gO md (ckF md q i (gP md S (leafK b)) (gS md S (leafK b))).2)) := by
  have hk : isG slots = true ∧ i < slots ∧ slots = 2 ^ q.length := by
    simp [ckOk] at hok
    obtain ⟨⟨h1, h2⟩, h3⟩ := hok
    exact ⟨h1, h2, by exact_mod_cast h3⟩
  obtain ⟨hG, hi, hn⟩ := hk
  have hsl : slots ≤ 16 := by simp [isG] at hG; omega
  refine AE.wfU fun hwu => ?_
  obtain ⟨w1, w4, w5, w6⟩ := hl.lt
  refine AE.effW is_path_Check (by simp) (hl.ext hwu _) ?_
  unfold c_path_Check
  (refine go ?_)
  refine WL.call rfl (by first | exact True.intro | exact rfl) (by repeat first | exact SubL.nil | refine SubL.cons (SubV.refl _) ?_ | refine SubL.cons SubV.app ?_ | refine SubL.cons SubV.nil ?_) (geom_Is_ae _ _) ?_
  (refine go ?_)
  (apply WL.orB; exact rfl; exact rfl; exact rfl; exact BP.of; intro hz1)
  · (repeat first | (apply GW.goS; exact Stp.auto) | apply GW.nil | exact rfl)
  (refine go ?_)
  (apply WL.orB; exact rfl; exact rfl; exact rfl; exact BP.of; intro hz2)
  · (repeat first | (apply GW.goS; exact Stp.auto) | apply GW.nil | exact rfl)
  (refine go ?_)
  (apply WL.orB; exact rfl; exact rfl; exact rfl; exact BP.of; intro hz3)
  · iterate 3 (apply GW.goS; exact Stp.auto)
    apply GW.goS
    · exact Stp.sh rfl rfl (shl_one hq) (by first | exact True.intro | exact rfl)
    (repeat first | (apply GW.goS; exact Stp.auto) | apply GW.nil | exact rfl)
  (refine go ?_)
  (refine WW.ifB rfl (fun hz4 => ?_) (fun hz4 => ?_))
  · exfalso
    rw [← hn] at hz4
    simp [hG] at hz4
    omega
  (refine go ?_)
  have hcon := lock_SumG_ae (h := h.put h.next (.mem 2 [encP top])) (hl.frame hwu (by repeat first | exact KeepsB.refl | assumption | with_reducible refine KeepsB.keep ?_ _ | with_reducible refine KeepsB.put ?_ (by omega) _ | with_reducible refine KeepsB.setN ?_ (by omega) _ | with_reducible refine KeepsB.setW ?_ (by simp; done) _) gH) (by omega) [[0], b] (by simp) (by simp; omega)
  rw [show [[(0 : UInt8)], b].flatten = leafK b by simp [leafK]] at hcon
  refine WL.call rfl (by first | exact True.intro | exact rfl) (by repeat first | exact SubL.nil | refine SubL.cons (SubV.refl _) ?_ | refine SubL.cons SubV.app ?_ | refine SubL.cons SubV.nil ?_) (hcon) ?_
  (refine go ?_)
  refine WW.loopE (fun (r : Nat × Nat × Pr × List Bs) => [(0, some (.ptr l 0 0)), (2, some (.int .i64 r.2.1)), (11, some (.ptr h.next 0 0)), (13, some (.ptr (h.next + 1) 0 0)), (42, some (.imm 2 (q.map encP))), (43, some (.int .i64 q.length)), (44, some (.int .i64 r.1))])
    (fun r h' => h'.get h.next = some (.mem 2 [encP top]) ∧ h'.get (h.next + 1) = some (.mem 2 [encP r.2.2.1]) ∧ h'.get s = gO md r.2.2.2 ∧ KeepsB [s] h h' ∧ h.next + 2 ≤ h'.next ∧ r.1 ≤ q.length ∧ r.2.1 ≤ slots ∧ r.2.2.2.length ≤ S.length + 1 + r.1 ∧ ckF md (q.drop r.1) r.2.1 r.2.2.1 r.2.2.2 = ckF md q i (gP md S (leafK b)) (gS md S (leafK b)))
    (fun r => q.length - r.1) (0, i, gP md S (leafK b), gS md S (leafK b)) (by repeat first | exact subE.nil _ | (apply subE.cons; focus (first | exact rfl | (simp [lk_cons]; done) | (simp [lk_cons]; omega)))) ⟨gH, gH, gH, (by repeat first | exact KeepsB.refl | assumption | with_reducible refine KeepsB.keep ?_ _ | with_reducible refine KeepsB.put ?_ (by omega) _ | with_reducible refine KeepsB.setN ?_ (by omega) _ | with_reducible refine KeepsB.setW ?_ (by simp; done) _), (leN gN (by omega)), Nat.zero_le _, by dsimp only; omega, by have := gS_le md S (leafK b); dsimp only; omega, by simp⟩ ?_
  rintro ⟨j, i2, p, S2⟩ h' ⟨g1, g2, g3, g4, g5, c1, c2, c3, c4⟩
  dsimp only at g1 g2 g3 g4 g5 c1 c2 c3 c4 ⊢
  obtain ⟨nx, hnx⟩ : ∃ nx, h'.next = nx := ⟨_, rfl⟩
  (refine go ?_)
  (refine WW.ifB rfl (fun hz5 => ?_) (fun hz5 => ?_))
  · have hj : j < q.length := by omega
    (repeat first | refine WL.go ?_ | refine WW.seq ?_ | refine WW.reg ?_ | refine WL.nil ?_ | refine WW.skip ?_ | refine WW.block ?_ | refine WW.exit ?_ | refine WW.condT rfl ?_ | refine WW.condF rfl ?_ | refine WL.gox ?_ | refine thenN ?_ | refine blkN ?_)
    refine WW.named (fun h5 => h5.get h.next = some (.mem 2 [encP top]) ∧ h5.get (h.next + 1) = some (.mem 2 [encP p]) ∧ h5.get s = gO md S2 ∧ h5.get nx = some (.mem 2 [encP q[j]]) ∧ KeepsB [s] h h5 ∧ h5.next = nx + 1) ⟨gH, gH, gH, gH, (by repeat first | exact KeepsB.refl | assumption | with_reducible refine KeepsB.keep ?_ _ | with_reducible refine KeepsB.put ?_ (by omega) _ | with_reducible refine KeepsB.setN ?_ (by omega) _ | with_reducible refine KeepsB.setW ?_ (by simp; done) _), gN⟩ ?_
    clear g1 g2 g3 g4
    rintro h5 ⟨g1, g2, g3, g6, g4, hn5⟩
    refine WW.dregA [2, 3] [4, 5] [] [0, 1] [] gN (by decide +kernel) ?_
    (repeat first | refine DA.go ?_ | refine DA.goF ?_ | refine DA.new ?_ | refine DA.set ?_ | refine DA.endL ?_ | refine thenN ?_ | refine blkN ?_)
    refine WW.named (fun h6 => h6.get h.next = some (.mem 2 [encP top]) ∧ h6.get (h.next + 1) = some (.mem 2 [encP p]) ∧ h6.get s = gO md S2 ∧ h6.get nx = some (.mem 2 [encP q[j]]) ∧ h6.get (nx + 1) = some (.mem 2 [encP p]) ∧ h6.get (nx + 2) = some (.mem 2 [encP q[j]]) ∧ KeepsB [s] h h6 ∧ h6.next = nx + 3) ⟨gH, gH, gH, gH, gH, gH, (by repeat first | exact KeepsB.refl | assumption | with_reducible refine KeepsB.keep ?_ _ | with_reducible refine KeepsB.put ?_ (by omega) _ | with_reducible refine KeepsB.setN ?_ (by omega) _ | with_reducible refine KeepsB.setW ?_ (by simp; done) _), next_setE (next_setE (next_putK (by omega) (next_putK (by omega) (next_keepE hn5))))⟩ ?_
    clear g1 g2 g3 g4 g6 hn5
    rintro h6 ⟨g1, g2, g3, g6, g7, g8, g4, hn6⟩
    refine WW.seqM (fun e7 h7 => subE [(0, some (.ptr l 0 0)), (2, some (.int .i64 i2)), (11, some (.ptr h.next 0 0)), (13, some (.ptr (h.next + 1) 0 0)), (16, some (.ptr (nx + 1) 0 0)), (17, some (.ptr (nx + 2) 0 0)), (42, some (.imm 2 (q.map encP))), (43, some (.int .i64 q.length)), (44, some (.int .i64 j))] e7 ∧
      h7.get h.next = some (.mem 2 [encP top]) ∧ h7.get (h.next + 1) = some (.mem 2 [encP p]) ∧ h7.get s = gO md S2 ∧ h7.get (nx + 1) = some (.mem 2 [encP (if i2 % 2 = 1 then q[j] else p)]) ∧ h7.get (nx + 2) = some (.mem 2 [encP (if i2 % 2 = 1 then p else q[j])]) ∧ KeepsB [s] h h7 ∧ h7.next = nx + 3) ?_ ?_
    · (refine go ?_)
      (refine WW.ifB rfl (fun hz6 => ?_) (fun hz6 => ?_))
      · have hp : i2 % 2 = 1 := by omega
        (repeat first | refine WL.go ?_ | refine WW.seq ?_ | refine WW.reg ?_ | refine WL.nil ?_ | refine WW.skip ?_ | refine WW.block ?_ | refine WW.exit ?_ | refine WW.condT rfl ?_ | refine WW.condF rfl ?_ | refine WL.gox ?_ | refine thenN ?_ | refine blkN ?_)
        refine WW.dregX [2, 3] [0, 1] [nx + 1, nx + 2] gN (by decide +kernel) ?_
        (refine go ?_)
        rw [if_pos hp, if_pos hp]
        exact ⟨rfl, (by repeat first | exact subE.nil _ | (apply subE.cons; focus (first | exact rfl | (simp [lk_cons]; done) | (simp [lk_cons]; omega)))), gH, gH, gH, gH, gH, (by repeat first | exact KeepsB.refl | assumption | with_reducible refine KeepsB.keep ?_ _ | with_reducible refine KeepsB.put ?_ (by omega) _ | with_reducible refine KeepsB.setN ?_ (by omega) _ | with_reducible refine KeepsB.setW ?_ (by simp; done) _), gN⟩
      · have hp : ¬ i2 % 2 = 1 := by omega
        (refine go ?_)
        rw [if_neg hp, if_neg hp]
        exact ⟨rfl, (by repeat first | exact subE.nil _ | (apply subE.cons; focus (first | exact rfl | (simp [lk_cons]; done) | (simp [lk_cons]; omega)))), gH, gH, gH, gH, gH, (by repeat first | exact KeepsB.refl | assumption | with_reducible refine KeepsB.keep ?_ _ | with_reducible refine KeepsB.put ?_ (by omega) _ | with_reducible refine KeepsB.setN ?_ (by omega) _ | with_reducible refine KeepsB.setW ?_ (by simp; done) _), gN⟩
    · clear g1 g2 g3 g4 g6 g7 g8 hn6
      rintro e7 h7 ⟨hs7, g1, g2, g3, g7, g8, g4, hn7⟩
      refine WW.cvt (Cvt.sub hs7) ?_
      have hkey : nodeK (if i2 % 2 = 1 then q[j] else p) (if i2 % 2 = 1 then p else q[j]) = (if i2 % 2 = 1 then nodeK q[j] p else nodeK p q[j]) := by split <;> rfl
      generalize (if i2 % 2 = 1 then q[j] else p) = x1 at *
      generalize (if i2 % 2 = 1 then p else q[j]) = x2 at *
      (repeat first | refine WL.go ?_ | refine WW.seq ?_ | refine WW.reg ?_ | refine WL.nil ?_ | refine WW.skip ?_ | refine WW.block ?_ | refine WW.exit ?_ | refine WW.condT rfl ?_ | refine WW.condF rfl ?_ | refine WL.gox ?_ | refine thenN ?_ | refine blkN ?_)
      refine WW.dregX [7, 8] [] [s, h.next + 1] gN (by decide +kernel) ?_
      (refine go ?_)
      refine DW.callS rfl (by first | exact True.intro | exact rfl) (by repeat first | exact SubL.nil | refine SubL.cons (SubV.refl _) ?_ | refine SubL.cons SubV.app ?_ | refine SubL.cons SubV.nil ?_) rfl (wire_Bytes_ae x1 _) ?_
      (refine go ?_)
      refine DW.callS rfl (by first | exact True.intro | exact rfl) (by repeat first | exact SubL.nil | refine SubL.cons (SubV.refl _) ?_ | refine SubL.cons SubV.app ?_ | refine SubL.cons SubV.nil ?_) rfl (wire_Bytes_ae x2 _) ?_
      (refine go ?_)
      have hcon := lock_SumG_ae (h := h7) (hl.frame hwu g4 g3) (by omega) [[1], pairB x1, pairB x2] (by simp) (by simp [pairB_len])
      rw [show [[(1 : UInt8)], pairB x1, pairB x2].flatten = nodeK x1 x2 by simp [nodeK], hkey] at hcon
      generalize hkk : (if i2 % 2 = 1 then nodeK q[j] p else nodeK p q[j]) = kk at *
      refine DW.callSW rfl (by first | exact True.intro | exact rfl) (by repeat first | exact SubL.nil | refine SubL.cons (SubV.refl _) ?_ | refine SubL.cons SubV.app ?_ | refine SubL.cons SubV.nil ?_) rfl rfl (fun hp => by repeat first | exact hp | refine PhiW.put (by omega) ?_ | refine PhiW.setN (by omega) ?_ | refine PhiW.setW (by simp; done) ?_) (hcon) ?_
      (refine go ?_)
      refine ⟨(j + 1, i2 / 2, gP md S2 kk, gS md S2 kk), (by repeat first | exact subE.nil _ | (apply subE.cons; focus (first | exact rfl | (simp [lk_cons]; done) | (simp [lk_cons]; omega)))), ⟨gH, gH, gH, (by repeat first | exact KeepsB.refl | assumption | with_reducible refine KeepsB.keep ?_ _ | with_reducible refine KeepsB.put ?_ (by omega) _ | with_reducible refine KeepsB.setN ?_ (by omega) _ | with_reducible refine KeepsB.setW ?_ (by simp; done) _), (leN gN (by omega)), by dsimp only; omega, by dsimp only; omega, ?_, ?_⟩, by dsimp only; omega⟩
      · have := gS_le md S2 kk; dsimp only; omega
      · rw [← c4, List.drop_eq_getElem_cons hj, ckF, hkk]
  · have hj : j = q.length := by omega
    subst hj
    simp only [List.drop_length, ckF] at c4
    (refine go ?_)
    rw [← c4]
    refine WW.ret (EffQ.finD ?_ ?_)
    · exact KeepsB_finO g4 g3
    · exact fz_b (by rw [← pr_beq])
end Go.Proofs.Ytlddahcgaonlhaa
