/- Trees: what is no tree; a leaf turned; the laws' own functions. -/
import Derived.Test.YtlddahcgaonlhaaG2
import Derived.Test.YtlddahcgaonlhaaCL18
set_option linter.all false
namespace Go.Proofs.Ytlddahcgaonlhaa
open Go Go.Abs

theorem tree_Build_no {p : AV} (lv : List Bs) (hl : lv.length ≤ 1000000) (hG : isG lv.length = false) (h : AHeap) :
    AE Try.prog 21 [p, .imm 1 (lv.map encR)] h (.tup [.imm 2 [], .bool false]) h := by
  refine AE.pureW is_tree_Build (by simp) ?_
  unfold c_tree_Build
  (refine go ?_)
  refine WL.call rfl (by first | exact True.intro | exact rfl) (by repeat first | exact SubL.nil | refine SubL.cons (SubV.refl _) ?_ | refine SubL.cons SubV.app ?_ | refine SubL.cons SubV.nil ?_) (geom_Is_ae _ _) ?_
  rw [hG]
  (refine go ?_)
  refine WW.ret (PureQ.finD ?_)
  exact Fz.tup2 (.nil _) (fz_b rfl)
/-- Leaves that are too long, or too many. -/
def longF (l : List Bs) : Bool := (l.take 20).any (fun b => decide (100 < b.length)) || decide (20 < l.length)
theorem longF_no {l : List Bs} (h : longF l = false) : l.length ≤ 20 ∧ ∀ b ∈ l, b.length ≤ 100 := by
  simp only [longF, Bool.or_eq_false_iff, List.any_eq_false, decide_eq_true_eq, decide_eq_false_iff_not, Nat.not_lt] at h
  refine ⟨h.2, fun b hb => h.1 b ?_⟩
  rw [List.take_of_length_le h.2]; exact hb
theorem law18_long_ae (l : List Bs) (hl : l.length ≤ maxLen) (h : AHeap) : AE Try.prog 18 [.imm 1 (l.map encR)] h (.bool (longF l)) h := by
  refine AE.pureW is_law18_long (by simp) ?_
  unfold c_law18_long
  have hmx : l.length ≤ 9223372036854775807 := hl
  (refine go ?_)
  refine WW.loopE (fun (i : Nat) => [(0, some (.imm 1 (l.map encR))), (3, some (.int .i64 i))])
    (fun i h' => h' = h ∧ i ≤ l.length ∧ i ≤ 20 ∧ (l.take i).any (fun b => decide (100 < b.length)) = false) (fun i => l.length - i) 0 (by repeat first | exact subE.nil _ | (apply subE.cons; focus (first | exact rfl | (simp [lk_cons]; done) | (simp [lk_cons]; omega)))) ⟨rfl, Nat.zero_le _, by omega, by simp⟩ ?_
  rintro i h' ⟨rfl, c1, c2, c3⟩
  (refine go ?_)
  (apply WL.andB; exact rfl; exact rfl; exact rfl; exact BP.of; intro hz1)
  · (repeat first | (apply GW.goS; exact Stp.auto) | apply GW.nil | exact rfl)
  (refine go ?_)
  (refine WW.ifB rfl (fun hz2 => ?_) (fun hz2 => ?_))
  · have hi : i < l.length ∧ i < 20 := by simp at hz2; omega
    (refine go ?_)
    (refine WW.ifB rfl (fun hz3 => ?_) (fun hz3 => ?_))
    · (refine go ?_)
      refine WW.ret (PureQ.finD ?_)
      refine fz_b ?_
      rw [longF]
      have : (l.take 20).any (fun b => decide (100 < b.length)) = true := by
        rw [List.any_eq_true]
        refine ⟨l[i], ?_, by simp; omega⟩
        rw [List.mem_take_iff_getElem]
        exact ⟨i, by omega, rfl⟩
      rw [this]; rfl
    · (refine go ?_)
      refine ⟨i + 1, (by repeat first | exact subE.nil _ | (apply subE.cons; focus (first | exact rfl | (simp [lk_cons]; done) | (simp [lk_cons]; omega)))), ⟨rfl, by omega, by omega, ?_⟩, by omega⟩
      rw [List.take_succ_eq_append_getElem hi.1, List.any_append, c3]
      simp; omega
  · have hi : i = l.length ∨ i = 20 := by simp at hz2; omega
    (refine go ?_)
    refine WW.ret (PureQ.finD ?_)
    refine fz_b ?_
    rw [longF]
    have : (l.take 20).any (fun b => decide (100 < b.length)) = false := by
      rcases hi with rfl | rfl
      · rw [List.take_length] at c3; rw [List.take_of_length_le c2]; exact c3
      · exact c3
    rw [this]; simp; omega

theorem phi_newO {n : Nat} {W : List Nat} {h0 h : AHeap} (hn : n ≤ h.next) (hp : PhiW n W h0 h) : PhiW n W h0 (newO h) := fun id h1 h2 => by
  rw [newO_get h (by omega)]; exact hp id h1 h2
theorem DW.fxF0 {P : Program} {N : Nat} {Φ : AHeap → Prop} {ws fs : List Nat} {K : Env → AHeap → Prop} {j d : Nat} {i : Ins} {g : Option (Nat × Bool)} {v : AV} {l : List CI} {e : Env} {h : AHeap} (hp : Φ h) (hx : ∀ h2, FX P N ⟨some d, i, g⟩ e h2 (some v) h2) (h0 : free0 i = false) (k : DW P N Φ ws fs K (j + 1) l ((d, some v) :: e) h) :
    DW P N Φ ws fs K j (⟨some d, i, g⟩ :: l) e h := DW.fxF (fun h2 _ => hx h2) h0 hp k
set_option maxHeartbeats 4000000 in
theorem law18_known_ae (h : AHeap) : AE Try.prog 23 [] h (.bool true) h := by
  refine AE.pureW is_law18_known (by simp) ?_
  unfold c_law18_known
  obtain ⟨h1, e1, o1, n1, m1, k1⟩ := newL_ex (h := h) (nx := h.next) rfl
  (repeat first | refine WL.go ?_ | refine WW.seq ?_ | refine WW.reg ?_ | refine WL.nil ?_ | refine WW.skip ?_ | refine WW.block ?_ | refine WW.exit ?_ | refine WW.condT rfl ?_ | refine WW.condF rfl ?_ | refine WL.gox ?_ | refine thenN ?_ | refine blkN ?_)
  refine WW.dregX [0, 2] [1] [] gN (by decide +kernel) ?_
  refine DW.callSW rfl (by first | exact True.intro | exact rfl) (by repeat first | exact SubL.nil | refine SubL.cons (SubV.refl _) ?_ | refine SubL.cons SubV.app ?_ | refine SubL.cons SubV.nil ?_) rfl rfl (fun hp => PhiW.put (by omega) (phi_newO (Nat.le_refl _) hp)) (lock_Ideal_ae rfl) ?_
  rw [e1]
  refine DW.fxF0 (fun id hi _ => m1 id hi) (fun h2 => FX.mkslI (n := 4) rfl rfl rfl rfl (by decide) (by first | exact True.intro | exact rfl)) rfl ?_
  refine DW.callSW rfl (by first | exact True.intro | exact rfl) (SubL.cons (SubV.refl _) (SubL.cons SubV.nilRows SubL.nil)) rfl rfl (fun hp => PhiW.setN (by omega) hp) (tree_Build_ae (GAt.ofI o1 (by omega) (by omega)) (by simp) (List.replicate 4 []) (by decide) (by simp)) ?_
  (refine go ?_)
  refine WW.named (fun h2 => h2.next = h.next + 4 ∧ Keeps h h2) ⟨gN, ((k1 h (Keeps.refl _)).set (Nat.le_refl _) _)⟩ ?_
  rintro h2 ⟨n2, k2⟩
  clear e1 o1 n1 m1 k1
  obtain ⟨h3, e3, o3, n3, m3, k3⟩ := newL_ex (h := h2) (nx := h.next + 4) n2
  refine WW.dregX [0, 2] [1] [] gN (by decide +kernel) ?_
  refine DW.callSW rfl (by first | exact True.intro | exact rfl) (by repeat first | exact SubL.nil | refine SubL.cons (SubV.refl _) ?_ | refine SubL.cons SubV.app ?_ | refine SubL.cons SubV.nil ?_) rfl rfl (fun hp => PhiW.put (by omega) (phi_newO (by omega) hp)) (lock_Ideal_ae n2) ?_
  rw [e3]
  refine DW.fxF0 (fun id hi _ => m3 id (by omega)) (fun h2 => FX.mkslI (n := 5) rfl rfl rfl rfl (by decide) (by first | exact True.intro | exact rfl)) rfl ?_
  refine DW.callS rfl (by first | exact True.intro | exact rfl) (SubL.cons (SubV.refl _) (SubL.cons SubV.nilRows SubL.nil)) rfl (tree_Build_no (List.replicate 5 []) (by decide) (by decide) _) ?_
  (refine go ?_)
  have hB : (buildF true (List.replicate 4 []) []).1 = [(0, 0), (eees, 3), (eees, 2), (eees, 2), (eees, 1), (eees, 1), (eees, 1), (eees, 1)] := by decide +kernel
  rw [hB]
  (refine go ?_)
  have k4 := k3 h k2
  refine WW.ret (PureQ.finD ?_)
  exact fz_b rfl

theorem slices_CloneP_ae {h : AHeap} {nx : Nat} (hn : h.next = nx) (l : List Pr) (hl : l.length ≤ 1000000) (hne : l ≠ []) : AE Try.prog 62 [.imm 2 (l.map encP)] h (.ref nx 0 l.length) (h.put nx (.mem 2 (l.map encP))) := by
  subst hn
  refine AC.introW is_slices_Cloneapi_Pair_api_Pair (by simp) ?_
  unfold c_slices_Cloneapi_Pair_api_Pair
  (refine go ?_)
  refine WL.fq1 (FQ.isnil rfl (by first | exact True.intro | exact rfl)) ?_
  intro r0 h0 hR
  obtain ⟨b, hr0, hh0, hb⟩ := hR
  subst hr0
  rw [hh0]
  (refine go ?_)
  (refine WW.ifB rfl (fun hz1 => ?_) (fun hz1 => ?_))
  · exact absurd (by simpa using hb hz1) hne
  · (repeat first | refine WW.seq ?_ | refine WW.reg ?_ | refine WL.nil ?_ | refine WW.skip ?_ | refine WW.block ?_ | refine thenN ?_ | refine blkN ?_); iterate 2 (refine WL.go ?_)
    refine WL.fx1 (FX.appM (nm := h.next) (c := l.map encP) (fun hu => Nat.lt_irrefl _ hu.1) rfl rfl rfl (by simpa using hne) (by simp; omega) (by first | exact True.intro | exact rfl)) ?_
    (refine go ?_)
    exact WW.ret ⟨.inl rfl, _, (by repeat first | exact resA_nil | (apply resA_t; exact rfl) | (apply resA_c; exact rfl; exact gH; exact (by first | exact getC_at rfl rfl | exact getC_all rfl | exact getC_sub (Nat.le_of_ble_eq_true rfl) (by first | (simp only [putC, AV.cs, encP, encN, encI, encS, encA, List.take_succ_cons, List.take_zero, List.take_nil, List.drop_succ_cons, List.drop_zero, List.drop_nil, List.cons_append, List.nil_append, List.append_nil, List.length_cons, List.length_nil, Nat.zero_add, Nat.add_zero, Nat.reduceAdd]; exact rfl) | exact rfl) | exact getC_sub (by simp) (by first | (simp only [putC, AV.cs, encP, encN, encI, encS, encA, List.take_succ_cons, List.take_zero, List.take_nil, List.drop_succ_cons, List.drop_zero, List.drop_nil, List.cons_append, List.nil_append, List.append_nil, List.length_cons, List.length_nil, Nat.zero_add, Nat.add_zero, Nat.reduceAdd]; exact rfl) | exact rfl)))), by simp [fin], rfl⟩

/-- The way up from node k, turned. -/
def tuF (md : Bool) : Nat → List Pr → List Bs → List Pr × List Bs
  | k, N, S => if h : k = 0 then (N, S) else tuF md (k / 2) (N.set k (gP md S (kidK N k))) (gS md S (kidK N k))
termination_by k => k
decreasing_by omega
theorem tuF_zero (md : Bool) (N : List Pr) (S : List Bs) : tuF md 0 N S = (N, S) := by rw [tuF]; rfl
theorem tuF_more (md : Bool) {k : Nat} (hk : 0 < k) (N : List Pr) (S : List Bs) : tuF md k N S = tuF md (k / 2) (N.set k (gP md S (kidK N k))) (gS md S (kidK N k)) := by rw [tuF]; simp [show ¬ k = 0 by omega]
def turnF (md : Bool) (N : List Pr) (i : Nat) (b : Bs) (S : List Bs) : List Pr × List Bs := tuF md ((N.length / 2 + i) / 2) (N.set (N.length / 2 + i) (gP md S (leafK b))) (gS md S (leafK b))
theorem tree_Turn_no {p v : AV} (N : List Pr) (hN : N.length ≤ 1000000) (i : Int) (hno : (isT N.length && decide (0 ≤ i) && decide (i < N.length / 2)) = false) (h : AHeap) :
    AE Try.prog 24 [p, .imm 2 (N.map encP), .int .i64 i, v] h (.tup [.imm 2 [], .bool false]) h := by
  refine AE.pureW is_tree_Turn (by simp) ?_
  unfold c_tree_Turn
  (refine go ?_)
  refine WL.call rfl (by first | exact True.intro | exact rfl) (by repeat first | exact SubL.nil | refine SubL.cons (SubV.refl _) ?_ | refine SubL.cons SubV.app ?_ | refine SubL.cons SubV.nil ?_) (tree_is_ae N hN _) ?_
  (refine go ?_)
  (apply WL.orB; exact rfl; exact rfl; exact rfl; exact BP.of; intro hz1)
  · (repeat first | (apply GW.goS; exact Stp.auto) | apply GW.nil | exact rfl)
  (refine go ?_)
  (apply WL.orB; exact rfl; exact rfl; exact rfl; exact BP.of; intro hz2)
  · (repeat first | (apply GW.goS; exact Stp.auto) | apply GW.nil | exact rfl)
  (refine go ?_)
  (refine WW.ifB rfl (fun hz3 => ?_) (fun hz3 => ?_))
  · (refine go ?_)
    refine WW.ret (PureQ.finD ?_)
    exact Fz.tup2 (.nil _) (fz_b rfl)
  · exfalso
    simp at hz3 hno
    have := hno hz3.1.1 hz3.1.2
    omega
theorem tuF_len (md : Bool) : ∀ (k : Nat) (N : List Pr) (S : List Bs), (tuF md k N S).1.length = N.length := fun k => by
  induction k using Nat.strongRecOn with
  | ind k ih =>
    intro N S
    by_cases hk : k = 0
    · subst hk; rw [tuF_zero]
    · rw [tuF_more md (by omega), ih (k / 2) (by omega)]; simp
set_option maxHeartbeats 4000000 in
theorem tree_Turn_ae {md : Bool} {h : AHeap} {l s : Nat} {S : List Bs} (hl : GAt md h l s S) (hS : S.length ≤ 10000) (N : List Pr) (i : Nat) (b : Bs) (hT : isT N.length = true) (hi : i < N.length / 2) (hb : b.length ≤ 100000) :
    AE Try.prog 24 [.ptr l 0 0, .imm 2 (N.map encP), .int .i64 i, .imm 1 (b.map encB)] h (.tup [.imm 2 ((turnF md N i b S).1.map encP), .bool true]) (h.set s (gO md (turnF md N i b S).2)) := by
  have hN := isT_two hT
  refine AE.wfU fun hwu => ?_
  obtain ⟨w1, w4, w5, w6⟩ := hl.lt
  refine AE.effW is_tree_Turn (by simp) (hl.ext hwu _) ?_
  unfold c_tree_Turn
  (refine go ?_)
  refine WL.call rfl (by first | exact True.intro | exact rfl) (by repeat first | exact SubL.nil | refine SubL.cons (SubV.refl _) ?_ | refine SubL.cons SubV.app ?_ | refine SubL.cons SubV.nil ?_) (tree_is_ae N (by omega) _) ?_
  (refine go ?_)
  (apply WL.orB; exact rfl; exact rfl; exact rfl; exact BP.of; intro hz1)
  · (repeat first | (apply GW.goS; exact Stp.auto) | apply GW.nil | exact rfl)
  (refine go ?_)
  (apply WL.orB; exact rfl; exact rfl; exact rfl; exact BP.of; intro hz2)
  · (repeat first | (apply GW.goS; exact Stp.auto) | apply GW.nil | exact rfl)
  (refine go ?_)
  (refine WW.ifB rfl (fun hz3 => ?_) (fun hz3 => ?_))
  · exfalso
    simp [hT] at hz3
    omega
  (refine go ?_)
  refine WL.call rfl (by first | exact True.intro | exact rfl) (by repeat first | exact SubL.nil | refine SubL.cons (SubV.refl _) ?_ | refine SubL.cons SubV.app ?_ | refine SubL.cons SubV.nil ?_) (slices_CloneP_ae (nx := h.next) rfl N (by omega) (by intro e; subst e; simp at hN)) ?_
  (refine go ?_)
  have hcon := tree_leafSum_ae (h := h.put h.next (.mem 2 (N.map encP))) (hl.frame hwu (by repeat first | exact KeepsB.refl | assumption | with_reducible refine KeepsB.keep ?_ _ | with_reducible refine KeepsB.put ?_ (by omega) _ | with_reducible refine KeepsB.setN ?_ (by omega) _ | with_reducible refine KeepsB.setW ?_ (by simp; done) _) gH) (by omega) b hb
  refine WL.call rfl (by first | exact True.intro | exact rfl) (by repeat first | exact SubL.nil | refine SubL.cons (SubV.refl _) ?_ | refine SubL.cons SubV.app ?_ | refine SubL.cons SubV.nil ?_) (hcon) ?_
  (refine go ?_)
  refine WW.loopE (fun (q : Nat × List Pr × List Bs) => [(0, some (.ptr l 0 0)), (11, some (.ref h.next 0 N.length)), (12, some (.int .i64 q.1))])
    (fun q h' => h' = (h.put h.next (.mem 2 (q.2.1.map encP))).set s (gO md q.2.2) ∧ q.1 < N.length / 2 ∧ q.2.1.length = N.length ∧ q.2.2.length + q.1 ≤ S.length + 100 ∧ tuF md q.1 q.2.1 q.2.2 = turnF md N i b S) (fun q => q.1) ((N.length / 2 + i) / 2, N.set (N.length / 2 + i) (gP md S (leafK b)), gS md S (leafK b)) (by repeat first | exact subE.nil _ | (apply subE.cons; focus (first | exact rfl | (simp [lk_cons]; done) | (simp [lk_cons]; omega))))
    ⟨?_, by dsimp only; omega, by simp, ?_, rfl⟩ ?_
  · dsimp only
    rw [Nat.zero_add, ← set_map, hp_one (h := h) (nd := h.next) (s := s) (x := .mem 2 (N.map encP)) (by omega) hl.sm]
    exact hp_upd (by omega)
  · have := gS_le md S (leafK b); dsimp only; omega
  rintro ⟨k, N2, S2⟩ h' ⟨rfl, c1, c2, c3, c4⟩
  dsimp only at c1 c2 c3 c4 ⊢
  (refine go ?_)
  (refine WW.ifB rfl (fun hz4 => ?_) (fun hz4 => ?_))
  · have hk : 0 < k := by omega
    (repeat first | refine WL.go ?_ | refine WW.seq ?_ | refine WW.reg ?_ | refine WL.nil ?_ | refine WW.skip ?_ | refine WW.block ?_ | refine WW.exit ?_ | refine WW.condT rfl ?_ | refine WW.condF rfl ?_ | refine WL.gox ?_ | refine thenN ?_ | refine blkN ?_)
    refine WW.dregX [14, 16] [] [s, h.next] gN (by decide +kernel) ?_
    (refine go ?_)
    have hkid : kidK N2 k = nodeK (N2[0 + 2 * k]'(by omega)) (N2[0 + (2 * k + 1)]'(by omega)) := by
      simp only [kidK, Nat.zero_add, List.getD_eq_getElem?_getD]
      rw [List.getElem?_eq_getElem (by omega), List.getElem?_eq_getElem (by omega)]
      rfl
    have hcon := tree_nodeSum_ae (h := (h.put h.next (.mem 2 (N2.map encP))).set s (gO md S2)) (hl.frame hwu (by repeat first | exact KeepsB.refl | assumption | with_reducible refine KeepsB.keep ?_ _ | with_reducible refine KeepsB.put ?_ (by omega) _ | with_reducible refine KeepsB.setN ?_ (by omega) _ | with_reducible refine KeepsB.setW ?_ (by simp; done) _) gH) (by omega) (N2[0 + 2 * k]'(by omega)) (N2[0 + (2 * k + 1)]'(by omega))
    rw [← hkid] at hcon
    refine DW.callSW rfl (by first | exact True.intro | exact rfl) (by repeat first | exact SubL.nil | refine SubL.cons (SubV.refl _) ?_ | refine SubL.cons SubV.app ?_ | refine SubL.cons SubV.nil ?_) rfl rfl (fun hp => by repeat first | exact hp | refine PhiW.put (by omega) ?_ | refine PhiW.setN (by omega) ?_ | refine PhiW.setW (by simp; done) ?_) (hcon) ?_
    (refine go ?_)
    refine ⟨(k / 2, N2.set k (gP md S2 (kidK N2 k)), gS md S2 (kidK N2 k)), (by repeat first | exact subE.nil _ | (apply subE.cons; focus (first | exact rfl | (simp [lk_cons]; done) | (simp [lk_cons]; omega)))), ⟨?_, by dsimp only; omega, by simpa using c2, ?_, ?_⟩, by dsimp only; omega⟩
    · rw [Nat.zero_add, ← set_map]; exact hp_upd (by omega)
    · have := gS_le md S2 (kidK N2 k); dsimp only; omega
    · rw [← c4, tuF_more md hk]
  · have hk : k = 0 := by omega
    subst hk
    rw [tuF_zero] at c4
    (refine go ?_)
    rw [← c4]
    refine WW.ret (EffQ.finD ?_ ?_)
    · refine ⟨(by repeat first | exact Nat.le_refl _ | refine next_le_put ?_ | refine next_le_set ?_ | assumption), fun id hu => ?_⟩; have hlt : id < AHeap.next h := hu.1; simp only [get_put, get_set]; (repeat' split) <;> first | rfl | omega | (simp [putM]; done)
    · exact Fz.tup2 (fz_ref gH (Nat.le_refl _) (by simp [c2]) rfl (flatC_map encP_flat)) (fz_b rfl)
end Go.Proofs.Ytlddahcgaonlhaa
