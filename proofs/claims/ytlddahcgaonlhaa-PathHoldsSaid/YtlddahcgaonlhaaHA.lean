/- PathHolds. -/
import Derived.Test.YtlddahcgaonlhaaG9
set_option linter.all false
namespace Go.Proofs.Ytlddahcgaonlhaa
open Go Go.Abs

/-- Another leaf by an ideal lock does not come to the top. -/
theorem ck_other {S : List Bs} {lv : List Bs} {N : List Pr} (hT : Tree true S lv N) (hS : S.length ≤ 1000) {e : Nat} (he : lv.length = 2 ^ e) (e4 : e ≤ 4) {k : Nat} (hk : k < lv.length) (b : Bs) :
    ((ckF true (upL N (2 ^ e + k)) k (gP true S (leafK b)) (gS true S (leafK b))).1 == nd N 1) = (b == lv[k]) := by
  by_cases hb : b = lv[k]
  · subst hb
    rw [ck_tree hT he hk]; simp
  · have hs := gS_le true S (leafK b)
    have hsum := isG_sum true S (leafK b)
    have hpre := gS_pre true S (leafK b)
    have hne : (ckF true (upL N (2 ^ e + k)) k (gP true S (leafK b)) (gS true S (leafK b))).1 ≠ nd N 1 := by
      refine ck_odd hT (by omega) e k _ _ _ (by omega) (by omega) (upL_len N e k (by omega)) (upL_wf hT (by omega) e k (by omega) (by omega)) (IsSum.wf hsum (by omega)) hpre (by omega) (.inl fun heq => ?_)
      have h1 := (hT.leaf k hk).pre hpre
      rw [← he] at heq
      rw [heq] at hsum
      exact hb (leafK_inj (IsSum.inj hsum h1))
    rw [beq_eq_false_iff_ne.2 hne, beq_eq_false_iff_ne.2 hb]
set_option maxHeartbeats 4000000 in
theorem law19_PathHolds_ae (md : Bool) (a : List Bs) (hla : a.length ≤ maxLen) (i : Int) (b : Bs) (h : AHeap) : AE Try.prog 17 [.bool md, .imm 1 (a.map encR), .int .i64 i, .imm 1 (b.map encB)] h (.bool true) h := by
  refine AE.pureW is_law19_PathHolds (by simp) ?_
  unfold c_law19_PathHolds
  (refine go ?_)
  refine WL.call rfl (by first | exact True.intro | exact rfl) (by repeat first | exact SubL.nil | refine SubL.cons (SubV.refl _) ?_ | refine SubL.cons SubV.app ?_ | refine SubL.cons SubV.nil ?_) (law19_long_ae a hla h) ?_
  (refine go ?_)
  (apply WL.orB; exact rfl; exact rfl; exact rfl; exact BP.of; intro hz1)
  · (repeat first | (apply GW.goS; exact Stp.auto) | apply GW.nil | exact rfl)
  (refine go ?_)
  (apply WL.orB; exact rfl; exact rfl; exact rfl; exact BP.of; intro hz2)
  · (repeat first | (apply GW.goS; exact Stp.auto) | apply GW.nil | exact rfl)
    refine GW.call rfl (by first | exact True.intro | exact rfl) (by repeat first | exact SubL.nil | refine SubL.cons (SubV.refl _) ?_ | refine SubL.cons SubV.app ?_ | refine SubL.cons SubV.nil ?_) (ref17_Is_ae _ _) ?_
    (repeat first | (apply GW.goS; exact Stp.auto) | apply GW.nil | exact rfl)
  (refine go ?_)
  (apply WL.orB; exact rfl; exact rfl; exact rfl; exact BP.of; intro hz3)
  · (repeat first | (apply GW.goS; exact Stp.auto) | apply GW.nil | exact rfl)
  (refine go ?_)
  (apply WL.orB; exact rfl; exact rfl; exact rfl; exact BP.of; intro hz4)
  · (repeat first | (apply GW.goS; exact Stp.auto) | apply GW.nil | exact rfl)
  (refine go ?_)
  (refine WW.ifB rfl (fun hz5 => ?_) (fun hz5 => ?_))
  · (refine go ?_)
    refine WW.ret (PureQ.finD ?_)
    exact fz_b rfl
  have hh : longF a = false ∧ b.length ≤ 100 ∧ isG a.length = true ∧ 0 ≤ i ∧ i < a.length := by
    simp at hz5
    exact ⟨hz5.1.1.1.1, by omega, hz5.1.1.2, by omega, by omega⟩
  obtain ⟨ha, hb, hG, i0, i1⟩ := hh
  obtain ⟨a1, a2⟩ := longF_no ha
  obtain ⟨k, rfl⟩ : ∃ k : Nat, i = k := ⟨i.toNat, (Int.toNat_of_nonneg i0).symm⟩
  have hk : k < a.length := by omega
  obtain ⟨e, he, e2, e4⟩ := isG_pow hG
  (refine go ?_)
  refine WL.callA rfl (by first | exact True.intro | exact rfl) (by repeat first | exact SubL.nil | refine SubL.cons (SubV.refl _) ?_ | refine SubL.cons SubV.app ?_ | refine SubL.cons SubV.nil ?_) (AC.used (law19_of_ac md _)) ?_
  rintro _ h1 ⟨⟨l, s, rfl, oL, sL, nL, kL, hus, _⟩, _, hu⟩
  replace kL := kL h (Keeps.refl _)
  (refine go ?_)
  refine WL.call rfl (by first | exact True.intro | exact rfl) (by repeat first | exact SubL.nil | refine SubL.cons (SubV.refl _) ?_ | refine SubL.cons SubV.app ?_ | refine SubL.cons SubV.nil ?_) (tree_Build_ae oL (by simp) a hG (fun x hx => by have := a2 x hx; omega)) ?_
  obtain ⟨l1, s1⟩ := buildF_len md a []
  obtain ⟨_, hT⟩ := buildF_tree md a [] (by omega)
  obtain ⟨w1, w4, w5, w6⟩ := oL.lt
  generalize (buildF md a []).1 = N at *
  generalize (buildF md a []).2 = S at *
  (refine go ?_)
  refine WL.call rfl (by first | exact True.intro | exact rfl) (by repeat first | exact SubL.nil | refine SubL.cons (SubV.refl _) ?_ | refine SubL.cons SubV.app ?_ | refine SubL.cons SubV.nil ?_) (tree_Top_ae N (by omega) _) ?_
  rw [show isT N.length = true by rw [l1]; exact isT_twice hG]
  (refine go ?_)
  refine WL.call rfl (by first | exact True.intro | exact rfl) (by repeat first | exact SubL.nil | refine SubL.cons (SubV.refl _) ?_ | refine SubL.cons SubV.app ?_ | refine SubL.cons SubV.nil ?_) (path_Of_ae N (by omega) k _) ?_
  obtain ⟨p1, p2⟩ := path_tree hT he hG hk
  rw [p1, p2]
  have htop : topP N = nd N 1 := by rw [topP, l1, if_pos (isT_twice hG)]
  have hul := upL_len N e k (by omega)
  have hok : ckOk (a.length : Nat) (k : Nat) (upL N (2 ^ e + k)).length = true := by
    rw [hul, ckOk, hG, decide_eq_true (by omega), decide_eq_true (by omega), decide_eq_true (by rw [he])]; rfl
  have hck := ck_tree hT he hk
  have hcon := path_Check_ae (h := ((h1.set s (gO md S)).put h1.next (.mem 2 [[.int .u64 0, .int .u64 0]])).set h1.next (some (.mem 2 [encP (topP N)]))) (oL.frame (S' := S) hu (by repeat first | exact KeepsB.refl | assumption | with_reducible refine KeepsB.keep ?_ _ | with_reducible refine KeepsB.put ?_ (by omega) _ | with_reducible refine KeepsB.setN ?_ (by omega) _ | with_reducible refine KeepsB.setW ?_ (by simp; done) _) gH) (by simp at s1; omega) a.length k a[k] (by have := a2 a[k] (List.getElem_mem hk); omega) (upL N (2 ^ e + k)) (by omega) (topP N) hok
  rw [hck, htop] at hcon
  rw [show (nd N 1 == nd N 1) = true by simp] at hcon
  rw [htop]
  (repeat first | refine WL.go ?_ | refine WW.seq ?_ | refine WW.reg ?_ | refine WL.nil ?_ | refine WW.skip ?_ | refine WW.block ?_ | refine WW.exit ?_ | refine WW.condT rfl ?_ | refine WW.condF rfl ?_ | refine WL.gox ?_ | refine thenN ?_ | refine blkN ?_)
  refine WW.dregX [20] [] [s] gN (by decide +kernel) ?_
  (refine go ?_)
  refine DW.callSW rfl (by first | exact True.intro | exact rfl) (by repeat first | exact SubL.nil | refine SubL.cons (SubV.refl _) ?_ | refine SubL.cons SubV.app ?_ | refine SubL.cons SubV.nil ?_) rfl rfl (fun hp => by repeat first | exact hp | refine PhiW.put (by omega) ?_ | refine PhiW.setN (by omega) ?_ | refine PhiW.setW (by simp; done) ?_) (hcon) ?_
  (refine go ?_)
  have k3 := kL.1
  cases md with
  | false =>
    (refine go ?_)
    refine WL.call rfl (by first | exact True.intro | exact rfl) (by repeat first | exact SubL.nil | refine SubL.cons (SubV.refl _) ?_ | refine SubL.cons SubV.app ?_ | refine SubL.cons SubV.nil ?_) (law19_known_ae _) ?_
    (refine go ?_)
    refine WW.ret (PureQ.finD ?_)
    exact fz_b rfl
  | true =>
    have hco := ck_other hT (by simp at s1; omega) he e4 hk b
    have hcon2 := path_Check_ae (h := (((h1.set s (gO true S)).put h1.next (.mem 2 [[.int .u64 0, .int .u64 0]])).set h1.next (some (.mem 2 [encP (nd N 1)]))).set s (gO true S)) (oL.frame (S' := S) hu (by repeat first | exact KeepsB.refl | assumption | with_reducible refine KeepsB.keep ?_ _ | with_reducible refine KeepsB.put ?_ (by omega) _ | with_reducible refine KeepsB.setN ?_ (by omega) _ | with_reducible refine KeepsB.setW ?_ (by simp; done) _) gH) (by simp at s1; omega) a.length k b (by omega) (upL N (2 ^ e + k)) (by omega) (nd N 1) hok
    rw [hco] at hcon2
    (repeat first | refine WL.go ?_ | refine WW.seq ?_ | refine WW.reg ?_ | refine WL.nil ?_ | refine WW.skip ?_ | refine WW.block ?_ | refine WW.exit ?_ | refine WW.condT rfl ?_ | refine WW.condF rfl ?_ | refine WL.gox ?_ | refine thenN ?_ | refine blkN ?_)
    refine WW.dregX [6] [8, 11, 12, 13] [s] gN (by decide +kernel) ?_
    (refine go ?_)
    refine DW.callSW rfl (by first | exact True.intro | exact rfl) (by repeat first | exact SubL.nil | refine SubL.cons (SubV.refl _) ?_ | refine SubL.cons SubV.app ?_ | refine SubL.cons SubV.nil ?_) rfl rfl (fun hp => by repeat first | exact hp | refine PhiW.put (by omega) ?_ | refine PhiW.setN (by omega) ?_ | refine PhiW.setW (by simp; done) ?_) (hcon2) ?_
    (refine go ?_)
    (refine DW.spB rfl (fun hz6 => ?_) (fun hz6 => ?_))
    rotate_left
    · exfalso; simp at hz6
    (refine go ?_)
    refine DW.callS rfl (by first | exact True.intro | exact rfl) (by repeat first | exact SubL.nil | refine SubL.cons (SubV.refl _) ?_ | refine SubL.cons SubV.app ?_ | refine SubL.cons SubV.nil ?_) rfl (law19_known_ae _) ?_
    (refine go ?_)
    refine WW.ret (PureQ.finD ?_)
    exact fz_b rfl
theorem top_PathHolds (c0 : List AV) (t0 : TypL [.b] c0) (c1 : List AV) (t1 : TypL [.sl [.sl [.i .u8]]] c1) (c2 : List AV) (t2 : TypL [.i .i64] c2) (c3 : List AV) (t3 : TypL [.sl [.i .u8]] c3) :
    AE Try.prog 17 [c0.headD .nilp, c1.headD .nilp, c2.headD .nilp, c3.headD .nilp] noHeap (.bool true) noHeap := by
  obtain ⟨v, rfl⟩ := bool_of8 t0
  obtain ⟨a, rfl, ha⟩ := rows_ofL t1
  obtain ⟨i, rfl, _⟩ := int_of t2
  obtain ⟨b, rfl⟩ := bytes_of t3
  exact law19_PathHolds_ae v a ha i b noHeap
end Go.Proofs.Ytlddahcgaonlhaa
