/- PathTurned. -/
import Derived.Test.YtlddahcgaonlhaaT7
import Derived.Test.YtlddahcgaonlhaaK2
set_option linter.all false
namespace Go.Proofs.Ytlddahcgaonlhaa
open Go Go.Abs

theorem and1k (i : Int) : ∃ c : Nat, c < 2 ∧ bits .and .i64 i 1 = (c : Int) := by
  have h1 : (BitVec.ofInt 64 i &&& BitVec.ofInt 64 1).toNat < 2 := by
    rw [BitVec.toNat_and]
    have : (BitVec.ofInt 64 1).toNat = 1 := by decide
    rw [this]
    have := Nat.and_le_right (n := (BitVec.ofInt 64 i).toNat) (m := 1)
    omega
  refine ⟨(BitVec.ofInt 64 i &&& BitVec.ofInt 64 1).toNat, h1, ?_⟩
  show IntKind.i64.wrap (((BitVec.ofInt 64 i &&& BitVec.ofInt 64 1).toNat : Nat) : Int) = _
  rw [IntWalk.i64_in]
  omega
/-- A pair with one number turned is another one. -/
theorem turn_ne {p : Pr} (hp : Wfp p) {x : Int} (hx : Wf64 x) (h0 : x ≠ 0) (d : Nat) : ∃ p' : Pr, Wfp p' ∧ p' ≠ p ∧ p' = (if d = 0 then (bits .xor .u64 p.1 x, p.2) else (p.1, bits .xor .u64 p.2 x)) := by
  have hr : ∀ a : Int, 0 ≤ bits .xor .u64 a x ∧ bits .xor .u64 a x < 18446744073709551616 := fun a => by
    have h1 : bits .xor .u64 a x = (((BitVec.ofInt 64 a ^^^ BitVec.ofInt 64 x).toNat : Nat) : Int) := by
      show IntKind.u64.wrap (((BitVec.ofInt 64 a ^^^ BitVec.ofInt 64 x).toNat : Nat) : Int) = _
      have := (BitVec.ofInt 64 a ^^^ BitVec.ofInt 64 x).isLt
      exact IntWalk.u64_in _ (by omega)
    have := (BitVec.ofInt 64 a ^^^ BitVec.ofInt 64 x).isLt
    omega
  refine ⟨_, ?_, ?_, rfl⟩
  · split
    · exact ⟨hr _, hp.2⟩
    · exact ⟨hp.1, hr _⟩
  · split
    · intro e; exact h0 ((xor_u64 hp.1 hx).1 (congrArg Prod.fst e))
    · intro e; exact h0 ((xor_u64 hp.2 hx).1 (congrArg Prod.snd e))
set_option maxHeartbeats 8000000 in
theorem law19_PathTurned_ae (a : List Bs) (hla : a.length ≤ maxLen) (i at' x : Int) (hx : Wf64 x) (h : AHeap) : AE Try.prog 6 [.imm 1 (a.map encR), .int .i64 i, .int .i64 at', .int .u64 x] h (.bool true) h := by
  refine AE.pureW is_law19_PathTurned (by simp) ?_
  unfold c_law19_PathTurned
  (refine go ?_)
  refine WL.call rfl (by first | exact True.intro | exact rfl) (by repeat first | exact SubL.nil | refine SubL.cons (SubV.refl _) ?_ | refine SubL.cons SubV.app ?_ | refine SubL.cons SubV.nil ?_) (law19_long_ae a hla h) ?_
  (refine go ?_)
  (apply WL.orB; exact rfl; exact rfl; exact rfl; exact BP.of; intro hz1)
  · (repeat first | (apply GW.goS; exact Stp.auto) | apply GW.nil | exact rfl)
    refine GW.call rfl (by first | exact True.intro | exact rfl) (by repeat first | exact SubL.nil | refine SubL.cons (SubV.refl _) ?_ | refine SubL.cons SubV.app ?_ | refine SubL.cons SubV.nil ?_) (ref17_Is_ae _ _) ?_
    (repeat first | (apply GW.goS; exact Stp.auto) | apply GW.nil | exact rfl)
  (refine go ?_)
  (apply WL.orB; exact rfl; exact rfl; exact rfl; exact BP.of; intro hz2)
  · (repeat first | (apply GW.goS; exact Stp.auto) | apply GW.nil | exact rfl)
  (refine go ?_)
  (apply WL.orB; exact rfl; exact rfl; exact rfl; exact BP.of; intro hz3)
  · (repeat first | (apply GW.goS; exact Stp.auto) | apply GW.nil | exact rfl)
  (refine go ?_)
  (apply WL.orB; exact rfl; exact rfl; exact rfl; exact BP.of; intro hz4)
  · (repeat first | (apply GW.goS; exact Stp.auto) | apply GW.nil | exact rfl)
  (refine go ?_)
  (refine WW.ifB rfl (fun hz6 => ?_) (fun hz6 => ?_))
  · (refine go ?_)
    refine WW.ret (PureQ.finD ?_)
    exact fz_b rfl
  have hh : longF a = false ∧ isG a.length = true ∧ 0 ≤ i ∧ i < a.length ∧ x ≠ 0 := by
    simp at hz6
    obtain ⟨⟨⟨⟨h1, h2⟩, h3⟩, h4⟩, h5⟩ := hz6
    exact ⟨h1, h2, h3, h4, h5⟩
  obtain ⟨ha, hG, hi0, hi1, hx0⟩ := hh
  obtain ⟨i, rfl⟩ := Int.eq_ofNat_of_zero_le hi0
  have hi : i < a.length := by omega
  obtain ⟨a1, a2⟩ := longF_no ha
  obtain ⟨e, he, he2, he4⟩ := isG_pow hG
  (refine go ?_)
  refine WL.call rfl (by first | exact True.intro | exact rfl) (by repeat first | exact SubL.nil | refine SubL.cons (SubV.refl _) ?_ | refine SubL.cons SubV.app ?_ | refine SubL.cons SubV.nil ?_) (lock_Ideal_ae rfl) ?_
  obtain ⟨h1, e1, o1, n1, m1, k1⟩ := newL_ex (h := h) (nx := h.next) rfl
  rw [e1]
  (refine go ?_)
  refine WL.call rfl (by first | exact True.intro | exact rfl) (by repeat first | exact SubL.nil | refine SubL.cons (SubV.refl _) ?_ | refine SubL.cons SubV.app ?_ | refine SubL.cons SubV.nil ?_) (tree_Build_ae o1 (by simp) a hG (fun x hx => by have := a2 x hx; omega)) ?_
  have o2 := idAt_sum o1 (buildF a []).2
  obtain ⟨_, t1⟩ := buildF_tree a [] (by omega)
  obtain ⟨l1, s1⟩ := buildF_len a []
  generalize (buildF a []).1 = N at *
  generalize (buildF a []).2 = S at *
  simp only [List.length_nil, Nat.zero_add] at s1
  refine WL.named (fun h2 => IdAt h2 (h.next + 3) (h.next + 1) (h.next + 2) h.next 0 [] S ∧ h2.next = h.next + 4 ∧ Keeps h h2) ⟨o2, gN, (k1 h (Keeps.refl _)).set (Nat.le_refl _) _⟩ ?_
  clear o1 e1 n1 m1 k1 o2
  rintro h2 ⟨o2, n2, k2⟩
  (refine go ?_)
  refine WL.call rfl (by first | exact True.intro | exact rfl) (by repeat first | exact SubL.nil | refine SubL.cons (SubV.refl _) ?_ | refine SubL.cons SubV.app ?_ | refine SubL.cons SubV.nil ?_) (tree_Top_ae N (by omega) _) ?_
  have hT : isT N.length = true := by rw [l1]; exact isT_twice hG
  rw [hT]
  obtain ⟨p1, p2⟩ := path_tree t1 he hG hi
  have hlen : (upL N (2 ^ e + i)).length = e := upL_len N e i (by omega)
  (refine go ?_)
  refine WL.call rfl (by first | exact True.intro | exact rfl) (by repeat first | exact SubL.nil | refine SubL.cons (SubV.refl _) ?_ | refine SubL.cons SubV.app ?_ | refine SubL.cons SubV.nil ?_) (path_Of_ae N (by omega) i _) ?_
  rw [p1, p2]
  generalize hU : upL N (2 ^ e + i) = U at *
  (refine go ?_)
  (refine WW.ifB rfl (fun hz7 => ?_) (fun hz7 => ?_))
  · exfalso
    have hne : U ≠ [] := by intro hn; rw [hn] at hlen; simp at hlen; omega
    simp [hne] at hz7
  (repeat first | refine WW.seq ?_ | refine WW.reg ?_ | refine WL.nil ?_ | refine WW.skip ?_ | refine WW.block ?_ | refine thenN ?_ | refine blkN ?_); iterate 2 (refine WL.go ?_)
  refine WL.named (fun h3 => IdAt h3 (h.next + 3) (h.next + 1) (h.next + 2) h.next 0 [] S ∧ h3.get (h.next + 4) = some (.mem 2 [encP (topP N)]) ∧ h3.next = h.next + 5 ∧ Keeps h h3) ⟨idAt_get o2 (by repeat first | with_reducible apply get_put_neE (by omega) | with_reducible apply get_set_neE (by omega) | with_reducible apply get_keepE | exact rfl) (by repeat first | with_reducible apply get_put_neE (by omega) | with_reducible apply get_set_neE (by omega) | with_reducible apply get_keepE | exact rfl) (by repeat first | with_reducible apply get_put_neE (by omega) | with_reducible apply get_set_neE (by omega) | with_reducible apply get_keepE | exact rfl) (by repeat first | with_reducible apply get_put_neE (by omega) | with_reducible apply get_set_neE (by omega) | with_reducible apply get_keepE | exact rfl), gH, gN, (by repeat first | with_reducible exact Keeps.refl _ | with_reducible refine Keeps.put ?_ (by omega) _ | with_reducible refine Keeps.set ?_ (by omega) _ | assumption)⟩ ?_
  clear o2 n2 k2
  rintro h3 ⟨o3, g3, n3, k3⟩
  refine WL.fx1 (FX.appM (nm := h.next + 5) (c := U.map encP) (fun hu => by have := hu.1; omega) rfl rfl rfl (by intro hn; have := congrArg List.length hn; rw [List.length_map, List.length_nil] at this; omega) (by simp; omega) (by first | exact True.intro | exact rfl)) ?_
  rw [List.length_map, hlen]
  (repeat first | refine WL.go ?_ | refine WW.seq ?_ | refine WW.reg ?_ | refine WL.nil ?_ | refine WW.skip ?_ | refine WW.block ?_ | refine WW.exit ?_ | refine WW.condT rfl ?_ | refine WW.condF rfl ?_ | refine WL.gox ?_ | refine thenN ?_ | refine blkN ?_)
  obtain ⟨c, hc, ec⟩ := and64k at'
  obtain ⟨d, hd, ed⟩ := and1k at'
  have hUw : ∀ x ∈ U, Wfp x := by
    rw [← hU]; exact upL_wf t1 (by omega) e i (by omega) (by omega)
  have hm : c % e < e := Nat.mod_lt _ (by omega)
  obtain ⟨p', w1, w2, w3⟩ := turn_ne (p := U[c % e]'(by omega)) (hUw _ (List.getElem_mem _)) hx hx0 d
  refine WW.mid (fun e7 h7 => subE [(0, some (.imm 1 (a.map encR))), (1, some (.int .i64 i)), (9, some (.int .i64 a.length)), (10, some (.ptr (h.next + 3) 0 0)), (13, some (.ptr (h.next + 4) 0 0)), (15, some (.imm 2 (U.map encP))), (17, some (.ref (h.next + 5) 0 e))] e7 ∧
    IdAt h7 (h.next + 3) (h.next + 1) (h.next + 2) h.next 0 [] S ∧ h7.get (h.next + 4) = some (.mem 2 [encP (topP N)]) ∧ h7.get (h.next + 5) = some (.mem 2 ((U.set (c % e) p').map encP)) ∧ h7.next = h.next + 6 ∧ Keeps h h7) ?_ ?_
  · refine WW.dregX [15] [] [h.next + 5] gN (by decide +kernel) ?_
    iterate 3 (refine DW.go ?_)
    rw [ec]
    iterate 3 (refine DW.go ?_)
    rw [show ((c : Int) % (e : Int)) = ((c % e : Nat) : Int) by simp]
    iterate 2 (refine DW.go ?_)
    rw [ed]
    obtain rfl | rfl : d = 0 ∨ d = 1 := by omega
    · rw [if_pos rfl] at w3
      (repeat first | refine DW.go ?_ | refine DW.goWP ?_ | refine DW.goF ?_ | refine DW.endL ?_ | refine thenN ?_ | refine blkN ?_)
      refine ⟨rfl, (by repeat first | exact subE.nil _ | (apply subE.cons; focus (first | exact rfl | (simp [lk_cons]; done) | (simp [lk_cons]; omega)))), idAt_get o3 (by repeat first | with_reducible apply get_put_neE (by omega) | with_reducible apply get_set_neE (by omega) | with_reducible apply get_keepE | exact rfl) (by repeat first | with_reducible apply get_put_neE (by omega) | with_reducible apply get_set_neE (by omega) | with_reducible apply get_keepE | exact rfl) (by repeat first | with_reducible apply get_put_neE (by omega) | with_reducible apply get_set_neE (by omega) | with_reducible apply get_keepE | exact rfl) (by repeat first | with_reducible apply get_put_neE (by omega) | with_reducible apply get_set_neE (by omega) | with_reducible apply get_keepE | exact rfl), gH, ?_, gN, (by repeat first | with_reducible exact Keeps.refl _ | with_reducible refine Keeps.put ?_ (by omega) _ | with_reducible refine Keeps.set ?_ (by omega) _ | assumption)⟩
      rw [get_set_same]
      simp only [Nat.zero_add]
      rw [← set_map, w3]; rfl
    · rw [if_neg (by decide)] at w3
      (repeat first | refine DW.go ?_ | refine DW.goWP ?_ | refine DW.goF ?_ | refine DW.endL ?_ | refine thenN ?_ | refine blkN ?_)
      refine ⟨rfl, (by repeat first | exact subE.nil _ | (apply subE.cons; focus (first | exact rfl | (simp [lk_cons]; done) | (simp [lk_cons]; omega)))), idAt_get o3 (by repeat first | with_reducible apply get_put_neE (by omega) | with_reducible apply get_set_neE (by omega) | with_reducible apply get_keepE | exact rfl) (by repeat first | with_reducible apply get_put_neE (by omega) | with_reducible apply get_set_neE (by omega) | with_reducible apply get_keepE | exact rfl) (by repeat first | with_reducible apply get_put_neE (by omega) | with_reducible apply get_set_neE (by omega) | with_reducible apply get_keepE | exact rfl) (by repeat first | with_reducible apply get_put_neE (by omega) | with_reducible apply get_set_neE (by omega) | with_reducible apply get_keepE | exact rfl), gH, ?_, gN, (by repeat first | with_reducible exact Keeps.refl _ | with_reducible refine Keeps.put ?_ (by omega) _ | with_reducible refine Keeps.set ?_ (by omega) _ | assumption)⟩
      rw [get_set_same]
      simp only [Nat.zero_add]
      rw [← set_map, w3]; rfl
  · clear o3 g3 n3 k3
    rintro e7 h7 ⟨hs7, o3, g3, g4, n3, k3⟩
    have hql : (U.set (c % e) p').length = e := by simpa using hlen
    have hqw : ∀ x ∈ U.set (c % e) p', Wfp x := fun x hx => by
      rcases List.mem_or_eq_of_mem_set hx with hx | rfl
      · exact hUw x hx
      · exact w1
    have hqn : U.set (c % e) p' ≠ U := fun hq => by
      have h9 : (U.set (c % e) p')[c % e]? = U[c % e]? := by rw [hq]
      rw [List.getElem?_set_self (by omega), List.getElem?_eq_getElem (by omega)] at h9
      exact w2 (Option.some.inj h9)
    generalize U.set (c % e) p' = q at *
    refine WW.cvt ((Cvt.sub hs7).trans (frz_eq (s := 17) (c' := q.map encP) rfl g4 (by simpa using hql) rfl)) ?_
    refine WW.named (fun h8 => IdAt h8 (h.next + 3) (h.next + 1) (h.next + 2) h.next 0 [] S ∧ h8.get (h.next + 4) = some (.mem 2 [encP (topP N)]) ∧ h8.next = h.next + 6 ∧ Keeps h h8) ⟨idAt_get o3 (by repeat first | with_reducible apply get_put_neE (by omega) | with_reducible apply get_set_neE (by omega) | with_reducible apply get_keepE | exact rfl) (by repeat first | with_reducible apply get_put_neE (by omega) | with_reducible apply get_set_neE (by omega) | with_reducible apply get_keepE | exact rfl) (by repeat first | with_reducible apply get_put_neE (by omega) | with_reducible apply get_set_neE (by omega) | with_reducible apply get_keepE | exact rfl) (by repeat first | with_reducible apply get_put_neE (by omega) | with_reducible apply get_set_neE (by omega) | with_reducible apply get_keepE | exact rfl), gH, gN, (by repeat first | with_reducible exact Keeps.refl _ | with_reducible refine Keeps.put ?_ (by omega) _ | with_reducible refine Keeps.set ?_ (by omega) _ | assumption)⟩ ?_
    clear o3 g3 g4 n3 k3
    rintro h8 ⟨o3, g3, n3, k3⟩
    have htop : topP N = nd N 1 := by rw [topP, if_pos hT]
    have hck1 := path_Check_ae o3 (by omega) a.length i a[i] (by have := a2 _ (List.getElem_mem hi); omega) U (by omega) (topP N) (by simp [ckOk, hG, hi, hlen]; exact_mod_cast he)
    rw [show ckF U i (sumP S (leafK a[i])) (sumS S (leafK a[i])) = (nd N 1, S) by rw [← hU]; exact ck_tree t1 he hi] at hck1
    rw [htop, beq_self_eq_true, set_same o3.ora.sums] at hck1
    have hck2 := path_Check_ae o3 (by omega) a.length i a[i] (by have := a2 _ (List.getElem_mem hi); omega) q (by omega) (topP N) (by simp [ckOk, hG, hi, hql]; exact_mod_cast he)
    obtain ⟨sk1, sk2⟩ := sum_known (t1.leaf i hi)
    rw [sk1, sk2] at hck2
    have hodd := ck_odd t1 (by omega) e i q (nd N (a.length + i)) S (by omega) (by omega) hql hqw (t1.wf (by omega) (by omega) (by omega)) (Pre.refl _) (by omega) (.inr (by rw [hU]; exact hqn))
    rw [htop, show ((ckF q i (nd N (a.length + i)) S).1 == nd N 1) = false by simpa using hodd] at hck2
    rw [htop] at g3
    (repeat first | refine WL.go ?_ | refine WW.seq ?_ | refine WW.reg ?_ | refine WL.nil ?_ | refine WW.skip ?_ | refine WW.block ?_ | refine WW.exit ?_ | refine WW.condT rfl ?_ | refine WW.condF rfl ?_ | refine WL.gox ?_ | refine thenN ?_ | refine blkN ?_)
    refine WW.dregX [20] [] [h.next] gN (by decide +kernel) ?_
    (repeat first | refine DW.go ?_ | refine DW.goWP ?_ | refine DW.goF ?_ | refine DW.endL ?_ | refine thenN ?_ | refine blkN ?_)
    refine DW.callS rfl (by first | exact True.intro | exact rfl) (by repeat first | exact SubL.nil | refine SubL.cons (SubV.refl _) ?_ | refine SubL.cons SubV.app ?_ | refine SubL.cons SubV.nil ?_) rfl (hck1) ?_
    (repeat first | refine DW.go ?_ | refine DW.goWP ?_ | refine DW.goF ?_ | refine DW.endL ?_ | refine thenN ?_ | refine blkN ?_)
    refine DW.callSW rfl (by first | exact True.intro | exact rfl) (by repeat first | exact SubL.nil | refine SubL.cons (SubV.refl _) ?_ | refine SubL.cons SubV.app ?_ | refine SubL.cons SubV.nil ?_) rfl rfl (fun hp => by repeat first | exact hp | refine PhiW.put (by omega) ?_ | refine PhiW.setN (by omega) ?_ | refine PhiW.setW (by simp; done) ?_) (hck2) ?_
    (repeat first | refine DW.go ?_ | refine DW.goWP ?_ | refine DW.goF ?_ | refine DW.endL ?_ | refine thenN ?_ | refine blkN ?_)
    refine DW.callS rfl (by first | exact True.intro | exact rfl) (by repeat first | exact SubL.nil | refine SubL.cons (SubV.refl _) ?_ | refine SubL.cons SubV.app ?_ | refine SubL.cons SubV.nil ?_) rfl (law19_known_ae _) ?_
    (refine go ?_)
    refine WW.ret (PureQ.finD ?_)
    exact fz_b rfl
theorem top_PathTurned (c0 : List AV) (t0 : TypL [.sl [.sl [.i .u8]]] c0) (c1 : List AV) (t1 : TypL [.i .i64] c1) (c2 : List AV) (t2 : TypL [.i .i64] c2) (c3 : List AV) (t3 : TypL [.i .u64] c3) :
    AE Try.prog 6 [c0.headD .nilp, c1.headD .nilp, c2.headD .nilp, c3.headD .nilp] noHeap (.bool true) noHeap := by
  obtain ⟨a, rfl, ha⟩ := rows_ofL t0
  obtain ⟨i, rfl, _⟩ := int_of t1
  obtain ⟨j, rfl, _⟩ := int_of t2
  obtain ⟨x, rfl, hx⟩ := int_of t3
  exact law19_PathTurned_ae a ha i j x (wf64 hx) noHeap
end Go.Proofs.Ytlddahcgaonlhaa
