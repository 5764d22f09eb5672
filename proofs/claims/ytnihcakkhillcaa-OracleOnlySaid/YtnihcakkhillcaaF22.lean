/- OracleOnly: the walk. -/
import Derived.Test.YtnihcakkhillcaaF21
import Derived.Test.YtnihcakkhillcaaA35
namespace Go.Proofs.Ytnihcakkhillcaa
open Go Go.Abs

/-- A byte turned by another one. -/
theorem xor_row {b : UInt8} {bs : Bs} {x : Int} (hx : 0 ≤ x ∧ x < 256) : ∃ b' : UInt8, [AV.int .u8 (bits .xor .u8 (b.toNat : Int) x)] = encB b' ∧ (b' = b ↔ x = 0) := by
  have h1 : bits .xor .u8 (b.toNat : Int) x = (((BitVec.ofInt 8 (b.toNat : Int) ^^^ BitVec.ofInt 8 x).toNat : Nat) : Int) := by
    show IntKind.u8.wrap (((BitVec.ofInt 8 (b.toNat : Int) ^^^ BitVec.ofInt 8 x).toNat : Nat) : Int) = _
    have := (BitVec.ofInt 8 (b.toNat : Int) ^^^ BitVec.ofInt 8 x).isLt
    exact IntWalk.u8_in _ (by omega)
  have hb := b.toNat_lt
  have h2 := xor_u8 (a := (b.toNat : Int)) (b := x) (by omega) hx
  have hlt := (BitVec.ofInt 8 (b.toNat : Int) ^^^ BitVec.ofInt 8 x).isLt
  refine ⟨UInt8.ofNat (BitVec.ofInt 8 (b.toNat : Int) ^^^ BitVec.ofInt 8 x).toNat, ?_, ?_⟩
  · simp only [encB]
    rw [h1, UInt8.toNat_ofNat', Nat.mod_eq_of_lt (by omega)]
  · rw [← h2, h1, ← UInt8.toNat_inj, UInt8.toNat_ofNat', Nat.mod_eq_of_lt (by omega)]
    omega
def Wf64 (n : Int) : Prop := 0 ≤ n ∧ n < 18446744073709551616
def Wf32 (n : Int) : Prop := 0 ≤ n ∧ n < 4294967296

set_option maxHeartbeats 8000000 in
theorem law7_OracleOnly_ae (k : Pr) (hk : Wf64 k.1) (n : Nn) (hn : Wf32 n.2.1 ∧ Wf64 n.2.2) (a d : Bs) (kind x : Int) (hx : 0 ≤ x ∧ x < 256) (h : AHeap) : AE Try.prog 5 [.agg (encP k), .agg (encN n), .imm 1 (a.map encB), .imm 1 (d.map encB), .int .i64 kind, .int .u8 x] h (.bool true) h := by
  refine AE.pureW is_law7_OracleOnly (by simp) ?_
  unfold c_law7_OracleOnly
  (refine go ?_)
  (apply WL.orB; exact rfl; exact rfl; exact rfl; exact BP.of; intro hz1)
  · (repeat first | (apply GW.goS; exact Stp.auto) | apply GW.nil | exact rfl)
  (refine go ?_)
  (apply WL.orB; exact rfl; exact rfl; exact rfl; exact BP.of; intro hz2)
  · (repeat first | (apply GW.goS; exact Stp.auto) | apply GW.nil | exact rfl)
  (refine go ?_)
  (apply WL.orB; exact rfl; exact rfl; exact rfl; exact BP.of; intro hz3)
  · (repeat first | (apply GW.goS; exact Stp.auto) | apply GW.nil | exact rfl)
  (refine go ?_)
  (apply WL.orB; exact rfl; exact rfl; exact rfl; exact BP.of; intro hz4)
  · (repeat first | (apply GW.goS; exact Stp.auto) | apply GW.nil | exact rfl)
  (refine go ?_)
  (refine WW.ifB rfl (fun hz5 => ?_) (fun hz5 => ?_))
  · (refine go ?_)
    refine WW.ret (PureQ.finD ?_)
    exact fz_b rfl
  have hb : a.length ≤ 100 ∧ 1 ≤ d.length ∧ d.length ≤ 100 ∧ 0 ≤ kind ∧ kind ≤ 6 := by simp at hz5; omega
  (refine go ?_)
  refine WL.call rfl (by first | exact True.intro | exact rfl) (by repeat first | exact SubL.nil | refine SubL.cons (SubV.refl _) ?_ | refine SubL.cons SubV.app ?_ | refine SubL.cons SubV.nil ?_) (oracle_New_ae2 (nx := h.next + 2) (by repeat first | with_reducible apply next_putE | with_reducible apply next_setE | assumption | exact rfl)) ?_
  obtain ⟨h1, e1, o1, n1, m1, k1⟩ := newO_ex2 (h := (h.put h.next (.mem 2 [[.int .u64 k.1, .int .u64 k.2]])).put (h.next + 1) (.mem 3 [[.int .u32 n.1, .int .u32 n.2.1, .int .u64 n.2.2]])) (nx := h.next + 2) (by repeat first | with_reducible apply next_putE | with_reducible apply next_setE | assumption | exact rfl)
  have p1 : h1.get h.next = some (.mem 2 [encP k]) := (m1 _ (by omega)).trans (by repeat first | with_reducible exact get_put_same | with_reducible exact get_set_same | assumption | with_reducible apply get_put_neE (by omega) | with_reducible apply get_set_neE (by omega) | exact get_put_same | exact get_set_same)
  have p2 : h1.get (h.next + 1) = some (.mem 3 [encN n]) := (m1 _ (by omega)).trans (by repeat first | with_reducible exact get_put_same | with_reducible exact get_set_same | assumption | with_reducible apply get_put_neE (by omega) | with_reducible apply get_set_neE (by omega) | exact get_put_same | exact get_set_same)
  replace k1 := k1 h (by repeat first | with_reducible exact Keeps.refl _ | with_reducible refine Keeps.put ?_ (by omega) _ | with_reducible refine Keeps.set ?_ (by omega) _ | assumption)
  rw [e1]
  (refine go ?_)
  refine WL.call rfl (by first | exact True.intro | exact rfl) (by repeat first | exact SubL.nil | refine SubL.cons (SubV.refl _) ?_ | refine SubL.cons SubV.app ?_ | refine SubL.cons SubV.nil ?_) (oracle_Seal_ae o1 (by simp) k n a d (by omega) (by omega)) ?_
  obtain ⟨h3, e3, oA3, n3, m3, k3⟩ := sealed o1 k n a d
  replace n3 := n3 _ n1
  replace k3 := k3 h k1 (by omega) (by omega)
  have g13 : h3.get h.next = some (.mem 2 [encP k]) := (m3 _ (by omega) (by omega)).trans p1
  have g23 : h3.get (h.next + 1) = some (.mem 3 [encN n]) := (m3 _ (by omega) (by omega)).trans p2
  rw [e3]
  (refine go ?_)
  have hol : (newI ([] : List Iss).length.succ k n a d).out.length = d.length := by simp only [newI, sealB, rep_len]
  (refine WW.ifB rfl (fun hz6 => ?_) (fun hz6 => ?_))
  · exfalso
    simp [newI, sealB, rep_len] at hz6
  generalize hy : newI (([] : List Iss).length + 1) k n a d = y at *
  have hyl : y.out.length = d.length := by subst hy; simp only [newI, sealB, rep_len]
  (repeat first | refine WL.go ?_ | refine WW.seq ?_ | refine WW.reg ?_ | refine WL.nil ?_ | refine WW.skip ?_ | refine WW.block ?_ | refine WW.exit ?_ | refine WW.condT rfl ?_ | refine WW.condF rfl ?_ | refine WL.gox ?_ | refine thenN ?_ | refine blkN ?_)
  refine WW.named (fun hX => hX.get h.next = some (.mem 2 [encP k]) ∧ hX.get (h.next + 1) = some (.mem 3 [encN n]) ∧ hX.get (h.next + 5) = some (.mem 3 [encS y.out y.tag]) ∧ OrAt hX (h.next + 3) (h.next + 4) (h.next + 2) 0 [y] [] ∧ hX.next = h.next + 6 ∧ Keeps h hX)
    ⟨(by repeat first | with_reducible exact get_put_same | with_reducible exact get_set_same | assumption | with_reducible apply get_put_neE (by omega) | with_reducible apply get_set_neE (by omega) | exact get_put_same | exact get_set_same), (by repeat first | with_reducible exact get_put_same | with_reducible exact get_set_same | assumption | with_reducible apply get_put_neE (by omega) | with_reducible apply get_set_neE (by omega) | exact get_put_same | exact get_set_same), (by repeat first | with_reducible exact get_put_same | with_reducible exact get_set_same | assumption | with_reducible apply get_put_neE (by omega) | with_reducible apply get_set_neE (by omega) | exact get_put_same | exact get_set_same), (orAt_get oA3 (by repeat first | with_reducible apply get_put_neE (by omega) | with_reducible apply get_set_neE (by omega) | with_reducible apply get_keepE | exact rfl) (by repeat first | with_reducible apply get_put_neE (by omega) | with_reducible apply get_set_neE (by omega) | with_reducible apply get_keepE | exact rfl) (by repeat first | with_reducible apply get_put_neE (by omega) | with_reducible apply get_set_neE (by omega) | with_reducible apply get_keepE | exact rfl)), next_setE (next_putE n3), (by repeat first | with_reducible exact Keeps.refl _ | with_reducible refine Keeps.put ?_ (by omega) _ | with_reducible refine Keeps.set ?_ (by omega) _ | assumption)⟩ ?_
  clear e1 o1 n1 m1 p1 p2 k1 e3 oA3 m3 n3 k3 g13 g23
  rintro hX ⟨x1, x2, x3, x4, x5, x6⟩
  obtain ⟨nx, hnx⟩ : ∃ nx, h.next = nx := ⟨_, rfl⟩
  -- behind the switch
  have hy1 : y.key = k := by subst hy; rfl
  have hy2 : y.n = n := by subst hy; rfl
  have hy3 : y.head = a := by subst hy; rfl
  have hy4 : y.data = d := by subst hy; rfl
  have hy5 : y.tag = (ones, 1) := by subst hy; rfl
  refine WW.mid (fun e5 h5 => subE [(2, some (.imm 1 (a.map encB))), (3, some (.imm 1 (d.map encB))), (4, some (.int .i64 kind)), (5, some (.int .u8 x)), (13, some (.ptr (h.next + 3) 0 0)), (16, some (.ptr (h.next + 6) 0 0)), (17, some (.ptr (h.next + 7) 0 0)), (19, some (.ptr (h.next + 8) 0 0))] e5 ∧
      lk 18 e5 = some (if kind = 4 then .app (h.next + 9) 0 1 (a.map encB) else .imm 1 (a.map encB)) ∧ h5.get (h.next + 6) = some (.mem 2 [encP k]) ∧ h5.get (h.next + 7) = some (.mem 3 [encN n]) ∧
      h5.get (h.next + 8) = some (.mem 3 [[if kind = 5 then .ref (h.next + 9) 0 (y.out.map encB).length else .imm 1 (y.out.map encB), .int .u64 y.tag.1, .int .u64 y.tag.2]]) ∧ (kind = 4 → h5.get (h.next + 9) = some (.tail 0 a.length)) ∧ (kind = 5 → h5.get (h.next + 9) = some (.mem 1 (y.out.map encB))) ∧
      OrAt h5 (h.next + 3) (h.next + 4) (h.next + 2) 0 [y] [] ∧ h.next + 9 ≤ h5.next ∧ Keeps h h5) ?_ ?_
  · by_cases hk4 : kind = 4
    · subst hk4
      refine WW.dregA [12, 13, 14, 4] [15, 16, 18] [] [0, 1, 7, 8, 10] [] (by repeat first | with_reducible apply next_putE | with_reducible apply next_setE | assumption | exact rfl) (by decide +kernel) ?_
      (repeat first | refine DA.go ?_ | refine DA.goF ?_ | refine DA.new ?_ | refine DA.set ?_ | refine DA.endL ?_ | refine thenN ?_ | refine blkN ?_)
      refine DA.appA (i := 3) rfl rfl (fun h2 => rfl) (by simp; omega) rfl (List.length_map _) (by first | exact True.intro | exact rfl) rfl rfl rfl ?_
      (repeat first | refine DA.go ?_ | refine DA.goF ?_ | refine DA.new ?_ | refine DA.set ?_ | refine DA.endL ?_ | refine thenN ?_ | refine blkN ?_)
      refine DA.appF rfl rfl (fun h2 => FX.appI rfl rfl rfl (by simp; omega) (by first | exact True.intro | exact rfl)) rfl rfl rfl ?_
      (repeat first | refine DA.go ?_ | refine DA.goF ?_ | refine DA.new ?_ | refine DA.set ?_ | refine DA.endL ?_ | refine thenN ?_ | refine blkN ?_)
      exact ⟨rfl, (by repeat first | exact subE.nil _ | (apply subE.cons; focus (first | exact rfl | (simp [lk_cons]; done) | (simp [lk_cons]; omega)))), rfl, (by repeat first | with_reducible exact get_put_same | with_reducible exact get_set_same | assumption | with_reducible apply get_put_neE (by omega) | with_reducible apply get_set_neE (by omega) | with_reducible apply get_keepE | exact get_put_same | exact get_set_same), (by repeat first | with_reducible exact get_put_same | with_reducible exact get_set_same | assumption | with_reducible apply get_put_neE (by omega) | with_reducible apply get_set_neE (by omega) | with_reducible apply get_keepE | exact get_put_same | exact get_set_same), (by repeat first | with_reducible exact get_put_same | with_reducible exact get_set_same | assumption | with_reducible apply get_put_neE (by omega) | with_reducible apply get_set_neE (by omega) | with_reducible apply get_keepE | exact get_put_same | exact get_set_same), fun _ => (by repeat first | with_reducible exact get_put_same | with_reducible exact get_set_same | assumption | with_reducible apply get_put_neE (by omega) | with_reducible apply get_set_neE (by omega) | with_reducible apply get_keepE | exact get_put_same | exact get_set_same), by simp, (orAt_get x4 (by repeat first | with_reducible apply get_put_neE (by omega) | with_reducible apply get_set_neE (by omega) | with_reducible apply get_keepE | exact rfl) (by repeat first | with_reducible apply get_put_neE (by omega) | with_reducible apply get_set_neE (by omega) | with_reducible apply get_keepE | exact rfl) (by repeat first | with_reducible apply get_put_neE (by omega) | with_reducible apply get_set_neE (by omega) | with_reducible apply get_keepE | exact rfl)), by (repeat first | refine next_le_put ?_ | refine next_le_set ?_); refine next_le_keep ?_; rw [x5]; simp only [List.length_cons, List.length_nil]; omega, (by repeat first | with_reducible exact Keeps.refl _ | with_reducible refine Keeps.put ?_ (by omega) _ | with_reducible refine Keeps.set ?_ (by omega) _ | with_reducible refine Keeps.keep ?_ | assumption)⟩
    by_cases hk5 : kind = 5
    · subst hk5
      refine WW.dregA [12, 13, 14, 8] [15, 16, 18] [] [0, 1, 4, 7, 10] [] (by repeat first | with_reducible apply next_putE | with_reducible apply next_setE | assumption | exact rfl) (by decide +kernel) ?_
      (repeat first | refine DA.go ?_ | refine DA.goF ?_ | refine DA.new ?_ | refine DA.set ?_ | refine DA.endL ?_ | refine thenN ?_ | refine blkN ?_)
      refine DA.appF rfl rfl (fun h2 => FX.appI rfl rfl rfl (by simp; omega) (by first | exact True.intro | exact rfl)) rfl rfl rfl ?_
      (repeat first | refine DA.go ?_ | refine DA.goF ?_ | refine DA.new ?_ | refine DA.set ?_ | refine DA.endL ?_ | refine thenN ?_ | refine blkN ?_)
      refine DA.appM (i := 3) rfl rfl (fun h2 => rfl) ?_ (by simp; omega) rfl (by first | exact True.intro | exact rfl) rfl rfl rfl ?_
      · intro hnil; have := congrArg List.length hnil; rw [List.length_map, hyl, List.length_nil] at this; omega
      (repeat first | refine DA.go ?_ | refine DA.goF ?_ | refine DA.new ?_ | refine DA.set ?_ | refine DA.endL ?_ | refine thenN ?_ | refine blkN ?_)
      exact ⟨rfl, (by repeat first | exact subE.nil _ | (apply subE.cons; focus (first | exact rfl | (simp [lk_cons]; done) | (simp [lk_cons]; omega)))), rfl, (by repeat first | with_reducible exact get_put_same | with_reducible exact get_set_same | assumption | with_reducible apply get_put_neE (by omega) | with_reducible apply get_set_neE (by omega) | with_reducible apply get_keepE | exact get_put_same | exact get_set_same), (by repeat first | with_reducible exact get_put_same | with_reducible exact get_set_same | assumption | with_reducible apply get_put_neE (by omega) | with_reducible apply get_set_neE (by omega) | with_reducible apply get_keepE | exact get_put_same | exact get_set_same), (by repeat first | with_reducible exact get_put_same | with_reducible exact get_set_same | assumption | with_reducible apply get_put_neE (by omega) | with_reducible apply get_set_neE (by omega) | with_reducible apply get_keepE | exact get_put_same | exact get_set_same), by simp, fun _ => (by repeat first | with_reducible exact get_put_same | with_reducible exact get_set_same | assumption | with_reducible apply get_put_neE (by omega) | with_reducible apply get_set_neE (by omega) | with_reducible apply get_keepE | exact get_put_same | exact get_set_same), (orAt_get x4 (by repeat first | with_reducible apply get_put_neE (by omega) | with_reducible apply get_set_neE (by omega) | with_reducible apply get_keepE | exact rfl) (by repeat first | with_reducible apply get_put_neE (by omega) | with_reducible apply get_set_neE (by omega) | with_reducible apply get_keepE | exact rfl) (by repeat first | with_reducible apply get_put_neE (by omega) | with_reducible apply get_set_neE (by omega) | with_reducible apply get_keepE | exact rfl)), by (repeat first | refine next_le_put ?_ | refine next_le_set ?_); refine next_le_keep ?_; rw [x5]; simp only [List.length_cons, List.length_nil]; omega, (by repeat first | with_reducible exact Keeps.refl _ | with_reducible refine Keeps.put ?_ (by omega) _ | with_reducible refine Keeps.set ?_ (by omega) _ | with_reducible refine Keeps.keep ?_ | assumption)⟩
    refine WW.dregA [12, 13, 14] [15, 16, 18] [] [0, 1, 4, 7, 8, 10] [] (by repeat first | with_reducible apply next_putE | with_reducible apply next_setE | assumption | exact rfl) (by decide +kernel) ?_
    (repeat first | refine DA.go ?_ | refine DA.goF ?_ | refine DA.new ?_ | refine DA.set ?_ | refine DA.endL ?_ | refine thenN ?_ | refine blkN ?_)
    refine DA.appF rfl rfl (fun h2 => FX.appI rfl rfl rfl (by simp; omega) (by first | exact True.intro | exact rfl)) rfl rfl rfl ?_
    (repeat first | refine DA.go ?_ | refine DA.goF ?_ | refine DA.new ?_ | refine DA.set ?_ | refine DA.endL ?_ | refine thenN ?_ | refine blkN ?_)
    refine DA.appF rfl rfl (fun h2 => FX.appI rfl rfl rfl (by simp; omega) (by first | exact True.intro | exact rfl)) rfl rfl rfl ?_
    (repeat first | refine DA.go ?_ | refine DA.goF ?_ | refine DA.new ?_ | refine DA.set ?_ | refine DA.endL ?_ | refine thenN ?_ | refine blkN ?_)
    exact ⟨rfl, (by repeat first | exact subE.nil _ | (apply subE.cons; focus (first | exact rfl | (simp [lk_cons]; done) | (simp [lk_cons]; omega)))), by rw [if_neg hk4]; rfl, (by repeat first | with_reducible exact get_put_same | with_reducible exact get_set_same | assumption | with_reducible apply get_put_neE (by omega) | with_reducible apply get_set_neE (by omega) | with_reducible apply get_keepE | exact get_put_same | exact get_set_same), (by repeat first | with_reducible exact get_put_same | with_reducible exact get_set_same | assumption | with_reducible apply get_put_neE (by omega) | with_reducible apply get_set_neE (by omega) | with_reducible apply get_keepE | exact get_put_same | exact get_set_same), by rw [if_neg hk5]; exact (by repeat first | with_reducible exact get_put_same | with_reducible exact get_set_same | assumption | with_reducible apply get_put_neE (by omega) | with_reducible apply get_set_neE (by omega) | with_reducible apply get_keepE | exact get_put_same | exact get_set_same), fun e => absurd e hk4, fun e => absurd e hk5, (orAt_get x4 (by repeat first | with_reducible apply get_put_neE (by omega) | with_reducible apply get_set_neE (by omega) | with_reducible apply get_keepE | exact rfl) (by repeat first | with_reducible apply get_put_neE (by omega) | with_reducible apply get_set_neE (by omega) | with_reducible apply get_keepE | exact rfl) (by repeat first | with_reducible apply get_put_neE (by omega) | with_reducible apply get_set_neE (by omega) | with_reducible apply get_keepE | exact rfl)), by (repeat first | refine next_le_put ?_ | refine next_le_set ?_); refine next_le_keep ?_; rw [x5]; simp only [List.length_cons, List.length_nil]; omega, (by repeat first | with_reducible exact Keeps.refl _ | with_reducible refine Keeps.put ?_ (by omega) _ | with_reducible refine Keeps.set ?_ (by omega) _ | with_reducible refine Keeps.keep ?_ | assumption)⟩
  clear x1 x2 x3 x4 x5 x6
  rintro e5 h5 ⟨s1, s2, x1, x2, x3, x4, x5, x6, x7, x8⟩
  have s3 := subE.cons s2 s1
  clear s1 s2
  refine WW.cvt (Cvt.sub s3) ?_
  clear s3
  (repeat first | refine WW.seq ?_ | refine WW.reg ?_ | refine WL.nil ?_ | refine WW.skip ?_ | refine WW.block ?_ | refine thenN ?_ | refine blkN ?_); iterate 1 (refine WL.go ?_)
  refine WL.nil (thenN ?_)
  have hbn : 1 ≤ y.out.length := by omega
  obtain ⟨b0, bs, hob⟩ : ∃ b0 bs, y.out = b0 :: bs := by
    cases ho : y.out with
    | nil => rw [ho] at hbn; simp at hbn
    | cons b0 bs => exact ⟨b0, bs, rfl⟩
  rw [hob] at x3 x5
  refine WW.mid (fun e4 h4 => ∃ e5 h5, Cvt e4 h4 e5 h5 ∧ subE [(2, some (.imm 1 (a.map encB))), (3, some (.imm 1 (d.map encB))), (4, some (.int .i64 kind)), (5, some (.int .u8 x)), (13, some (.ptr (h.next + 3) 0 0)), (16, some (.ptr (h.next + 6) 0 0)), (17, some (.ptr (h.next + 7) 0 0)), (19, some (.ptr (h.next + 8) 0 0))] e5 ∧
      ∃ (k' : Pr) (n' : Nn) (hd' b' : Bs) (tg' : Pr), lk 18 e5 = some (.imm 1 (hd'.map encB)) ∧ h5.get (h.next + 6) = some (.mem 2 [encP k']) ∧ h5.get (h.next + 7) = some (.mem 3 [encN n']) ∧ h5.get (h.next + 8) = some (.mem 3 [encS b' tg']) ∧
      OrAt h5 (h.next + 3) (h.next + 4) (h.next + 2) 0 [y] [] ∧ h.next + 9 ≤ h5.next ∧ Keeps h h5 ∧ isI k' n' hd' b' tg' y = decide (kind = 0 ∨ x = 0 ∧ kind ≠ 4)) ?_ ?_
  · have hcase : kind = 0 ∨ kind = 1 ∨ kind = 2 ∨ kind = 3 ∨ kind = 4 ∨ kind = 5 ∨ kind = 6 := by omega
    rcases hcase with rfl | rfl | rfl | rfl | rfl | rfl | rfl
    · (refine go ?_)
      exact ⟨rfl, _, _, Cvt.refl, (by repeat first | exact subE.nil _ | (apply subE.cons; focus (first | exact rfl | (simp [lk_cons]; done) | (simp [lk_cons]; omega)))), k, n, a, y.out, y.tag, rfl, x1, x2, by rw [hob]; exact x3, x6, x7, x8, by simp [isI, hy1, hy2, hy3]⟩
    · (refine go ?_)
      exact ⟨rfl, _, _, Cvt.refl, (by repeat first | exact subE.nil _ | (apply subE.cons; focus (first | exact rfl | (simp [lk_cons]; done) | (simp [lk_cons]; omega)))), (bits .xor .u64 k.1 x, k.2), n, a, y.out, y.tag, rfl, (by repeat first | with_reducible exact get_put_same | with_reducible exact get_set_same | assumption | with_reducible apply get_put_neE (by omega) | with_reducible apply get_set_neE (by omega) | exact get_put_same | exact get_set_same), (by repeat first | with_reducible exact get_put_same | with_reducible exact get_set_same | assumption | with_reducible apply get_put_neE (by omega) | with_reducible apply get_set_neE (by omega) | exact get_put_same | exact get_set_same), by rw [hob]; exact (by repeat first | with_reducible exact get_put_same | with_reducible exact get_set_same | assumption | with_reducible apply get_put_neE (by omega) | with_reducible apply get_set_neE (by omega) | exact get_put_same | exact get_set_same), (orAt_get x6 (by repeat first | with_reducible apply get_put_neE (by omega) | with_reducible apply get_set_neE (by omega) | with_reducible apply get_keepE | exact rfl) (by repeat first | with_reducible apply get_put_neE (by omega) | with_reducible apply get_set_neE (by omega) | with_reducible apply get_keepE | exact rfl) (by repeat first | with_reducible apply get_put_neE (by omega) | with_reducible apply get_set_neE (by omega) | with_reducible apply get_keepE | exact rfl)), (by repeat first | exact Nat.le_refl _ | refine next_le_put ?_ | refine next_le_set ?_ | assumption), (by repeat first | with_reducible exact Keeps.refl _ | with_reducible refine Keeps.put ?_ (by omega) _ | with_reducible refine Keeps.set ?_ (by omega) _ | assumption), by
        have := xor_u64 hk (b := x) (by omega)
        rw [Bool.eq_iff_iff]
        simp [isI, hy1, hy2, hy3, Prod.ext_iff, ← this]
        exact eq_comm⟩
    · (refine go ?_)
      exact ⟨rfl, _, _, Cvt.refl, (by repeat first | exact subE.nil _ | (apply subE.cons; focus (first | exact rfl | (simp [lk_cons]; done) | (simp [lk_cons]; omega)))), k, (n.1, n.2.1, bits .xor .u64 n.2.2 x), a, y.out, y.tag, rfl, (by repeat first | with_reducible exact get_put_same | with_reducible exact get_set_same | assumption | with_reducible apply get_put_neE (by omega) | with_reducible apply get_set_neE (by omega) | exact get_put_same | exact get_set_same), (by repeat first | with_reducible exact get_put_same | with_reducible exact get_set_same | assumption | with_reducible apply get_put_neE (by omega) | with_reducible apply get_set_neE (by omega) | exact get_put_same | exact get_set_same), by rw [hob]; exact (by repeat first | with_reducible exact get_put_same | with_reducible exact get_set_same | assumption | with_reducible apply get_put_neE (by omega) | with_reducible apply get_set_neE (by omega) | exact get_put_same | exact get_set_same), (orAt_get x6 (by repeat first | with_reducible apply get_put_neE (by omega) | with_reducible apply get_set_neE (by omega) | with_reducible apply get_keepE | exact rfl) (by repeat first | with_reducible apply get_put_neE (by omega) | with_reducible apply get_set_neE (by omega) | with_reducible apply get_keepE | exact rfl) (by repeat first | with_reducible apply get_put_neE (by omega) | with_reducible apply get_set_neE (by omega) | with_reducible apply get_keepE | exact rfl)), (by repeat first | exact Nat.le_refl _ | refine next_le_put ?_ | refine next_le_set ?_ | assumption), (by repeat first | with_reducible exact Keeps.refl _ | with_reducible refine Keeps.put ?_ (by omega) _ | with_reducible refine Keeps.set ?_ (by omega) _ | assumption), by
        have := xor_u64 hn.2 (b := x) (by omega)
        rw [Bool.eq_iff_iff]
        simp [isI, hy1, hy2, hy3, Prod.ext_iff, ← this]
        exact eq_comm⟩
    · (refine go ?_)
      exact ⟨rfl, _, _, Cvt.refl, (by repeat first | exact subE.nil _ | (apply subE.cons; focus (first | exact rfl | (simp [lk_cons]; done) | (simp [lk_cons]; omega)))), k, (n.1, bits .xor .u32 n.2.1 x, n.2.2), a, y.out, y.tag, rfl, (by repeat first | with_reducible exact get_put_same | with_reducible exact get_set_same | assumption | with_reducible apply get_put_neE (by omega) | with_reducible apply get_set_neE (by omega) | exact get_put_same | exact get_set_same), (by repeat first | with_reducible exact get_put_same | with_reducible exact get_set_same | assumption | with_reducible apply get_put_neE (by omega) | with_reducible apply get_set_neE (by omega) | exact get_put_same | exact get_set_same), by rw [hob]; exact (by repeat first | with_reducible exact get_put_same | with_reducible exact get_set_same | assumption | with_reducible apply get_put_neE (by omega) | with_reducible apply get_set_neE (by omega) | exact get_put_same | exact get_set_same), (orAt_get x6 (by repeat first | with_reducible apply get_put_neE (by omega) | with_reducible apply get_set_neE (by omega) | with_reducible apply get_keepE | exact rfl) (by repeat first | with_reducible apply get_put_neE (by omega) | with_reducible apply get_set_neE (by omega) | with_reducible apply get_keepE | exact rfl) (by repeat first | with_reducible apply get_put_neE (by omega) | with_reducible apply get_set_neE (by omega) | with_reducible apply get_keepE | exact rfl)), (by repeat first | exact Nat.le_refl _ | refine next_le_put ?_ | refine next_le_set ?_ | assumption), (by repeat first | with_reducible exact Keeps.refl _ | with_reducible refine Keeps.put ?_ (by omega) _ | with_reducible refine Keeps.set ?_ (by omega) _ | assumption), by
        have := xor_u32 hn.1 (b := x) (by omega)
        rw [Bool.eq_iff_iff]
        simp [isI, hy1, hy2, hy3, Prod.ext_iff, ← this]
        exact eq_comm⟩
    · have x4' := x4 rfl
      rw [if_pos rfl]
      rw [if_neg (by decide)] at x3
      (refine go ?_)
      obtain ⟨xb, hxb⟩ : ∃ xb : UInt8, AV.int .u8 x = .int .u8 (xb.toNat : Int) := ⟨UInt8.ofNat x.toNat, by rw [UInt8.toNat_ofNat', Nat.mod_eq_of_lt (by omega)]; congr 1; omega⟩
      exact ⟨rfl, _, _, Cvt.sub1 (s := 18) rfl SubV.app, (by repeat first | exact subE.nil _ | (apply subE.cons; focus (first | exact rfl | (simp [lk_cons]; done) | (simp [lk_cons]; omega)))), k, n, a ++ [xb], y.out, y.tag, by rw [List.map_append, List.map_cons, List.map_nil, encB, ← hxb]; rfl, (by repeat first | with_reducible exact get_put_same | with_reducible exact get_set_same | assumption | with_reducible apply get_put_neE (by omega) | with_reducible apply get_set_neE (by omega) | exact get_put_same | exact get_set_same), (by repeat first | with_reducible exact get_put_same | with_reducible exact get_set_same | assumption | with_reducible apply get_put_neE (by omega) | with_reducible apply get_set_neE (by omega) | exact get_put_same | exact get_set_same), by rw [hob]; exact (by repeat first | with_reducible exact get_put_same | with_reducible exact get_set_same | assumption | with_reducible apply get_put_neE (by omega) | with_reducible apply get_set_neE (by omega) | exact get_put_same | exact get_set_same), (orAt_get x6 (by repeat first | with_reducible apply get_put_neE (by omega) | with_reducible apply get_set_neE (by omega) | with_reducible apply get_keepE | exact rfl) (by repeat first | with_reducible apply get_put_neE (by omega) | with_reducible apply get_set_neE (by omega) | with_reducible apply get_keepE | exact rfl) (by repeat first | with_reducible apply get_put_neE (by omega) | with_reducible apply get_set_neE (by omega) | with_reducible apply get_keepE | exact rfl)), (by repeat first | exact Nat.le_refl _ | refine next_le_put ?_ | refine next_le_set ?_ | assumption), (by repeat first | with_reducible exact Keeps.refl _ | with_reducible refine Keeps.put ?_ (by omega) _ | with_reducible refine Keeps.set ?_ (by omega) _ | assumption), by simp [isI, hy3]⟩
    · have x5' := x5 rfl
      rw [if_neg (by decide)]
      rw [if_pos rfl] at x3
      simp only [List.map_cons, encB] at x5'
      (refine go ?_)
      obtain ⟨b', hb1, hb2⟩ := xor_row (b := b0) (bs := bs) hx
      refine ⟨rfl, _, _, Cvt.frzM (id := h.next + 8) (r := h.next + 9) (i := 0) (j := 0) (n := ((b0 :: bs).map encB).length) (by repeat first | with_reducible exact get_put_same | with_reducible exact get_set_same | assumption | with_reducible apply get_put_neE (by omega) | with_reducible apply get_set_neE (by omega) | exact get_put_same | exact get_set_same) rfl rfl (by repeat first | with_reducible exact get_put_same | with_reducible exact get_set_same | assumption | with_reducible apply get_put_neE (by omega) | with_reducible apply get_set_neE (by omega) | exact get_put_same | exact get_set_same) (by simp) (by omega), (by repeat first | exact subE.nil _ | (apply subE.cons; focus (first | exact rfl | (simp [lk_cons]; done) | (simp [lk_cons]; omega)))), k, n, a, b' :: bs, y.tag, rfl, (by repeat first | with_reducible exact get_put_same | with_reducible exact get_set_same | assumption | with_reducible apply get_put_neE (by omega) | with_reducible apply get_set_neE (by omega) | exact get_put_same | exact get_set_same), (by repeat first | with_reducible exact get_put_same | with_reducible exact get_set_same | assumption | with_reducible apply get_put_neE (by omega) | with_reducible apply get_set_neE (by omega) | exact get_put_same | exact get_set_same), ?_, (orAt_get x6 (by repeat first | with_reducible apply get_put_neE (by omega) | with_reducible apply get_set_neE (by omega) | with_reducible apply get_keepE | exact rfl) (by repeat first | with_reducible apply get_put_neE (by omega) | with_reducible apply get_set_neE (by omega) | with_reducible apply get_keepE | exact rfl) (by repeat first | with_reducible apply get_put_neE (by omega) | with_reducible apply get_set_neE (by omega) | with_reducible apply get_keepE | exact rfl)), (by repeat first | exact Nat.le_refl _ | refine next_le_put ?_ | refine next_le_set ?_ | assumption), (by repeat first | with_reducible exact Keeps.refl _ | with_reducible refine Keeps.put ?_ (by omega) _ | with_reducible refine Keeps.set ?_ (by omega) _ | assumption), ?_⟩
      · rw [get_set_same, hb1]
        rfl
      · rw [Bool.eq_iff_iff]
        simp [isI, hy1, hy2, hy3, hob, ← hb2]
        exact eq_comm
    · rw [if_neg (by decide)] at x3
      (refine go ?_)
      exact ⟨rfl, _, _, Cvt.refl, (by repeat first | exact subE.nil _ | (apply subE.cons; focus (first | exact rfl | (simp [lk_cons]; done) | (simp [lk_cons]; omega)))), k, n, a, y.out, (y.tag.1, bits .xor .u64 y.tag.2 x), rfl, (by repeat first | with_reducible exact get_put_same | with_reducible exact get_set_same | assumption | with_reducible apply get_put_neE (by omega) | with_reducible apply get_set_neE (by omega) | exact get_put_same | exact get_set_same), (by repeat first | with_reducible exact get_put_same | with_reducible exact get_set_same | assumption | with_reducible apply get_put_neE (by omega) | with_reducible apply get_set_neE (by omega) | exact get_put_same | exact get_set_same), by rw [hob]; exact (by repeat first | with_reducible exact get_put_same | with_reducible exact get_set_same | assumption | with_reducible apply get_put_neE (by omega) | with_reducible apply get_set_neE (by omega) | exact get_put_same | exact get_set_same), (orAt_get x6 (by repeat first | with_reducible apply get_put_neE (by omega) | with_reducible apply get_set_neE (by omega) | with_reducible apply get_keepE | exact rfl) (by repeat first | with_reducible apply get_put_neE (by omega) | with_reducible apply get_set_neE (by omega) | with_reducible apply get_keepE | exact rfl) (by repeat first | with_reducible apply get_put_neE (by omega) | with_reducible apply get_set_neE (by omega) | with_reducible apply get_keepE | exact rfl)), (by repeat first | exact Nat.le_refl _ | refine next_le_put ?_ | refine next_le_set ?_ | assumption), (by repeat first | with_reducible exact Keeps.refl _ | with_reducible refine Keeps.put ?_ (by omega) _ | with_reducible refine Keeps.set ?_ (by omega) _ | assumption), by
        have := xor_u64 (a := 1) (b := x) (by omega) (by omega)
        rw [Bool.eq_iff_iff]
        simp [isI, hy1, hy2, hy3, hy5, Prod.ext_iff, ← this]
        exact eq_comm⟩
  · clear x1 x2 x3 x4 x5 x6 x7 x8
    rintro e4 h4 ⟨e6, h6, hcv, s1, k', n', hd', b', tg', s2, x1, x2, x3, x4, x5, x6, x7⟩
    refine WW.cvt (hcv.trans (Cvt.sub (subE.cons s2 s1))) ?_
    clear hcv s1 s2
    (refine go ?_)
    have hcon := oracle_Open_ae x4 (by simp) (fun z hz => by simp at hz; subst hz; rw [hy4]; omega) k' n' hd' b' tg'
    have ho : openO [y] k' n' hd' b' tg' = if kind = 0 ∨ x = 0 ∧ kind ≠ 4 then some d else none := by
      simp only [openO, List.find?_cons, x7]
      by_cases hP : kind = 0 ∨ x = 0 ∧ kind ≠ 4
      · simp [hP, hy4]
      · simp [hP]
    rw [ho] at hcon
    refine WL.call rfl (by first | exact True.intro | exact rfl) (by repeat first | exact SubL.nil | refine SubL.cons (SubV.refl _) ?_ | refine SubL.cons SubV.app ?_ | refine SubL.cons SubV.nil ?_) (hcon) ?_
    by_cases hP : kind = 0 ∨ x = 0 ∧ kind ≠ 4
    · simp only [if_pos hP, Option.getD_some, Option.isSome_some]
      (refine go ?_)
      (refine WL.spB rfl (fun hz7 => ?_) (fun hz7 => ?_))
      · refine WL.unS rfl rfl ?_; (repeat first | refine WS.dead rfl ?_ | refine WS.unmet rfl rfl ?_); refine WS.off ?_
        (refine go ?_)
        rw [show (d == d) = true by simp]
        refine WL.call rfl (by first | exact True.intro | exact rfl) (by repeat first | exact SubL.nil | refine SubL.cons (SubV.refl _) ?_ | refine SubL.cons SubV.app ?_ | refine SubL.cons SubV.nil ?_) (law7_known_ae _) ?_
        (refine go ?_)
        refine WW.ret (PureQ.finD ?_)
        exact fz_b rfl
      · (refine go ?_)
        (refine WL.spB rfl (fun hz8 => ?_) (fun hz8 => ?_))
        · have e4 : (kind != 4) = true := by simp; omega
          (repeat first | refine WW.seq ?_ | refine WW.reg ?_ | refine WL.nil ?_ | refine WW.skip ?_ | refine WW.block ?_ | refine thenN ?_ | refine blkN ?_); iterate 3 (refine WL.go ?_)
          rw [e4]
          (refine go ?_)
          rw [show (d == d) = true by simp]
          refine WL.call rfl (by first | exact True.intro | exact rfl) (by repeat first | exact SubL.nil | refine SubL.cons (SubV.refl _) ?_ | refine SubL.cons SubV.app ?_ | refine SubL.cons SubV.nil ?_) (law7_known_ae _) ?_
          (refine go ?_)
          refine WW.ret (PureQ.finD ?_)
          exact fz_b rfl
        · exfalso; omega
    · simp only [if_neg hP, Option.getD_none, Option.isSome_none]
      (refine go ?_)
      (refine WL.spB rfl (fun hz7 => ?_) (fun hz7 => ?_))
      · exfalso; omega
      · (refine go ?_)
        (refine WL.spB rfl (fun hz8 => ?_) (fun hz8 => ?_))
        · have e4 : (kind != 4) = false := by simp; omega
          (repeat first | refine WW.seq ?_ | refine WW.reg ?_ | refine WL.nil ?_ | refine WW.skip ?_ | refine WW.block ?_ | refine thenN ?_ | refine blkN ?_); iterate 3 (refine WL.go ?_)
          rw [e4]
          (refine go ?_)
          refine WL.call rfl (by first | exact True.intro | exact rfl) (by repeat first | exact SubL.nil | refine SubL.cons (SubV.refl _) ?_ | refine SubL.cons SubV.app ?_ | refine SubL.cons SubV.nil ?_) (law7_known_ae _) ?_
          (refine go ?_)
          refine WW.ret (PureQ.finD ?_)
          exact fz_b rfl
        · (refine go ?_)
          refine WL.call rfl (by first | exact True.intro | exact rfl) (by repeat first | exact SubL.nil | refine SubL.cons (SubV.refl _) ?_ | refine SubL.cons SubV.app ?_ | refine SubL.cons SubV.nil ?_) (law7_known_ae _) ?_
          (refine go ?_)
          refine WW.ret (PureQ.finD ?_)
          exact fz_b rfl
end Go.Proofs.Ytnihcakkhillcaa
