/- The program's sum: a range over a function. -/
import Derived.Test.YtlddahcgaonlhaaX8
import Derived.Test.YtlddahcgaonlhaaAF
set_option linter.all false
namespace Go.Proofs.Ytlddahcgaonlhaa
open Go Go.Abs

theorem slices_Chunk_ae {h : AHeap} {nx : Nat} (hn : h.next = nx) (c : List (List AV)) : AE Try.prog 89 [.imm 1 c, .int .i64 16] h (.func (.func 107) [] [.ptr nx 0 0, .ptr (nx + 1) 0 0]) ((h.put nx (.mem 1 [[.imm 1 c]])).put (nx + 1) (.mem 1 [[.int .i64 16]])) := by
  subst hn
  refine AC.introW is_slices_Chunkbyte_byte (by simp) ?_
  unfold c_slices_Chunkbyte_byte
  (refine go ?_)
  exact WW.ret ⟨.inl rfl, _, (by repeat first | exact resA_nil | (apply resA_t; exact rfl) | (apply resA_c; exact rfl; exact gH; exact (by first | exact getC_at rfl rfl | exact getC_all rfl | exact getC_sub (Nat.le_of_ble_eq_true rfl) (by first | (simp only [putC, AV.cs, encP, encN, encI, encS, encA, List.take_succ_cons, List.take_zero, List.take_nil, List.drop_succ_cons, List.drop_zero, List.drop_nil, List.cons_append, List.nil_append, List.append_nil, List.length_cons, List.length_nil, Nat.zero_add, Nat.add_zero, Nat.reduceAdd]; exact rfl) | exact rfl) | exact getC_sub (by simp) (by first | (simp only [putC, AV.cs, encP, encN, encI, encS, encA, List.take_succ_cons, List.take_zero, List.take_nil, List.drop_succ_cons, List.drop_zero, List.drop_nil, List.cons_append, List.nil_append, List.append_nil, List.length_cons, List.length_nil, Nat.zero_add, Nat.add_zero, Nat.reduceAdd]; exact rfl) | exact rfl)))), rfl, rfl⟩
/-- What a round does. -/
def cA9 : CC := .reg [⟨some 6, .mov (.t 31), none⟩]
def cB9 : CC := .block 3 (.seq (.reg [⟨some 33, .mov (.t 6), none⟩, ⟨some 34, .call 90 [.t 33], none⟩, ⟨some 32, .mov (.t 34), none⟩, ⟨some 35, .ext 0 (.t 32), none⟩, ⟨some 36, .ext 1 (.t 32), none⟩, ⟨some 7, .alloc [.int .u64 0, .int .u64 0], none⟩, ⟨none, .store 2 (.t 7) (.t 35), none⟩, ⟨some 8, .mov (.t 36), none⟩]) (.reg [⟨some 37, .load 2 true (.t 5), none⟩, ⟨some 38, .load 2 true (.t 7), none⟩, ⟨some 39, .call 91 [.t 37, .t 38], none⟩, ⟨none, .store 2 (.t 5) (.t 39), none⟩]))
attribute [local irreducible] stepF pairF
theorem chunk_ac {h : AHeap} {l r rid did n1 n2 sc : Nat} {fn : FuncId} {asg bdy : Code} {c : Bs} {s0 : Pr} (hc16 : c.length % 16 = 0) (hc : c.length ≤ 2000000)
    (h1 : h.get n1 = some (.mem 1 [[.imm 1 (c.map encB)]])) (h2 : h.get n2 = some (.mem 1 [[.int .i64 16]])) (h3 : h.get did = some (.dfr r (some []))) (h4 : h.get rid = some (.loop l .ready 41 [(5, .ptr sc 0 0)] fn #[31] asg bdy r)) (h5 : h.get sc = some (.mem 2 [encP s0]))
    (hA : compC Try.prog 41 asg = cA9) (hB : compC Try.prog 41 bdy = cB9) :
    AC Try.prog 107 [.func (.yield l) [] [], .ptr n1 0 0, .ptr n2 0 0] h (fun _ h' => h'.get did = some (.dfr r (some [])) ∧ h'.get rid = some (.loop l .ready 41 [(5, .ptr sc 0 0)] fn #[31] asg bdy r) ∧ h'.get sc = some (.mem 2 [encP ((rowsF c).foldl sumS6 s0)]) ∧ KeepsB [sc, rid] h h') := by
  refine AC.wf fun hwf => ?_
  have w1 := hwf _ _ h1
  have w2 := hwf _ _ h2
  have w3 := hwf _ _ h3
  have w4 := hwf _ _ h4
  have w5 := hwf _ _ h5
  have d1 : n1 ≠ sc := fun e => by subst e; rw [h1] at h5; cases h5
  have d2 : n2 ≠ sc := fun e => by subst e; rw [h2] at h5; cases h5
  have d3 : did ≠ sc := fun e => by subst e; rw [h3] at h5; cases h5
  have d4 : rid ≠ sc := fun e => by subst e; rw [h4] at h5; cases h5
  have d5 : n1 ≠ rid := fun e => by subst e; rw [h1] at h4; cases h4
  have d6 : n2 ≠ rid := fun e => by subst e; rw [h2] at h4; cases h4
  have d7 : did ≠ rid := fun e => by subst e; rw [h3] at h4; cases h4
  refine AC.introW is_slices_Chunkbyte_byte_1 (by simp) ?_
  unfold c_slices_Chunkbyte_byte_1
  (refine go ?_)
  refine WW.loopE (fun (s : RowS) => [(0, some (.func (.yield l) [] [])), (1, some (.ptr n1 0 0)), (2, some (.ptr n2 0 0)), (4, some (.int .i64 s.i))])
    (fun s h' => (h'.get n1 = some (.mem 1 [[.imm 1 (c.map encB)]]) ∧ h'.get n2 = some (.mem 1 [[.int .i64 16]]) ∧ h'.get did = some (.dfr r (some [])) ∧ h'.get rid = some (.loop l .ready 41 [(5, .ptr sc 0 0)] fn #[31] asg bdy r)) ∧ h'.get sc = some (.mem 2 [encP s.o]) ∧ h.next ≤ h'.next ∧ KeepsB [sc, rid] h h' ∧ s.i % 16 = 0 ∧ s.i ≤ c.length ∧ (rowsF c).foldl sumS6 s0 = (rowsF (c.drop s.i)).foldl sumS6 s.o) (fun s => c.length - s.i) ⟨0, s0⟩ (by repeat first | exact subE.nil _ | (apply subE.cons; focus (first | exact rfl | (simp [lk_cons]; done) | (simp [lk_cons]; omega)))) ⟨⟨h1, h2, h3, h4⟩, h5, Nat.le_refl _, KeepsB.refl, rfl, Nat.zero_le _, by simp⟩ ?_
  rintro ⟨i, o⟩ h' ⟨⟨a1, a2, a3, a4⟩, a5, a6, a7, a8, a9, a10⟩
  simp only at a1 a2 a3 a4 a5 a6 a7 a8 a9 a10 ⊢
  (refine go ?_)
  (refine WW.ifB rfl (fun hz1 => ?_) (fun hz1 => ?_))
  · have h16 : (c.drop i).length ≥ 16 := by simp; omega
    have hne : c.drop i ≠ [] := fun e => by rw [e] at h16; simp at h16
    (repeat first | refine WW.seq ?_ | refine WW.reg ?_ | refine WL.nil ?_ | refine WW.skip ?_ | refine WW.block ?_ | refine thenN ?_ | refine blkN ?_)
    refine WW.dreg0 [] (by decide +kernel) ?_
    (repeat first | refine DW.go ?_ | refine DW.goWP ?_ | refine DW.goF ?_ | refine DW.endL ?_ | refine thenN ?_ | refine blkN ?_)
    have em : (if (((((c.map encB).take (c.map encB).length).drop i).length : Nat) : Int) < 16 then (((((c.map encB).take (c.map encB).length).drop i).length : Nat) : Int) else 16) = 16 := if_neg (by simp at h16 ⊢; omega)
    rw [em]
    refine WW.seq ?_
    refine WW.regY (l1 := [⟨some 19, .mov (.t 0), none⟩, ⟨some 20, .load 1 false (.t 1), none⟩, ⟨some 21, .mov (.t 4), none⟩, ⟨some 22, .mov (.t 4), none⟩, ⟨some 23, .mov (.t 5), none⟩, ⟨some 24, .bin .add (.t 22) (.t 23), none⟩, ⟨some 25, .mov (.t 4), none⟩, ⟨some 26, .mov (.t 5), none⟩, ⟨some 27, .bin .add (.t 25) (.t 26), none⟩, ⟨some 28, .raw (Ex.slc3 1 (.t 20) (some (.t 21)) (some (.t 24)) (.t 27)), none⟩]) (l2 := [⟨some 30, .not (.t 29), none⟩]) rfl ?_
    (refine go ?_)
    refine WL.fx1 (FX.slc3I (l := i) (q := i + 16) rfl rfl rfl rfl rfl rfl rfl (by omega) (by simp at h16 ⊢; omega) (by first | exact True.intro | exact rfl)) ?_
    rw [slc_row]
    refine WL.nil ⟨rfl, ⟨rid, l, 41, r, 31, [(5, .ptr sc 0 0)], fn, asg, bdy, .imm 1 (((c.drop i).take 16).map encB), rfl, rfl, a4, by decide, ?_⟩⟩
    rw [hA, hB]
    refine RW.reg rfl ?_
    (refine go ?_)
    refine ⟨rfl, ⟨a4, ?_⟩⟩
    refine RW.block (RW.seq (RW.reg rfl ?_))
    (refine go ?_)
    refine WL.call rfl (by first | exact True.intro | exact rfl) (by repeat first | exact SubL.nil | refine SubL.cons (SubV.refl _) ?_ | refine SubL.cons SubV.app ?_ | refine SubL.cons SubV.nil ?_) (wire_Pair_ae _ (by rw [List.length_take]; omega) _) ?_
    (refine go ?_)
    refine ⟨rfl, RW.reg rfl ?_⟩
    (refine go ?_)
    refine WL.call rfl (by first | exact True.intro | exact rfl) (by repeat first | exact SubL.nil | refine SubL.cons (SubV.refl _) ?_ | refine SubL.cons SubV.app ?_ | refine SubL.cons SubV.nil ?_) (digest_Step_ae o (pairF ((c.drop i).take 16)) _) ?_
    (refine go ?_)
    refine ⟨rfl, rfl, gH, ?_⟩
    (refine go ?_)
    refine ⟨rfl, ?_⟩
    (refine go ?_)
    refine ⟨⟨i + 16, sumS6 o ((c.drop i).take 16)⟩, (by repeat first | exact subE.nil _ | (apply subE.cons; focus (first | exact rfl | (simp [lk_cons]; done) | (simp [lk_cons]; omega)))), ⟨⟨gH, gH, gH, gH⟩, gH, (by repeat first | exact Nat.le_refl _ | refine next_le_put ?_ | refine next_le_set ?_ | assumption), (by repeat first | exact KeepsB.refl | assumption | with_reducible refine KeepsB.keep ?_ _ | with_reducible refine KeepsB.put ?_ (by omega) _ | with_reducible refine KeepsB.setN ?_ (by omega) _ | with_reducible refine KeepsB.setW ?_ (by simp; done) _), by simp; omega, by simp at h16 ⊢; omega, ?_⟩, by simp at h16 ⊢; omega⟩
    rw [a10, rowsF_cons hne, List.drop_drop]; rfl
  · have hi : i = c.length := by omega
    (refine go ?_)
    refine ⟨.inr rfl, _, (by repeat first | exact resA_nil | (apply resA_t; exact rfl) | (apply resA_c; exact rfl; exact gH; exact (by first | exact getC_at rfl rfl | exact getC_all rfl | exact getC_sub (Nat.le_of_ble_eq_true rfl) (by first | (simp only [putC, AV.cs, encP, encN, encI, encS, encA, List.take_succ_cons, List.take_zero, List.take_nil, List.drop_succ_cons, List.drop_zero, List.drop_nil, List.cons_append, List.nil_append, List.append_nil, List.length_cons, List.length_nil, Nat.zero_add, Nat.add_zero, Nat.reduceAdd]; exact rfl) | exact rfl) | exact getC_sub (by simp) (by first | (simp only [putC, AV.cs, encP, encN, encI, encS, encA, List.take_succ_cons, List.take_zero, List.take_nil, List.drop_succ_cons, List.drop_zero, List.drop_nil, List.cons_append, List.nil_append, List.append_nil, List.length_cons, List.length_nil, Nat.zero_add, Nat.add_zero, Nat.reduceAdd]; exact rfl) | exact rfl)))), a3, a4, ?_, a7⟩
    rw [a10, hi, List.drop_length, rowsF_nil]
    exact a5
theorem AC.used {P : Program} {f : Nat} {vs : List AV} {h : AHeap} {R : AV → AHeap → Prop} (hac : AC P f vs h R) : AC P f vs h (fun r h' => R r h' ∧ (∀ id, h.used id → h'.used id) ∧ ∀ id x, h'.get id = some x → h'.used id) := fun m w cargs hr hl hv =>
  (hac m w cargs hr hl hv).mono fun ex w' ⟨v, m', r, h', e1, g1, g2, g3, hR⟩ => ⟨v, m', r, h', e1, g1, g2, g3, hR, g3.used, g1.live⟩
theorem AMk.named {P : Program} {N : Nat} {c : CC} {Q : Nat → Exit → Env → AHeap → Prop} {e : Env} {h : AHeap} (F : AHeap → Prop) (hf : F h) (k : ∀ h5, F h5 → AMk P N c Q e h5) : AMk P N c Q e h := k h hf
/-- Rows as one that grows. -/
theorem slices_ConcatA_ac (l : List Bs) (hl : l.length ≤ 1000000) (hf : l.flatten.length ≤ 100000000) (h : AHeap) : AC Try.prog 83 [.imm 1 (l.map encR)] h
    (fun r h' => ∃ T, r = .app T 0 1 (l.flatten.map encB) ∧ h.next ≤ T ∧ h'.get T = some (.tail 0 l.flatten.length) ∧ Keeps h h') := by
  refine AC.introW is_slices_Concatbyte_byte (by simp) ?_
  unfold c_slices_Concatbyte_byte
  (refine go ?_)
  refine WW.loopE (fun (i : Nat) => [(0, some (.imm 1 (l.map encR))), (3, some (.int .i64 (l.take i).flatten.length)), (9, some (.imm 1 (l.map encR))), (10, some (.int .i64 l.length)), (11, some (.int .i64 i))])
    (fun i h' => h = h' ∧ i ≤ l.length) (fun i => l.length - i) 0 (by repeat first | exact subE.nil _ | (apply subE.cons; focus (first | exact rfl | (simp [lk_cons]; done) | (simp [lk_cons]; omega)))) ⟨rfl, by omega⟩ ?_
  rintro i _ ⟨rfl, g2⟩
  (refine go ?_)
  (refine WW.ifB rfl (fun hz1 => ?_) (fun hz1 => ?_))
  · have e1 : (l.take (i + 1)).flatten.length = (l.take i).flatten.length + l[i].length := by rw [take_flat l (by omega)]; simp
    have e2 := take_flat_len l (i + 1)
    (refine go ?_)
    refine ⟨i + 1, (by repeat first | exact subE.nil _ | (apply subE.cons; focus (first | exact rfl | (simp [lk_cons, e1]; done) | (simp [lk_cons, e1]; omega)))), ⟨rfl, by omega⟩, by omega⟩
  have hi : i = l.length := by omega
  subst hi
  rw [List.take_length]
  (refine go ?_)
  refine WL.callA rfl (by first | exact True.intro | exact rfl) (by repeat first | exact SubL.nil | refine SubL.cons (SubV.refl _) ?_ | refine SubL.cons SubV.app ?_ | refine SubL.cons SubV.nil ?_) (slices_Grow_any _ hf _) ?_
  rintro _ h1 ⟨T, rfl, q1, q2, q3⟩
  (refine go ?_)
  refine WW.loopE (fun (i : Nat) => [(6, some (.app T 0 1 ((l.take i).flatten.map encB))), (25, some (.imm 1 (l.map encR))), (26, some (.int .i64 l.length)), (27, some (.int .i64 i))])
    (fun i h' => h'.get T = some (.tail 0 (l.take i).flatten.length) ∧ Keeps h h' ∧ i ≤ l.length) (fun i => l.length - i) 0 (by repeat first | exact subE.nil _ | (apply subE.cons; focus (first | exact rfl | (simp [lk_cons]; done) | (simp [lk_cons]; omega)))) ⟨by simpa using q2, q3, by omega⟩ ?_
  rintro i h2 ⟨g1, g2, g3⟩
  (refine go ?_)
  (refine WW.ifB rfl (fun hz3 => ?_) (fun hz3 => ?_))
  · have e1 := take_flat l (i := i) (by omega)
    have e2 := take_flat_len l (i + 1)
    have e3 : (l.take (i + 1)).flatten.length = (l.take i).flatten.length + l[i].length := by rw [e1]; simp
    (refine go ?_)
    refine ⟨i + 1, (by repeat first | exact subE.nil _ | (apply subE.cons; focus (first | exact rfl | (simp [lk_cons, e1]; done) | (simp [lk_cons, e1]; omega)))), ⟨?_, (by repeat first | with_reducible exact Keeps.refl _ | with_reducible refine Keeps.put ?_ (by omega) _ | with_reducible refine Keeps.set ?_ (by omega) _ | assumption), by omega⟩, by omega⟩
    rw [get_set_same, e3]
  · have hi : i = l.length := by omega
    subst hi
    rw [List.take_length] at g1
    (refine go ?_)
    exact WW.ret ⟨.inl rfl, _, (by repeat first | exact resA_nil | (apply resA_t; exact rfl) | (apply resA_c; exact rfl; exact gH; exact (by first | exact getC_at rfl rfl | exact getC_all rfl | exact getC_sub (Nat.le_of_ble_eq_true rfl) (by first | (simp only [putC, AV.cs, encP, encN, encI, encS, encA, List.take_succ_cons, List.take_zero, List.take_nil, List.drop_succ_cons, List.drop_zero, List.drop_nil, List.cons_append, List.nil_append, List.append_nil, List.length_cons, List.length_nil, Nat.zero_add, Nat.add_zero, Nat.reduceAdd]; exact rfl) | exact rfl) | exact getC_sub (by simp) (by first | (simp only [putC, AV.cs, encP, encN, encI, encS, encA, List.take_succ_cons, List.take_zero, List.take_nil, List.drop_succ_cons, List.drop_zero, List.drop_nil, List.cons_append, List.nil_append, List.append_nil, List.length_cons, List.length_nil, Nat.zero_add, Nat.add_zero, Nat.reduceAdd]; exact rfl) | exact rfl)))), T, by rw [List.take_length]; rfl, q1, g1, g2⟩
theorem digest_Sum_ae (rows : List Bs) (hr1 : rows.length ≤ 1000000) (hr2 : rows.flatten.length ≤ 1000000) (h : AHeap) : AE Try.prog 66 [.imm 1 (rows.map encR)] h (.agg (encP (digestF rows.flatten))) h := by
  refine AE.pureM is_digest_Sum (by simp) ?_
  unfold c_digest_Sum
  refine AMk.seq1 ?_
  (refine go ?_)
  refine ⟨rfl, AMk.seq1 ?_⟩
  (refine go ?_)
  refine WL.callA rfl (by first | exact True.intro | exact rfl) (by repeat first | exact SubL.nil | refine SubL.cons (SubV.refl _) ?_ | refine SubL.cons SubV.app ?_ | refine SubL.cons SubV.nil ?_) (AC.used (slices_ConcatA_ac rows hr1 (by omega) _)) ?_
  rintro _ h1 ⟨⟨T, rfl, q1, q2, q3⟩, q4, q9⟩
  have q10 := (q9 T _ q2).1
  generalize rows.flatten = p at *
  have q0 : h1.get h.next = some (.mem 2 [encP (0, 0)]) := (q3.2 h.next put_used_nm).trans get_put_same
  have q5 : h.next + 1 ≤ T := by rw [next_put] at q1; exact q1
  have q6 : h.next + 1 ≤ h1.next := by have := q3.1; rw [next_put] at this; exact this
  have q7 : ∀ id, h.used id ∨ id = h.next → h1.used id := fun id hu => q4 id (hu.elim put_used fun e => by subst e; exact put_used_nm)
  have q8 : Keeps h h1 := ⟨by omega, fun id hu => (q3.2 id (put_used hu)).trans (get_put_neE (fun e => by subst e; exact absurd hu.1 (Nat.lt_irrefl _)) rfl)⟩
  clear q1 q3 q4 q9
  (refine go ?_)
  refine ⟨rfl, AMk.seq1 ?_⟩
  (refine go ?_)
  refine ⟨rfl, AMk.seq1 ?_⟩
  rw [show p.map encB ++ [[AV.int IntKind.u8 128]] = (p ++ [128] ++ List.replicate 0 0).map encB by simp [encB]]
  have e4 : IntKind.i64.wrap (((List.map encB (p ++ [128] ++ List.replicate 0 0)).length : Int) - 1) = (p.length : Int) := by
    have : (List.map encB (p ++ [128] ++ List.replicate 0 0)).length = p.length + 1 := by simp
    rw [this, wrap_in (And.intro (by omega) (by omega))]; omega
  (refine go ?_)
  rw [e4]
  refine WW.loopE (fun (k : Nat) => [(2, some (.ptr h.next 0 0)), (3, some (.app T 0 1 ((p ++ [128] ++ List.replicate k 0).map encB))), (4, some (.int .i64 p.length))])
    (fun k h' => h'.get h.next = some (.mem 2 [encP (0, 0)]) ∧ h'.get T = some (.tail 0 (p.length + 1 + k)) ∧ T < h'.next ∧ Keeps h h' ∧ (∀ id, h.used id ∨ id = h.next → h'.used id) ∧ k ≤ (24 - (p.length + 1) % 16) % 16) (fun k => (24 - (p.length + 1) % 16) % 16 - k) 0 (by repeat first | exact subE.nil _ | (apply subE.cons; focus (first | exact rfl | (simp [lk_cons]; done) | (simp [lk_cons]; omega)))) ⟨gH, (by repeat first | exact get_put_tl (by first | rfl | exact List.length_map _ | (simp; done) | (simp; omega)) | exact get_set_tl (by first | rfl | exact List.length_map _ | (simp; done) | (simp; omega)) | assumption | with_reducible apply get_put_neE (by omega) | with_reducible apply get_set_neE (by omega)), q10, (by repeat first | with_reducible exact Keeps.refl _ | with_reducible refine Keeps.put ?_ (by omega) _ | with_reducible refine Keeps.set ?_ (by omega) _ | assumption), q7, by omega⟩ ?_
  rintro k h' ⟨g1, g2, g3, g4, g5, g6⟩
  have hl : (p ++ [128] ++ List.replicate k 0).length = p.length + 1 + k := by simp; omega
  (repeat first | refine WW.seq ?_ | refine WW.reg ?_ | refine WL.nil ?_ | refine WW.skip ?_ | refine WW.block ?_ | refine thenN ?_ | refine blkN ?_); iterate 2 (refine WL.go ?_)
  rw [hl]
  (refine go ?_)
  (refine WW.ifB rfl (fun hz1 => ?_) (fun hz1 => ?_))
  · (refine go ?_)
    rw [show [[AV.int IntKind.u8 0]] = [(0 : UInt8)].map encB from rfl, map_app, List.append_assoc, ← List.replicate_succ']
    refine ⟨k + 1, (by repeat first | exact subE.nil _ | (apply subE.cons; focus (first | exact rfl | (simp [lk_cons]; done) | (simp [lk_cons]; omega)))), ⟨gH, (by repeat first | exact get_put_tl (by first | rfl | exact List.length_map _ | (simp; done) | (simp; omega)) | exact get_set_tl (by first | rfl | exact List.length_map _ | (simp; done) | (simp; omega)) | assumption | with_reducible apply get_put_neE (by omega) | with_reducible apply get_set_neE (by omega)), g3, (by repeat first | with_reducible exact Keeps.refl _ | with_reducible refine Keeps.put ?_ (by omega) _ | with_reducible refine Keeps.set ?_ (by omega) _ | assumption), g5, by omega⟩, by omega⟩
  have hk : k = (24 - (p.length + 1) % 16) % 16 := by omega
  obtain ⟨p1, p2, p3⟩ := padF_len p
  have hb := putB_lenS (p.length : Nat)
  have e3 : p ++ [128] ++ List.replicate k 0 ++ putB (p.length : Nat) 8 = padF p := by rw [hk]; rfl
  have hd := digestF_S p
  (refine go ?_)
  refine ⟨rfl, AMk.seq1 ?_⟩
  (refine go ?_)
  refine WL.call rfl (by first | exact True.intro | exact rfl) (by repeat first | exact SubL.nil | refine SubL.cons (SubV.refl _) ?_ | refine SubL.cons SubV.app ?_ | refine SubL.cons SubV.nil ?_) (wire_Put_ae (p.length : Nat) 8 _ (by decide)) ?_
  (refine go ?_)
  rw [map_app, show Int.toNat 8 = 8 from rfl, e3]
  generalize padF p = c at *
  refine ⟨rfl, AMk.seq1 ?_⟩
  (refine go ?_)
  refine ⟨rfl, AMk.seq2 (AMk.seq1 ?_)⟩
  (refine go ?_)
  refine WL.call rfl (by first | exact True.intro | exact rfl) (by repeat first | exact SubL.nil | refine SubL.cons (SubV.refl _) ?_ | refine SubL.cons SubV.app ?_ | refine SubL.cons SubV.nil ?_) (slices_Chunk_ae (nx := h'.next + 1) gN _) ?_
  (refine go ?_)
  refine ⟨rfl, AMk.block ?_⟩
  refine AMk.named (fun h5 => h5.next = h'.next + 3 ∧ h5.get h'.next = some (.mem 2 [encP (7640891576956012808, 13503953896175478587)]) ∧ h5.get (h'.next + 1) = some (.mem 1 [[.imm 1 (c.map encB)]]) ∧ h5.get (h'.next + 2) = some (.mem 1 [[.int .i64 16]]) ∧ h5.get h.next = some (.mem 2 [encP (0, 0)]) ∧ Keeps h h5 ∧ ∀ id, h.used id ∨ id = h.next → h5.used id)
    ⟨gN, gH, gH, gH, gH, (by repeat first | with_reducible exact Keeps.refl _ | with_reducible refine Keeps.put ?_ (by omega) _ | with_reducible refine Keeps.set ?_ (by omega) _ | assumption), fun id hu => put_used (put_used (set_used.2 (put_used (set_used.2 (g5 id hu)))))⟩ ?_
  rintro h5 ⟨c1, c2, c3, c4, c5, c6, c7⟩
  have g7 : h.next < h'.next := by omega
  refine AMk.rangeF (es := [(5, .ptr h'.next 0 0)]) rfl (by kernel_rfl) (fun s v hs => ?_) fun l r fn asg bdy hA hB => AC.mono (chunk_ac (sc := h'.next) (n1 := h'.next + 1) (n2 := h'.next + 2) (did := h5.next) (rid := h5.next + 1) (c := c) p1 (by omega) gH gH gH gH gH hA hB) ?_
  · rcases List.mem_singleton.1 hs with ⟨rfl, rfl⟩
    rfl
  rintro _ h6 ⟨b1, b2, b3, b4⟩
  have b5 : h6.get h.next = some (.mem 2 [encP (0, 0)]) := (b4.2 h.next (put_used (put_used (c7 h.next (.inr rfl)))) (by simp; omega)).trans gH
  have b6 : Keeps h h6 := by
    refine ⟨?_, fun id hu => (b4.2 id (put_used (put_used (c7 id (.inl hu)))) (by have := hu.1; simp; omega)).trans ?_⟩
    · have h0 := b4.1
      have h1 := c6.1
      rw [next_putE (next_put _ _)] at h0
      omega
    · have := hu.1
      have := c6.1
      rw [get_put_neE (by omega) rfl, get_put_neE (by omega) rfl]
      exact c6.2 id hu
  rw [← hd] at b3
  refine ⟨b1, b2, rfl, rfl, fun r2 hg2 => AMM.seq (AMM.reg ?_)⟩
  (refine go ?_)
  refine ⟨rfl, gH, rfl, fun hg3 => AMM.ret hg3 fun _ => PureQ.finD ?_⟩
  exact fz_agg rfl (flatP _)
end Go.Proofs.Ytlddahcgaonlhaa
