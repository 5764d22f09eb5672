/- What the statement's proof needs, part 4. -/
import Derived.Test.YtjehfcjfnmcjcaaQWorldNew3
set_option linter.all false
namespace Go.Proofs.Ytjehfcjfnmcjcaa
open Go Go.Abs

theorem fz_immB {h h1 : AHeap} {a b : Bs} (hab : a = b) : Fz h h1 (.imm 1 (a.map encB)) (.imm 1 (b.map encB)) := fz_imm (by rw [hab]) (flatB _)
theorem oracle_Issued_ae {h : AHeap} {o t s g : Nat} {L : List Iss} {S : List Bs} (hO : OrAt h o t s g L S) (hL : L.length ≤ 1000000) (hx : ∀ x ∈ L, x.head.length ≤ 1000000 ∧ x.data.length ≤ 1000000 ∧ x.out.length ≤ 1000000) :
    AE Try.prog 16 [.ptr o 0 0] h (.imm 10 (L.map encI)) h := by
  obtain ⟨q1, q2, q3⟩ := hO
  refine AE.wf fun hwf => ?_
  have ho := hwf _ _ q1
  refine AE.pureW is_oracle_Oracle_Issued (by simp) ?_
  unfold c_oracle_Oracle_Issued
  (refine go ?_)
  refine WW.cvt (Cvt.adopt 10 (s := 3) rfl gN) ?_
  refine WW.loopE (fun (i : Nat) => [(3, some (.app h.next 0 10 ((L.take i).map encI))), (11, some (.app t g 10 (L.map encI))), (12, some (.int .i64 L.length)), (13, some (.int .i64 i))])
    (fun i h' => h'.get h.next = some (.tail 0 i) ∧ h.next < h'.next ∧ Keeps h h' ∧ i ≤ L.length) (fun i => L.length - i) 0 gSUB ⟨gH, (ltN gN (by omega)), gK, Nat.zero_le _⟩ ?_
  rintro i h' ⟨g1, g2, g3, g4⟩
  (refine go ?_)
  (refine WW.ifB rfl (fun hz1 => ?_) (fun hz1 => ?_))
  · have hi : i < L.length := by omega
    have hlen : (L.take i).length = i := by simp; omega
    (refine go ?_)
    refine WL.call rfl (by first | exact True.intro | exact rfl) gSL (oracle_told_ae L[i] (hx _ (List.getElem_mem hi)) _) ?_
    (refine go ?_)
    have e1 : (L.take (i + 1)).map encI = (L.take i).map encI ++ [encI L[i]] := by rw [List.take_succ_eq_append_getElem hi, List.map_append]; rfl
    refine ⟨i + 1, subE.cons (by rw [e1]; rfl) gSUB, ⟨(by repeat first | exact get_put_tl (by first | rfl | exact List.length_map _ | (simp; done) | (simp; omega)) | exact get_set_tl (by first | rfl | exact List.length_map _ | (simp; done) | (simp; omega)) | assumption | with_reducible apply get_put_neE (by omega) | with_reducible apply get_set_neE (by omega)), (ltN gN (by omega)), gK, by omega⟩, by omega⟩
  · have hi : i = L.length := by omega
    subst hi
    (refine go ?_)
    refine WW.ret (PureQ.finD ?_)
    rw [List.take_length]
    refine .app _ _ _ _ fun x hx v hv => ?_
    obtain ⟨y, _, rfl⟩ := List.mem_map.1 hx
    exact clo_encI y v hv

end Go.Proofs.Ytjehfcjfnmcjcaa


namespace Go.Proofs.Ytjehfcjfnmcjcaa
open Go Go.Abs

theorem orAt_get {h h2 : AHeap} {o t s g : Nat} {L : List Iss} {S : List Bs} (hO : OrAt h o t s g L S) (h1 : h2.get o = h.get o) (h3 : h2.get t = h.get t) (h4 : h2.get s = h.get s) : OrAt h2 o t s g L S :=
  ⟨h1.trans hO.obj, h3.trans hO.tok, h4.trans hO.sums⟩
theorem newO_ex (h : AHeap) : ∃ h1, newO h = h1 ∧ OrAt h1 (h.next + 1) (h.next + 2) h.next 0 [] [] ∧ (∀ nx, h.next = nx → h1.next = nx + 3) ∧ (∀ id, id < h.next → h1.get id = h.get id) ∧ ∀ h0 : AHeap, Keeps h0 h → Keeps h0 h1 :=
  ⟨_, rfl, newO_at h, fun nx hn => by rw [newO_next, hn], fun id hi => newO_get h hi, fun h0 hk => ⟨by rw [newO_next]; exact Nat.le_trans hk.1 (by omega), fun id hu => by rw [newO_get h (Nat.lt_of_lt_of_le hu.1 hk.1)]; exact hk.2 id hu⟩⟩
theorem oracle_New_ae2 {h : AHeap} {nx : Nat} (hn : h.next = nx) : AE Try.prog 14 [] h (.ptr (nx + 1) 0 0) (newO h) := by subst hn; exact oracle_New_ae h
theorem newO_ex2 {h : AHeap} {nx : Nat} (hn : h.next = nx) : ∃ h1, newO h = h1 ∧ OrAt h1 (nx + 1) (nx + 2) nx 0 [] [] ∧ h1.next = nx + 3 ∧ (∀ id, id < nx → h1.get id = h.get id) ∧ ∀ h0 : AHeap, Keeps h0 h → Keeps h0 h1 := by
  subst hn
  obtain ⟨h1, a, b, c, d, e⟩ := newO_ex h
  exact ⟨h1, a, b, c _ rfl, d, e⟩
theorem int_of {k : IntKind} {cells : List AV} (h : TypL [.i k] cells) : ∃ n : Int, cells = [.int k n] ∧ (Lit.int k n).wf = true := by
  obtain ⟨v, vs, rfl, h1, h2⟩ := h.cons_inv
  obtain rfl := h2.nil_inv
  obtain ⟨x, rfl, hw⟩ := h1.int_inv
  exact ⟨x, rfl, hw⟩
end Go.Proofs.Ytjehfcjfnmcjcaa


namespace Go.Proofs.Ytjehfcjfnmcjcaa
open Go Go.Abs


def isG (n : Int) : Bool := n == 4 || n == 8 || n == 16



theorem geom_Is_ae (n : Int) (h : AHeap) : AE Try.prog 64 [.int .i64 n] h (.bool (isG n)) h := by
  refine AE.pureW is_geom_Is (by simp) ?_
  unfold c_geom_Is
  (refine go ?_)
  (refine WL.spB rfl (fun hz => ?_) (fun hz => ?_)) <;> (refine go ?_)
  · refine WW.ret (PureQ.finD ?_)
    exact fz_b (by simp [isG, hz])
  (refine WL.spB rfl (fun hz8 => ?_) (fun hz8 => ?_)) <;> (refine go ?_)
  all_goals
    refine WW.ret (PureQ.finD ?_)
    exact fz_b (by simp [isG, hz, hz8])

theorem ref17_Is_ae (n : Int) (h : AHeap) : AE Try.prog 22 [.int .i64 n] h (.bool (isG n)) h := by
  refine AE.pureW is_ref17_Is (by simp) ?_
  unfold c_ref17_Is
  (refine go ?_)
  (refine WL.spB rfl (fun hz => ?_) (fun hz => ?_)) <;> (refine go ?_)
  · refine WW.ret (PureQ.finD ?_)
    exact fz_b (by simp [isG, hz])
  (refine WL.spB rfl (fun hz8 => ?_) (fun hz8 => ?_)) <;> (refine go ?_)
  all_goals
    refine WW.ret (PureQ.finD ?_)
    exact fz_b (by simp [isG, hz, hz8])

end Go.Proofs.Ytjehfcjfnmcjcaa


namespace Go.Proofs.Ytjehfcjfnmcjcaa
open Go Go.Abs

theorem isG_cases {n : Int} (h : isG n = true) : n = 4 ∨ n = 8 ∨ n = 16 := by simp [isG] at h; omega
def sizeG (n : Int) : Int := if isG n then n * 160 + 120 else 0
def recG (n i : Int) : Int := if isG n && decide (0 ≤ i) && decide (i < 2) then n * 160 + i * 60 else -1
theorem geom_among_ae (n i m : Int) (h : AHeap) : AE Try.prog 118 [.agg [.int .i64 n], .int .i64 i, .int .i64 m] h (.bool (isG n && decide (0 ≤ i) && decide (i < m))) h := by
  refine AE.pureW is_geom_Geom_among (by simp) ?_
  unfold c_geom_Geom_among
  (refine go ?_)
  refine WL.call rfl (by first | exact True.intro | exact rfl) gSL (geom_Is_ae n _) ?_
  (refine go ?_)
  (apply WL.andB; exact rfl; exact rfl; exact rfl; exact BP.of; intro hz1)
  · (repeat first | (apply GW.goS; exact Stp.auto) | apply GW.nil | exact rfl)
  (refine go ?_)
  (apply WL.andB; exact rfl; exact rfl; exact rfl; exact BP.of; intro hz2)
  · (repeat first | (apply GW.goS; exact Stp.auto) | apply GW.nil | exact rfl)
  (refine go ?_)
  refine WW.ret (PureQ.finD ?_)
  exact fz_b (by simp)
theorem geom_area_ae (n : Int) (hn : isG n = true) (h : AHeap) : AE Try.prog 119 [.agg [.int .i64 n]] h (.int .i64 (n * 64)) h := by
  have := isG_cases hn
  refine AE.pureW is_geom_Geom_area (by simp) ?_
  unfold c_geom_Geom_area
  (refine go ?_)
  refine WW.ret (PureQ.finD ?_)
  exact clo_i rfl
theorem geom_Rec_ae (n i : Int) (h : AHeap) : AE Try.prog 107 [.agg [.int .i64 n], .int .i64 i] h (.int .i64 (recG n i)) h := by
  refine AE.pureW is_geom_Geom_Rec (by simp) ?_
  unfold c_geom_Geom_Rec
  (refine go ?_)
  refine WL.call rfl (by first | exact True.intro | exact rfl) gSL (geom_among_ae n i 2 _) ?_
  cases hc : (isG n && decide (0 ≤ i) && decide (i < 2)) with
  | false =>
    (refine go ?_)
    refine WW.ret (PureQ.finD ?_)
    exact clo_i (by rw [recG, hc]; rfl)
  | true =>
    have hb : isG n = true ∧ 0 ≤ i ∧ i < 2 := by simpa [and_assoc] using hc
    obtain ⟨hg, i0, i1⟩ := hb
    have := isG_cases hg
    (repeat first | refine WL.go ?_ | refine WW.seq ?_ | refine WW.reg ?_ | refine WL.nil ?_ | refine WW.skip ?_ | refine WW.block ?_ | refine WW.exit ?_ | refine WW.condT rfl ?_ | refine WW.condF rfl ?_ | refine WL.gox ?_ | refine thenN ?_ | refine blkN ?_)
    refine WW.dregX [] [] [] gN (by decide +kernel) ?_
    (refine go ?_)
    refine DW.callS rfl (by first | exact True.intro | exact rfl) gSL rfl (geom_area_ae n hg _) ?_
    (refine go ?_)
    refine WW.ret (PureQ.finD ?_)
    exact clo_i (by rw [recG, hc, if_pos rfl]; omega)
theorem geom_Size_ae (n : Int) (h : AHeap) : AE Try.prog 69 [.agg [.int .i64 n]] h (.int .i64 (sizeG n)) h := by
  refine AE.pureW is_geom_Geom_Size (by simp) ?_
  unfold c_geom_Geom_Size
  (refine go ?_)
  refine WL.call rfl (by first | exact True.intro | exact rfl) gSL (geom_Is_ae n _) ?_
  cases hg : isG n with
  | false =>
    (refine go ?_)
    refine WW.ret (PureQ.finD ?_)
    exact clo_i (by rw [sizeG, hg]; rfl)
  | true =>
    have := isG_cases hg
    have hr : recG n 1 = n * 160 + 60 := by rw [recG, hg]; simp
    (refine go ?_)
    refine WL.call rfl (by first | exact True.intro | exact rfl) gSL (geom_Rec_ae n 1 _) ?_
    rw [hr]
    (refine go ?_)
    refine WW.ret (PureQ.finD ?_)
    exact clo_i (by rw [sizeG, hg, if_pos rfl]; omega)
theorem ref17_Size_ae (n : Int) (h : AHeap) : AE Try.prog 27 [.int .i64 n] h (.int .i64 (sizeG n)) h := by
  refine AE.pureW is_ref17_Size (by simp) ?_
  unfold c_ref17_Size
  (refine go ?_)
  refine WL.call rfl (by first | exact True.intro | exact rfl) gSL (ref17_Is_ae n _) ?_
  cases hg : isG n with
  | false =>
    (refine go ?_)
    refine WW.ret (PureQ.finD ?_)
    exact clo_i (by rw [sizeG, hg]; rfl)
  | true =>
    have := isG_cases hg
    have har : AE Try.prog 75 [.int .i64 n] h (.int .i64 (n * 64)) h := by
      refine AE.pureW is_ref17_area (by simp) ?_
      unfold c_ref17_area
      (refine go ?_)
      refine WW.ret (PureQ.finD ?_)
      exact clo_i (by omega)
    (refine go ?_)
    refine WL.call rfl (by first | exact True.intro | exact rfl) gSL (har) ?_
    (refine go ?_)
    refine WW.ret (PureQ.finD ?_)
    exact clo_i (by rw [sizeG, hg, if_pos rfl]; omega)
theorem ref14_Of_ae (seed e : Int) (he : 0 ≤ e ∧ e < 4294967296) (h : AHeap) : AE Try.prog 28 [.int .u64 seed, .int .u32 e] h (.agg (encP (ofK seed e))) h := by
  refine AE.pureW is_ref14_Of (by simp) ?_
  unfold c_ref14_Of
  (refine go ?_)
  refine WL.call rfl (by first | exact True.intro | exact rfl) gSL (ref2_Encrypt_ae (seed, seed) (0, e) _) ?_
  (refine go ?_)
  refine WW.ret (PureQ.finD ?_)
  exact fz_agg rfl (flatP _)
end Go.Proofs.Ytjehfcjfnmcjcaa


namespace Go.Proofs.Ytjehfcjfnmcjcaa
open Go Go.Abs

theorem field_Add_ae (a b : Pr) (h : AHeap) : AE Try.prog 146 [.agg (encP a), .agg (encP b)] h (.agg (encP (addF a b))) h := by
  refine AE.pureW is_field_Add (by simp) ?_
  unfold c_field_Add
  (refine go ?_)
  refine WW.ret (PureQ.finD ?_)
  exact fz_agg rfl (flatP (addF a b))
theorem dbl_T {a : Pr} (hz : shr64 a.1 63 = 1) : dblF a = (o64 (shl64 a.1 1) (shr64 a.2 63), x64 (shl64 a.2 1) 135) := by rw [dblF, if_pos (by simp [hz])]
theorem dbl_F {a : Pr} (hz : shr64 a.1 63 ≠ 1) : dblF a = (o64 (shl64 a.1 1) (shr64 a.2 63), shl64 a.2 1) := by rw [dblF, if_neg (by simp [hz])]
theorem field_double_ae (a : Pr) (h : AHeap) : AE Try.prog 153 [.agg (encP a)] h (.agg (encP (dblF a))) h := by
  refine AE.pureW is_field_double (by simp) ?_
  unfold c_field_double
  (refine go ?_)
  refine WW.ifB rfl (fun hz => ?_) (fun hz => ?_)
  · (refine go ?_)
    refine WW.ret (PureQ.finD ?_)
    rw [dbl_T (show shr64 a.1 63 = 1 from hz)]
    exact fz_agg rfl (flatP (_, _))
  · (refine go ?_)
    refine WW.ret (PureQ.finD ?_)
    rw [dbl_F (show shr64 a.1 63 ≠ 1 from hz)]
    exact fz_agg rfl (flatP (_, _))
theorem quo_lt {i : Nat} (hi : i < 64) : binA .quo .i64 (i : Int) 64 = some (.int .i64 0) := by
  show some (AV.int .i64 (IntKind.i64.wrap ((i : Int).tdiv 64))) = _
  rw [Int.tdiv_eq_ediv_of_nonneg (by omega), show (i : Int) / 64 = 0 by omega]; rfl
theorem quo_ge {i : Nat} (hi : 64 ≤ i) (h2 : i < 128) : binA .quo .i64 (i : Int) 64 = some (.int .i64 1) := by
  show some (AV.int .i64 (IntKind.i64.wrap ((i : Int).tdiv 64))) = _
  rw [Int.tdiv_eq_ediv_of_nonneg (by omega), show (i : Int) / 64 = 1 by omega]; rfl
theorem rem_64 (i : Nat) : binA .rem .i64 (i : Int) 64 = some (.int .i64 ((i % 64 : Nat) : Int)) := by
  show some (AV.int .i64 ((i : Int).tmod 64)) = _
  rw [Int.tmod_eq_emod_of_nonneg (by omega)]; rfl
theorem sub_63 (i : Nat) : binA .sub .i64 63 ((i % 64 : Nat) : Int) = some (.int .i64 ((63 - i % 64 : Nat) : Int)) := by
  show some (AV.int .i64 (IntKind.i64.wrap (63 - ((i % 64 : Nat) : Int)))) = _
  rw [wrap_in (by constructor <;> omega), show (63 : Int) - ((i % 64 : Nat) : Int) = ((63 - i % 64 : Nat) : Int) by omega]
theorem shr_n (v : Int) {k : Nat} (hk : k ≤ 64) : shA .shr .u64 v (k : Int) = some (.int .u64 (shr64 v k)) := by
  show req (0 ≤ (k : Int)) _ = _
  rw [req_pos (by omega), Int.toNat_natCast, show min k IntKind.u64.bits = k from Nat.min_eq_left hk]; rfl
theorem and_n (v w : Int) : binA .and .u64 v w = some (.int .u64 (bits .and .u64 v w)) := rfl
def mulS (a b : Pr) (out : Pr) (i : Nat) : Pr := if digF b i then addF (dblF out) a else dblF out
def mulR (a b : Pr) (n : Nat) : Pr := (List.range n).foldl (mulS a b) (0, 0)
theorem mulR_succ (a b : Pr) (n : Nat) : mulR a b (n + 1) = mulS a b (mulR a b n) n := by simp [mulR, List.range_succ]
theorem mulF_R (a b : Pr) : mulF a b = mulR a b 128 := rfl
theorem dgl_lt {b : Pr} {i : Nat} (hi : i < 64) : binA .eql .u64 (bits .and .u64 (shr64 b.1 (63 - i % 64)) 1) 1 = some (.bool (digF b i)) := by rw [digF, if_pos hi]; rfl
theorem dgl_ge {b : Pr} {i : Nat} (hi : 64 ≤ i) : binA .eql .u64 (bits .and .u64 (shr64 b.2 (63 - i % 64)) 1) 1 = some (.bool (digF b i)) := by rw [digF, if_neg (by omega)]; rfl
def lt128 (i : Nat) : Bool := decide (i < 128)
theorem lt128_T {i : Nat} (hz : lt128 i = true) : i < 128 := by simpa [lt128] using hz
theorem lt128_F {i : Nat} (hz : lt128 i = false) : 128 ≤ i := by simpa [lt128] using hz
theorem lss_128 (i : Nat) : binA .lss .i64 (i : Int) 128 = some (.bool (lt128 i)) := by
  exact congrArg (fun b => some (AV.bool b)) (decide_eq_decide.2 (by omega))
attribute [local irreducible] digF lt128
/-- Where a product's making stands. -/
structure MulS where
  i : Nat
  o : Pr
theorem field_Mul_ae (a b : Pr) (h : AHeap) : AE Try.prog 151 [.agg (encP a), .agg (encP b)] h (.agg (encP (mulF a b))) h := by
  refine AE.pureW is_field_Mul (by simp) ?_
  unfold c_field_Mul
  (refine go ?_)
  refine WW.loopE (fun (s : MulS) => [(2, some (.ptr h.next 0 0)), (3, some (.ptr (h.next + 1) 0 0)), (4, some (.ptr (h.next + 2) 0 0)), (5, some (.ptr (h.next + 3) 0 0)), (7, some (.int .i64 s.i))])
    (fun s h' => h'.get h.next = some (.mem 2 [encP a]) ∧ h'.get (h.next + 1) = some (.mem 2 [encP b]) ∧ h'.get (h.next + 2) = some (.mem 2 [encP (0, 0)]) ∧ h'.get (h.next + 3) = some (.mem 2 [encP s.o]) ∧ h'.next = h.next + 4 ∧ Keeps h h' ∧ s.i ≤ 128 ∧ s.o = mulR a b s.i) (fun s => 128 - s.i) ⟨0, (0, 0)⟩ gSUB ⟨gH, gH, gH, gH, gN, gK, Nat.zero_le _, rfl⟩ ?_
  rintro ⟨i, o⟩ h' ⟨g1, g2, g3, g4, g5, g6, g7, g8⟩
  simp only at g1 g2 g3 g4 g5 g6 g7 g8 ⊢
  (repeat first | refine WW.seq ?_ | refine WW.reg ?_ | refine WL.nil ?_ | refine WW.skip ?_ | refine WW.block ?_ | refine thenN ?_ | refine blkN ?_)
  refine WL.auto (Stp.bin rfl rfl (lss_128 i) (by first | exact True.intro | exact rfl)) ?_
  (repeat first | refine WW.seq ?_ | refine WW.reg ?_ | refine WL.nil ?_ | refine WW.skip ?_ | refine WW.block ?_ | refine thenN ?_ | refine blkN ?_)
  refine WW.ifB rfl (fun hz1 => ?_) (fun hz1 => ?_)
  · have hi := lt128_T hz1
    (refine go ?_)
    refine WL.call rfl (by first | exact True.intro | exact rfl) gSL (field_double_ae o _) ?_
    rcases Nat.lt_or_ge i 64 with hc | hc
    have hq := quo_lt hc
    have hd := dgl_lt (b := b) hc
    rotate_left
    have hq := quo_ge hc hi
    have hd := dgl_ge (b := b) hc
    rotate_left
    all_goals
      (repeat first | refine WW.seq ?_ | refine WW.reg ?_ | refine WL.nil ?_ | refine WW.skip ?_ | refine WW.block ?_ | refine thenN ?_ | refine blkN ?_); iterate 1 (refine WL.go ?_)
      (repeat first | refine WW.seq ?_ | refine WW.reg ?_ | refine WL.nil ?_ | refine WW.skip ?_ | refine WW.block ?_ | refine thenN ?_ | refine blkN ?_); iterate 1 (refine WL.go ?_)
      refine WL.auto (Stp.bin rfl rfl hq (by first | exact True.intro | exact rfl)) ?_
      iterate 3 (refine WL.go ?_)
      refine WL.auto (Stp.bin rfl rfl (rem_64 i) (by first | exact True.intro | exact rfl)) ?_
      refine WL.auto (Stp.bin rfl rfl (sub_63 i) (by first | exact True.intro | exact rfl)) ?_
      refine WL.auto (Stp.sh rfl rfl (shr_n _ (by omega)) (by first | exact True.intro | exact rfl)) ?_
      refine WL.auto (Stp.bin rfl rfl (and_n _ _) (by first | exact True.intro | exact rfl)) ?_
      refine WL.auto (Stp.bin rfl rfl hd (by first | exact True.intro | exact rfl)) ?_
      (refine go ?_)
      refine WW.ifB rfl (fun hz => ?_) (fun hz => ?_)
      · (refine go ?_)
        refine WL.call rfl (by first | exact True.intro | exact rfl) gSL (field_Add_ae (dblF o) a _) ?_
        (refine go ?_)
        have e1 : addF (dblF o) a = mulR a b (i + 1) := by
          rw [mulR_succ, mulS, if_pos (by simp [hz]), g8]
        generalize addF (dblF o) a = o' at *
        refine ⟨⟨i + 1, o'⟩, gSUB, ⟨gH, gH, gH, gH, gN, gK, hi, e1⟩, (by show 128 - (i + 1) < 128 - i; omega)⟩
      · (refine go ?_)
        have e1 : dblF o = mulR a b (i + 1) := by
          rw [mulR_succ, mulS, if_neg (by simp [hz]), g8]
        generalize dblF o = o' at *
        refine ⟨⟨i + 1, o'⟩, gSUB, ⟨gH, gH, gH, gH, gN, gK, hi, e1⟩, (by show 128 - (i + 1) < 128 - i; omega)⟩
  · have hi := lt128_F hz1
    (refine go ?_)
    refine WW.ret (PureQ.finD ?_)
    rw [mulF_R, g8, show i = 128 by omega]
    exact fz_agg rfl (flatP _)
end Go.Proofs.Ytjehfcjfnmcjcaa


set_option maxRecDepth 100000
namespace Go.Proofs.Ytjehfcjfnmcjcaa
open Go Go.Abs

def c_lock_Ideal : CC := .seq (.reg [⟨some 0, .mov (.c .nilp), none⟩]) (.seq (.reg [⟨some 2, .call 14 [], none⟩, ⟨some 1, .mov (.t 2), none⟩]) (.seq (.reg [⟨some 3, .mov (.t 1), none⟩, ⟨some 4, .mkf (.func 15) [.t 3] [], none⟩, ⟨some 5, .mov (.t 1), none⟩, ⟨some 6, .mkf (.func 17) [.t 5] [], none⟩, ⟨some 7, .mov (.t 1), none⟩, ⟨some 8, .mkf (.func 18) [.t 7] [], none⟩, ⟨some 9, .mov (.t 1), none⟩, ⟨some 10, .mkf (.func 16) [.t 9] [], none⟩, ⟨some 11, .mov (.t 1), none⟩, ⟨some 12, .mkf (.func 19) [.t 11] [], none⟩, ⟨some 13, .build [.nilf, .nilf, .nilf, .nilf, .nilf] [(0, 1, .t 4), (1, 1, .t 6), (2, 1, .t 8), (3, 1, .t 10), (4, 1, .t 12)], none⟩, ⟨some 14, .box 5 (.t 13), none⟩, ⟨some 0, .mov (.t 14), none⟩]) .ret))
theorem is_lock_Ideal : FnIs Try.prog 67 15 c_lock_Ideal [.t 0] := ⟨Try.f67, _, Try.func67, rfl, rfl, by kernel_rfl, by kernel_rfl⟩

def c_lock_Real : CC := .seq (.reg [⟨some 0, .mov (.c .nilp), none⟩]) (.seq (.reg [⟨some 1, .mov (.c .nilp), none⟩]) (.seq (.reg [⟨some 2, .mov (.t 1), none⟩, ⟨some 3, .mkf (.func 16) [.t 2] [], none⟩, ⟨some 4, .mov (.t 1), none⟩, ⟨some 5, .mkf (.func 19) [.t 4] [], none⟩, ⟨some 6, .build [.nilf, .nilf, .nilf, .nilf, .nilf] [(0, 1, .c (.func (.func 104) [] [])), (1, 1, .c (.func (.func 105) [] [])), (2, 1, .c (.func (.func 106) [] [])), (3, 1, .t 3), (4, 1, .t 5)], none⟩, ⟨some 7, .box 5 (.t 6), none⟩, ⟨some 0, .mov (.t 7), none⟩]) .ret))
theorem is_lock_Real : FnIs Try.prog 66 8 c_lock_Real [.t 0] := ⟨Try.f66, _, Try.func66, rfl, rfl, by kernel_rfl, by kernel_rfl⟩

def c_lock_Lock_Seal : CC := .seq (.reg [⟨some 6, .box 2 (.t 1), none⟩, ⟨some 7, .box 3 (.t 2), none⟩, ⟨some 10, .alloc [.nils, .int .u64 0, .int .u64 0], none⟩, ⟨some 11, .mov (.c (.bool false)), none⟩]) (.seq (.seq (.reg [⟨some 12, .mov (.t 0), none⟩, ⟨some 13, .eqv .p false (.t 12) (.c .nilp), none⟩]) (.cond (.t 13) (.seq (.reg [⟨some 14, .build [.nils, .int .u64 0, .int .u64 0] [], none⟩, ⟨none, .store 3 (.t 10) (.t 14), none⟩, ⟨some 11, .mov (.c (.bool false)), none⟩]) .ret) .skip)) (.seq (.dreg [⟨some 15, .mov (.t 0), none⟩, ⟨some 16, .nilck (.t 15), none⟩, ⟨some 17, .faddr 0 (.t 16), none⟩, ⟨some 18, .load 1 false (.t 17), none⟩, ⟨some 19, .load 2 true (.t 6), none⟩, ⟨some 20, .load 3 true (.t 7), none⟩, ⟨some 21, .mov (.t 3), none⟩, ⟨some 22, .mov (.t 4), none⟩, ⟨some 23, .callv (.t 18) [.t 19, .t 20, .t 21, .t 22], none⟩, ⟨some 24, .ext 0 (.t 23), none⟩, ⟨some 25, .ext 1 (.t 23), none⟩, ⟨none, .store 3 (.t 10) (.t 24), none⟩, ⟨some 11, .mov (.t 25), none⟩] [[], [0], [1], [2], [], [], [], [], [3, 4, 5, 6, 7], [8], [8], [9, 8, 0, 1, 2, 3, 4, 5, 6, 7, 8, 9, 10], [10, 11, 0, 1, 2, 3, 4, 5, 6, 7, 8, 9, 10, 11]]) .ret))
theorem is_lock_Lock_Seal : FnIs Try.prog 25 26 c_lock_Lock_Seal [.cell 10 3 true, .t 11] := ⟨Try.f25, _, Try.func25, rfl, rfl, by kernel_rfl, by kernel_rfl⟩

def c_lock_Lock_Issued : CC := .seq (.reg [⟨some 2, .mov (.c .nils), none⟩]) (.seq (.seq (.reg [⟨some 3, .mov (.t 0), none⟩, ⟨some 4, .eqv .p false (.t 3) (.c .nilp), none⟩]) (.cond (.t 4) (.seq (.reg [⟨some 2, .mov (.c .nils), none⟩]) .ret) .skip)) (.seq (.reg [⟨some 5, .mov (.t 0), none⟩, ⟨some 6, .nilck (.t 5), none⟩, ⟨some 7, .faddr 3 (.t 6), none⟩, ⟨some 8, .load 1 false (.t 7), none⟩, ⟨some 9, .callv (.t 8) [], none⟩, ⟨some 2, .mov (.t 9), none⟩]) .ret))
theorem is_lock_Lock_Issued : FnIs Try.prog 32 10 c_lock_Lock_Issued [.t 2] := ⟨Try.f32, _, Try.func32, rfl, rfl, by kernel_rfl, by kernel_rfl⟩

end Go.Proofs.Ytjehfcjfnmcjcaa


namespace Go.Proofs.Ytjehfcjfnmcjcaa
open Go Go.Abs

@[simp] theorem putB_lenS (v : Int) : (putB v 8).length = 8 := putB_len v
theorem clo_appB {u : Nat → Prop} {id g : Nat} (hu : u id) (l : Bs) : Clo u (.app id g 1 (l.map encB)) := .app _ _ _ _ hu fun x hx v hv => by
  obtain ⟨b, _, rfl⟩ := List.mem_map.1 hx
  rcases List.mem_singleton.1 (show v ∈ [AV.int .u8 (b.toNat : Int)] from hv) with rfl
  exact .int _ _
/-- A number's bytes, as a row that grows. -/
theorem wire_PutA_ae {h : AHeap} {nx : Nat} (hn : h.next = nx) (v : Int) : AE Try.prog 59 [.int .u64 v, .int .i64 8] h (.app (nx + 1) 0 1 ((putB v 8).map encB)) (h.put (nx + 1) (.tail 0 8)) := by
  subst hn
  refine AE.wf fun hwf => ?_
  have hno : h.get h.next = none := by
    cases hg : h.get h.next with
    | none => rfl
    | some x => exact absurd (hwf _ _ hg) (Nat.lt_irrefl _)
  refine AE.effW is_wire_Put (by simp) (Ext.put Ext.refl trivial) ?_
  unfold c_wire_Put
  (refine go ?_)
  refine WW.loopE (fun (i : Nat) => [(0, some (.int .u64 v)), (1, some (.int .i64 8)), (5, some (.ref h.next 0 8)), (16, some (.int .i64 8)), (17, some (.int .i64 i))])
    (fun i h' => h'.get h.next = some (.mem 1 ((List.range 8).map fun k => if k < i then encB (byteOf v 8 k) else [.int .u8 0])) ∧ h'.next = h.next + 1 ∧ Keeps h h' ∧ i ≤ 8) (fun i => 8 - i) 0 gSUB ⟨?_, gN, gK, by omega⟩ ?_
  · rw [← upto_none (x := [.int .u8 0]) (by intros; rfl)]
    exact gH
  rintro i h' ⟨g1, g4, g2, g3⟩
  (refine go ?_)
  (refine WW.ifB rfl (fun hz3 => ?_) (fun hz3 => ?_))
  · (refine go ?_)
    have e1 : (8 : Int) * ((8 : Int) - 1 - (i : Int)) = ((8 * (8 - 1 - i) : Nat) : Int) := by omega
    refine WL.auto (Stp.sh rfl rfl (sh_byte e1 (by omega)) (by first | exact True.intro | exact rfl)) ?_
    refine WL.auto (Stp.conv rfl (byteOf_eq v) (by first | exact True.intro | exact rfl)) ?_
    (refine go ?_)
    refine ⟨i + 1, gSUB, ⟨?_, gN, gK, by omega⟩, by omega⟩
    rw [get_set_same, Nat.zero_add, set_upto (by simp [putC, AV.cs, encB])]
  · (refine go ?_)
    rw [upto_all (by omega)] at g1
    refine WW.cvt (Cvt.grow (s := 4) (c' := (putB v 8).map encB) rfl g1 (by rw [putB, if_neg (by decide), List.map_map]; exact List.take_of_length_le (by simp)) g4) ?_
    refine WW.ret (EffQ.finD ?_ ?_)
    · refine ⟨by simp only [AHeap.put, AHeap.set, g4]; split <;> split <;> omega, fun id hu => ?_⟩
      simp only [get_put, get_set]
      split
      · rfl
      · rename_i h1
        split
        · rename_i e; subst e; exact hno.symm
        · rename_i h2
          have h3 := hu.1
          simp only [AHeap.put] at h3
          refine g2.2 id ⟨by split at h3 <;> omega, ?_⟩
          have h4 := hu.2
          simp only [AHeap.put] at h4
          rw [if_neg h1] at h4
          exact h4
    · exact .clo _ (clo_appB put_used_nm _)

/-- Pairs as bytes. -/
theorem wire_Bytes_ae (p : Pr) (h : AHeap) : AE Try.prog 88 [.agg (encP p)] h (.imm 1 ((pairB p).map encB)) h := by
  refine AE.pureW is_wire_Bytes (by simp) ?_
  unfold c_wire_Bytes
  (repeat first | refine WL.go ?_ | refine WW.seq ?_ | refine WW.reg ?_ | refine WL.nil ?_ | refine WW.skip ?_ | refine WW.block ?_ | refine WW.exit ?_ | refine WW.condT rfl ?_ | refine WW.condF rfl ?_ | refine WL.gox ?_ | refine thenN ?_ | refine blkN ?_)
  refine WW.dregX [2, 6] [1, 4] [] gN (by decide +kernel) ?_
  (refine go ?_)
  refine DW.callSW rfl (by first | exact True.intro | exact rfl) gSL rfl rfl (fun hp => by repeat first | exact hp | refine PhiW.put (by omega) ?_ | refine PhiW.setN (by omega) ?_ | refine PhiW.setW (by simp; done) ?_) (wire_PutA_ae (nx := h.next + 1) gN _) ?_
  (refine go ?_)
  refine DW.callS rfl (by first | exact True.intro | exact rfl) gSL rfl (wire_Put_ae p.2 8 _ (by decide)) ?_
  (refine go ?_)
  refine WW.ret (PureQ.finD ?_)
  rw [show List.map encB (putB p.1 8) ++ List.map encB (putB p.2 (Int.toNat 8)) = (pairB p).map encB by simp [pairB]]
  exact fz_app rfl (flatB _)

/-- An ideal lock's cells. -/
def idC (o : Nat) : List AV := [.func (.func 15) [.ptr o 0 0] [], .func (.func 17) [.ptr o 0 0] [], .func (.func 18) [.ptr o 0 0] [], .func (.func 16) [.ptr o 0 0] [], .func (.func 19) [.ptr o 0 0] []]
/-- An ideal lock stands at l. -/
structure IdAt (h : AHeap) (l o t s g : Nat) (L : List Iss) (S : List Bs) : Prop where
  cells : h.get l = some (.mem 5 [idC o])
  ora : OrAt h o t s g L S
theorem lock_Ideal_ae {h : AHeap} {nx : Nat} (hn : h.next = nx) : AE Try.prog 67 [] h (.ptr (nx + 3) 0 0) ((newO h).put (nx + 3) (.mem 5 [idC (nx + 1)])) := by
  subst hn
  refine AC.introW is_lock_Ideal (by simp) ?_
  unfold c_lock_Ideal
  (refine go ?_)
  refine WL.call rfl (by first | exact True.intro | exact rfl) gSL (oracle_New_ae2 rfl) ?_
  have hn := newO_next h
  generalize newO h = h1 at *
  (refine go ?_)
  exact WW.ret ⟨.inl rfl, _, gRES, rfl, rfl⟩
/-- A new ideal lock's heap, under a name of its own. -/
theorem newL_ex {h : AHeap} {nx : Nat} (hn : h.next = nx) : ∃ h1, (newO h).put (nx + 3) (.mem 5 [idC (nx + 1)]) = h1 ∧ IdAt h1 (nx + 3) (nx + 1) (nx + 2) nx 0 [] [] ∧ h1.next = nx + 4 ∧ (∀ id, id < nx → h1.get id = h.get id) ∧ ∀ h0 : AHeap, Keeps h0 h → Keeps h0 h1 := by
  obtain ⟨h1, e1, o1, n1, m1, k1⟩ := newO_ex2 hn
  rw [e1]
  refine ⟨_, rfl, ⟨gH, (orAt_get o1 gE gE gE)⟩, next_putE n1, fun id hi => (get_put_neE (by omega) rfl).trans (m1 id hi), fun h0 hk => ?_⟩
  have := k1 h0 hk
  have h2 := hk.1
  exact this.put (by omega) _

end Go.Proofs.Ytjehfcjfnmcjcaa


namespace Go.Proofs.Ytjehfcjfnmcjcaa
open Go Go.Abs

/-- Where a row's pass stands: a place, a pair. -/
structure RowS where
  i : Nat
  o : Pr
def evS (h : Pr) (o x : Pr) : Pr := mulF (addF x o) h
theorem evalF_S (h : Pr) (l : List Pr) : evalF h l = l.foldl (evS h) (0, 0) := rfl
attribute [local irreducible] mulF addF
theorem field_Eval_ae (k : Pr) (l : List Pr) (hl : l.length ≤ 1000000) (h : AHeap) : AE Try.prog 147 [.agg (encP k), .imm 2 (l.map encP)] h (.agg (encP (evalF k l))) h := by
  refine AE.pureW is_field_Eval (by simp) ?_
  unfold c_field_Eval
  (refine go ?_)
  refine WW.loopE (fun (s : RowS) => [(2, some (.ptr h.next 0 0)), (4, some (.ptr (h.next + 1) 0 0)), (5, some (.ptr (h.next + 2) 0 0)), (8, some (.imm 2 (l.map encP))), (9, some (.int .i64 l.length)), (10, some (.int .i64 s.i))])
    (fun s h' => h'.get h.next = some (.mem 2 [encP k]) ∧ h'.get (h.next + 1) = some (.mem 2 [encP (0, 0)]) ∧ h'.get (h.next + 2) = some (.mem 2 [encP s.o]) ∧ h.next + 3 ≤ h'.next ∧ Keeps h h' ∧ s.i ≤ l.length ∧ evalF k l = (l.drop s.i).foldl (evS k) s.o) (fun s => l.length - s.i) ⟨0, (0, 0)⟩ gSUB ⟨gH, gH, gH, (leN gN (by omega)), gK, Nat.zero_le _, by simp [evalF_S]⟩ ?_
  rintro ⟨i, o⟩ h' ⟨g1, g2, g3, g4, g5, g6, g7⟩
  simp only at g1 g2 g3 g4 g5 g6 g7 ⊢
  (refine go ?_)
  (refine WW.ifB rfl (fun hz1 => ?_) (fun hz1 => ?_))
  · have hi : i < l.length := by omega
    (refine go ?_)
    refine DW.callS rfl (by first | exact True.intro | exact rfl) gSL rfl (field_Add_ae l[i] o _) ?_
    (refine go ?_)
    refine DW.callS rfl (by first | exact True.intro | exact rfl) gSL rfl (field_Mul_ae (addF l[i] o) k _) ?_
    (refine go ?_)
    refine ⟨⟨i + 1, evS k o l[i]⟩, gSUB, ⟨gH, gH, gH, (leN gN (by omega)), gK, hi, ?_⟩, (by show l.length - (i + 1) < l.length - i; omega)⟩
    rw [g7, List.drop_eq_getElem_cons hi]; rfl
  · have hi : i = l.length := by omega
    (refine go ?_)
    refine WW.ret (PureQ.finD ?_)
    rw [g7, hi, List.drop_length]
    exact fz_agg rfl (flatP _)
theorem keeps_put1 {h h' : AHeap} {x : AObj} (hk : Keeps h h') (hg : h'.get h.next = some x) (hn : h.next + 1 ≤ h'.next) : Keeps (h.put h.next x) h' := by
  refine ⟨by rw [next_put]; exact hn, fun id hu => ?_⟩
  by_cases e : id = h.next
  · subst e; rw [hg]; exact get_put_same.symm
  · rw [get_put_neE e rfl]
    exact hk.2 id ⟨by have := hu.1; rw [next_put] at this; omega, by have := hu.2; simp only [AHeap.put] at this; rwa [if_neg e] at this⟩
attribute [local irreducible] encF
theorem flow_Sub_ae (key : Pr) (n : Nn) (h : AHeap) : AE Try.prog 135 [.agg (encP key), .agg (encN n)] h (.agg (encP (subF key n))) h := by
  refine AE.pureW is_flow_Sub (by simp) ?_
  unfold c_flow_Sub
  (refine go ?_)
  refine WL.call rfl (by first | exact True.intro | exact rfl) gSL (speck_Encrypt_ae key (o64 (shl64 (IntKind.u64.wrap n.1) 32) (IntKind.u64.wrap n.2.1), n.2.2) _) ?_
  (refine go ?_)
  refine WW.ret (PureQ.finD ?_)
  exact fz_agg rfl (flatP _)
end Go.Proofs.Ytjehfcjfnmcjcaa


namespace Go.Proofs.Ytjehfcjfnmcjcaa
open Go Go.Abs

theorem pairB_len16 (p : Pr) : (pairB p).length = 16 := by simp [pairB]
attribute [local irreducible] encF pairB
theorem flowR_end (sub : Pr) (k : Nat) : ∀ i : Nat, flowR sub (k + 1) i = flowR sub k i ++ pairB (encF sub (((i + k : Nat) : Int), 0)) := by
  induction k with
  | zero => intro i; exact (List.append_nil _).trans (List.nil_append _).symm
  | succ k ih =>
    intro i
    rw [flowR, ih (i + 1), flowR, List.append_assoc, show i + 1 + k = i + (k + 1) by omega]
theorem flowR_inc (sub : Pr) (k : Nat) : flowR sub (k + 1) 1 = flowR sub k 1 ++ pairB (encF sub ((k : Int) + 1, 0)) := by
  rw [flowR_end, show (((1 + k : Nat)) : Int) = (k : Int) + 1 by omega]
theorem flowR_len (sub : Pr) : ∀ k i : Nat, (flowR sub k i).length = 16 * k
  | 0, _ => rfl
  | k + 1, i => by rw [flowR, List.length_append, pairB_len16, flowR_len sub k]; omega
theorem flowF_len (sub : Pr) (n : Nat) : (flowF sub n).length = n := by
  rw [flowF, List.length_take, flowR_len]; omega
theorem flow_Bytes_ae (sub : Pr) (n : Nat) (hn : n ≤ 4000) (h : AHeap) : AE Try.prog 137 [.agg (encP sub), .int .i64 n] h (.imm 1 ((flowF sub n).map encB)) h := by
  refine AE.pureW is_flow_Bytes (by simp) ?_
  unfold c_flow_Bytes
  (refine go ?_)
  (refine WW.ifB rfl (fun hz2 => ?_) (fun hz2 => ?_))
  · exfalso; omega
  (refine go ?_)
  refine WW.cvt (Cvt.adopt 1 (s := 5) rfl gN) ?_
  refine WW.loopE (fun (i : Nat) => [(1, some (.int .i64 n)), (2, some (.ptr h.next 0 0)), (5, some (.app (h.next + 1) 0 1 ((flowR sub i 1).map encB))), (6, some (.int .u64 ((i : Int) + 1)))])
    (fun i h' => h'.get h.next = some (.mem 2 [encP sub]) ∧ h'.get (h.next + 1) = some (.tail 0 (16 * i)) ∧ Keeps h h' ∧ i ≤ (n + 15) / 16) (fun i => (n + 15) / 16 - i) 0 (by repeat first | exact subE.nil _ | (apply subE.cons; focus (first | exact rfl | (simp [lk_cons, flowR]; done) | (simp [lk_cons, flowR]; omega)))) ⟨gH, (by repeat first | exact get_put_tl (by first | rfl | exact List.length_map _ | (simp; done) | (simp; omega)) | exact get_set_tl (by first | rfl | exact List.length_map _ | (simp; done) | (simp; omega)) | assumption | with_reducible apply get_put_neE (by omega) | with_reducible apply get_set_neE (by omega)), gK, by omega⟩ ?_
  rintro i h' ⟨g1, g2, g3, g4⟩
  have hl := flowR_len sub i 1
  (repeat first | refine WW.seq ?_ | refine WW.reg ?_ | refine WL.nil ?_ | refine WW.skip ?_ | refine WW.block ?_ | refine thenN ?_ | refine blkN ?_); iterate 2 (refine WL.go ?_)
  rw [hl]
  (refine go ?_)
  (refine WW.ifB rfl (fun hz3 => ?_) (fun hz3 => ?_))
  · (refine go ?_)
    refine WL.call rfl (by first | exact True.intro | exact rfl) gSL (speck_Encrypt_ae sub ((i : Int) + 1, 0) _) ?_
    (refine go ?_)
    refine WL.call rfl (by first | exact True.intro | exact rfl) gSL (wire_Bytes_ae _ _) ?_
    have hp := pairB_len16 (encF sub ((i : Int) + 1, 0))
    (refine go ?_)
    rw [map_app, ← flowR_inc, hp]
    refine ⟨i + 1, gSUB, ⟨gH, (by repeat first | exact get_put_tl (by first | rfl | exact List.length_map _ | (simp; done) | (simp; omega)) | exact get_set_tl (by first | rfl | exact List.length_map _ | (simp; done) | (simp; omega)) | assumption | with_reducible apply get_put_neE (by omega) | with_reducible apply get_set_neE (by omega)), gK, by omega⟩, by omega⟩
  · (refine go ?_)
    refine WW.ret (PureQ.finD ?_)
    rw [show List.drop 0 (List.take n (List.map encB (flowR sub i 1))) = (flowF sub n).map encB by
      rw [List.drop_zero, flowF, show (n + 15) / 16 = i by omega, List.map_take]]
    exact fz_immB rfl
theorem xor_b8 (x y : UInt8) : bits .xor .u8 (x.toNat : Int) (y.toNat : Int) = ((x ^^^ y).toNat : Int) := by
  show IntKind.u8.wrap ((BitVec.ofInt 8 (x.toNat : Int) ^^^ BitVec.ofInt 8 (y.toNat : Int)).toNat : Int) = _
  have h1 : ∀ z : UInt8, BitVec.ofInt 8 (z.toNat : Int) = z.toBitVec := fun z => by
    apply BitVec.eq_of_toNat_eq
    rw [BitVec.toNat_ofInt]
    have := z.toNat_lt
    simp; omega
  rw [h1, h1]
  have h2 := (x ^^^ y).toNat_lt
  have h3 : (x.toBitVec ^^^ y.toBitVec).toNat = (x ^^^ y).toNat := rfl
  rw [h3, wrap_in (by constructor <;> omega)]
theorem xorB_len {a b : Bs} (hb : b.length = a.length) : (xorB a b).length = a.length := by simp [xorB, hb]
theorem xorB_at {a b : Bs} {i : Nat} (h1 : i < a.length) (h2 : i < b.length) : (xorB a b).getD i 0 = a[i] ^^^ b[i] := by
  have h3 : i < (xorB a b).length := by simp [xorB]; omega
  rw [List.getD_eq_getElem?_getD, List.getElem?_eq_getElem h3, Option.getD_some]
  simp [xorB]
theorem range_getD {l : Bs} {n : Nat} (hn : l.length = n) : (List.range n).map (fun k => encB (l.getD k 0)) = l.map encB := by
  subst hn
  refine List.ext_getElem (by simp) fun i h1 h2 => ?_
  have h3 : i < l.length := by simpa using h2
  simp [List.getElem?_eq_getElem h3]
theorem mn_same (a : Int) : (if a < a then a else a) = a := by simp
theorem flow_Xor_ae (a b : Bs) (hb : b.length = a.length) (hl : a.length ≤ 4000) (h : AHeap) : AE Try.prog 136 [.imm 1 (a.map encB), .imm 1 (b.map encB)] h (.imm 1 ((xorB a b).map encB)) h := by
  refine AE.pureW is_flow_Xor (by simp) ?_
  unfold c_flow_Xor
  (repeat first | refine WW.seq ?_ | refine WW.reg ?_ | refine WL.nil ?_ | refine WW.skip ?_ | refine WW.block ?_ | refine thenN ?_ | refine blkN ?_); iterate 1 (refine WL.go ?_)
  (repeat first | refine WW.seq ?_ | refine WW.reg ?_ | refine WL.nil ?_ | refine WW.skip ?_ | refine WW.block ?_ | refine thenN ?_ | refine blkN ?_); iterate 4 (refine WL.go ?_)
  rw [hb]
  refine WL.auto (Stp.mn rfl rfl (by first | exact True.intro | exact rfl)) ?_
  rw [mn_same]
  (refine go ?_)
  refine WW.loopE (fun (i : Nat) => [(0, some (.imm 1 (a.map encB))), (1, some (.imm 1 (b.map encB))), (5, some (.ref h.next 0 a.length)), (14, some (.int .i64 a.length)), (15, some (.int .i64 i))])
    (fun i h' => h'.get h.next = some (.mem 1 ((List.range a.length).map fun k => if k < i then encB ((xorB a b).getD k 0) else [.int .u8 0])) ∧ Keeps h h' ∧ i ≤ a.length) (fun i => a.length - i) 0 gSUB ⟨?_, gK, by simp⟩ ?_
  · rw [← upto_none (x := [.int .u8 0]) (by intros; rfl)]
    exact gH
  rintro i h' ⟨g1, g2, g3⟩
  (refine go ?_)
  (refine WW.ifB rfl (fun hz1 => ?_) (fun hz1 => ?_))
  · have h2 : i < b.length := by omega
    (refine go ?_)
    refine ⟨i + 1, gSUB, ⟨?_, gK, by omega⟩, by omega⟩
    rw [get_set_same, Nat.zero_add, set_upto (by rw [xorB_at (show i < a.length by omega) h2]; simp [putC, AV.cs, encB, xor_b8])]
  · (refine go ?_)
    refine WW.ret (PureQ.finD ?_)
    rw [upto_all (by omega)] at g1
    refine fz_ref g1 (Nat.le_refl _) (by simp) ?_ (flatC_map fun _ => encB_flat _)
    exact range_getD (xorB_len hb)
end Go.Proofs.Ytjehfcjfnmcjcaa


namespace Go.Proofs.Ytjehfcjfnmcjcaa
open Go Go.Abs

theorem Cvt.frzE {e : Env} {h : AHeap} {s id off len sz : Nat} {cc c' : List (List AV)} (hs : lk s e = some (.ref id off len)) (hg : h.get id = some (.mem sz cc)) (hc : (cc.drop off).take len = c') : Cvt e h ((s, some (.imm sz c')) :: e) (h.set id none) := by subst hc; exact Cvt.frz hs hg
def getS (v : Int) (c : UInt8) : Int := o64 (shl64 v 8) (c.toNat : Int)
theorem getB_S (b : Bs) : getB b = b.foldl getS 0 := rfl
structure GetS where
  i : Nat
  v : Int
theorem wire_Get_ae (b : Bs) (hb : 1 ≤ b.length ∧ b.length ≤ 8) (h : AHeap) : AE Try.prog 122 [.imm 1 (b.map encB)] h (.tup [.int .u64 (getB b), .bool true]) h := by
  refine AE.pureW is_wire_Get (by simp) ?_
  unfold c_wire_Get
  (refine go ?_)
  (apply WL.orB; exact rfl; exact rfl; exact rfl; exact BP.of; intro hz1)
  · (repeat first | (apply GW.goS; exact Stp.auto) | apply GW.nil | exact rfl)
  refine WL.nil ?_
  (repeat first | refine WW.seq ?_ | refine WW.reg ?_ | refine WL.nil ?_ | refine WW.skip ?_ | refine WW.block ?_ | refine thenN ?_ | refine blkN ?_)
  (refine WW.ifB rfl (fun hz2 => ?_) (fun hz2 => ?_))
  · exfalso; simp at hz2; omega
  (refine go ?_)
  refine WW.loopE (fun (s : GetS) => [(4, some (.int .u64 s.v)), (15, some (.imm 1 (b.map encB))), (16, some (.int .i64 b.length)), (17, some (.int .i64 s.i))])
    (fun s h' => Keeps h h' ∧ s.i ≤ b.length ∧ getB b = (b.drop s.i).foldl getS s.v) (fun s => b.length - s.i) ⟨0, 0⟩ gSUB ⟨gK, Nat.zero_le _, by simp [getB_S]⟩ ?_
  rintro ⟨i, v⟩ h' ⟨g1, g2, g3⟩
  simp only at g1 g2 g3 ⊢
  (refine go ?_)
  (refine WW.ifB rfl (fun hz3 => ?_) (fun hz3 => ?_))
  · have hi : i < b.length := by omega
    have hu := (b[i]).toNat_lt
    (refine go ?_)
    refine ⟨⟨i + 1, getS v b[i]⟩, gSUB, ⟨gK, hi, ?_⟩, (by show b.length - (i + 1) < b.length - i; omega)⟩
    rw [g3, List.drop_eq_getElem_cons hi]; rfl
  · have hi : i = b.length := by omega
    (refine go ?_)
    refine WW.ret (PureQ.finD ?_)
    rw [g3, hi, List.drop_length]
    exact Fz.tup2 (fz_i rfl) (fz_b rfl)
theorem map_takeB (b : Bs) (n : Nat) : ((b.map encB).take n).drop 0 = (b.take n).map encB := by simp
theorem map_dropB (b : Bs) (n : Nat) : ((b.map encB).take (b.map encB).length).drop n = (b.drop n).map encB := by rw [List.take_of_length_le (Nat.le_refl _), List.map_drop]
theorem wire_Pair_ae (b : Bs) (hb : b.length = 16) (h : AHeap) : AE Try.prog 97 [.imm 1 (b.map encB)] h (.tup [.agg (encP (pairF b)), .bool true]) h := by
  refine AE.pureW is_wire_Pair (by simp) ?_
  unfold c_wire_Pair
  (refine go ?_)
  (refine WW.ifB rfl (fun hz1 => ?_) (fun hz1 => ?_))
  · exfalso; omega
  (refine go ?_)
  have hc1 := wire_Get_ae (b.take 8) (by simp; omega)
  rw [← map_takeB] at hc1
  refine WL.call rfl (by first | exact True.intro | exact rfl) gSL (hc1 _) ?_
  (refine go ?_)
  have hc2 := wire_Get_ae (b.drop 8) (by simp; omega)
  rw [← map_dropB] at hc2
  refine WL.call rfl (by first | exact True.intro | exact rfl) gSL (hc2 _) ?_
  (refine go ?_)
  refine WW.ret (PureQ.finD ?_)
  exact Fz.tup2 (fz_agg rfl (flatP (pairF b))) (fz_b rfl)
theorem clo_appP {u : Nat → Prop} {id g : Nat} (hu : u id) (l : List Pr) : Clo u (.app id g 2 (l.map encP)) := .app _ _ _ _ hu fun x hx v hv => by
  obtain ⟨b, _, rfl⟩ := List.mem_map.1 hx
  exact clo_flat (flatP b v hv)
theorem rowsF_nil : rowsF [] = [] := by unfold rowsF; simp
theorem rowsF_cons {b : Bs} (hb : b ≠ []) : rowsF b = b.take 16 :: rowsF (b.drop 16) := by
  conv => lhs; unfold rowsF
  rw [dif_neg hb]
theorem pairsF_cons {b : Bs} (hb : b ≠ []) : pairsF b = pairF (fillF (b.take 16)) :: pairsF (b.drop 16) := by rw [pairsF, rowsF_cons hb]; rfl
theorem fillF_len {b : Bs} (hb : b.length ≤ 16) : (fillF b).length = 16 := by simp [fillF]; omega
theorem flatPs (l : List Pr) : flatC (l.map encP) := flatC_map flatP
theorem drop_min (b : Bs) : ((b.map encB).take (b.map encB).length).drop (min (b.map encB).length 16) = (b.drop 16).map encB := by
  rw [List.take_of_length_le (Nat.le_refl _), ← List.map_drop]
  congr 1
  simp only [List.length_map]
  rcases Nat.le_total b.length 16 with h | h
  · rw [Nat.min_eq_left h, List.drop_length, List.drop_eq_nil_of_le h]
  · rw [Nat.min_eq_right h]
theorem fill_eq (b : Bs) : ((((List.replicate 16 [AV.int .u8 0]).take 0 ++ (b.map encB).take (min (b.map encB).length 16) ++ (List.replicate 16 [AV.int .u8 0]).drop (0 + min (b.map encB).length 16))).drop 0).take 16 = (fillF (b.take 16)).map encB := by
  have e0 : [AV.int .u8 0] = encB 0 := rfl
  rw [e0, fillF]
  simp only [List.take_zero, List.nil_append, List.drop_zero, Nat.zero_add, List.length_map, List.map_append, List.map_take, List.map_replicate, List.drop_replicate, List.length_take]
  rw [List.take_of_length_le (by simp; omega)]
  congr 1
  · rcases Nat.le_total b.length 16 with h | h
    · rw [Nat.min_eq_left h, List.take_of_length_le (by simp), List.take_of_length_le (by simpa using h)]
    · rw [Nat.min_eq_right h]
  · rw [Nat.min_comm]
theorem gcm_pairs_ae {h : AHeap} {nx : Nat} (hn : h.next = nx) (b : Bs) (hb : b.length ≤ 4000) : AE Try.prog 145 [.imm 1 (b.map encB)] h (.app nx 0 2 ((pairsF b).map encP)) (h.put nx (.tail 0 (pairsF b).length)) := by
  subst hn
  refine AE.effW is_gcm_pairs (by simp) (Ext.put Ext.refl trivial) ?_
  unfold c_gcm_pairs
  (refine go ?_)
  refine WW.cvt (Cvt.adopt 2 (s := 3) rfl gN) ?_
  refine WW.loopE (fun (s : Bs × List Pr) => [(0, some (.imm 1 (s.1.map encB))), (3, some (.app h.next 0 2 (s.2.map encP)))])
    (fun s h' => h'.get h.next = some (.tail 0 s.2.length) ∧ h.next + 1 ≤ h'.next ∧ Keeps h h' ∧ s.1.length ≤ 4000 ∧ s.2.length + s.1.length ≤ 4000 ∧ pairsF b = s.2 ++ pairsF s.1) (fun s => s.1.length) (b, []) gSUB ⟨(by repeat first | exact get_put_tl (by first | rfl | exact List.length_map _ | (simp; done) | (simp; omega)) | exact get_set_tl (by first | rfl | exact List.length_map _ | (simp; done) | (simp; omega)) | assumption | with_reducible apply get_put_neE (by omega) | with_reducible apply get_set_neE (by omega)), (leN gN (by omega)), gK, hb, by simpa using hb, rfl⟩ ?_
  rintro ⟨r, l⟩ h' ⟨g1, g2, g3, g4, g5, g6⟩
  simp only at g1 g2 g3 g4 g5 g6 ⊢
  (refine go ?_)
  (refine WW.ifB rfl (fun hz1 => ?_) (fun hz1 => ?_))
  · have hr : r ≠ [] := fun e => by subst e; simp at hz1
    have h0 : 0 < r.length := by omega
    (repeat first | refine WW.seq ?_ | refine WW.reg ?_ | refine WL.nil ?_ | refine WW.skip ?_ | refine WW.block ?_ | refine thenN ?_ | refine blkN ?_); iterate 2 (refine WL.go ?_)
    (repeat first | refine WW.seq ?_ | refine WW.reg ?_ | refine WL.nil ?_ | refine WW.skip ?_ | refine WW.block ?_ | refine thenN ?_ | refine blkN ?_); iterate 4 (refine WL.go ?_)
    (repeat first | refine WW.seq ?_ | refine WW.reg ?_ | refine WL.nil ?_ | refine WW.skip ?_ | refine WW.block ?_ | refine thenN ?_ | refine blkN ?_); iterate 3 (refine WL.go ?_)
    rw [drop_min]
    (repeat first | refine WW.seq ?_ | refine WW.reg ?_ | refine WL.nil ?_ | refine WW.skip ?_ | refine WW.block ?_ | refine thenN ?_ | refine blkN ?_); iterate 1 (refine WL.go ?_)
    (repeat first | refine WW.seq ?_ | refine WW.reg ?_ | refine WL.nil ?_ | refine WW.skip ?_ | refine WW.block ?_ | refine thenN ?_ | refine blkN ?_); iterate 1 (refine WL.go ?_)
    refine WL.cvt (Cvt.frzE (s := 19) rfl gH (fill_eq r)) ?_
    refine WL.call rfl (by first | exact True.intro | exact rfl) gSL (wire_Pair_ae _ (fillF_len (by simp; omega)) _) ?_
    (refine go ?_)
    rw [show [[AV.int IntKind.u64 (pairF (fillF (r.take 16))).1, AV.int IntKind.u64 (pairF (fillF (r.take 16))).2]] = [pairF (fillF (r.take 16))].map encP from rfl, map_app]
    refine ⟨(r.drop 16, l ++ [pairF (fillF (r.take 16))]), gSUB, ⟨(by repeat first | exact get_put_tl (by first | rfl | exact List.length_map _ | (simp; done) | (simp; omega)) | exact get_set_tl (by first | rfl | exact List.length_map _ | (simp; done) | (simp; omega)) | assumption | with_reducible apply get_put_neE (by omega) | with_reducible apply get_set_neE (by omega)), (leN gN (by omega)), gK, by simp; omega, by simp; omega, ?_⟩, by simp; omega⟩
    rw [g6, pairsF_cons hr, List.append_assoc]; rfl
  · have hr : r = [] := by cases r with
      | nil => rfl
      | cons x y => exfalso; simp only [List.length_cons] at hz1; omega
    subst hr
    rw [show pairsF [] = [] by rw [pairsF, rowsF_nil]; rfl, List.append_nil] at g6
    subst g6
    (refine go ?_)
    refine WW.ret (EffQ.finD ?_ ?_)
    · exact keeps_put1 g3 g1 g2
    · exact .clo _ (clo_appP put_used_nm _)
end Go.Proofs.Ytjehfcjfnmcjcaa


namespace Go.Proofs.Ytjehfcjfnmcjcaa
open Go Go.Abs

theorem AE.back {P : Program} {f : Nat} {vs : List AV} {h h1 : AHeap} {r r1 : AV} (hac : AE P f vs h r1 h1) (hk : Keeps h h1) (hz : Fz h h1 r1 r) : AE P f vs h r h := by
  intro m w cargs hr hl hv
  refine (hac m w cargs hr hl hv).mono fun ex w' ⟨v, m', r2, h2, e1, g1, g2, g3, e2, e3⟩ => ?_
  subst e2 e3
  have hs : ∀ id x, h.get id = some x → h2.get id = some x := fun id x hg => (hk.2 id (hr.live id x hg)).trans hg
  exact ⟨v, m', r, h, e1, back_hr hr g1 hs, hz.vr g1 hs hr.live g2, back_step g3 hr hs, rfl, rfl⟩
theorem gcm_pairsI_ae (b : Bs) (hb : b.length ≤ 4000) (h : AHeap) : AE Try.prog 145 [.imm 1 (b.map encB)] h (.imm 2 ((pairsF b).map encP)) h :=
  AE.back (gcm_pairs_ae rfl b hb) gK (fz_app rfl (flatPs _))
theorem pairsF_le (n : Nat) : ∀ b : Bs, b.length ≤ n → (pairsF b).length ≤ n := by
  induction n with
  | zero => intro b hb; obtain rfl : b = [] := List.length_eq_zero_iff.1 (by omega); simp [pairsF, rowsF_nil]
  | succ n ih =>
    intro b hb
    by_cases h0 : b = []
    · subst h0; simp [pairsF, rowsF_nil]
    · have h1 : 0 < b.length := List.length_pos_iff.2 h0
      rw [pairsF_cons h0, List.length_cons]
      have := ih (b.drop 16) (by simp; omega)
      omega
def tagL (head b : Bs) : List Pr := pairsF head ++ pairsF b ++ [((head.length : Int), (b.length : Int))]
theorem tag_row (head b : Bs) : List.map encP (pairsF head) ++ List.map encP (pairsF b) ++ [[AV.int .u64 (head.length : Int), AV.int .u64 (b.length : Int)]] = (tagL head b).map encP := by simp [tagL, encP]
theorem tagF_L (sub : Pr) (head b : Bs) : tagF sub head b = addF (evalF (encF sub (0, 1)) (tagL head b)) (encF sub (0, 0)) := rfl
attribute [local irreducible] encF mulF addF evalF pairsF tagL
theorem gcm_Tag_ae (sub : Pr) (head b : Bs) (h1 : head.length ≤ 4000) (h2 : b.length ≤ 4000) (h : AHeap) : AE Try.prog 138 [.agg (encP sub), .imm 1 (head.map encB), .imm 1 (b.map encB)] h (.agg (encP (tagF sub head b))) h := by
  have p1 := pairsF_le _ head h1
  have p2 := pairsF_le _ b h2
  refine AE.pureW is_gcm_Tag (by simp) ?_
  unfold c_gcm_Tag
  (refine go ?_)
  refine WL.call rfl (by first | exact True.intro | exact rfl) gSL (gcm_pairs_ae (nx := h.next + 2) gN head h1) ?_
  (refine go ?_)
  refine WL.call rfl (by first | exact True.intro | exact rfl) gSL (gcm_pairsI_ae b h2 _) ?_
  (refine go ?_)
  rw [tag_row]
  refine WL.call rfl (by first | exact True.intro | exact rfl) gSL (speck_Encrypt_ae sub (0, 1) _) ?_
  (refine go ?_)
  refine DW.callS rfl (by first | exact True.intro | exact rfl) gSL rfl (field_Eval_ae _ (tagL head b) (by simp [tagL]; omega) _) ?_
  (refine go ?_)
  refine DW.callS rfl (by first | exact True.intro | exact rfl) gSL rfl (speck_Encrypt_ae sub (0, 0) _) ?_
  (refine go ?_)
  refine DW.callS rfl (by first | exact True.intro | exact rfl) gSL rfl (field_Add_ae _ _ _) ?_
  (refine go ?_)
  refine WW.ret (PureQ.finD ?_)
  exact fz_agg (by rw [tagF_L]; rfl) (flatP (addF _ _))
end Go.Proofs.Ytjehfcjfnmcjcaa


namespace Go.Proofs.Ytjehfcjfnmcjcaa
open Go Go.Abs

theorem gcm_may_ae (a b : Bs) (h1 : a.length ≤ 4000) (h2 : b.length ≤ 4000) (h : AHeap) : AE Try.prog 134 [.imm 1 (a.map encB), .imm 1 (b.map encB)] h (.bool true) h := by
  refine AE.pureW is_gcm_may (by simp) ?_
  unfold c_gcm_may
  (refine go ?_)
  (apply WL.andB; exact rfl; exact rfl; exact rfl; exact BP.of; intro hz1)
  · (repeat first | (apply GW.goS; exact Stp.auto) | apply GW.nil | exact rfl)
  (refine go ?_)
  refine WW.ret (PureQ.finD ?_)
  exact fz_b (by simp; omega)
theorem fz_seal {h h1 : AHeap} (b : Bs) (t : Pr) : Fz h h1 (.tup [.agg (encS b t), .bool true]) (.tup [.agg (encS b t), .bool true]) := Fz.tup2 (.clo _ (.agg _ (clo_encS b t))) (fz_b rfl)
attribute [local irreducible] encF mulF addF evalF pairsF tagL subF flowF tagF xorB
theorem gcm_Seal_ae (key : Pr) (n : Nn) (head data : Bs) (h1 : head.length ≤ 4000) (h2 : data.length ≤ 4000) (h : AHeap) : AE Try.prog 104 [.agg (encP key), .agg (encN n), .imm 1 (head.map encB), .imm 1 (data.map encB)] h (.tup [.agg (encS (gcmB key n data) (gcmT key n head (gcmB key n data))), .bool true]) h := by
  refine AE.pureW is_gcm_Seal (by simp) ?_
  unfold c_gcm_Seal
  (refine go ?_)
  refine WL.call rfl (by first | exact True.intro | exact rfl) gSL (gcm_may_ae head data h1 h2 _) ?_
  (refine go ?_)
  refine WL.call rfl (by first | exact True.intro | exact rfl) gSL (flow_Sub_ae key n _) ?_
  (refine go ?_)
  refine WL.call rfl (by first | exact True.intro | exact rfl) gSL (flow_Bytes_ae (subF key n) data.length h2 _) ?_
  (refine go ?_)
  refine WL.call rfl (by first | exact True.intro | exact rfl) gSL (flow_Xor_ae data (flowF (subF key n) data.length) (flowF_len _ _) h2 _) ?_
  (refine go ?_)
  refine WL.call rfl (by first | exact True.intro | exact rfl) gSL (gcm_Tag_ae (subF key n) head (xorB data (flowF (subF key n) data.length)) h1 (by rw [xorB_len (flowF_len _ _)]; exact h2) _) ?_
  (refine go ?_)
  refine WW.ret (PureQ.finD ?_)
  exact fz_seal (gcmB key n data) (gcmT key n head (gcmB key n data))
end Go.Proofs.Ytjehfcjfnmcjcaa


namespace Go.Abs
open Go

def FW : Option Nat → Fence
  | none => Fence.wide
  | some l => Fence.wide.inRound l
theorem FW.fn {ro : Option Nat} {f : FuncId} : (FW ro).fn f := by cases ro <;> trivial
theorem FW.depth {ro : Option Nat} {p : Prop} : (FW ro).depth.isSome = true → p := by cases ro <;> simp [FW, Fence.wide, Fence.inRound]
section
variable {P : Program} {N : Nat} {e : Env} {h : AHeap} {m : Inj} {w : World}
theorem calls_in {ro : Option Nat} {n : Nat} {f : FuncId} {args : Array Value} {R : Ending → World → Prop} (hc : Calls P f args w R) : CallsIn (FW ro) n P f args w R := by
  cases ro with
  | none => exact callsIn_wide.2 hc
  | some l => exact CallsIn.inRound l (callsIn_wide.2 hc)
theorem rows_in {ro : Option Nat} {n : Nat} {row : String} {args : Array Value} {R : Value → World → Prop} (hc : Rows P row args w R) : RowsIn (FW ro) n P row args w R := by
  intro c cs _
  obtain ⟨v, w', r, s⟩ := hc c cs
  refine ⟨v, w', r, ?_⟩
  cases ro with
  | none => exact stepsIn_wide.2 s
  | some l => exact stepsIn_wide.2 s
theorem compI_nodefer {ops : Array Oper} {o : Oper} {c : CI} (hc : compI P N ops o = c) (hb : c.i ≠ .bad) : ∀ d, o.op ≠ .defer d := by
  intro d hd
  apply hb
  have hr : rawI P N o = .bad := by
    unfold rawI
    have h1 : compileOp P N o = none := by simp [compileOp, hd]
    have h2 : compileX P N o = none := by simp [compileX, hd]
    simp [h1, h2]
  subst hc
  unfold compI
  split
  · split
    · simp [hr]
    · split
      · split
        · simp [hr]
        · rfl
      · rfl
  · rfl
/-- What a list of operations does, it does in a round, too. -/
theorem wpOps_in {ro : Option Nat} {n : Nat} {ops : Array Oper} {Q Q' : Exit → Go.Act → World → Prop} (hq : ∀ ex a w, Q ex a w → Q' ex a w) (hl : ¬ LetsOut Q) : ∀ (idx : List Nat), (∀ i ∈ idx, ∀ o, ops[i]? = some o → ∀ d, o.op ≠ .defer d) →
    ∀ (a : Go.Act) (w : World), wpOps P ops Q idx a w → wpOpsIn (FW ro) n P ops Q' idx a w
  | [], _, a, w, hw => hq _ _ _ hw
  | i :: idx, hd, a, w, hw => by
    have ih := wpOps_in (ro := ro) (n := n) hq hl idx fun j hj => hd j (by simp [hj])
    simp only [wpOps] at hw
    simp only [wpOpsIn]
    cases ho : ops[i]? with
    | none => simp only [ho] at hw; exact ih _ _ hw
    | some o =>
      simp only [ho] at hw ⊢
      by_cases hwant : Region.wanted o (yielded ops a.tmps) = true
      · rw [if_pos hwant] at hw ⊢
        rcases hw with hw | ⟨_, hx⟩
        · refine ⟨fun _ _ => FW.fn, ?_⟩
          rw [Oper.semAt_eq _ _ _ (hd i (by simp) o ho)]
          unfold Oper.wp at hw
          generalize (execOp a.eval o).run P w = r at hw ⊢
          cases r with
          | ok nx w' =>
            cases nx <;> simp only [Oper.upon, Oper.uponIn] at hw ⊢ <;> first
              | exact ih _ _ hw
              | exact ⟨FW.depth, calls_in (Calls.mono hw fun ex w'' he => by
                  cases ex with
                  | returned v => exact ih _ _ he
                  | panicked ch => exact hq _ _ _ he
                  | outgrown => exact absurd he hl)⟩
              | exact ⟨FW.depth, rows_in (Rows.mono hw fun _ _ he => ih _ _ he)⟩
          | halt x w' => cases x <;> simp only [Oper.upon, Oper.uponIn] at hw ⊢ <;> exact hq _ _ _ hw
        · exact absurd hx hl
      · rw [if_neg hwant] at hw ⊢
        exact ⟨fun _ _ => FW.fn, ih _ _ hw⟩

theorem loop_turn {id l N0 d : Nat} {st : LoopState} {es : List (Nat × AV)} {fn : FuncId} {ps : Array Tmp} {asg bdy : Code} (hr : HR m h w) (hg : h.get id = some (.loop l st N0 es fn ps asg bdy d)) (st' : LoopState) :
    ∃ T : Array Value, w.heap[l]? = some (.loop ⟨st, none, fn, T, ps, asg, bdy, d⟩) ∧ T.size = N0 ∧ (∀ (s : Nat) (v : AV), (s, v) ∈ es → VR m h w v (T.getD s undef)) ∧
      HR m (h.set id (some (.loop l st' N0 es fn ps asg bdy d))) (w.putObj l (.loop ⟨st', none, fn, T, ps, asg, bdy, d⟩)) ∧ Step m h w m (h.set id (some (.loop l st' N0 es fn ps asg bdy d))) (w.putObj l (.loop ⟨st', none, fn, T, ps, asg, bdy, d⟩)) := by
  obtain ⟨q1, T, q2, q3, q4⟩ := hr.obj _ _ hg
  have hlt : l < w.heap.size := (Array.getElem?_eq_some_iff.1 q2).1
  have wu : WUpd w (w.putObj l (.loop ⟨st', none, fn, T, ps, asg, bdy, d⟩)) l := ⟨rfl, rfl, rfl, World.putObj_size, fun k hk => World.putObj_heap_other hk, fun cc T' fz hc => by rw [q2] at hc; cases hc⟩
  have hcm : Compat (.loop l st N0 es fn ps asg bdy d) (.loop l st' N0 es fn ps asg bdy d) := ⟨rfl, rfl, rfl, rfl, rfl, rfl, rfl, rfl⟩
  have stp := step_set hr hg q1 hcm wu
  exact ⟨T, q2, q3, q4, hr.set hg q1 hcm wu ⟨q1, T, World.putObj_heap_same hlt, q3, fun s v hi => (q4 s v hi).step stp⟩, stp⟩

/-- Code in a round of record l. -/
def RW (P : Program) (l N : Nat) (c : CC) (Q : Exit → Env → AHeap → Prop) (e : Env) (h : AHeap) : Prop :=
  ∀ code, compC P N code = c → ∀ (n : Nat) (m : Inj) (w : World) (a : Go.Act), HR m h w → ER N m h w e a → code.wpIn (FW (some l)) n P (PA N Q m h w) a w
def Ins.isBad : Ins → Bool
  | .bad => true
  | _ => false
theorem noOut {K : Env → AHeap → Prop} : ¬ LetsOut (PA N (fun ex e h => ex = .normal ∧ K e h) m h w) := by
  rintro ⟨a, w0, m', e', h', _, _, _, hq, _⟩
  cases hq
theorem nodefers {ops : Array Oper} {l : List CI} (hl : compR P N ops = l) (hb : l.all (fun c => !c.i.isBad) = true) : ∀ i ∈ List.range ops.size, ∀ o, ops[i]? = some o → ∀ d, o.op ≠ .defer d := by
  intro i _ o ho
  refine compI_nodefer (P := P) (N := N) (ops := ops) rfl fun hbad => ?_
  have hm : compI P N ops o ∈ l := by
    rw [← hl, compR]
    refine List.mem_map.2 ⟨o, ?_, rfl⟩
    exact Array.mem_toList_iff.2 (Array.mem_of_getElem? ho)
  have := List.all_eq_true.1 hb _ hm
  rw [hbad] at this
  cases this
theorem compR_range {ops : Array Oper} : (List.range ops.size).map (fun i => compI P N ops (ops.getD i default)) = compR P N ops := by
  simp only [compR]
  apply List.ext_getElem
  · simp
  · intro i h1 h2
    simp at h1 h2
    simp [h1]
theorem RW.reg {lr : Nat} {l : List CI} {K : Env → AHeap → Prop} (hb : l.all (fun c => !c.i.isBad) = true) (hw : WL P N l (fun ex e h => ex = .normal ∧ K e h) e h) : RW P lr N (.reg l) (fun ex e h => ex = .normal ∧ K e h) e h := by
  intro code hc n m w a hr he
  cases code <;> simp only [compC] at hc <;> try (cases hc; done)
  · rename_i id ops d
    split at hc
    · cases hc
    · rename_i hd
      injection hc with hc
      have hd' : d = false := by simpa using hd
      subst hd'
      exact wpIn_region (wpOps_in (fun _ _ _ h => h) noOut _ (nodefers hc hb) a w (hw.out ops (List.range ops.size) (fun i hi => by simpa using hi) (compR_range.trans hc) m w a hr he))
  · split at hc <;> cases hc
  · split at hc <;> cases hc
theorem RW.seq {lr : Nat} {x y : CC} {Q : Exit → Env → AHeap → Prop} (hw : RW P lr N x (fun ex e h => ex = .normal ∧ RW P lr N y Q e h) e h) : RW P lr N (.seq x y) Q e h := by
  intro code hc n m w a hr he
  cases code <;> simp only [compC] at hc <;> try (cases hc; done)
  · split at hc <;> cases hc
  · rename_i cx cy
    cases hc
    refine wpIn_seq (wpIn_mono (hw cx rfl n m w a hr he) fun ex a' w' hp => ?_)
    obtain ⟨m', e', h', h1, h2, h3, rfl, h4⟩ := hp
    exact wpIn_mono (h4 cy rfl n m' w' a' h1 h2) fun _ _ _ hp => PA.from h3 hp
  · split at hc <;> cases hc
  · split at hc <;> cases hc
theorem RW.block {lr id : Nat} {x : CC} {Q : Exit → Env → AHeap → Prop} (hw : RW P lr N x (fun ex e h => ex = .normal ∧ Q .normal e h) e h) : RW P lr N (.block id x) Q e h := by
  intro code hc n m w a hr he
  cases code <;> simp only [compC] at hc <;> try (cases hc; done)
  · split at hc <;> cases hc
  · split at hc <;> cases hc
  · cases hc
    refine wpIn_block (wpIn_mono (hw _ rfl n m w a hr he) fun ex a' w' hp => ?_)
    obtain ⟨m', e', h', h1, h2, h3, rfl, h4⟩ := hp
    exact ⟨m', e', h', h1, h2, h3, h4⟩
  · split at hc <;> cases hc
end
end Go.Abs


namespace Go.Abs
open Go

def mk (r : Nat) : Deferred := { target := .collected r, args := #[] }
/-- How code ends behind a range over a function: a mark among the deferred calls. -/
def PMd (N : Nat) (Q : Exit → Env → AHeap → Prop) (did r : Nat) (m : Inj) (h : AHeap) (w : World) : Exit → Go.Act → World → Prop :=
  fun ex a' w' => ∃ (m' : Inj) (e' : Env) (h' : AHeap), HR m' h' w' ∧ ER N m' h' w' e' { a' with defers := [] } ∧ a'.defers = [mk r] ∧ Step m h w m' h' w' ∧ h'.get did = some (.dfr r (some [])) ∧ Q ex e' h'
/-- How code ends in which a range over a function stood: the block of deferred calls is new. -/
def PMk (N : Nat) (Q : Nat → Exit → Env → AHeap → Prop) (m : Inj) (h : AHeap) (w : World) : Exit → Go.Act → World → Prop :=
  fun ex a' w' => ∃ (r did : Nat), ¬ h.used did ∧ PMd N (Q did) did r m h w ex a' w'
/-- Code in which such a range stands. -/
def AMk (P : Program) (N : Nat) (c : CC) (Q : Nat → Exit → Env → AHeap → Prop) (e : Env) (h : AHeap) : Prop :=
  ∀ code, compC P N code = c → ∀ m w a, HR m h w → ER N m h w e a → code.wp P (PMk N Q m h w) a w
/-- Code behind it. -/
def AMM (P : Program) (N : Nat) (c : CC) (Q : Exit → Env → AHeap → Prop) (did r : Nat) (e : Env) (h : AHeap) : Prop :=
  ∀ code, compC P N code = c → ∀ m w a, HR m h w → ER N m h w e { a with defers := [] } → a.defers = [mk r] → code.wp P (PMd N Q did r m h w) a w
section
variable {P : Program} {N : Nat} {e : Env} {h : AHeap} {m : Inj} {w : World} {Q : Nat → Exit → Env → AHeap → Prop} {K : Exit → Env → AHeap → Prop}
theorem PMd.from {m₁ : Inj} {h₁ : AHeap} {w₁ : World} {did r : Nat} (s : Step m h w m₁ h₁ w₁) {ex : Exit} {a : Go.Act} {w' : World} (hp : PMd N K did r m₁ h₁ w₁ ex a w') : PMd N K did r m h w ex a w' := by
  obtain ⟨m', e', h', h1, h2, h3, h4, h5, h6⟩ := hp
  exact ⟨m', e', h', h1, h2, h3, s.trans h4, h5, h6⟩
theorem AMk.block {id : Nat} {x : CC} (hw : AMk P N x (fun did ex e h => ex = .normal ∧ Q did .normal e h) e h) : AMk P N (.block id x) Q e h := by
  intro code hc m w a hr he
  cases code <;> simp only [compC] at hc <;> try (cases hc; done)
  · split at hc <;> cases hc
  · split at hc <;> cases hc
  · cases hc
    refine wp_block (wp_mono (hw _ rfl m w a hr he) fun ex a' w' hp => ?_)
    obtain ⟨r, did, hu, m', e', h', h1, h2, h3, h4, h5, rfl, h6⟩ := hp
    exact ⟨r, did, hu, m', e', h', h1, h2, h3, h4, h5, h6⟩
  · split at hc <;> cases hc
theorem AMM.seq {x y : CC} {did r : Nat} (hw : AMM P N x (fun ex e h => ex = .normal ∧ (h.get did = some (.dfr r (some [])) → AMM P N y K did r e h)) did r e h) : AMM P N (.seq x y) K did r e h := by
  intro code hc m w a hr he hd
  cases code <;> simp only [compC] at hc <;> try (cases hc; done)
  · split at hc <;> cases hc
  · rename_i cx cy
    cases hc
    refine wp_seq (wp_mono (hw cx rfl m w a hr he hd) fun ex a' w' hp => ?_)
    obtain ⟨m', e', h', h1, h2, h3, h4, h5, rfl, h6⟩ := hp
    exact wp_mono (h6 h5 cy rfl m' w' a' h1 h2 h3) fun _ _ _ hp => hp.from h4
  · split at hc <;> cases hc
  · split at hc <;> cases hc
theorem AMM.ret {did r : Nat} (hg : h.get did = some (.dfr r (some []))) (hq : K .ret e h) : AMM P N .ret K did r e h := by
  intro code hc m w a hr he hd
  cases code <;> simp only [compC] at hc <;> try (cases hc; done)
  · split at hc <;> cases hc
  · split at hc <;> cases hc
  · split at hc <;> cases hc
  · exact wp_ret ⟨m, e, h, hr, he, hd, Step.refl _ _ _, hg, hq⟩
/-- Operations do not look at the deferred calls. -/
theorem wpOps_dfr {ops : Array Oper} {K : Exit → Go.Act → World → Prop} (hl : ¬ LetsOut K) (ds : List Deferred) : ∀ (idx : List Nat) (a : Go.Act) (w : World), wpOps P ops K idx a w →
    wpOps P ops (fun ex a' w' => ∃ a0, a' = { a0 with defers := a0.defers ++ ds } ∧ K ex a0 w') idx { a with defers := a.defers ++ ds } w
  | [], a, w, hw => ⟨a, rfl, hw⟩
  | i :: idx, a, w, hw => by
    have ih := wpOps_dfr (ops := ops) (K := K) hl ds idx
    have ihp : ∀ (a : Go.Act) (d : Option Tmp) (v : Value) (w : World), wpOps P ops K idx (a.put d v) w → wpOps P ops (fun ex a' w' => ∃ a0, a' = { a0 with defers := a0.defers ++ ds } ∧ K ex a0 w') idx (({ a with defers := a.defers ++ ds } : Go.Act).put d v) w := fun a d v w hx => by
      have := ih _ _ hx
      cases d <;> exact this
    have hev : ({ a with defers := a.defers ++ ds } : Go.Act).eval = a.eval := funext fun x => by cases x <;> rfl
    simp only [wpOps] at hw ⊢
    cases ho : ops[i]? with
    | none => simp only [ho] at hw; exact ih _ _ hw
    | some o =>
      simp only [ho] at hw ⊢
      by_cases hwant : Region.wanted o (yielded ops a.tmps) = true
      · rw [if_pos hwant] at hw ⊢
        rcases hw with hw | ⟨_, hx⟩
        · left
          unfold Oper.wp at hw ⊢
          rw [hev]
          generalize (execOp a.eval o).run P w = r at hw ⊢
          cases r with
          | ok nx w' =>
            cases nx <;> simp only [Oper.upon] at hw ⊢ <;> first
              | exact ihp _ _ _ _ hw
              | exact ihp { a with defers := _ :: a.defers } _ _ _ hw
              | exact Calls.mono hw fun ex w'' he => by
                  cases ex with
                  | returned v => exact ihp _ _ _ _ he
                  | panicked ch => exact ⟨a, rfl, he⟩
                  | outgrown => exact absurd he hl
              | exact Rows.mono hw fun _ _ he => ihp _ _ _ _ he
              | exact hw
          | halt x w' => cases x <;> simp only [Oper.upon] at hw ⊢ <;> first | exact ⟨a, rfl, hw⟩ | exact hw
        · exact absurd hx hl
      · rw [if_neg hwant] at hw ⊢
        exact ihp _ _ _ _ hw
theorem AMM.reg {l : List CI} {did r : Nat} (hw : WL P N l (fun ex e h' => ex = .normal ∧ (h'.get did = some (.dfr r (some [])) ∧ K .normal e h')) e h) : AMM P N (.reg l) K did r e h := by
  intro code hc m w a hr he hd
  cases code <;> simp only [compC] at hc <;> try (cases hc; done)
  · rename_i id ops dr
    split at hc
    · cases hc
    · rename_i hdr
      injection hc with hc
      have hd' : dr = false := by simpa using hdr
      subst hd'
      have hx := wpOps_dfr noOut [mk r] _ _ _ (hw.out ops (List.range ops.size) (fun i hi => by simpa using hi) (compR_range.trans hc) m w { a with defers := [] } hr he)
      have ha : ({ ({ a with defers := [] } : Go.Act) with defers := ({ a with defers := [] } : Go.Act).defers ++ [mk r] } : Go.Act) = a := by
        cases a; simp only at hd; subst hd; rfl
      rw [ha] at hx
      refine wp_region (wpOps_mono (fun ex a1 w1 hp => ?_) _ _ _ hx)
      obtain ⟨a0, rfl, m1, e1, h1, hr1, he1, st1, rfl, hg1, hq⟩ := hp
      refine ⟨m1, e1, h1, hr1, ⟨he1.size, rfl, he1.val⟩, ?_, st1, hg1, hq⟩
      show a0.defers ++ [mk r] = [mk r]
      rw [he1.defers]; rfl
  · split at hc <;> cases hc
  · split at hc <;> cases hc
/-- The statement. -/
theorem AMk.rangeF {f p : Nat} {g : Opd} {us ts : List AV} {cA cB : CC} {es : List (Nat × AV)} (hg : ev e g = some (.func (.func f) us ts)) (hbd : bodied P f = true) (hes : ∀ s v, (s, v) ∈ es → lk s e = some v)
    (hac : ∀ (l r : Nat) (fn : FuncId) (asg bdy : Code), compC P N asg = cA → compC P N bdy = cB → AC P f (us ++ [.func (.yield l) [] []] ++ ts) ((h.put h.next (.dfr r (some []))).put (h.next + 1) (.loop l .ready N es fn #[p] asg bdy r))
      (fun _ h' => h'.get h.next = some (.dfr r (some [])) ∧ h'.get (h.next + 1) = some (.loop l .ready N es fn #[p] asg bdy r) ∧ Q h.next .normal e (h'.set (h.next + 1) none))) : AMk P N (.rangeF g [p] cA cB) Q e h := by
  intro code hc m w a hr he
  cases code <;> simp only [compC] at hc <;> try (cases hc; done)
  · split at hc <;> cases hc
  · split at hc <;> cases hc
  · rename_i gq ps asg bdy
    split at hc
    · rename_i g' hgq
      injection hc with e1 e2 e3 e4
      subst e1 e3 e4
      have hps : ps = #[p] := by rw [← Array.toArray_toList (xs := ps), e2]
      subst hps
      refine (wpIn_wide (n := 0)).1 (wpIn_rangeFunc fun fn _ => ?_)
      have hfv := he.eval hgq hg
      have hf1 := next_fresh hr
      have hr1 : HR (upd m h.next (some (w.heap.size, 0))) (h.put h.next (.dfr w.heap.size (some []))) (w.alloc (.deferred (some []))) := hr.put hf1 ⟨by simp [upd], World.alloc_heap_new _ _⟩
      have st1 := step_put hr hf1 (.dfr w.heap.size (some [])) (.deferred (some [])) 0
      have hn1 : (h.put h.next (.dfr w.heap.size (some []))).next = h.next + 1 := next_put _ _
      have hf2 : ¬ (h.put h.next (.dfr w.heap.size (some []))).used (h.next + 1) := fun hu => by have := hu.1; omega
      have hsz1 : (w.alloc (.deferred (some []))).heap.size = w.heap.size + 1 := World.size_alloc ..
      have st2 := step_put hr1 hf2 (.loop (w.heap.size + 1) .ready N es fn #[p] asg bdy w.heap.size) (.loop ⟨.ready, none, fn, a.tmps, #[p], asg, bdy, w.heap.size⟩) 0
      have hr2 := hr1.put (t := 0) (x := .loop (w.heap.size + 1) .ready N es fn #[p] asg bdy w.heap.size) (o := .loop ⟨.ready, none, fn, a.tmps, #[p], asg, bdy, w.heap.size⟩) hf2
        ⟨by simp [upd], a.tmps, by rw [← hsz1]; exact World.alloc_heap_new _ _, he.size, fun s v hs => (he.val s v (hes s v hs)).step (st1.trans st2)⟩
      have he2 := he.step (st1.trans st2)
      generalize hcx : a.eval gq = cx at hfv
      cases hfv with
      | func _ _ _ cs ds q1 q2 q3 q4 =>
        have hfv2 : VR _ _ _ (.func (.func f) us ts) (.func (.func f) cs ds) := (VR.func (.func f) us ts cs ds q1 q2 q3 q4).step (st1.trans st2)
        obtain ⟨W, hW⟩ : ∃ W, (w.alloc (.deferred (some []))).alloc (.loop ⟨.ready, none, fn, a.tmps, #[p], asg, bdy, w.heap.size⟩) = W := ⟨_, rfl⟩
        obtain ⟨d, hd1, hd2⟩ : ∃ d : Deferred, (resolve a.eval (rangeCall gq (w.heap.size + 1)) 0).run P W = .ok d W ∧ (invoke d.target d.args).run P W = .ok (.enter f (cs ++ #[.func (.yield (w.heap.size + 1)) #[] #[]] ++ ds)) W := by
          have hce : a.eval (.const (.func (.yield (w.heap.size + 1)) #[] #[])) = .func (.yield (w.heap.size + 1)) #[] #[] := rfl
          refine ⟨{ target := .fn (.func f) ds, args := cs ++ #[.func (.yield (w.heap.size + 1)) #[] #[]] }, ?_, ?_⟩
          · simp [resolve, rangeCall, hcx, hce, Deferred.ofValue]
          · simp [invoke, run_callFunc hbd]
        refine ⟨w.heap.size + 1, [mk w.heap.size], W, d, W, f, cs ++ #[.func (.yield (w.heap.size + 1)) #[] #[]] ++ ds, W, ?_, hd1, fun _ _ => trivial, hd2, fun hh => by simp [Fence.wide] at hh, ?_⟩
        · rw [← hW]; exact run_enterLoop_outer fn a.tmps #[p] asg bdy
        · refine callsIn_wide.2 ?_
          subst hW
          refine (hac (w.heap.size + 1) w.heap.size fn asg bdy rfl rfl _ _ _ hr2 (by simp [q1, q2]; omega) (fun j v hj => ?_)).mono fun ex w3 hx => ?_
          · have q3' := fun i v hi => (q3 i v hi).step (st1.trans st2)
            have q4' := fun i v hi => (q4 i v hi).step (st1.trans st2)
            rw [List.append_assoc] at hj
            simp only [Array.getD_eq_getD_getElem?]
            by_cases j1 : j < us.length
            · rw [List.getElem?_append_left j1] at hj
              have := q3' j v hj
              rw [Array.append_assoc, Array.getElem?_append_left (by omega)]
              simpa [Array.getD_eq_getD_getElem?] using this
            · rw [List.getElem?_append_right (by omega)] at hj
              rw [Array.append_assoc, Array.getElem?_append_right (by omega), ← q1]
              by_cases j2 : j - us.length < 1
              · rw [List.getElem?_append_left (by simpa using j2)] at hj
                have h0 : j - us.length = 0 := by omega
                rw [h0] at hj ⊢
                cases hj
                rw [Array.getElem?_append_left (by simp)]
                exact .func _ [] [] #[] #[] rfl rfl (by simp) (by simp)
              · rw [List.getElem?_append_right (by simp; omega)] at hj
                have := q4' _ v hj
                rw [Array.getElem?_append_right (by simp; omega)]
                simpa [Array.getD_eq_getD_getElem?] using this
          · obtain ⟨v, m3, r3, h3, rfl, hr3, _, st3, hg3, hl3, hq3⟩ := hx
            obtain ⟨T3, hT3, _, _, hr4, st4⟩ := loop_turn hr3 hl3 .exhausted
            have hr5 := hr4.del (h.next + 1)
            have st5 : Step _ _ _ _ _ _ := step_del (m := m3) (h := h3.set (h.next + 1) (some (.loop (w.heap.size + 1) .exhausted N es fn #[p] asg bdy w.heap.size))) (w := w3.putObj (w.heap.size + 1) (.loop ⟨.exhausted, none, fn, T3, #[p], asg, bdy, w.heap.size⟩)) (h.next + 1)
            refine ⟨none, _, run_endLoop hT3 (by simp), ?_⟩
            rw [set_set] at hr5 st5
            have stA := (((st1.trans st2).trans st3).trans st4).trans st5
            refine ⟨w.heap.size, h.next, fun hu => absurd hu.1 (Nat.lt_irrefl _), m3, e, _, hr5, ?_, ?_, stA, ?_, hq3⟩
            · have := he.step stA
              exact ⟨this.size, rfl, this.val⟩
            · show [mk w.heap.size] ++ a.defers = _
              rw [he.defers]; rfl
            · rw [get_set, if_neg (by omega)]; exact hg3
    · cases hc

end
end Go.Abs


namespace Go.Proofs.Ytjehfcjfnmcjcaa
open Go Go.Abs

attribute [local irreducible] pairF
theorem AC.used {P : Program} {f : Nat} {vs : List AV} {h : AHeap} {R : AV → AHeap → Prop} (hac : AC P f vs h R) : AC P f vs h (fun r h' => R r h' ∧ (∀ id, h.used id → h'.used id) ∧ ∀ id x, h'.get id = some x → h'.used id) := fun m w cargs hr hl hv =>
  (hac m w cargs hr hl hv).mono fun ex w' ⟨v, m', r, h', e1, g1, g2, g3, hR⟩ => ⟨v, m', r, h', e1, g1, g2, g3, hR, g3.used, g1.live⟩
theorem AMk.named {P : Program} {N : Nat} {c : CC} {Q : Nat → Exit → Env → AHeap → Prop} {e : Env} {h : AHeap} (F : AHeap → Prop) (hf : F h) (k : ∀ h5, F h5 → AMk P N c Q e h5) : AMk P N c Q e h := k h hf
end Go.Proofs.Ytjehfcjfnmcjcaa


namespace Go.Proofs.Ytjehfcjfnmcjcaa
open Go Go.Abs

/-- A real lock's cells. -/
def reC : List AV := [.func (.func 104) [] [], .func (.func 105) [] [], .func (.func 106) [] [], .func (.func 16) [.nilp] [], .func (.func 19) [.nilp] []]
theorem lock_Real_ae {h : AHeap} {nx : Nat} (hn : h.next = nx) : AE Try.prog 66 [] h (.ptr nx 0 0) (h.put nx (.mem 5 [reC])) := by
  subst hn
  refine AC.introW is_lock_Real (by simp) ?_
  unfold c_lock_Real
  (refine go ?_)
  exact WW.ret ⟨.inl rfl, _, gRES, rfl, rfl⟩
theorem lock_SealR_ae {h : AHeap} {l : Nat} (hl : h.get l = some (.mem 5 [reC])) (key : Pr) (n : Nn) (head data : Bs) (h1 : head.length ≤ 4000) (h2 : data.length ≤ 4000) :
    AE Try.prog 25 [.ptr l 0 0, .agg (encP key), .agg (encN n), .imm 1 (head.map encB), .imm 1 (data.map encB)] h (.tup [.agg (encS (gcmB key n data) (gcmT key n head (gcmB key n data))), .bool true]) h := by
  refine AE.wf fun hwf => ?_
  have h0 := hwf _ _ hl
  refine AE.pureW is_lock_Lock_Seal (by simp) ?_
  unfold c_lock_Lock_Seal
  simp only [reC] at hl
  (refine go ?_)
  refine DW.fxR (FX.callv rfl rfl (by first | exact True.intro | exact rfl) (by kernel_rfl) (gcm_Seal_ae key n head data h1 h2 _)) rfl rfl ?_
  (refine go ?_)
  refine WW.ret (PureQ.finD ?_)
  exact fz_seal _ _
end Go.Proofs.Ytjehfcjfnmcjcaa


namespace Go.Proofs.Ytjehfcjfnmcjcaa
open Go Go.Abs

theorem oracle_IssuedN_ae (h : AHeap) : AE Try.prog 16 [.nilp] h (.imm 10 []) h := by
  refine AE.pureW is_oracle_Oracle_Issued (by simp) ?_
  unfold c_oracle_Oracle_Issued
  (refine go ?_)
  refine WW.ret (PureQ.finD ?_)
  exact .nil _
theorem lock_IssuedR_ae {h : AHeap} {l : Nat} (hl : h.get l = some (.mem 5 [reC])) : AE Try.prog 32 [.ptr l 0 0] h (.imm 10 []) h := by
  refine AE.pureW is_lock_Lock_Issued (by simp) ?_
  unfold c_lock_Lock_Issued
  simp only [reC] at hl
  (refine go ?_)
  refine WL.fx1 (FX.callv rfl rfl (by first | exact True.intro | exact rfl) (by kernel_rfl) (oracle_IssuedN_ae _)) ?_
  (refine go ?_)
  refine WW.ret (PureQ.finD ?_)
  exact fz_imm rfl (by simp [flatC])
end Go.Proofs.Ytjehfcjfnmcjcaa


namespace Go.Proofs.Ytjehfcjfnmcjcaa
open Go Go.Abs

theorem lock_SealI_ae {h : AHeap} {l o t s g : Nat} {L : List Iss} {S : List Bs} (hl : IdAt h l o t s g L S) (hL : L.length ≤ 1000000) (k : Pr) (n : Nn) (head data : Bs) (hh : head.length ≤ 4000) (hd : data.length ≤ 4000) :
    AE Try.prog 25 [.ptr l 0 0, .agg (encP k), .agg (encN n), .imm 1 (head.map encB), .imm 1 (data.map encB)] h
      (.tup [.agg (encS (newI (L.length + 1) k n head data).out (newI (L.length + 1) k n head data).tag), .bool true])
      ((h.set t (some (.tail g (L.length + 1)))).set o (some (.mem 2 [[.app t g 10 ((L ++ [newI (L.length + 1) k n head data]).map encI), .map s]]))) := by
  obtain ⟨q0, hO⟩ := hl
  obtain ⟨q1, q2, q3⟩ := id hO
  refine AE.wf fun hwf => ?_
  have h0 := hwf _ _ q0
  have ho := hwf _ _ q1
  have ht := hwf _ _ q2
  have hs := hwf _ _ q3
  have d1 : l ≠ o := fun e => by subst e; rw [q0] at q1; cases q1
  have d2 : l ≠ t := fun e => by subst e; rw [q0] at q2; cases q2
  have d3 : t ≠ o := fun e => by subst e; rw [q1] at q2; cases q2
  refine AE.effW is_lock_Lock_Seal (by simp) ?_ ?_
  · refine Ext.set (Ext.set (x := .tail _ _) Ext.refl (Nm.old q2) trivial) (Nm.old q1) ?_
    intro x hx v hv
    simp only [List.mem_singleton] at hx
    subst hx
    simp only [List.mem_cons, List.not_mem_nil, or_false] at hv
    rcases hv with rfl | rfl
    · exact .app _ _ _ _ (Nm.old q2) fun x hx v hv => by
        obtain ⟨i, _, rfl⟩ := List.mem_map.1 hx
        exact clo_encI i v hv
    · exact .map _ (Nm.old q3)
  unfold c_lock_Lock_Seal
  simp only [idC] at q0
  (repeat first | refine WL.go ?_ | refine WW.seq ?_ | refine WW.reg ?_ | refine WL.nil ?_ | refine WW.skip ?_ | refine WW.block ?_ | refine WW.exit ?_ | refine WW.condT rfl ?_ | refine WW.condF rfl ?_ | refine WL.gox ?_ | refine thenN ?_ | refine blkN ?_)
  refine WW.dregX [8, 11] [] [t, o, h.next + 2] gN (by decide +kernel) ?_
  (refine go ?_)
  have hcon := oracle_Seal_ae (h := ((h.put h.next (.mem 2 [encP k])).put (h.next + 1) (.mem 3 [encN n])).put (h.next + 2) (.mem 3 [[.nils, .int .u64 0, .int .u64 0]])) (orAt_get hO gE gE gE) hL k n head data hh hd
  refine DW.fx0 (FX.callv rfl rfl (by first | exact True.intro | exact rfl) (by kernel_rfl) hcon) rfl rfl (fun hp => PhiW.setW (by simp) (PhiW.setW (by simp) hp)) rfl ?_
  (refine go ?_)
  generalize newI (L.length + 1) k n head data = x at *
  refine WW.ret (EffQ.finD ?_ ?_)
  · refine ⟨gLE, fun id hu => ?_⟩; have hlt : id < AHeap.next h := hu.1; simp only [get_put, get_set]; (repeat' split) <;> first | rfl | omega | (simp []; done)
  · refine .clo _ (.tup _ fun v hv => ?_)
    simp only [List.mem_cons, List.not_mem_nil, or_false] at hv
    rcases hv with rfl | rfl
    · exact .agg _ (clo_encS x.out x.tag)
    · exact .bool _
theorem lock_IssuedI_ae {h : AHeap} {l o t s g : Nat} {L : List Iss} {S : List Bs} (hl : IdAt h l o t s g L S) (hL : L.length ≤ 1000000) (hx : ∀ x ∈ L, x.head.length ≤ 1000000 ∧ x.data.length ≤ 1000000 ∧ x.out.length ≤ 1000000) :
    AE Try.prog 32 [.ptr l 0 0] h (.imm 10 (L.map encI)) h := by
  obtain ⟨q0, hO⟩ := hl
  refine AE.pureW is_lock_Lock_Issued (by simp) ?_
  unfold c_lock_Lock_Issued
  simp only [idC] at q0
  (refine go ?_)
  refine WL.fx1 (FX.callv rfl rfl (by first | exact True.intro | exact rfl) (by kernel_rfl) (oracle_Issued_ae hO hL hx)) ?_
  (refine go ?_)
  refine WW.ret (PureQ.finD ?_)
  exact .clo _ (.imm _ _ fun x hx v hv => by
    obtain ⟨i, _, rfl⟩ := List.mem_map.1 hx
    exact clo_encI i v hv)
end Go.Proofs.Ytjehfcjfnmcjcaa


namespace Go.Proofs.Ytjehfcjfnmcjcaa
open Go Go.Abs

/-- All that is there: slots, power, the devices, the counters, the keys, what the lock sealed and summed. -/
structure WS where
  n : Int
  pw : PwS
  sd : SdS
  dk : DkS
  ct : CtS
  ks : KsS
  L : List Iss
  S : List Bs
/-- The names of a world's objects: power, the lock's four, from a on the rest. -/
structure WN where
  p : Nat
  l : Nat
  o : Nat
  t : Nat
  q : Nat
  a : Nat
def wRow (n : WN) (k : Int) : List AV := [.int .i64 k, .ptr n.p 0 0, .ptr (n.a + 1) 0 0, .ptr (n.a + 4) 0 0, .ptr (n.a + 7) 0 0, .ptr (n.a + 9) 0 0, .ptr n.l 0 0]
/-- Either lock, by what it sealed and summed. -/
structure LkAt (md : Bool) (h : AHeap) (l o t q : Nat) (L : List Iss) (S : List Bs) : Prop where
  id : md = true → IdAt h l o t q 0 L S
  re : md = false → h.get l = some (.mem 5 [reC])
structure WAt (md : Bool) (h : AHeap) (n : WN) (s : WS) : Prop where
  sd : SdAt h ⟨n.p, n.a + 1, n.a, n.a + 2, n.a + 3⟩ s.pw s.sd
  dk : DkAt h ⟨n.p, n.a + 4, n.a + 5, n.a + 6⟩ s.pw s.dk
  ct : h.get (n.a + 7) = some (s.ct.obj n.p)
  ks : KsAt h n.p (n.a + 9) (n.a + 8) s.ks
  w : h.get (n.a + 10) = some (.mem 7 [wRow n s.n])
  lk : LkAt md h n.l n.o n.t n.q s.L s.S
  op : n.p < n.a
  ol : n.l < n.a
  oo : md = true → n.o < n.a ∧ n.t < n.a ∧ n.q < n.a
  nx : n.a + 11 ≤ h.next
def ws0 (k : Nat) (seed : Int) : WS := ⟨k, ⟨false, false, 0, 0⟩, sd0 (k * 160 + 120), dk0, ⟨0, 0, 0⟩, ⟨seed, [1]⟩, [], []⟩
theorem SdAt.same {h h' : AHeap} {n : SdN} {w : PwS} {x : SdS} (hd : SdAt h n w x) (h1 : h'.get n.p = h.get n.p) (h2 : h'.get n.s = h.get n.s) (h3 : h'.get n.B = h.get n.B) (h4 : h'.get n.w = h.get n.w) (h5 : h'.get n.t = h.get n.t) : SdAt h' n w x :=
  ⟨h1.trans hd.pw, h2.trans hd.ob, h3.trans hd.bl, h4.trans hd.wt, h5.trans hd.tr, hd.ne⟩
theorem DkAt.same {h h' : AHeap} {n : DkN} {w : PwS} {x : DkS} (hd : DkAt h n w x) (h1 : h'.get n.p = h.get n.p) (h2 : h'.get n.d = h.get n.d) (h4 : h'.get n.w = h.get n.w) (h5 : h'.get n.t = h.get n.t) : DkAt h' n w x :=
  ⟨h1.trans hd.pw, h2.trans hd.ob, h4.trans hd.wt, h5.trans hd.tr, hd.ne, hd.ll⟩
theorem KsAt.same {h h' : AHeap} {p k te : Nat} {s : KsS} (hd : KsAt h p k te s) (h2 : h'.get k = h.get k) (h3 : h'.get te = h.get te) : KsAt h' p k te s :=
  ⟨h2.trans hd.ob, h3.trans hd.tl, hd.ne, hd.sm⟩
theorem LkAt.same {md : Bool} {h h' : AHeap} {l o t q : Nat} {L : List Iss} {S : List Bs} (hd : LkAt md h l o t q L S) (h1 : h'.get l = h.get l) (h2 : md = true → h'.get o = h.get o ∧ h'.get t = h.get t ∧ h'.get q = h.get q) : LkAt md h' l o t q L S := by
  refine ⟨fun e => ?_, fun e => h1.trans (hd.re e)⟩
  obtain ⟨g1, g2, g3⟩ := h2 e
  obtain ⟨q0, q1, q2, q3⟩ := hd.id e
  exact ⟨h1.trans q0, ⟨g1.trans q1, g2.trans q2, g3.trans q3⟩⟩
theorem sdNew_ex {h : AHeap} {p nx k : Nat} {w : PwS} (hn : h.next = nx) (hp : p < nx) (hw : h.get p = some (.mem 4 [w.row])) : ∃ h1, sdNew p nx k h = h1 ∧ SdAt h1 ⟨p, nx + 1, nx, nx + 2, nx + 3⟩ w (sd0 k) ∧ h1.next = nx + 4 ∧ (∀ id, id < nx → h1.get id = h.get id) ∧ (∀ h0 : AHeap, Keeps h0 h → Keeps h0 h1) := by
  subst hn
  refine ⟨_, rfl, ?_, ?_, fun id hi => ?_, fun h0 k0 => ?_⟩
  · unfold sdNew
    exact sdAt_of gH gH gH gH gH (by omega)
  · unfold sdNew; show AHeap.next _ = h.next + 1 + 1 + 1 + 1; exact gN
  · unfold sdNew; exact gE
  · have := k0.1
    unfold sdNew; exact gK
theorem dkNew_ex {h : AHeap} {p nx : Nat} {w : PwS} (hn : h.next = nx) (hp : p < nx) (hw : h.get p = some (.mem 4 [w.row])) : ∃ h1, dkNew p nx h = h1 ∧ DkAt h1 ⟨p, nx, nx + 1, nx + 2⟩ w dk0 ∧ h1.next = nx + 3 ∧ (∀ id, id < nx → h1.get id = h.get id) ∧ (∀ h0 : AHeap, Keeps h0 h → Keeps h0 h1) := by
  subst hn
  refine ⟨_, rfl, ?_, ?_, fun id hi => ?_, fun h0 k0 => ?_⟩
  · unfold dkNew
    exact dkAt_of gH gH gH gH (by omega) (by simp [dk0])
  · unfold dkNew; show AHeap.next _ = h.next + 1 + 1 + 1; exact gN
  · unfold dkNew; exact gE
  · have := k0.1
    unfold dkNew; exact gK
set_option maxHeartbeats 2000000 in
theorem world_New_ac (md : Bool) (k : Nat) (hk : isG k = true) (seed : Int) (h : AHeap) : AC Try.prog 21 [.int .i64 k, .int .u64 seed, .bool md] h
    (fun r h' => ∃ n : WN, r = .tup [.ptr (n.a + 10) 0 0, .int .i64 0] ∧ WAt md h' n (ws0 k seed) ∧ h.next ≤ n.p ∧ h.next ≤ n.l ∧ (md = true → h.next ≤ n.o ∧ h.next ≤ n.t ∧ h.next ≤ n.q) ∧ h.next ≤ h'.next ∧ ∀ h0 : AHeap, Keeps h0 h → Keeps h0 h') := by
  refine AC.introW is_world_New (by simp) ?_
  unfold c_world_New
  (refine go ?_)
  refine WL.call rfl (by first | exact True.intro | exact rfl) gSL (geom_Is_ae k _) ?_
  rw [hk]
  (refine go ?_)
  refine WL.call rfl (by first | exact True.intro | exact rfl) gSL (power_New_ae rfl) ?_
  (refine go ?_)
  refine WL.call rfl (by first | exact True.intro | exact rfl) gSL (lock_Real_ae (nx := h.next + 1 + 1) gN) ?_
  refine WL.go ?_
  refine WL.nil ?_
  refine thenN ?_
  have hkk := isG_cases hk
  have hsz : sizeG (k : Int) = ((k * 160 + 120 : Nat) : Int) := by rw [sizeG, if_pos hk]; omega
  rw [put_set]
  refine WW.seqM (fun e7 h7 => ∃ l o t q a, subE [(1, some (.int .u64 seed)), (8, some (.ptr (h.next + 1) 0 0)), (9, some (.ptr h.next 0 0)), (10, some (.ptr l 0 0))] e7 ∧
    h7.get h.next = some (.mem 4 [(⟨false, false, 0, 0⟩ : PwS).row]) ∧ h7.get (h.next + 1) = some (.mem 1 [[.int .i64 k]]) ∧ LkAt md h7 l o t q [] [] ∧ h7.next = a ∧ h.next + 2 ≤ l ∧ l < a ∧ (md = true → h.next + 2 ≤ o ∧ o < a ∧ h.next + 2 ≤ t ∧ t < a ∧ h.next + 2 ≤ q ∧ q < a) ∧ ∀ h0 : AHeap, Keeps h0 h → Keeps h0 h7) ?_ ?_
  · cases md with
    | false =>
      (refine go ?_)
      refine ⟨rfl, h.next + 1 + 1, 0, 0, 0, h.next + 1 + 1 + 1, gSUB, gH, gH, ⟨nofun, fun _ => gH⟩, gN, by omega, by omega, nofun, fun h0 k0 => ?_⟩
      have := k0.1
      exact gK
    | true =>
      (refine go ?_)
      refine WL.call rfl (by first | exact True.intro | exact rfl) gSL (lock_Ideal_ae (nx := h.next + 1 + 1 + 1) gN) ?_
      obtain ⟨h2, e2, o2, n2, m2, k2⟩ := newL_ex (h := ((h.put h.next (.mem 4 [(⟨false, false, 0, 0⟩ : PwS).row])).put (h.next + 1) (.mem 1 [[.int .i64 k]])).put (h.next + 1 + 1) (.mem 5 [reC])) (nx := h.next + 1 + 1 + 1) gN
      rw [e2]
      clear e2
      have hx0 : Keeps h (((h.put h.next (.mem 4 [(⟨false, false, 0, 0⟩ : PwS).row])).put (h.next + 1) (.mem 1 [[.int .i64 k]])).put (h.next + 1 + 1) (.mem 5 [reC])) := gK
      (refine go ?_)
      refine ⟨rfl, _, _, _, _, _, gSUB, (m2 _ (by omega)).trans gH, (m2 _ (by omega)).trans gH, ⟨fun _ => o2, nofun⟩, n2, by omega, by omega, fun _ => ⟨by omega, by omega, by omega, by omega, by omega, by omega⟩, fun h0 k0 => k2 h0 ?_⟩
      have := k0.1
      exact gK
  · rintro e7 h7 ⟨l, o, t, q, a, hs7, hp0, hg0, hlk, hn7, l1, l2, hid, hK⟩
    refine WW.cvt (Cvt.sub hs7) ?_
    have hKh := (hK h (Keeps.refl _)).1
    (repeat first | refine WL.go ?_ | refine WW.seq ?_ | refine WW.reg ?_ | refine WL.nil ?_ | refine WW.skip ?_ | refine WW.block ?_ | refine WW.exit ?_ | refine WW.condT rfl ?_ | refine WW.condF rfl ?_ | refine WL.gox ?_ | refine thenN ?_ | refine blkN ?_)
    refine WW.dregX [5, 7, 9, 12, 15] [0] [] gN (by decide +kernel) ?_
    (refine go ?_)
    refine DW.callS rfl (by first | exact True.intro | exact rfl) gSL rfl (geom_Size_ae k _) ?_
    rw [hsz]
    (refine go ?_)
    refine DW.callSW rfl (by first | exact True.intro | exact rfl) gSL rfl rfl (fun hp => by unfold sdNew; exact PhiW.put (by omega) (PhiW.put (by omega) (PhiW.put (by omega) (PhiW.put (by omega) hp)))) (ssd_New_ae (nx := a) hn7 (by omega) (k * 160 + 120) (by omega)) ?_
    obtain ⟨h1, e1, d1, n1, m1, k1⟩ := sdNew_ex (k := k * 160 + 120) (nx := a) hn7 (by omega) hp0
    rw [e1]
    clear e1
    have hp1 := (m1 h.next (by omega)).trans hp0
    (refine go ?_)
    refine DW.callSW rfl (by first | exact True.intro | exact rfl) gSL rfl rfl (fun hp => by unfold dkNew; exact PhiW.put (by omega) (PhiW.put (by omega) (PhiW.put (by omega) hp))) (disk_New_ae (nx := a + 4) n1 (by omega)) ?_
    obtain ⟨h2, e2, d2, n2, m2, k2⟩ := dkNew_ex n1 (by omega) hp1
    rw [e2]
    clear e2
    (refine go ?_)
    refine DW.callSW rfl (by first | exact True.intro | exact rfl) gSL rfl rfl (fun hp => by repeat first | exact hp | refine PhiW.put (by omega) ?_ | refine PhiW.setN (by omega) ?_ | refine PhiW.setW (by simp; done) ?_) (count_New_ae (nx := a + 4 + 3) gN (p := h.next)) ?_
    (refine go ?_)
    refine DW.callSW rfl (by first | exact True.intro | exact rfl) gSL rfl rfl (fun hp => by repeat first | exact hp | refine PhiW.put (by omega) ?_ | refine PhiW.setN (by omega) ?_ | refine PhiW.setW (by simp; done) ?_) (keys_New_ae (nx := a + 4 + 3 + 1) gN seed) ?_
    (refine go ?_)
    refine WW.named (fun hF => (∀ id, id < a + 7 → hF.get id = h2.get id) ∧ hF.get (a + 7) = some (CtS.obj h.next ⟨0, 0, 0⟩) ∧ hF.get (a + 8) = some (.tail 0 1) ∧ hF.get (a + 9) = some ((⟨seed, [1]⟩ : KsS).obj h.next (a + 8)) ∧ hF.get (a + 10) = some (.mem 7 [[.int .i64 k, .ptr h.next 0 0, .ptr (a + 1) 0 0, .ptr (a + 4) 0 0, .ptr (a + 7) 0 0, .ptr (a + 9) 0 0, .ptr l 0 0]]) ∧ hF.next = a + 11 ∧ ∀ h0 : AHeap, Keeps h0 h → Keeps h0 hF)
      ⟨fun id hi => gE, gH, gH, gH, gH, ?_, fun h0 k0 => ?_⟩ ?_
    · show AHeap.next _ = a + 4 + 3 + 1 + 1 + 1 + 1
      exact gN
    · have k3 := k2 h0 (k1 h0 (hK h0 k0))
      have k4 := (hK h0 k0).1
      exact gK
    rintro hF ⟨f1, f2, f3, f4, f5, f6, f7⟩
    have f8 : ∀ id, id < a + 4 → hF.get id = h1.get id := fun id hi => (f1 id (by omega)).trans (m2 id hi)
    have f9 : ∀ id, id < a → hF.get id = h7.get id := fun id hi => (f8 id (by omega)).trans (m1 id hi)
    refine WW.ret ⟨.inl rfl, _, gRES, ⟨h.next, l, o, t, q, a⟩, rfl, ⟨d1.same (f8 _ ?_) (f8 _ ?_) (f8 _ ?_) (f8 _ ?_) (f8 _ ?_), d2.same (f1 _ ?_) (f1 _ ?_) (f1 _ ?_) (f1 _ ?_), f2, ⟨f4, f3, by simp [ws0], by simp [ws0]⟩, f5, hlk.same (f9 _ l2) fun e => ⟨f9 _ (hid e).2.1, f9 _ (hid e).2.2.2.1, f9 _ (hid e).2.2.2.2.2⟩, ?_, l2, fun e => ⟨(hid e).2.1, (hid e).2.2.2.1, (hid e).2.2.2.2.2⟩, ?_⟩, Nat.le_refl _, ?_, fun e => ⟨?_, ?_, ?_⟩, ?_, f7⟩
    all_goals (first | omega | (dsimp only; omega) | (have := hid e; omega) | (have := hid e; dsimp only; omega))
end Go.Proofs.Ytjehfcjfnmcjcaa


namespace Go.Proofs.Ytjehfcjfnmcjcaa
open Go Go.Abs

theorem world_New_no (md : Bool) (k : Int) (hk : isG k = false) (seed : Int) (h : AHeap) : AE Try.prog 21 [.int .i64 k, .int .u64 seed, .bool md] h (.tup [.nilp, .int .i64 1]) h := by
  refine AE.pureW is_world_New (by simp) ?_
  unfold c_world_New
  (refine go ?_)
  refine WL.call rfl (by first | exact True.intro | exact rfl) gSL (geom_Is_ae k _) ?_
  rw [hk]
  (refine go ?_)
  refine WW.ret (PureQ.finD ?_)
  exact .clo _ (.tup _ fun v hv => by
    simp only [List.mem_cons, List.not_mem_nil, or_false] at hv
    rcases hv with rfl | rfl
    · exact .nilp
    · exact .int _ _)
def WS.key (s : WS) : Pr := if s.ks.cur ∈ s.ks.epochs then ofK s.ks.seed s.ks.cur else (0, 0)
theorem world_Key_ae {md : Bool} {h : AHeap} {n : WN} {s : WS} (hw : WAt md h n s) (hc : 0 ≤ s.ks.cur ∧ s.ks.cur < 4294967296) : AE Try.prog 24 [.ptr (n.a + 10) 0 0] h (.tup [.int .u32 s.ks.cur, .agg (encP s.key)]) h := by
  have hn := hw.nx
  have hob := hw.w
  simp only [wRow] at hob
  refine AE.pureW is_world_World_Key (by simp) ?_
  unfold c_world_World_Key
  (refine go ?_)
  refine WL.call rfl (by first | exact True.intro | exact rfl) gSL (keys_Current_ae (hw.ks.same gE gE)) ?_
  (refine go ?_)
  refine WL.call rfl (by first | exact True.intro | exact rfl) gSL (keys_Key_ae (hw.ks.same gE gE) s.ks.cur hc) ?_
  (refine go ?_)
  refine WW.ret (PureQ.finD ?_)
  exact Fz.tup2 (.clo _ (.int _ _)) (fz_agg rfl (flatP _))
/-- A seal by either lock. -/
def sealP (md : Bool) (L : List Iss) (k : Pr) (n : Nn) (head data : Bs) : Bs × Pr := match md with
  | true => ((newI (L.length + 1) k n head data).out, (newI (L.length + 1) k n head data).tag)
  | false => (gcmB k n data, gcmT k n head (gcmB k n data))
def sealL (md : Bool) (L : List Iss) (k : Pr) (n : Nn) (head data : Bs) : List Iss := match md with
  | true => L ++ [newI (L.length + 1) k n head data]
  | false => L
def lkPut (md : Bool) (o t q : Nat) (L : List Iss) (h : AHeap) : AHeap := match md with
  | true => (h.set t (some (.tail 0 L.length))).set o (some (.mem 2 [[.app t 0 10 (L.map encI), .map q]]))
  | false => h
theorem lock_SealW_ae {md : Bool} {h : AHeap} {l o t q : Nat} {L : List Iss} {S : List Bs} (hl : LkAt md h l o t q L S) (hL : L.length ≤ 1000000) (k : Pr) (n : Nn) (head data : Bs) (hh : head.length ≤ 4000) (hd : data.length ≤ 4000) :
    AE Try.prog 25 [.ptr l 0 0, .agg (encP k), .agg (encN n), .imm 1 (head.map encB), .imm 1 (data.map encB)] h (.tup [.agg (encS (sealP md L k n head data).1 (sealP md L k n head data).2), .bool true]) (lkPut md o t q (sealL md L k n head data) h) := by
  cases md with
  | true =>
    have := lock_SealI_ae (hl.id rfl) hL k n head data hh hd
    simp only [sealP, sealL, lkPut, List.length_append, List.length_singleton]
    exact this
  | false => exact lock_SealR_ae (hl.re rfl) k n head data hh hd
theorem lkPut_at {md : Bool} {h : AHeap} {l o t q : Nat} {L L' : List Iss} {S : List Bs} (hl : LkAt md h l o t q L S) (hf : md = false → L' = L) : LkAt md (lkPut md o t q L' h) l o t q L' S := by
  cases md with
  | false => exact ⟨nofun, hl.re⟩
  | true =>
    obtain ⟨q0, q1, q2, q3⟩ := hl.id rfl
    have key : ∀ {i j : Nat} {y z : AObj}, h.get i = some y → h.get j = some z → y ≠ z → i ≠ j := fun hi hj hne e => by
      subst e; rw [hi] at hj; exact hne (Option.some.inj hj)
    have d1 := key q0 q1 (by simp [idC])
    have d2 := key q0 q2 (by simp)
    have d3 := key q1 q2 (by simp)
    have d4 := key q3 q1 (by simp)
    have d5 := key q3 q2 (by simp)
    refine ⟨fun _ => ?_, nofun⟩
    unfold lkPut
    exact ⟨gH, ⟨gH, gH, gH⟩⟩
theorem lkPut_get {md : Bool} {h : AHeap} {o t q id : Nat} {L : List Iss} (hi : md = true → id ≠ o ∧ id ≠ t) : (lkPut md o t q L h).get id = h.get id := by
  cases md with
  | false => rfl
  | true => exact get_set_neE (hi rfl).1 (get_set_neE (hi rfl).2 rfl)
theorem phi_lk {md : Bool} {n0 o t q : Nat} {L : List Iss} {h0 h : AHeap} (hp : PhiW n0 [o, t] h0 h) : PhiW n0 [o, t] h0 (lkPut md o t q L h) := by
  cases md with
  | false => exact hp
  | true => exact PhiW.setW (by simp) (PhiW.setW (by simp) hp)
theorem lkPut_keeps {md : Bool} {o t q : Nat} {L : List Iss} {h h0 : AHeap} (hk : Keeps h0 h) (hi : md = true → h0.next ≤ o ∧ h0.next ≤ t) : Keeps h0 (lkPut md o t q L h) := by
  cases md with
  | false => exact hk
  | true => exact (hk.set (hi rfl).2 _).set (hi rfl).1 _
theorem lock_IssuedW_ae {md : Bool} {h : AHeap} {l o t q : Nat} {L : List Iss} {S : List Bs} (hl : LkAt md h l o t q L S) (hf : md = false → L = []) (hL : L.length ≤ 1000000) (hx : ∀ x ∈ L, x.head.length ≤ 1000000 ∧ x.data.length ≤ 1000000 ∧ x.out.length ≤ 1000000) :
    AE Try.prog 32 [.ptr l 0 0] h (.imm 10 (L.map encI)) h := by
  cases md with
  | true => exact lock_IssuedI_ae (hl.id rfl) hL hx
  | false => rw [hf rfl]; exact lock_IssuedR_ae (hl.re rfl)
set_option maxHeartbeats 1000000 in
theorem law20_known_ae (h : AHeap) : AE Try.prog 23 [] h (.bool true) h := by
  refine AE.pureW is_law20_known (by simp) ?_
  unfold c_law20_known
  (refine go ?_)
  refine WL.callA rfl (by first | exact True.intro | exact rfl) gSL (world_New_ac true 4 rfl 1 h) ?_
  rintro _ h1 ⟨n, rfl, hw, np, nl, no, nn, kk⟩
  replace kk := kk h (Keeps.refl _)
  (refine go ?_)
  refine WL.call rfl (by first | exact True.intro | exact rfl) gSL (world_New_no true 5 rfl 1 _) ?_
  have hob := hw.w
  simp only [wRow] at hob
  (refine go ?_)
  refine WL.call rfl (by first | exact True.intro | exact rfl) gSL (ssd_Size_ae hw.sd.ob) ?_
  rw [show (ws0 4 1).sd.lasts.length = 760 from (List.length_replicate : (List.replicate (4 * 160 + 120) (0 : UInt8)).length = 4 * 160 + 120)]
  (refine go ?_)
  refine WW.ret (PureQ.finD ?_)
  exact fz_b rfl
theorem isIss {k : Pr} {n : Nn} {m : Nat} {head data : Bs} (h1 : head.length ≤ 1000000) (h2 : data.length ≤ 1000000) : (newI m k n head data).head.length ≤ 1000000 ∧ (newI m k n head data).data.length ≤ 1000000 ∧ (newI m k n head data).out.length ≤ 1000000 := by
  simp only [newI, sealB, rep_len]; omega
set_option maxHeartbeats 4000000 in
theorem law20_WorldNew_ae (k : Int) (seed : Int) (md : Bool) (h : AHeap) : AE Try.prog 4 [.int .i64 k, .int .u64 seed, .bool md] h (.bool true) h := by
  refine AE.pureW is_law20_WorldNew (by simp) ?_
  unfold c_law20_WorldNew
  (refine go ?_)
  cases hk : isG k with
  | false =>
    refine WL.call rfl (by first | exact True.intro | exact rfl) gSL (world_New_no md k hk seed _) ?_
    (refine go ?_)
    refine WL.call rfl (by first | exact True.intro | exact rfl) gSL (ref17_Is_ae k _) ?_
    rw [hk]
    (refine go ?_)
    refine WL.call rfl (by first | exact True.intro | exact rfl) gSL (law20_known_ae _) ?_
    (refine go ?_)
    refine WW.ret (PureQ.finD ?_)
    exact fz_b rfl
  | true =>
    have hkk := isG_cases hk
    obtain ⟨m, rfl⟩ : ∃ m : Nat, k = m := ⟨k.toNat, (Int.toNat_of_nonneg (by omega)).symm⟩
    refine WL.callA rfl (by first | exact True.intro | exact rfl) gSL (world_New_ac md m hk seed h) ?_
    rintro _ h1 ⟨n, rfl, hw, np, nl, no, nn, kk⟩
    replace kk := kk h (Keeps.refl _)
    (refine go ?_)
    refine WL.call rfl (by first | exact True.intro | exact rfl) gSL (ref17_Is_ae m _) ?_
    rw [hk]
    (refine go ?_)
    refine WL.call rfl (by first | exact True.intro | exact rfl) gSL (world_Key_ae hw (by simp [ws0, KsS.cur])) ?_
    have hkey : (ws0 m seed).key = ofK seed 1 := by simp [WS.key, ws0, KsS.cur]
    have hcur : (ws0 m seed).ks.cur = 1 := by simp [ws0, KsS.cur]
    rw [hkey, hcur]
    have hob := hw.w
    have hnx := hw.nx
    have hol := hw.ol
    have hop := hw.op
    simp only [wRow] at hob
    (repeat first | refine WW.seq ?_ | refine WW.reg ?_ | refine WL.nil ?_ | refine WW.skip ?_ | refine WW.block ?_ | refine thenN ?_ | refine blkN ?_); iterate 5 (refine WL.go ?_)
    (repeat first | refine WW.seq ?_ | refine WW.reg ?_ | refine WL.nil ?_ | refine WW.skip ?_ | refine WW.block ?_ | refine thenN ?_ | refine blkN ?_); iterate 1 (refine WL.go ?_)
    (repeat first | refine WW.seq ?_ | refine WW.reg ?_ | refine WL.nil ?_ | refine WW.skip ?_ | refine WW.block ?_ | refine thenN ?_ | refine blkN ?_)
    refine WW.dregX [6] [] [n.o, n.t] gN (by decide +kernel) ?_
    (refine go ?_)
    refine DW.callSW rfl (by first | exact True.intro | exact rfl) (vs := [.ptr n.l 0 0, .agg (encP (ofK seed 1)), .agg (encN (0, 0, 0)), .imm 1 (([] : Bs).map encB), .imm 1 (([] : Bs).map encB)]) gSL rfl rfl phi_lk (lock_SealW_ae (hw.lk.same gE fun e => ⟨?_, ?_, ?_⟩) (by simp [ws0]) (ofK seed 1) (0, 0, 0) [] [] (by simp) (by simp)) ?_
    · have := hw.oo e; exact gE
    · have := hw.oo e; exact gE
    · have := hw.oo e; exact gE
    refine DW.endL ?_
    refine thenN ?_
    have hoo : md = true → n.o < n.a ∧ n.t < n.a ∧ n.p ≠ n.o ∧ n.p ≠ n.t ∧ n.l ≠ n.o ∧ n.l ≠ n.t := fun e => by
      obtain ⟨q0, q1, q2, q3⟩ := hw.lk.id e
      have key : ∀ {i j : Nat} {y z : AObj}, h1.get i = some y → h1.get j = some z → y ≠ z → i ≠ j := fun hi hj hne e => by
        subst e; rw [hi] at hj; exact hne (Option.some.inj hj)
      exact ⟨(hw.oo e).1, (hw.oo e).2.1, key hw.sd.pw q1 (by simp), key hw.sd.pw q2 (by simp), key q0 q1 (by simp), key q0 q2 (by simp)⟩
    refine WW.named (fun hG => hG.get (n.a + 10) = some (.mem 7 [wRow n m]) ∧ hG.get (n.a + 1) = some ((sd0 (m * 160 + 120)).obj ⟨n.p, n.a + 1, n.a, n.a + 2, n.a + 3⟩) ∧ hG.get (n.a + 7) = some (CtS.obj n.p ⟨0, 0, 0⟩) ∧ hG.get n.p = some (.mem 4 [(⟨false, false, 0, 0⟩ : PwS).row]) ∧ hG.get h1.next = some (.mem 2 [encP (ofK seed 1)]) ∧
      LkAt md hG n.l n.o n.t n.q (sealL md [] (ofK seed 1) (0, 0, 0) [] []) [] ∧ Keeps h hG) ⟨?_, ?_, ?_, ?_, ?_, ?_, ?_⟩ ?_
    · exact (lkPut_get fun e => by have := hoo e; omega).trans ((gE : _ = h1.get (n.a + 10)).trans hw.w)
    · exact (lkPut_get fun e => by have := hoo e; omega).trans ((gE : _ = h1.get (n.a + 1)).trans hw.sd.ob)
    · exact (lkPut_get fun e => by have := hoo e; omega).trans ((gE : _ = h1.get (n.a + 7)).trans hw.ct)
    · exact (lkPut_get fun e => by have := hoo e; omega).trans ((gE : _ = h1.get n.p).trans hw.sd.pw)
    · exact (lkPut_get fun e => by have := hoo e; omega).trans gH
    · refine lkPut_at (hw.lk.same gE fun e => ⟨?_, ?_, ?_⟩) fun e => by subst e; rfl
      · have := hw.oo e; exact gE
      · have := hw.oo e; exact gE
      · have := hw.oo e; exact gE
    · exact lkPut_keeps gK fun e => ⟨(no e).1, (no e).2.1⟩
    rintro hG ⟨g1, g2, g3, g4, g5, g6, g7⟩
    simp only [wRow] at g1
    (refine go ?_)
    (refine DW.spB rfl (fun hz1 => ?_) (fun hz1 => ?_))
    rotate_left
    · exfalso; simp at hz1
    (refine go ?_)
    refine DW.callS rfl (by first | exact True.intro | exact rfl) gSL rfl (ssd_Size_ae (n := ⟨n.p, n.a + 1, n.a, n.a + 2, n.a + 3⟩) (x := sd0 (m * 160 + 120)) g2) ?_
    (refine go ?_)
    refine DW.callS rfl (by first | exact True.intro | exact rfl) gSL rfl (ref17_Size_ae m _) ?_
    have hs1 : (((sd0 (m * 160 + 120)).lasts.length : Nat) : Int) = sizeG m := by rw [sizeG, if_pos hk]; simp [sd0]
    (refine go ?_)
    (refine DW.spB rfl (fun hz2 => ?_) (fun hz2 => ?_))
    rotate_left
    · exfalso; exact hz2 hs1
    (refine go ?_)
    refine DW.callS rfl (by first | exact True.intro | exact rfl) gSL rfl (ref14_Of_ae seed 1 (by decide) _) ?_
    (refine go ?_)
    (refine DW.spB rfl (fun hz3 => ?_) (fun hz3 => ?_))
    rotate_left
    · exfalso; simp at hz3
    (refine go ?_)
    refine DW.callS rfl (by first | exact True.intro | exact rfl) gSL rfl (count_Value_ae (s := ⟨0, 0, 0⟩) g3) ?_
    (refine go ?_)
    refine DW.callS rfl (by first | exact True.intro | exact rfl) gSL rfl (count_Boots_ae (s := ⟨0, 0, 0⟩) g3) ?_
    (refine go ?_)
    refine DW.callS rfl (by first | exact True.intro | exact rfl) gSL rfl (power_On_ae g4) ?_
    (refine go ?_)
    refine DW.callS rfl (by first | exact True.intro | exact rfl) gSL rfl (lock_IssuedW_ae g6 (fun e => by subst e; rfl) (by cases md <;> simp [sealL]) (fun x hx => by
      cases md with
      | false => simp [sealL] at hx
      | true =>
        simp only [sealL, List.nil_append, List.mem_singleton] at hx
        subst hx
        exact isIss (by simp) (by simp))) ?_
    (refine go ?_)
    (refine DW.spB rfl (fun hz4 => ?_) (fun hz4 => ?_))
    rotate_left
    · exfalso; cases md <;> simp [sealL] at hz4
    (refine go ?_)
    refine DW.callS rfl (by first | exact True.intro | exact rfl) gSL rfl (law20_known_ae _) ?_
    (refine go ?_)
    refine WW.ret (PureQ.finD ?_)
    exact fz_b rfl
theorem bool_of20 {c : List AV} (t : TypL [.b] c) : ∃ v : Bool, c = [.bool v] := by
  obtain ⟨v, vs, rfl, h1, h2⟩ := t.cons_inv
  obtain rfl := h2.nil_inv
  obtain ⟨x, rfl⟩ := h1.bool_inv
  exact ⟨x, rfl⟩
theorem top_WorldNew (c0 : List AV) (t0 : TypL [.i .i64] c0) (c1 : List AV) (t1 : TypL [.i .u64] c1) (c2 : List AV) (t2 : TypL [.b] c2) :
    AE Try.prog 4 [c0.headD .nilp, c1.headD .nilp, c2.headD .nilp] noHeap (.bool true) noHeap := by
  obtain ⟨k, rfl, _⟩ := int_of t0
  obtain ⟨seed, rfl, _⟩ := int_of t1
  obtain ⟨md, rfl⟩ := bool_of20 t2
  exact law20_WorldNew_ae k seed md noHeap
end Go.Proofs.Ytjehfcjfnmcjcaa


