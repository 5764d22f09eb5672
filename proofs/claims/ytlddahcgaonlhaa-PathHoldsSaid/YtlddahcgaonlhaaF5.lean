/- Bytes: rows that are taken over, compared; numbers as bytes. -/
import Derived.Test.YtlddahcgaonlhaaC
import Derived.Test.YtlddahcgaonlhaaAC
set_option linter.all false
namespace Go.Proofs.Ytlddahcgaonlhaa
open Go Go.Abs
instance moI : MO Try.prog := ⟨by kernel_rfl⟩

abbrev Bs := List UInt8
theorem encB_flat (b : UInt8) : ∀ v ∈ encB b, AV.flat v = true := by simp [encB, AV.flat]
theorem flatB (l : Bs) : flatC (l.map encB) := flatC_map encB_flat

theorem bytes_Clone_ae (l : Bs) (hl : l.length ≤ 1000000) (h : AHeap) : AE Try.prog 80 [.imm 1 (l.map encB)] h (.imm 1 (l.map encB)) h := by
  refine AE.pureW is_bytes_Clone (by simp) ?_
  unfold c_bytes_Clone
  (refine go ?_)
  refine WL.fq1 (FQ.isnil rfl (by first | exact True.intro | exact rfl)) ?_
  rintro _ _ ⟨b, rfl, rfl, hb⟩
  (refine go ?_)
  (refine WW.ifB rfl (fun hz1 => ?_) (fun hz1 => ?_))
  · (refine go ?_)
    refine WW.ret (PureQ.finD ?_)
    have : l = [] := by simpa using hb hz1
    subst this
    exact .nil _
  · (refine go ?_)
    refine WW.ret (PureQ.finD ?_)
    exact fz_app rfl (flatB l)
theorem bytes_Equal_ae (a b : Bs) (h : AHeap) : AE Try.prog 82 [.imm 1 (a.map encB), .imm 1 (b.map encB)] h (.bool (a == b)) h := by
  refine AE.pureW is_bytes_Equal (by simp) ?_
  unfold c_bytes_Equal
  (refine go ?_)
  refine WW.ret (PureQ.finD ?_)
  exact fz_b rfl

/-- Byte i of n of a number, the highest first. -/
def byteOf (v : Int) (n i : Nat) : UInt8 := UInt8.ofNat ((v / 2 ^ (8 * (n - 1 - i))) % 256).toNat
def putB (v : Int) (n : Nat) : Bs := if n < 1 ∨ 8 < n then [] else (List.range n).map (byteOf v n)
theorem wrap_u8 (a : Int) : IntKind.u8.wrap a = ((UInt8.ofNat (a % 256).toNat).toNat : Int) := by
  have : IntKind.u8.wrap a = a % 256 := rfl
  rw [this]
  have h1 := Int.emod_nonneg a (show (256 : Int) ≠ 0 by decide)
  have h2 := Int.emod_lt_of_pos a (show (0 : Int) < 256 by decide)
  simp
  omega
theorem sh_byte {v b : Int} {k : Nat} (hb : b = ((8 * k : Nat) : Int)) (hk : 8 * k ≤ 64) : shA .shr .u64 v b = some (.int .u64 (v / 2 ^ (8 * k))) := by
  subst hb
  have h0 : (0 : Int) ≤ ((8 * k : Nat) : Int) := Int.natCast_nonneg _
  show req (0 ≤ ((8 * k : Nat) : Int)) _ = _
  rw [req_pos h0]
  have h1 : min (((8 * k : Nat) : Int).toNat) IntKind.u64.bits = 8 * k := by
    have : IntKind.u64.bits = 64 := rfl
    rw [this]; simp; omega
  rw [h1, Int.fdiv_eq_ediv_of_nonneg _ (by exact Int.le_of_lt (Int.pow_pos (by decide)))]
theorem byteOf_eq (v : Int) {n i : Nat} : IntKind.u8.wrap (v / 2 ^ (8 * (n - 1 - i))) = ((byteOf v n i).toNat : Int) := wrap_u8 _

theorem wire_Put_ae (v : Int) (n : Int) (h : AHeap) (hn : 0 ≤ n ∧ n ≤ 8) : AE Try.prog 79 [.int .u64 v, .int .i64 n] h (.imm 1 ((putB v n.toNat).map encB)) h := by
  obtain ⟨m, rfl⟩ := Int.eq_ofNat_of_zero_le hn.1
  refine AE.pureW is_wire_Put (by simp) ?_
  unfold c_wire_Put
  (refine go ?_)
  (apply WL.orB; exact rfl; exact rfl; exact rfl; exact BP.of; intro hz1)
  · (repeat first | (apply GW.goS; exact Stp.auto) | apply GW.nil | exact rfl)
  (refine go ?_)
  (refine WW.ifB rfl (fun hz2 => ?_) (fun hz2 => ?_))
  · (refine go ?_)
    refine WW.ret (PureQ.finD ?_)
    have : putB v m = [] := by
      rw [putB, if_pos]
      simp at hz2
      omega
    simp [this]
    exact .nil _
  have hm : 1 ≤ m ∧ m ≤ 8 := by simp at hz2; omega
  (refine go ?_)
  refine WW.loopE (fun (i : Nat) => [(0, some (.int .u64 v)), (1, some (.int .i64 m)), (5, some (.ref h.next 0 m)), (16, some (.int .i64 m)), (17, some (.int .i64 i))])
    (fun i h' => h'.get h.next = some (.mem 1 ((List.range m).map fun k => if k < i then encB (byteOf v m k) else [.int .u8 0])) ∧ Keeps h h' ∧ i ≤ m) (fun i => m - i) 0 (by repeat first | exact subE.nil _ | (apply subE.cons; focus (first | exact rfl | (simp [lk_cons]; done) | (simp [lk_cons]; omega)))) ⟨?_, (by repeat first | with_reducible exact Keeps.refl _ | with_reducible refine Keeps.put ?_ (by omega) _ | with_reducible refine Keeps.set ?_ (by omega) _ | assumption), by omega⟩ ?_
  · rw [← upto_none (x := [.int .u8 0]) (by intros; rfl)]
    exact gH
  rintro i h' ⟨g1, g2, g3⟩
  (refine go ?_)
  (refine WW.ifB rfl (fun hz3 => ?_) (fun hz3 => ?_))
  · (refine go ?_)
    have e1 : (8 : Int) * ((m : Int) - 1 - (i : Int)) = ((8 * (m - 1 - i) : Nat) : Int) := by omega
    refine WL.auto (Stp.sh rfl rfl (sh_byte e1 (by omega)) (by first | exact True.intro | exact rfl)) ?_
    refine WL.auto (Stp.conv rfl (byteOf_eq v) (by first | exact True.intro | exact rfl)) ?_
    (refine go ?_)
    refine ⟨i + 1, (by repeat first | exact subE.nil _ | (apply subE.cons; focus (first | exact rfl | (simp [lk_cons]; done) | (simp [lk_cons]; omega)))), ⟨?_, (by repeat first | with_reducible exact Keeps.refl _ | with_reducible refine Keeps.put ?_ (by omega) _ | with_reducible refine Keeps.set ?_ (by omega) _ | assumption), by omega⟩, by omega⟩
    rw [get_set_same, Nat.zero_add, set_upto (by simp [putC, AV.cs, encB])]
  · (refine go ?_)
    refine WW.ret (PureQ.finD ?_)
    rw [upto_all (by omega)] at g1
    refine fz_ref g1 (Nat.le_refl _) (by simp) ?_ (flatC_map fun _ => encB_flat _)
    rw [putB, if_neg (by omega)]
    simp
theorem ref1_Put_ae (v : Int) (n : Int) (h : AHeap) (hn : 0 ≤ n ∧ n ≤ 8) : AE Try.prog 97 [.int .u64 v, .int .i64 n] h (.imm 1 ((putB v n.toNat).map encB)) h := by
  obtain ⟨m, rfl⟩ := Int.eq_ofNat_of_zero_le hn.1
  refine AE.pureW is_ref1_Put (by simp) ?_
  unfold c_ref1_Put
  (refine go ?_)
  (apply WL.orB; exact rfl; exact rfl; exact rfl; exact BP.of; intro hz1)
  · (repeat first | (apply GW.goS; exact Stp.auto) | apply GW.nil | exact rfl)
  (refine go ?_)
  (refine WW.ifB rfl (fun hz2 => ?_) (fun hz2 => ?_))
  · (refine go ?_)
    refine WW.ret (PureQ.finD ?_)
    have : putB v m = [] := by
      rw [putB, if_pos]
      simp at hz2
      omega
    simp [this]
    exact .nil _
  have hm : 1 ≤ m ∧ m ≤ 8 := by simp at hz2; omega
  (refine go ?_)
  refine WW.cvt (Cvt.adopt 1 (s := 5) rfl gN) ?_
  refine WW.loopE (fun (i : Nat) => [(0, some (.int .u64 v)), (1, some (.int .i64 m)), (5, some (.app h.next 0 1 (((List.range i).map (byteOf v m)).map encB))), (6, some (.int .i64 ((m : Int) - 1 - i)))])
    (fun i h' => h'.get h.next = some (.tail 0 i) ∧ Keeps h h' ∧ i ≤ m) (fun i => m - i) 0 (by repeat first | exact subE.nil _ | (apply subE.cons; focus (first | exact rfl | (simp [lk_cons]; done) | (simp [lk_cons]; omega)))) ⟨(by repeat first | exact get_put_tl (by first | rfl | exact List.length_map _ | (simp; done) | (simp; omega)) | exact get_set_tl (by first | rfl | exact List.length_map _ | (simp; done) | (simp; omega)) | assumption | with_reducible apply get_put_neE (by omega) | with_reducible apply get_set_neE (by omega)), (by repeat first | with_reducible exact Keeps.refl _ | with_reducible refine Keeps.put ?_ (by omega) _ | with_reducible refine Keeps.set ?_ (by omega) _ | assumption), by omega⟩ ?_
  rintro i h' ⟨g1, g2, g3⟩
  (refine go ?_)
  (refine WW.ifB rfl (fun hz3 => ?_) (fun hz3 => ?_))
  · (refine go ?_)
    have e1 : (8 : Int) * ((m : Int) - 1 - (i : Int)) = ((8 * (m - 1 - i) : Nat) : Int) := by omega
    refine WL.auto (Stp.sh rfl rfl (sh_byte e1 (by omega)) (by first | exact True.intro | exact rfl)) ?_
    refine WL.auto (Stp.conv rfl (byteOf_eq v) (by first | exact True.intro | exact rfl)) ?_
    (refine go ?_)
    refine ⟨i + 1, (by repeat first | exact subE.nil _ | (apply subE.cons; focus (first | exact rfl | (simp [lk_cons, List.range_succ, AV.cs, encB]; done) | (simp [lk_cons, List.range_succ, AV.cs, encB]; omega)))), ⟨(by repeat first | exact get_put_tl (by first | rfl | exact List.length_map _ | (simp; done) | (simp; omega)) | exact get_set_tl (by first | rfl | exact List.length_map _ | (simp; done) | (simp; omega)) | assumption | with_reducible apply get_put_neE (by omega) | with_reducible apply get_set_neE (by omega)), (by repeat first | with_reducible exact Keeps.refl _ | with_reducible refine Keeps.put ?_ (by omega) _ | with_reducible refine Keeps.set ?_ (by omega) _ | assumption), by omega⟩, by omega⟩
  · (refine go ?_)
    refine WW.ret (PureQ.finD ?_)
    refine fz_app ?_ (flatC_map fun _ => encB_flat _)
    have : i = m := by omega
    subst this
    rw [putB, if_neg (by omega)]
    rfl

theorem pr_beq (s t : Pr) : (s.1 == t.1 && (s.2 == t.2 && true)) = (s == t) := by
  rw [Bool.and_true]; rfl
theorem ref5_Same_ae (a b : Bs) (s t : Pr) (h : AHeap) : AE Try.prog 32 [.agg (.imm 1 (a.map encB) :: encP s), .agg (.imm 1 (b.map encB) :: encP t)] h (.bool (a == b && s == t)) h := by
  refine AE.pureW is_ref5_Same (by simp) ?_
  unfold c_ref5_Same
  (refine go ?_)
  (apply WL.andB; exact rfl; exact rfl; exact rfl; exact BP.of; intro hz1)
  · (repeat first | (apply GW.goS; exact Stp.auto) | apply GW.nil | exact rfl)
  (refine go ?_)
  refine WW.ret (PureQ.finD ?_)
  exact fz_b (by rw [← pr_beq])

theorem fdiv32 {a : Nat} (ha : a < 4294967296) : (a : Int).fdiv (2 ^ min (Int.toNat 32) IntKind.u64.bits) = 0 := by
  have h1 : min (Int.toNat 32) IntKind.u64.bits = 32 := rfl
  rw [h1, Int.fdiv_eq_ediv_of_nonneg _ (by decide)]
  omega
theorem and32 {a : Nat} (ha : a < 4294967296) : bits .and .u64 (a : Int) 4294967295 = a := by
  have h1 : bits .and .u64 (a : Int) ((4294967295 : Nat) : Int) = ((a &&& 4294967295 : Nat) : Int) := bits_and_u64_nat a 4294967295 (by omega) (by omega)
  have h2 : a &&& 4294967295 = a := by
    have := Nat.and_two_pow_sub_one_eq_mod a 32
    simp at this
    rw [this]; omega
  rw [h2] at h1
  exact h1
theorem wrapU {a : Nat} (ha : a < 18446744073709551616) : IntKind.u64.wrap (a : Int) = a := wrap_in (by constructor <;> omega)
/-- The lower half of a product, if it is small. -/
theorem bits_Mul64_ae (a b : Nat) (hab : a < 65536 ∧ b < 65536) (h : AHeap) : AE Try.prog 115 [.int .u64 a, .int .u64 b] h (.tup [.int .u64 0, .int .u64 (a * b : Nat)]) h := by
  have hp : a * b < 4294967296 := by
    have : a * b ≤ 65535 * 65535 := Nat.mul_le_mul (by omega) (by omega)
    omega
  have e1 := fdiv32 (a := a) (by omega)
  have e2 := fdiv32 (a := b) (by omega)
  have e3 := and32 (a := a) (by omega)
  have e4 := and32 (a := b) (by omega)
  have e5 : IntKind.u64.wrap ((a : Int) * b) = ((a * b : Nat) : Int) := by rw [← Int.natCast_mul]; exact wrapU (by omega)
  have e6 := fdiv32 (a := a * b) hp
  have e7 : IntKind.u64.wrap 0 = 0 := rfl
  have e8 : (0 : Int).fdiv (2 ^ min (Int.toNat 32) IntKind.u64.bits) = 0 := by simp
  have e9 : bits .and .u64 0 4294967295 = 0 := by rfl
  refine AE.pureW is_math_bits_Mul64 (by simp) ?_
  unfold c_math_bits_Mul64
  (refine go ?_)
  refine WW.ret (PureQ.finD ?_)
  refine Fz.tup2 (fz_i ?_) (fz_i (by first | exact e5 | simp))
  simp only [e1, e2, e3, e4, e5, e6, e7, e8, e9, Int.zero_mul, Int.mul_zero, Int.add_zero, Int.zero_add]
theorem bits_Mul_ae (a b : Nat) (hab : a < 65536 ∧ b < 65536) (h : AHeap) : AE Try.prog 100 [.int .u64 a, .int .u64 b] h (.tup [.int .u64 0, .int .u64 (a * b : Nat)]) h := by
  refine AE.pureW is_math_bits_Mul (by simp) ?_
  unfold c_math_bits_Mul
  (refine go ?_)
  refine WL.call rfl (by first | exact True.intro | exact rfl) (by repeat first | exact SubL.nil | refine SubL.cons (SubV.refl _) ?_ | refine SubL.cons SubV.app ?_ | refine SubL.cons SubV.nil ?_) (bits_Mul64_ae a b hab _) ?_
  (refine go ?_)
  refine WW.ret (PureQ.finD ?_)
  exact Fz.tup2 (fz_i rfl) (fz_i rfl)

/-- Room for more behind nothing. -/
theorem slices_Grow_ae (n : Nat) (hn : 0 < n ∧ n ≤ 100000000) (h : AHeap) : AE Try.prog 102 [.nils, .int .i64 n] h (.ref h.next 0 0) (h.put h.next (.mem 1 (List.replicate n [.int .u8 0]))) := by
  refine AC.introW is_slices_Growbyte_byte (by simp) ?_
  unfold c_slices_Growbyte_byte
  (refine go ?_)
  (refine WW.ifB rfl (fun hz2 => ?_) (fun hz2 => ?_))
  · (refine go ?_)
    refine WW.ret ⟨.inl rfl, _, (by repeat first | exact resA_nil | (apply resA_t; exact rfl) | (apply resA_c; exact rfl; exact gH; exact (by first | exact getC_at rfl rfl | exact getC_all rfl | exact getC_sub (Nat.le_of_ble_eq_true rfl) (by first | (simp only [putC, AV.cs, encP, encN, encI, encS, encA, List.take_succ_cons, List.take_zero, List.take_nil, List.drop_succ_cons, List.drop_zero, List.drop_nil, List.cons_append, List.nil_append, List.append_nil, List.length_cons, List.length_nil, Nat.zero_add, Nat.add_zero, Nat.reduceAdd]; exact rfl) | exact rfl) | exact getC_sub (by simp) (by first | (simp only [putC, AV.cs, encP, encN, encI, encS, encA, List.take_succ_cons, List.take_zero, List.take_nil, List.drop_succ_cons, List.drop_zero, List.drop_nil, List.cons_append, List.nil_append, List.append_nil, List.length_cons, List.length_nil, Nat.zero_add, Nat.add_zero, Nat.reduceAdd]; exact rfl) | exact rfl)))), rfl, rfl⟩
  · omega
end Go.Proofs.Ytlddahcgaonlhaa
