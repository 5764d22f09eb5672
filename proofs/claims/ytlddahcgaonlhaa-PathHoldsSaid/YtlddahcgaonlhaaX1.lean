/- Speck: the code's and the document's. -/
import Derived.Test.YtlddahcgaonlhaaCX
import Derived.Test.YtlddahcgaonlhaaX0
set_option linter.all false
namespace Go.Proofs.Ytlddahcgaonlhaa
open Go Go.Abs

theorem or_comm64 (a b : Int) : o64 a b = o64 b a := by
  unfold o64 bits
  simp only [BitVec.or_comm]
theorem fz_u64 {h h1 : AHeap} {a b : Int} (e : a = b) : Fz h h1 (.int .u64 a) (.int .u64 b) := by subst e; exact fz_i rfl
theorem rot_R8_ae (x : Int) (h : AHeap) : AE Try.prog 120 [.int .u64 x, .int .i64 (-8)] h (.int .u64 (rotR8 x)) h := by
  refine AE.pureW is_math_bits_RotateLeft64 (by simp) ?_
  unfold c_math_bits_RotateLeft64
  (repeat first | refine WW.seq ?_ | refine WW.reg ?_ | refine WL.nil ?_ | refine WW.skip ?_ | refine WW.block ?_ | refine thenN ?_ | refine blkN ?_); iterate 1 (refine WL.go ?_)
  (repeat first | refine WW.seq ?_ | refine WW.reg ?_ | refine WL.nil ?_ | refine WW.skip ?_ | refine WW.block ?_ | refine thenN ?_ | refine blkN ?_); iterate 1 (refine WL.go ?_)
  refine WL.auto (Stp.conv rfl (show IntKind.u64.wrap (-8) = 18446744073709551608 from rfl) (by first | exact True.intro | exact rfl)) ?_
  refine WL.auto (Stp.bin rfl rfl (show _ = some (AV.int .u64 56) from rfl) (by first | exact True.intro | exact rfl)) ?_
  (refine go ?_)
  refine WW.ret (PureQ.finD ?_)
  exact fz_i rfl
theorem rot_L3_ae (x : Int) (h : AHeap) : AE Try.prog 120 [.int .u64 x, .int .i64 3] h (.int .u64 (rotL3 x)) h := by
  refine AE.pureW is_math_bits_RotateLeft64 (by simp) ?_
  unfold c_math_bits_RotateLeft64
  (refine go ?_)
  refine WW.ret (PureQ.finD ?_)
  exact fz_i rfl
theorem speck_mix_ae (x y k : Int) (h : AHeap) : AE Try.prog 117 [.int .u64 x, .int .u64 y, .int .u64 k] h (.tup [.int .u64 (mixF x y k).1, .int .u64 (mixF x y k).2]) h := by
  refine AE.pureW is_speck_mix (by simp) ?_
  unfold c_speck_mix
  (refine go ?_)
  refine WL.call rfl (by first | exact True.intro | exact rfl) (by repeat first | exact SubL.nil | refine SubL.cons (SubV.refl _) ?_ | refine SubL.cons SubV.app ?_ | refine SubL.cons SubV.nil ?_) (rot_R8_ae _ _) ?_
  (refine go ?_)
  refine WL.call rfl (by first | exact True.intro | exact rfl) (by repeat first | exact SubL.nil | refine SubL.cons (SubV.refl _) ?_ | refine SubL.cons SubV.app ?_ | refine SubL.cons SubV.nil ?_) (rot_L3_ae _ _) ?_
  (refine go ?_)
  refine WW.ret (PureQ.finD ?_)
  exact Fz.tup2 (fz_i rfl) (fz_i rfl)
theorem ref2_R8_ae (x : Int) (h : AHeap) : AE Try.prog 110 [.int .u64 x, .int .u64 8] h (.int .u64 (rotR8 x)) h := by
  refine AE.pureW is_ref2_right (by simp) ?_
  unfold c_ref2_right
  (refine go ?_)
  refine WW.ret (PureQ.finD ?_)
  exact fz_u64 (or_comm64 _ _)
theorem ref2_L3_ae (x : Int) (h : AHeap) : AE Try.prog 111 [.int .u64 x, .int .u64 3] h (.int .u64 (rotL3 x)) h := by
  refine AE.pureW is_ref2_left (by simp) ?_
  unfold c_ref2_left
  (refine go ?_)
  refine WW.ret (PureQ.finD ?_)
  exact fz_i rfl
theorem flatP (p : Pr) : ∀ v ∈ encP p, AV.flat v = true := by simp [encP, AV.flat]
/-- A row of numbers. -/
def encW (v : Int) : List AV := [.int .u64 v]
theorem flatW (l : List Int) : flatC (l.map encW) := flatC_map fun v => by simp [encW, AV.flat]
theorem rkF_len : ∀ (n i : Nat) (l k : Int), (rkF n i l k).length = n
  | 0, _, _, _ => rfl
  | n + 1, i, l, k => by simp [rkF, rkF_len n]
theorem keysF_len (key : Pr) : (keysF key).length = 32 := rkF_len _ _ _ _
/-- Where the keys' making stands. -/
structure RkS where
  i : Nat
  l : Int
  k : Int
  a : List Int
theorem rk_step {key : Pr} {s : RkS} (h1 : s.i < 32) (h2 : keysF key = s.a ++ rkF (32 - s.i) s.i s.l s.k) : keysF key = (s.a ++ [s.k]) ++ rkF (32 - (s.i + 1)) (s.i + 1) (mixF s.l s.k (s.i : Int)).1 (mixF s.l s.k (s.i : Int)).2 := by
  rw [h2, List.append_assoc]
  congr 1
  rw [show 32 - s.i = (32 - (s.i + 1)) + 1 by omega]
  rfl
theorem u64_inc {i : Nat} (hi : i < 4294967296) : binA .add .u64 (i : Int) 1 = some (.int .u64 ((i + 1 : Nat) : Int)) := by
  show some (AV.int .u64 (IntKind.u64.wrap ((i : Int) + 1))) = _
  rw [wrap_in (by constructor <;> omega)]; rfl
theorem speck_Keys_ae (key : Pr) (h : AHeap) : AE Try.prog 116 [.agg (encP key)] h (.imm 1 ((keysF key).map encW)) h := by
  refine AE.pureW is_speck_Keys (by simp) ?_
  unfold c_speck_Keys
  (refine go ?_)
  refine WW.cvt (Cvt.adopt 1 (s := 5) rfl gN) ?_
  refine WW.loopE (fun (s : RkS) => [(3, some (.int .u64 s.l)), (4, some (.int .u64 s.k)), (5, some (.app (h.next + 1) 0 1 (s.a.map encW))), (11, some (.int .u64 s.i))])
    (fun s h' => h'.get (h.next + 1) = some (.tail 0 s.i) ∧ Keeps h h' ∧ s.i ≤ 32 ∧ s.a.length = s.i ∧ keysF key = s.a ++ rkF (32 - s.i) s.i s.l s.k) (fun s => 32 - s.i) ⟨0, key.1, key.2, []⟩ (by repeat first | exact subE.nil _ | (apply subE.cons; focus (first | exact rfl | (simp [lk_cons]; done) | (simp [lk_cons]; omega)))) ⟨(by repeat first | exact get_put_tl (by first | rfl | exact List.length_map _ | (simp; done) | (simp; omega)) | exact get_set_tl (by first | rfl | exact List.length_map _ | (simp; done) | (simp; omega)) | assumption | with_reducible apply get_put_neE (by omega) | with_reducible apply get_set_neE (by omega)), (by repeat first | with_reducible exact Keeps.refl _ | with_reducible refine Keeps.put ?_ (by omega) _ | with_reducible refine Keeps.set ?_ (by omega) _ | assumption), by simp, rfl, rfl⟩ ?_
  rintro ⟨i, l, k, a⟩ h' ⟨g1, g2, g3, g4, g5⟩
  simp only at g1 g2 g3 g4 g5
  (refine go ?_)
  (refine WW.ifB rfl (fun hz1 => ?_) (fun hz1 => ?_))
  · have hi : i < 32 := by simp only at hz1; omega
    (refine go ?_)
    refine WL.call rfl (by first | exact True.intro | exact rfl) (by repeat first | exact SubL.nil | refine SubL.cons (SubV.refl _) ?_ | refine SubL.cons SubV.app ?_ | refine SubL.cons SubV.nil ?_) (speck_mix_ae _ _ _ _) ?_
    (refine go ?_)
    refine ⟨⟨i + 1, (mixF l k (i : Int)).1, (mixF l k (i : Int)).2, a ++ [k]⟩, (by repeat first | exact subE.nil _ | (apply subE.cons; focus (first | exact rfl | (simp [lk_cons, encW]; done) | (simp [lk_cons, encW]; omega)))), ⟨(by repeat first | exact get_put_tl (by first | rfl | exact List.length_map _ | (simp; done) | (simp; omega)) | exact get_set_tl (by first | rfl | exact List.length_map _ | (simp; done) | (simp; omega)) | assumption | with_reducible apply get_put_neE (by omega) | with_reducible apply get_set_neE (by omega)), (by repeat first | with_reducible exact Keeps.refl _ | with_reducible refine Keeps.put ?_ (by omega) _ | with_reducible refine Keeps.set ?_ (by omega) _ | assumption), hi, by simp [g4], rk_step (s := ⟨i, l, k, a⟩) hi g5⟩, (by show 32 - (i + 1) < 32 - i; omega)⟩
  · (refine go ?_)
    refine WW.ret (PureQ.finD ?_)
    refine fz_app ?_ (flatW _)
    rw [g5, show 32 - i = 0 by simp only at hz1; omega]
    simp [rkF]
theorem ref2_Keys_ae (key : Pr) (h : AHeap) : AE Try.prog 109 [.agg (encP key)] h (.imm 1 ((keysF key).map encW)) h := by
  refine AE.pureW is_ref2_Keys (by simp) ?_
  unfold c_ref2_Keys
  (refine go ?_)
  refine WW.cvt (Cvt.adopt 1 (s := 5) rfl gN) ?_
  refine WW.loopE (fun (s : RkS) => [(3, some (.int .u64 s.l)), (4, some (.int .u64 s.k)), (5, some (.app (h.next + 1) 0 1 (s.a.map encW))), (6, some (.int .i64 s.i))])
    (fun s h' => h'.get (h.next + 1) = some (.tail 0 s.i) ∧ Keeps h h' ∧ s.i ≤ 32 ∧ s.a.length = s.i ∧ keysF key = s.a ++ rkF (32 - s.i) s.i s.l s.k) (fun s => 32 - s.i) ⟨0, key.1, key.2, []⟩ (by repeat first | exact subE.nil _ | (apply subE.cons; focus (first | exact rfl | (simp [lk_cons]; done) | (simp [lk_cons]; omega)))) ⟨(by repeat first | exact get_put_tl (by first | rfl | exact List.length_map _ | (simp; done) | (simp; omega)) | exact get_set_tl (by first | rfl | exact List.length_map _ | (simp; done) | (simp; omega)) | assumption | with_reducible apply get_put_neE (by omega) | with_reducible apply get_set_neE (by omega)), (by repeat first | with_reducible exact Keeps.refl _ | with_reducible refine Keeps.put ?_ (by omega) _ | with_reducible refine Keeps.set ?_ (by omega) _ | assumption), by simp, rfl, rfl⟩ ?_
  rintro ⟨i, l, k, a⟩ h' ⟨g1, g2, g3, g4, g5⟩
  simp only at g1 g2 g3 g4 g5
  (refine go ?_)
  (refine WW.ifB rfl (fun hz1 => ?_) (fun hz1 => ?_))
  · have hi : i < 32 := by simp only at hz1; omega
    (refine go ?_)
    refine WL.call rfl (by first | exact True.intro | exact rfl) (by repeat first | exact SubL.nil | refine SubL.cons (SubV.refl _) ?_ | refine SubL.cons SubV.app ?_ | refine SubL.cons SubV.nil ?_) (ref2_R8_ae _ _) ?_
    (refine go ?_)
    refine WL.call rfl (by first | exact True.intro | exact rfl) (by repeat first | exact SubL.nil | refine SubL.cons (SubV.refl _) ?_ | refine SubL.cons SubV.app ?_ | refine SubL.cons SubV.nil ?_) (ref2_L3_ae _ _) ?_
    (refine go ?_)
    refine ⟨⟨i + 1, (mixF l k (i : Int)).1, (mixF l k (i : Int)).2, a ++ [k]⟩, (by repeat first | exact subE.nil _ | (apply subE.cons; focus (first | exact rfl | (simp [lk_cons, encW]; done) | (simp [lk_cons, encW]; omega)))), ⟨(by repeat first | exact get_put_tl (by first | rfl | exact List.length_map _ | (simp; done) | (simp; omega)) | exact get_set_tl (by first | rfl | exact List.length_map _ | (simp; done) | (simp; omega)) | assumption | with_reducible apply get_put_neE (by omega) | with_reducible apply get_set_neE (by omega)), (by repeat first | with_reducible exact Keeps.refl _ | with_reducible refine Keeps.put ?_ (by omega) _ | with_reducible refine Keeps.set ?_ (by omega) _ | assumption), hi, by simp [g4], rk_step (s := ⟨i, l, k, a⟩) hi g5⟩, (by show 32 - (i + 1) < 32 - i; omega)⟩
  · (refine go ?_)
    refine WW.ret (PureQ.finD ?_)
    refine fz_app ?_ (flatW _)
    rw [g5, show 32 - i = 0 by simp only at hz1; omega]
    simp [rkF]
theorem speck_Encrypt_ae (key block : Pr) (h : AHeap) : AE Try.prog 103 [.agg (encP key), .agg (encP block)] h (.agg (encP (encF key block))) h := by
  refine AE.pureW is_speck_Encrypt (by simp) ?_
  unfold c_speck_Encrypt
  (refine go ?_)
  refine WL.call rfl (by first | exact True.intro | exact rfl) (by repeat first | exact SubL.nil | refine SubL.cons (SubV.refl _) ?_ | refine SubL.cons SubV.app ?_ | refine SubL.cons SubV.nil ?_) (speck_Keys_ae key _) ?_
  (refine go ?_)
  have hl := keysF_len key
  refine WW.loopE (fun (s : Nat × Pr) => [(5, some (.int .u64 s.2.1)), (6, some (.int .u64 s.2.2)), (14, some (.imm 1 ((keysF key).map encW))), (15, some (.int .i64 (keysF key).length)), (16, some (.int .i64 s.1)), (4, some (.ptr (h.next + 2) 0 0))])
    (fun s h' => h'.get (h.next + 2) = some (.mem 2 [[.int .u64 0, .int .u64 0]]) ∧ h'.next = h.next + 3 ∧ Keeps h h' ∧ s.1 ≤ (keysF key).length ∧ encF key block = ((keysF key).drop s.1).foldl (fun s k => mixF s.1 s.2 k) s.2) (fun s => (keysF key).length - s.1) (0, block) (by repeat first | exact subE.nil _ | (apply subE.cons; focus (first | exact rfl | (simp [lk_cons]; done) | (simp [lk_cons]; omega)))) ⟨gH, gN, (by repeat first | with_reducible exact Keeps.refl _ | with_reducible refine Keeps.put ?_ (by omega) _ | with_reducible refine Keeps.set ?_ (by omega) _ | assumption), by simp, by simp [encF]⟩ ?_
  rintro ⟨i, x, y⟩ h' ⟨g1, g2, g3, g4, g5⟩
  simp only at g1 g2 g3 g4 g5
  (refine go ?_)
  (refine WW.ifB rfl (fun hz1 => ?_) (fun hz1 => ?_))
  · have hi : i < (keysF key).length := by simp only at hz1; omega
    (refine go ?_)
    refine WL.call rfl (by first | exact True.intro | exact rfl) (by repeat first | exact SubL.nil | refine SubL.cons (SubV.refl _) ?_ | refine SubL.cons SubV.app ?_ | refine SubL.cons SubV.nil ?_) (speck_mix_ae _ _ _ _) ?_
    (refine go ?_)
    refine ⟨(i + 1, mixF x y (keysF key)[i]), (by repeat first | exact subE.nil _ | (apply subE.cons; focus (first | exact rfl | (simp [lk_cons]; done) | (simp [lk_cons]; omega)))), ⟨gH, gN, (by repeat first | with_reducible exact Keeps.refl _ | with_reducible refine Keeps.put ?_ (by omega) _ | with_reducible refine Keeps.set ?_ (by omega) _ | assumption), hi, ?_⟩, (by show _ - (i + 1) < _ - i; omega)⟩
    rw [g5, List.drop_eq_getElem_cons hi]; rfl
  · have hi : i = (keysF key).length := by simp only at hz1; omega
    (refine go ?_)
    refine WW.ret (PureQ.finD ?_)
    rw [g5, hi, List.drop_length]
    exact fz_agg rfl (flatP (x, y))
theorem ref2_Encrypt_ae (key block : Pr) (h : AHeap) : AE Try.prog 92 [.agg (encP key), .agg (encP block)] h (.agg (encP (encF key block))) h := by
  refine AE.pureW is_ref2_Encrypt (by simp) ?_
  unfold c_ref2_Encrypt
  (refine go ?_)
  refine WL.call rfl (by first | exact True.intro | exact rfl) (by repeat first | exact SubL.nil | refine SubL.cons (SubV.refl _) ?_ | refine SubL.cons SubV.app ?_ | refine SubL.cons SubV.nil ?_) (ref2_Keys_ae key _) ?_
  (refine go ?_)
  have hl := keysF_len key
  refine WW.loopE (fun (s : Nat × Pr) => [(5, some (.int .u64 s.2.1)), (6, some (.int .u64 s.2.2)), (7, some (.imm 1 ((keysF key).map encW))), (8, some (.int .i64 s.1)), (4, some (.ptr (h.next + 2) 0 0))])
    (fun s h' => h'.get (h.next + 2) = some (.mem 2 [[.int .u64 0, .int .u64 0]]) ∧ h'.next = h.next + 3 ∧ Keeps h h' ∧ s.1 ≤ (keysF key).length ∧ encF key block = ((keysF key).drop s.1).foldl (fun s k => mixF s.1 s.2 k) s.2) (fun s => (keysF key).length - s.1) (0, block) (by repeat first | exact subE.nil _ | (apply subE.cons; focus (first | exact rfl | (simp [lk_cons]; done) | (simp [lk_cons]; omega)))) ⟨gH, gN, (by repeat first | with_reducible exact Keeps.refl _ | with_reducible refine Keeps.put ?_ (by omega) _ | with_reducible refine Keeps.set ?_ (by omega) _ | assumption), by simp, by simp [encF]⟩ ?_
  rintro ⟨i, x, y⟩ h' ⟨g1, g2, g3, g4, g5⟩
  simp only at g1 g2 g3 g4 g5
  (refine go ?_)
  (refine WW.ifB rfl (fun hz1 => ?_) (fun hz1 => ?_))
  · have hi : i < (keysF key).length := by simp only at hz1; omega
    (refine go ?_)
    refine DW.callS rfl (by first | exact True.intro | exact rfl) (by repeat first | exact SubL.nil | refine SubL.cons (SubV.refl _) ?_ | refine SubL.cons SubV.app ?_ | refine SubL.cons SubV.nil ?_) rfl (ref2_R8_ae _ _) ?_
    (refine go ?_)
    refine WL.call rfl (by first | exact True.intro | exact rfl) (by repeat first | exact SubL.nil | refine SubL.cons (SubV.refl _) ?_ | refine SubL.cons SubV.app ?_ | refine SubL.cons SubV.nil ?_) (ref2_L3_ae _ _) ?_
    (refine go ?_)
    refine ⟨(i + 1, mixF x y (keysF key)[i]), (by repeat first | exact subE.nil _ | (apply subE.cons; focus (first | exact rfl | (simp [lk_cons]; done) | (simp [lk_cons]; omega)))), ⟨gH, gN, (by repeat first | with_reducible exact Keeps.refl _ | with_reducible refine Keeps.put ?_ (by omega) _ | with_reducible refine Keeps.set ?_ (by omega) _ | assumption), hi, ?_⟩, (by show _ - (i + 1) < _ - i; omega)⟩
    rw [g5, List.drop_eq_getElem_cons hi]; rfl
  · have hi : i = (keysF key).length := by simp only at hz1; omega
    (refine go ?_)
    refine WW.ret (PureQ.finD ?_)
    rw [g5, hi, List.drop_length]
    exact fz_agg rfl (flatP (x, y))
end Go.Proofs.Ytlddahcgaonlhaa
