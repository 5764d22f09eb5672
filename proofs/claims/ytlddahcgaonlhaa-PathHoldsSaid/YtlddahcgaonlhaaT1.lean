/- Trees: how many slots; is it a tree; its top; neighbours. -/
import Derived.Test.YtlddahcgaonlhaaCT
import Derived.Test.YtlddahcgaonlhaaK0
set_option linter.all false
namespace Go.Proofs.Ytlddahcgaonlhaa
open Go Go.Abs


def isG (n : Int) : Bool := n == 4 || n == 8 || n == 16



theorem geom_Is_ae (n : Int) (h : AHeap) : AE Try.prog 58 [.int .i64 n] h (.bool (isG n)) h := by
  refine AE.pureW is_geom_Is (by simp) ?_
  unfold c_geom_Is
  (refine go ?_)
  (refine WL.spB rfl (fun hz => ?_) (fun hz => ?_)) <;> (refine go ?_)
  · refine WW.ret (PureQ.finD ?_)
    exact fz_b (by simp [isG, hz])
  (refine WL.spB rfl (fun hz8 => ?_) (fun hz8 => ?_)) <;> (refine go ?_)
  all_goals
    refine WW.ret (PureQ.finD ?_)
    exact fz_b (by simp [isG, hz, hz8])

theorem ref17_Is_ae (n : Int) (h : AHeap) : AE Try.prog 19 [.int .i64 n] h (.bool (isG n)) h := by
  refine AE.pureW is_ref17_Is (by simp) ?_
  unfold c_ref17_Is
  (refine go ?_)
  (refine WL.spB rfl (fun hz => ?_) (fun hz => ?_)) <;> (refine go ?_)
  · refine WW.ret (PureQ.finD ?_)
    exact fz_b (by simp [isG, hz])
  (refine WL.spB rfl (fun hz8 => ?_) (fun hz8 => ?_)) <;> (refine go ?_)
  all_goals
    refine WW.ret (PureQ.finD ?_)
    exact fz_b (by simp [isG, hz, hz8])

def isT (n : Nat) : Bool := n % 2 == 0 && isG (n / 2 : Nat)

theorem tree_is_ae (l : List Pr) (hl : l.length ≤ 1000000) (h : AHeap) : AE Try.prog 61 [.imm 2 (l.map encP)] h (.bool (isT l.length)) h := by
  refine AE.pureW is_tree_is (by simp) ?_
  unfold c_tree_is
  (refine go ?_)
  (refine WL.spB rfl (fun hz => ?_) (fun hz => ?_)) <;> (refine go ?_)
  · refine WL.call rfl (by first | exact True.intro | exact rfl) (by repeat first | exact SubL.nil | refine SubL.cons (SubV.refl _) ?_ | refine SubL.cons SubV.app ?_ | refine SubL.cons SubV.nil ?_) (geom_Is_ae _ _) ?_
    (refine go ?_)
    refine WW.ret (PureQ.finD ?_)
    refine fz_b ?_
    have h2 : l.length % 2 = 0 := by omega
    simp [isT, h2]
  · refine WW.ret (PureQ.finD ?_)
    refine fz_b ?_
    have h2 : l.length % 2 ≠ 0 := by omega
    simp [isT, h2]
theorem ref18_Is_ae (l : List Pr) (hl : l.length ≤ 1000000) (h : AHeap) : AE Try.prog 51 [.imm 2 (l.map encP)] h (.bool (isT l.length)) h := by
  refine AE.pureW is_ref18_Is (by simp) ?_
  unfold c_ref18_Is
  (refine go ?_)
  (refine WL.spB rfl (fun hz => ?_) (fun hz => ?_)) <;> (refine go ?_)
  · refine WL.call rfl (by first | exact True.intro | exact rfl) (by repeat first | exact SubL.nil | refine SubL.cons (SubV.refl _) ?_ | refine SubL.cons SubV.app ?_ | refine SubL.cons SubV.nil ?_) (ref17_Is_ae _ _) ?_
    (refine go ?_)
    refine WW.ret (PureQ.finD ?_)
    refine fz_b ?_
    have h2 : l.length % 2 = 0 := by omega
    simp [isT, h2]
  · refine WW.ret (PureQ.finD ?_)
    refine fz_b ?_
    have h2 : l.length % 2 ≠ 0 := by omega
    simp [isT, h2]
theorem xor1_lt (k n : Nat) (hk : k < 2 * n) : k ^^^ 1 < 2 * n := by
  have : (k ^^^ 1) / 2 = k / 2 := by
    rw [Nat.xor_div_two]; simp
  omega

/-- A tree's top. -/
def topP (l : List Pr) : Pr := if isT l.length then l.getD 1 (0, 0) else (0, 0)
theorem isT_two {n : Nat} (h : isT n = true) : n = 8 ∨ n = 16 ∨ n = 32 := by
  simp [isT, isG] at h
  omega
theorem encP_flat (p : Pr) : ∀ v ∈ encP p, AV.flat v = true := by simp [encP, AV.flat]

theorem tree_Top_ae (l : List Pr) (hl : l.length ≤ 1000000) (h : AHeap) : AE Try.prog 22 [.imm 2 (l.map encP)] h (.tup [.agg (encP (topP l)), .bool (isT l.length)]) h := by
  refine AE.pureW is_tree_Top (by simp) ?_
  unfold c_tree_Top
  (refine go ?_)
  refine WL.call rfl (by first | exact True.intro | exact rfl) (by repeat first | exact SubL.nil | refine SubL.cons (SubV.refl _) ?_ | refine SubL.cons SubV.app ?_ | refine SubL.cons SubV.nil ?_) (tree_is_ae l hl _) ?_
  (refine go ?_)
  (refine WW.ifB rfl (fun hz => ?_) (fun hz => ?_)) <;> (refine go ?_)
  · have h0 : isT l.length = false := by simpa using hz
    refine WW.ret (PureQ.finD ?_)
    exact Fz.tup2 (fz_agg (by simp [topP, h0, encP, putC, AV.cs]) (by simp [putC, AV.cs, AV.flat])) (fz_b (by simp [h0]))
  · have h0 : isT l.length = true := by simpa using hz
    have h1 := isT_two h0
    refine WL.auto (Stp.iaddrI (i := 1) rfl rfl rfl (by simp; omega) trivial) ?_
    refine WL.auto (Stp.loadi rfl (map_at (List.getElem?_eq_getElem (by omega))) (getC_all rfl) trivial) ?_
    (refine go ?_)
    refine WW.ret (PureQ.finD ?_)
    exact Fz.tup2 (fz_agg (by simp [topP, h0, encP, putC, AV.cs]; simp [show 1 < l.length by omega]) (by simp [putC, AV.cs, AV.flat, encP])) (fz_b (by simp [h0]))
/-- The neighbours from node k up. -/
def upL (l : List Pr) (k : Nat) : List Pr := if h : k ≤ 1 then [] else l.getD (k ^^^ 1) (0, 0) :: upL l (k / 2)
termination_by k
decreasing_by omega
theorem upL_one {l : List Pr} {k : Nat} (h : k ≤ 1) : upL l k = [] := by rw [upL]; simp [h]
theorem upL_more {l : List Pr} {k : Nat} (h : 1 < k) : upL l k = l.getD (k ^^^ 1) (0, 0) :: upL l (k / 2) := by rw [upL]; simp [show ¬ k ≤ 1 by omega]
def pathIn (l : List Pr) (i : Int) : Bool := isT l.length && decide (0 ≤ i) && decide (i < l.length / 2)
def pathL (l : List Pr) (i : Int) : List Pr := if pathIn l i then upL l (l.length / 2 + i).toNat else []

theorem path_Of_ae (l : List Pr) (hl : l.length ≤ 1000000) (i : Int) (h : AHeap) : AE Try.prog 26 [.imm 2 (l.map encP), .int .i64 i] h (.tup [.imm 2 ((pathL l i).map encP), .bool (pathIn l i)]) h := by
  refine AE.pureW is_path_Of (by simp) ?_
  unfold c_path_Of
  (refine go ?_)
  refine WL.call rfl (by first | exact True.intro | exact rfl) (by repeat first | exact SubL.nil | refine SubL.cons (SubV.refl _) ?_ | refine SubL.cons SubV.app ?_ | refine SubL.cons SubV.nil ?_) (tree_Top_ae l hl _) ?_
  (refine go ?_)
  have neg : pathIn l i = false → ∀ h1, Fz h h1 (.tup [.nils, .bool false]) (.tup [.imm 2 ((pathL l i).map encP), .bool (pathIn l i)]) := fun hf h1 => by
    rw [pathL, hf]; exact Fz.tup2 (.nil _) (fz_b rfl)
  (refine WL.spB rfl (fun hz1 => ?_) (fun hz1 => ?_)) <;> (refine go ?_)
  · refine WW.ret (PureQ.finD ?_)
    exact neg (by simp [pathIn, hz1]) _
  (refine WL.spB rfl (fun hz2 => ?_) (fun hz2 => ?_)) <;> (refine go ?_)
  · refine WW.ret (PureQ.finD ?_)
    exact neg (by simp [pathIn]; omega) _
  (refine WW.ifB rfl (fun hz3 => ?_) (fun hz3 => ?_)) <;> (refine go ?_)
  · refine WW.ret (PureQ.finD ?_)
    exact neg (by simp [pathIn]; omega) _
  have hin : pathIn l i = true := by simp [pathIn, hz1, hz2]; omega
  refine WW.cvt (Cvt.adopt 2 (s := 9) rfl gN) ?_
  obtain ⟨k0, hk0⟩ : ∃ k0 : Nat, ((l.length / 2 : Nat) : Int) + i = k0 := ⟨_, (Int.toNat_of_nonneg (by omega)).symm⟩
  have hpl : pathL l i = upL l k0 := by rw [pathL, if_pos hin]; congr 1; omega
  rw [hk0, hpl, hin]
  refine WW.loopE (fun (s : List Pr × Nat) => [(0, some (.imm 2 (l.map encP))), (9, some (.app (h.next + 1) 0 2 (s.1.map encP))), (10, some (.int .i64 s.2))])
    (fun s h' => h'.get (h.next + 1) = some (.tail 0 s.1.length) ∧ Keeps h h' ∧ s.2 < 2 * (l.length / 2) ∧ s.1 ++ upL l s.2 = upL l k0 ∧ s.1.length + s.2 ≤ 2 * l.length)
    (fun s => s.2) ([], k0) (by repeat first | exact subE.nil _ | (apply subE.cons; focus (first | exact rfl | (simp [lk_cons]; done) | (simp [lk_cons]; omega)))) ⟨(by repeat first | exact get_put_tl (by first | rfl | exact List.length_map _ | (simp; done) | (simp; omega)) | exact get_set_tl (by first | rfl | exact List.length_map _ | (simp; done) | (simp; omega)) | assumption | with_reducible apply get_put_neE (by omega) | with_reducible apply get_set_neE (by omega)), (by repeat first | with_reducible exact Keeps.refl _ | with_reducible refine Keeps.put ?_ (by omega) _ | with_reducible refine Keeps.set ?_ (by omega) _ | assumption), by simp; omega, rfl, by simp; omega⟩ ?_
  rintro ⟨acc, k⟩ h' ⟨g1, g4, g5, g6, g7⟩
  dsimp only at g1 g4 g5 g6 g7 ⊢
  have hx := xor1_lt k (l.length / 2) g5
  have hx2 : k ^^^ 1 < l.length := by omega
  (refine go ?_)
  (refine WW.ifB rfl (fun hz5 => ?_) (fun hz5 => ?_)) <;> (refine go ?_)
  · refine ⟨(acc ++ [l[k ^^^ 1]], k / 2), by simp only [List.map_append, List.map_cons, List.map_nil, encP]; exact (by repeat first | exact subE.nil _ | (apply subE.cons; focus (first | exact rfl | (simp [lk_cons]; done) | (simp [lk_cons]; omega)))), ⟨(by repeat first | exact get_put_tl (by first | rfl | exact List.length_map _ | (simp; done) | (simp; omega)) | exact get_set_tl (by first | rfl | exact List.length_map _ | (simp; done) | (simp; omega)) | assumption | with_reducible apply get_put_neE (by omega) | with_reducible apply get_set_neE (by omega)), (by repeat first | with_reducible exact Keeps.refl _ | with_reducible refine Keeps.put ?_ (by omega) _ | with_reducible refine Keeps.set ?_ (by omega) _ | assumption), by simp; omega, ?_, by simp; omega⟩, by simp; omega⟩
    rw [← g6, upL_more (k := k) (by omega)]
    simp [hx2]
  · refine WW.ret (PureQ.finD ?_)
    refine Fz.tup2 (fz_app (by rw [← g6, upL_one (k := k) (by omega)]; simp) (flatC_map encP_flat)) (fz_b rfl)
theorem ref18_Same_ae (a b : List Pr) (ha : a.length ≤ 1000000) (hb : b.length ≤ 1000000) (h : AHeap) : AE Try.prog 47 [.imm 2 (a.map encP), .imm 2 (b.map encP)] h (.bool (a == b)) h := by
  refine AE.pureW is_ref18_Same (by simp) ?_
  unfold c_ref18_Same
  (refine go ?_)
  (refine WW.ifB rfl (fun hz1 => ?_) (fun hz1 => ?_)) <;> (refine go ?_)
  · refine WW.ret (PureQ.finD ?_)
    refine fz_b ?_
    have : a ≠ b := fun e => hz1 (by rw [e])
    simp [this]
  refine WW.loopE (fun (s : Nat) => [(0, some (.imm 2 (a.map encP))), (1, some (.imm 2 (b.map encP))), (5, some (.int .i64 s))])
    (fun s h' => h' = h ∧ s ≤ a.length ∧ a.take s = b.take s) (fun s => a.length - s) 0 (by repeat first | exact subE.nil _ | (apply subE.cons; focus (first | exact rfl | (simp [lk_cons]; done) | (simp [lk_cons]; omega)))) ⟨rfl, by simp, rfl⟩ ?_
  rintro i h' ⟨g1, g2, g3⟩
  subst g1
  (refine go ?_)
  (refine WW.ifB rfl (fun hz2 => ?_) (fun hz2 => ?_)) <;> (refine go ?_)
  · (refine WW.ifB rfl (fun hz3 => ?_) (fun hz3 => ?_)) <;> (refine go ?_)
    · refine WW.ret (PureQ.finD ?_)
      refine fz_b ?_
      have : a ≠ b := fun e => by subst e; simp at hz3
      simp [this]
    · refine ⟨i + 1, (by repeat first | exact subE.nil _ | (apply subE.cons; focus (first | exact rfl | (simp [lk_cons]; done) | (simp [lk_cons]; omega)))), ⟨rfl, by omega, ?_⟩, by omega⟩
      rw [List.take_add_one, List.take_add_one, g3, List.getElem?_eq_getElem (by omega), List.getElem?_eq_getElem (by omega)]
      simp at hz3
      have : a[i] = b[i] := Prod.ext hz3.1 hz3.2
      rw [this]
  · refine WW.ret (PureQ.finD ?_)
    refine fz_b ?_
    rw [List.take_of_length_le (by omega), List.take_of_length_le (by omega)] at g3
    simp [g3]

/-! ### the law's own -/
def z16 : List Pr := List.replicate 16 (0, 0)
end Go.Proofs.Ytlddahcgaonlhaa
