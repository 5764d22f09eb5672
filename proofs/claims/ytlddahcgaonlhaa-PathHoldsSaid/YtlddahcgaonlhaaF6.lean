/- Rows of bytes joined; bytes said over and over. -/
import Derived.Test.YtlddahcgaonlhaaF5
set_option linter.all false
namespace Go.Proofs.Ytlddahcgaonlhaa
open Go Go.Abs

theorem slices_Grow0_ae (h : AHeap) : AE Try.prog 102 [.nils, .int .i64 0] h .nils h := by
  refine AE.pureW is_slices_Growbyte_byte (by simp) ?_
  unfold c_slices_Growbyte_byte
  (refine go ?_)
  refine WW.ret (PureQ.finD ?_)
  exact .clo _ .nils
theorem slices_Grow_any (n : Nat) (hn : n ≤ 100000000) (h : AHeap) : AC Try.prog 102 [.nils, .int .i64 n] h (fun r h' => ∃ T, r = .app T 0 1 [] ∧ h.next ≤ T ∧ h'.get T = some (.tail 0 0) ∧ Keeps h h') := by
  rcases Nat.eq_zero_or_pos n with rfl | h0
  · refine (slices_Grow0_ae h).mapR ?_
    rintro _ _ ⟨rfl, rfl⟩
    exact ⟨_, _, .adopt rfl, _, rfl, Nat.le_refl _, get_put_same, (by repeat first | with_reducible exact Keeps.refl _ | with_reducible refine Keeps.put ?_ (by omega) _ | with_reducible refine Keeps.set ?_ (by omega) _ | assumption)⟩
  · refine (slices_Grow_ae n ⟨h0, hn⟩ h).mapR ?_
    rintro _ _ ⟨rfl, rfl⟩
    refine ⟨_, _, .grow get_put_same rfl (next_putE rfl), _, rfl, by omega, get_put_same, (by repeat first | with_reducible exact Keeps.refl _ | with_reducible refine Keeps.put ?_ (by omega) _ | with_reducible refine Keeps.set ?_ (by omega) _ | assumption)⟩

/-- A row of bytes, as a row's cell. -/
def encR (b : Bs) : List AV := [.imm 1 (b.map encB)]
theorem take_flat (l : List Bs) {i : Nat} (hi : i < l.length) : (l.take (i + 1)).flatten = (l.take i).flatten ++ l[i] := by
  rw [List.take_succ_eq_append_getElem hi, List.flatten_append]
  simp only [List.flatten_cons, List.flatten_nil, List.append_nil]
theorem take_flat_len (l : List Bs) (i : Nat) : (l.take i).flatten.length ≤ l.flatten.length := by
  have : l.flatten = (l.take i).flatten ++ (l.drop i).flatten := by rw [← List.flatten_append, List.take_append_drop]
  rw [this]; simp
theorem slices_Concat_ae (l : List Bs) (hl : l.length ≤ 1000000) (hf : l.flatten.length ≤ 100000000) (h : AHeap) : AE Try.prog 83 [.imm 1 (l.map encR)] h (.imm 1 (l.flatten.map encB)) h := by
  refine AE.pureW is_slices_Concatbyte_byte (by simp) ?_
  unfold c_slices_Concatbyte_byte
  (refine go ?_)
  refine WW.loopE (fun (i : Nat) => [(0, some (.imm 1 (l.map encR))), (3, some (.int .i64 (l.take i).flatten.length)), (9, some (.imm 1 (l.map encR))), (10, some (.int .i64 l.length)), (11, some (.int .i64 i))])
    (fun i h' => h = h' ∧ i ≤ l.length) (fun i => l.length - i) 0 (by repeat first | exact subE.nil _ | (apply subE.cons; focus (first | exact rfl | (simp [lk_cons]; done) | (simp [lk_cons]; omega)))) ⟨rfl, by omega⟩ ?_
  rintro i _ ⟨rfl, g2⟩
  (refine go ?_)
  (refine WW.ifB rfl (fun hz1 => ?_) (fun hz1 => ?_))
  · have e1 : (l.take (i + 1)).flatten.length = (l.take i).flatten.length + l[i].length := by rw [take_flat l (by omega)]; simp
    have e2 := take_flat_len l (i + 1)
    (refine go ?_)
    refine ⟨i + 1, (by repeat first | exact subE.nil _ | (apply subE.cons; focus (first | exact rfl | (simp [lk_cons, e1]; done) | (simp [lk_cons, e1]; omega)))), ⟨rfl, by omega⟩, by omega⟩
  have hi : i = l.length := by omega
  subst hi
  rw [List.take_length]
  (refine go ?_)
  refine WL.callA rfl (by first | exact True.intro | exact rfl) (by repeat first | exact SubL.nil | refine SubL.cons (SubV.refl _) ?_ | refine SubL.cons SubV.app ?_ | refine SubL.cons SubV.nil ?_) (slices_Grow_any _ hf _) ?_
  rintro _ h1 ⟨T, rfl, q1, q2, q3⟩
  (refine go ?_)
  refine WW.loopE (fun (i : Nat) => [(6, some (.app T 0 1 ((l.take i).flatten.map encB))), (25, some (.imm 1 (l.map encR))), (26, some (.int .i64 l.length)), (27, some (.int .i64 i))])
    (fun i h' => h'.get T = some (.tail 0 (l.take i).flatten.length) ∧ Keeps h h' ∧ i ≤ l.length) (fun i => l.length - i) 0 (by repeat first | exact subE.nil _ | (apply subE.cons; focus (first | exact rfl | (simp [lk_cons]; done) | (simp [lk_cons]; omega)))) ⟨by simpa using q2, q3, by omega⟩ ?_
  rintro i h2 ⟨g1, g2, g3⟩
  (refine go ?_)
  (refine WW.ifB rfl (fun hz3 => ?_) (fun hz3 => ?_))
  · have e1 := take_flat l (i := i) (by omega)
    have e2 := take_flat_len l (i + 1)
    have e3 : (l.take (i + 1)).flatten.length = (l.take i).flatten.length + l[i].length := by rw [e1]; simp
    (refine go ?_)
    refine ⟨i + 1, (by repeat first | exact subE.nil _ | (apply subE.cons; focus (first | exact rfl | (simp [lk_cons, e1]; done) | (simp [lk_cons, e1]; omega)))), ⟨?_, (by repeat first | with_reducible exact Keeps.refl _ | with_reducible refine Keeps.put ?_ (by omega) _ | with_reducible refine Keeps.set ?_ (by omega) _ | assumption), by omega⟩, by omega⟩
    rw [get_set_same, e3]
  · have hi : i = l.length := by omega
    subst hi
    (refine go ?_)
    refine WW.ret (PureQ.finD ?_)
    exact fz_app (by rw [List.take_length]) (flatB _)

/-- A row said over and over, till n bytes. -/
def rep (l : Bs) (n : Nat) : Bs := (List.range n).map fun k => l.getD (k % l.length) 0
theorem bytes_Repeat_ae (l : Bs) (k : Nat) (hl : 0 < l.length) (hk : 0 < k) (hm : l.length * k ≤ 8192) (h : AHeap) : AE Try.prog 78 [.imm 1 (l.map encB), .int .i64 k] h (.imm 1 ((rep l (l.length * k)).map encB)) h := by
  have h1 : l.length ≤ 8192 := Nat.le_trans (Nat.le_mul_of_pos_right _ hk) hm
  have h2 : k ≤ 8192 := Nat.le_trans (Nat.le_mul_of_pos_left _ hl) hm
  generalize hn : l.length * k = n at hm
  refine AE.pureW is_bytes_Repeat (by simp) ?_
  unfold c_bytes_Repeat
  (refine go ?_)
  (refine WW.ifB rfl (fun hz1 => ?_) (fun hz1 => ?_))
  · omega
  (refine go ?_)
  refine WL.call rfl (by first | exact True.intro | exact rfl) (by repeat first | exact SubL.nil | refine SubL.cons (SubV.refl _) ?_ | refine SubL.cons SubV.app ?_ | refine SubL.cons SubV.nil ?_) (bits_Mul_ae l.length k ⟨by omega, by omega⟩ _) ?_
  rw [hn]
  (refine go ?_)
  (refine WW.ifB rfl (fun hz2 => ?_) (fun hz2 => ?_))
  · omega
  (refine go ?_)
  (refine WW.ifB rfl (fun hz3 => ?_) (fun hz3 => ?_))
  · omega
  (refine go ?_)
  (refine WW.ifB rfl (fun hz4 => ?_) (fun hz4 => ?_))
  · omega
  (refine go ?_)
  refine WL.fq1 (FQ.noZero (n := n) (fn := Try.f101) (t := 35) (el := 5) (by kernel_rfl) (by kernel_rfl) (by kernel_rfl) (by kernel_rfl) (by kernel_rfl) (by kernel_rfl) rfl rfl (by omega) (by first | exact True.intro | exact rfl)) ?_
  rintro _ _ ⟨q, rfl, rfl⟩
  have hln : l.length ≤ n := by rw [← hn]; exact Nat.le_mul_of_pos_right _ hk
  have hmin : min (l.map encB).length n = l.length := by simp; omega
  (refine go ?_)
  refine WW.loopE (fun (s : Nat × List (List AV)) => [(7, some (.int .i64 n)), (8, some (.int .i64 n)), (9, some (.ref h.next 0 n)), (10, some (.int .i64 s.1))])
    (fun s h' => h'.get h.next = some (.mem 1 s.2) ∧ Keeps h h' ∧ s.2.length = n ∧ (∀ k, k < s.1 → s.2[k]? = some (encB (l.getD (k % l.length) 0))) ∧ 0 < s.1 ∧ s.1 ≤ n ∧ s.1 % l.length = 0) (fun s => n - s.1) (l.length, _) (by repeat first | exact subE.nil _ | (apply subE.cons; focus (first | exact rfl | (simp [lk_cons, hmin]; done) | (simp [lk_cons, hmin]; omega)))) ⟨gH, (by repeat first | with_reducible exact Keeps.refl _ | with_reducible refine Keeps.put ?_ (by omega) _ | with_reducible refine Keeps.set ?_ (by omega) _ | assumption), by simp; omega, ?_, hl, hln, Nat.mod_self _⟩ ?_
  · intro j hj
    dsimp only at hj
    rw [Nat.mod_eq_of_lt hj]
    simp only [hmin]
    rw [List.append_assoc, List.getElem?_append_right (by simp), List.getElem?_append_left (by simp; omega)]
    simp [hj]
  rintro ⟨bp, C⟩ h2 ⟨g1, g2, g3, g4, g5, g6, g7⟩
  dsimp only at g1 g3 g4 g5 g6 g7 ⊢
  have e1 : (if (n : Int) < (bp : Int) then (n : Int) else (bp : Int)) = (bp : Int) := if_neg (by omega)
  (refine go ?_)
  (refine WW.ifB rfl (fun hz5 => ?_) (fun hz5 => ?_))
  · (refine go ?_)
    simp only [e1]
    (refine go ?_)
    have em : min (List.take ((bp : Int).toNat - 0) (List.drop (0 + 0) C)).length (n - bp) = min bp (n - bp) := by simp; omega
    refine ⟨(bp + min bp (n - bp), _), (by repeat first | exact subE.nil _ | (apply subE.cons; focus (first | exact rfl | (simp [lk_cons, em]; done) | (simp [lk_cons, em]; omega)))), ⟨gH, (by repeat first | with_reducible exact Keeps.refl _ | with_reducible refine Keeps.put ?_ (by omega) _ | with_reducible refine Keeps.set ?_ (by omega) _ | assumption), ?_, ?_, by dsimp only; omega, by dsimp only; omega, ?_⟩, by dsimp only; omega⟩
    all_goals dsimp only
    all_goals try rw [em]
    · simp [g3]; omega
    · intro j hj
      by_cases hjb : j < bp
      · rw [List.append_assoc, List.getElem?_append_left (by simp; omega), List.getElem?_take_of_lt (by omega)]
        exact g4 j hjb
      · have hlen : (List.take (0 + bp) C).length = bp := by simp; omega
        rw [List.append_assoc, List.getElem?_append_right (by omega), hlen, List.getElem?_append_left (by simp; omega), List.getElem?_take_of_lt (by omega)]
        rw [show ((bp : Int).toNat - 0) = bp by omega, List.getElem?_take_of_lt (by omega), Nat.add_zero, List.drop_zero, g4 (j - bp) (by omega)]
        have : j % l.length = (j - bp) % l.length := by
          obtain ⟨t, ht⟩ := Nat.dvd_of_mod_eq_zero g7
          have : j = (j - bp) + l.length * t := by omega
          rw [this, Nat.add_mul_mod_self_left]
          congr 1
          omega
        rw [this]
    · by_cases hb : bp ≤ n - bp
      · rw [Nat.min_eq_left hb]
        obtain ⟨t, ht⟩ := Nat.dvd_of_mod_eq_zero g7
        rw [ht, ← Nat.mul_add]
        exact Nat.mul_mod_right _ _
      · rw [show bp + min bp (n - bp) = l.length * k by omega]
        exact Nat.mul_mod_right _ _
  · (refine go ?_)
    refine WW.ret (PureQ.finD ?_)
    have : bp = n := by omega
    subst this
    have hC : C = (rep l bp).map encB := by
      refine List.ext_getElem? fun j => ?_
      by_cases hj : j < bp
      · rw [g4 j hj]; simp [rep, hj]
      · rw [List.getElem?_eq_none (by omega), List.getElem?_eq_none (by simp [rep]; omega)]
    exact fz_ref g1 (Nat.le_refl _) g3 hC (by rw [hC]; exact flatB _)
end Go.Proofs.Ytlddahcgaonlhaa
