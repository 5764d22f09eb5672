/- A leaf by its neighbours: the plain law. Its own come to the top; others do not. -/
import Derived.Test.YtlddahcgaonlhaaG4
set_option linter.all false
namespace Go.Proofs.Ytlddahcgaonlhaa
open Go Go.Abs

theorem sum_known {md : Bool} {S : List Bs} {k : Bs} {p : Pr} (h : IsG md S k p) : gP md S k = p ∧ gS md S k = S := by
  cases md with
  | true =>
    obtain ⟨m, h1, rfl⟩ := h
    exact ⟨by show sumP S k = _; rw [sumP, sumN, h1]; rfl, by show sumS S k = _; rw [sumS, h1]; rfl⟩
  | false => exact ⟨Eq.symm h, rfl⟩
theorem xor_one (k : Nat) : k ^^^ 1 = if k % 2 = 1 then k - 1 else k + 1 := by
  have h1 : (k ^^^ 1) / 2 = k / 2 := by rw [Nat.xor_div_two]; simp
  have h2 : (k ^^^ 1) % 2 = (k + 1) % 2 := by
    have h3 := Nat.testBit_xor k 1 0
    simp only [Nat.testBit_zero] at h3
    rcases Nat.mod_two_eq_zero_or_one k with h | h <;> rcases Nat.mod_two_eq_zero_or_one (k ^^^ 1) with h' | h' <;> simp [h, h'] at h3 <;> omega
  split <;> omega
theorem upL_len (N : List Pr) : ∀ (e i : Nat), i < 2 ^ e → (upL N (2 ^ e + i)).length = e
  | 0, i, h => by
    have : i = 0 := by omega
    subst this; rw [upL_one (by simp)]; rfl
  | e + 1, i, h => by
    have hp : 2 ^ (e + 1) = 2 * 2 ^ e := by rw [Nat.pow_succ]; omega
    have hpos : 0 < 2 ^ e := Nat.two_pow_pos e
    rw [upL_more (by omega), List.length_cons, show (2 ^ (e + 1) + i) / 2 = 2 ^ e + i / 2 by omega, upL_len N e (i / 2) (by omega)]
/-- Its own neighbours lead to the top, and nothing new is summed. -/
theorem ck_up {md : Bool} {S : List Bs} {lv : List Bs} {N : List Pr} (hT : Tree md S lv N) : ∀ (e i : Nat), i < 2 ^ e → 2 ^ e + i < 2 * lv.length → ckF md (upL N (2 ^ e + i)) i (nd N (2 ^ e + i)) S = (nd N 1, S)
  | 0, i, h, _ => by
    have : i = 0 := by omega
    subst this; rw [upL_one (by simp)]; rfl
  | e + 1, i, h, hk => by
    have hp : 2 ^ (e + 1) = 2 * 2 ^ e := by rw [Nat.pow_succ]; omega
    have hpos : 0 < 2 ^ e := Nat.two_pow_pos e
    rw [upL_more (by omega), ckF]
    have hd : (2 ^ (e + 1) + i) / 2 = 2 ^ e + i / 2 := by omega
    have key : (if i % 2 = 1 then nodeK (N.getD ((2 ^ (e + 1) + i) ^^^ 1) (0, 0)) (nd N (2 ^ (e + 1) + i)) else nodeK (nd N (2 ^ (e + 1) + i)) (N.getD ((2 ^ (e + 1) + i) ^^^ 1) (0, 0))) = nodeK (nd N (2 * (2 ^ e + i / 2))) (nd N (2 * (2 ^ e + i / 2) + 1)) := by
      rw [xor_one]
      split
      · rw [if_pos (by omega), show 2 ^ (e + 1) + i - 1 = 2 * (2 ^ e + i / 2) by omega, show 2 ^ (e + 1) + i = 2 * (2 ^ e + i / 2) + 1 by omega]
      · rw [if_neg (by omega), show 2 ^ (e + 1) + i = 2 * (2 ^ e + i / 2) by omega]
    rw [key]
    obtain ⟨k1, k2⟩ := sum_known (hT.node (2 ^ e + i / 2) (by omega) (by omega))
    rw [k1, k2, hd]
    exact ck_up hT e (i / 2) (by omega) (by omega)
theorem Tree.wf {S : List Bs} {lv : List Bs} {N : List Pr} (hT : Tree true S lv N) (hS : S.length ≤ 1000000) {j : Nat} (h1 : 1 ≤ j) (h2 : j < 2 * lv.length) : Wfp (nd N j) := by
  by_cases h : j < lv.length
  · exact (hT.node j h1 h).wf hS
  · have := hT.leaf (j - lv.length) (by omega)
    rw [show lv.length + (j - lv.length) = j by omega] at this
    exact this.wf hS
theorem upL_wf {S : List Bs} {lv : List Bs} {N : List Pr} (hT : Tree true S lv N) (hS : S.length ≤ 1000000) : ∀ (e i : Nat), i < 2 ^ e → 2 ^ e + i < 2 * lv.length → ∀ x ∈ upL N (2 ^ e + i), Wfp x
  | 0, i, h, _ => by
    have : i = 0 := by omega
    subst this; rw [upL_one (by simp)]; simp
  | e + 1, i, h, hk => by
    have hp : 2 ^ (e + 1) = 2 * 2 ^ e := by rw [Nat.pow_succ]; omega
    have hpos : 0 < 2 ^ e := Nat.two_pow_pos e
    rw [upL_more (by omega), show (2 ^ (e + 1) + i) / 2 = 2 ^ e + i / 2 by omega]
    intro x hx
    rcases List.mem_cons.1 hx with rfl | hx
    · rw [xor_one]
      split
      · exact hT.wf hS (by omega) (by omega)
      · exact hT.wf hS (by omega) (by omega)
    · exact upL_wf hT hS e (i / 2) (by omega) (by omega) x hx
/-- Another leaf, or another neighbour, does not come to the top. -/
theorem ck_odd {S : List Bs} {lv : List Bs} {N : List Pr} (hT : Tree true S lv N) (hS0 : S.length ≤ 1000000) : ∀ (e i : Nat) (q : List Pr) (p : Pr) (S2 : List Bs), i < 2 ^ e → 2 ^ e + i < 2 * lv.length → q.length = e → (∀ x ∈ q, Wfp x) → Wfp p → Pre S S2 → S2.length + e ≤ 1000000 →
    (p ≠ nd N (2 ^ e + i) ∨ q ≠ upL N (2 ^ e + i)) → (ckF true q i p S2).1 ≠ nd N 1
  | 0, i, q, p, S2, h, _, hq, _, _, _, _, hne => by
    have : i = 0 := by omega
    subst this
    obtain rfl := List.length_eq_zero_iff.1 hq
    rcases hne with hne | hne
    · simpa [ckF] using hne
    · exact absurd (upL_one (by simp)).symm hne
  | e + 1, i, [], p, S2, h, _, hq, _, _, _, _, _ => by simp at hq
  | e + 1, i, x :: r, p, S2, h, hk, hq, hw, hpw, hpre, hlen, hne => by
    have hp : 2 ^ (e + 1) = 2 * 2 ^ e := by rw [Nat.pow_succ]; omega
    have hpos : 0 < 2 ^ e := Nat.two_pow_pos e
    rw [ckF]
    obtain ⟨k', hk'⟩ : ∃ k', (if i % 2 = 1 then nodeK x p else nodeK p x) = k' := ⟨_, rfl⟩
    rw [hk']
    have hsl := gS_le true S2 k'
    have hpre2 : Pre S (gS true S2 k') := hpre.trans (gS_pre true S2 k')
    have hnode := (hT.node (2 ^ e + i / 2) (by omega) (by omega)).pre hpre2
    have hmine := isG_sum true S2 k'
    simp only [List.length_cons] at hq
    refine ck_odd hT hS0 e (i / 2) r _ _ (by omega) (by omega) (by omega) (fun y hy => hw y (List.mem_cons_of_mem _ hy)) (hmine.wf (by omega)) hpre2 (by omega) ?_
    rw [upL_more (by omega), show (2 ^ (e + 1) + i) / 2 = 2 ^ e + i / 2 by omega] at hne
    by_cases hall : p = nd N (2 ^ (e + 1) + i) ∧ x = N.getD ((2 ^ (e + 1) + i) ^^^ 1) (0, 0)
    · obtain ⟨h1, h2⟩ := hall
      right
      rcases hne with hne | hne
      · exact absurd h1 hne
      · intro h3; exact hne (by rw [h2, h3])
    · left
      intro heq
      rw [heq] at hmine
      have hkeq := hmine.inj hnode
      apply hall
      have hx := hw x (List.mem_cons_self ..)
      have w1 := hT.wf hS0 (j := 2 * (2 ^ e + i / 2)) (by omega) (by omega)
      have w2 := hT.wf hS0 (j := 2 * (2 ^ e + i / 2) + 1) (by omega) (by omega)
      rw [xor_one]
      rw [← hk'] at hkeq
      by_cases hi : i % 2 = 1
      · rw [if_pos hi] at hkeq
        obtain ⟨e1, e2⟩ := nodeK_inj hx hpw w1 w2 hkeq
        rw [if_pos (by omega), show 2 ^ (e + 1) + i - 1 = 2 * (2 ^ e + i / 2) by omega, show 2 ^ (e + 1) + i = 2 * (2 ^ e + i / 2) + 1 by omega]
        exact ⟨e2, e1⟩
      · rw [if_neg hi] at hkeq
        obtain ⟨e1, e2⟩ := nodeK_inj hpw hx w1 w2 hkeq
        rw [if_neg (by omega), show 2 ^ (e + 1) + i = 2 * (2 ^ e + i / 2) by omega]
        exact ⟨e1, e2⟩
theorem isG_pow {n : Nat} (h : isG n = true) : ∃ e, n = 2 ^ e ∧ 2 ≤ e ∧ e ≤ 4 := by
  have : n = 4 ∨ n = 8 ∨ n = 16 := by simp [isG] at h; omega
  rcases this with rfl | rfl | rfl
  · exact ⟨2, rfl, by omega, by omega⟩
  · exact ⟨3, rfl, by omega, by omega⟩
  · exact ⟨4, rfl, by omega, by omega⟩
/-- The neighbours of a tree's leaf, told. -/
theorem path_tree {md : Bool} {S : List Bs} {lv : List Bs} {N : List Pr} (hT : Tree md S lv N) {e : Nat} (he : lv.length = 2 ^ e) (hG : isG lv.length = true) {i : Nat} (hi : i < lv.length) : pathIn N i = true ∧ pathL N i = upL N (2 ^ e + i) := by
  have h1 : pathIn N (i : Int) = true := by
    simp only [pathIn, hT.len, isT_twice hG, Bool.true_and, Bool.and_eq_true, decide_eq_true_eq]
    omega
  refine ⟨h1, ?_⟩
  rw [pathL, if_pos h1, hT.len]
  congr 1
  rw [← he]; omega
theorem ck_tree {md : Bool} {S : List Bs} {lv : List Bs} {N : List Pr} (hT : Tree md S lv N) {e : Nat} (he : lv.length = 2 ^ e) {i : Nat} (hi : i < lv.length) : ckF md (upL N (2 ^ e + i)) i (gP md S (leafK lv[i])) (gS md S (leafK lv[i])) = (nd N 1, S) := by
  obtain ⟨k1, k2⟩ := sum_known (hT.leaf i hi)
  rw [k1, k2, he]
  exact ck_up hT e i (by omega) (by omega)
end Go.Proofs.Ytlddahcgaonlhaa
