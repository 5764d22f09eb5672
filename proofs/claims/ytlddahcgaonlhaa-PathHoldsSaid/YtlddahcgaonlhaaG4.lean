/- Trees: the plain law, by either lock. Sums' numbers tell what was summed; so a top tells its leaves. -/
import Derived.Test.YtlddahcgaonlhaaG5
set_option linter.all false
namespace Go.Proofs.Ytlddahcgaonlhaa
open Go Go.Abs

/-- S comes behind S0: what was summed has its number still. -/
def Pre (S0 S : List Bs) : Prop := ∃ R, S = S0 ++ R
theorem Pre.refl (S : List Bs) : Pre S S := ⟨[], by simp⟩
theorem Pre.trans {A B C : List Bs} (h1 : Pre A B) (h2 : Pre B C) : Pre A C := by
  obtain ⟨R, rfl⟩ := h1; obtain ⟨R', rfl⟩ := h2; exact ⟨R ++ R', by simp⟩
theorem sumS_pre (S : List Bs) (k : Bs) : Pre S (sumS S k) := by
  unfold sumS; split
  · exact Pre.refl _
  · exact ⟨_, rfl⟩
theorem idxS_app (k : Bs) : ∀ (S R : List Bs) (m : Nat), idxS k S = some m → idxS k (S ++ R) = some m
  | [], _, _, h => by simp [idxS] at h
  | s :: S, R, m, h => by
    simp only [idxS, List.cons_append] at h ⊢
    split
    · rename_i e; rw [if_pos e] at h; exact h
    · rename_i e
      rw [if_neg e] at h
      cases hi : idxS k S with
      | none => rw [hi] at h; simp at h
      | some j => rw [hi] at h; rw [idxS_app k S R j hi]; exact h
theorem idxS_snoc (k : Bs) : ∀ (S : List Bs), idxS k S = none → idxS k (S ++ [k]) = some S.length
  | [], _ => by simp [idxS]
  | s :: S, h => by
    simp only [idxS, List.cons_append] at h ⊢
    split
    · rename_i e; rw [if_pos e] at h; cases h
    · rename_i e
      rw [if_neg e] at h
      cases hi : idxS k S with
      | none => rw [idxS_snoc k S hi]; simp
      | some j => rw [hi] at h; simp at h
/-- Behind its sum a key is there, with that number. -/
theorem sum_there (S : List Bs) (k : Bs) : ∃ m, idxS k (sumS S k) = some m ∧ sumN S k = m + 1 := by
  unfold sumS sumN
  cases hi : idxS k S with
  | some m => exact ⟨m, by simp [hi], by simp⟩
  | none => exact ⟨S.length, by simp [idxS_snoc k S hi], by simp⟩
theorem idxS_inj {a b : Bs} : ∀ {S : List Bs} {m : Nat}, idxS a S = some m → idxS b S = some m → a = b
  | [], _, h, _ => by simp [idxS] at h
  | s :: S, m, h1, h2 => by
    simp only [idxS] at h1 h2
    split at h1
    · rename_i e
      split at h2
      · rename_i e2; rw [e, e2]
      · cases h1
        cases hi : idxS b S with
        | none => rw [hi] at h2; simp at h2
        | some j => rw [hi] at h2; simp at h2
    · split at h2
      · cases h2
        cases hi : idxS a S with
        | none => rw [hi] at h1; simp at h1
        | some j => rw [hi] at h1; simp at h1
      · cases hi : idxS a S with
        | none => rw [hi] at h1; simp at h1
        | some j =>
          cases hj : idxS b S with
          | none => rw [hj] at h2; simp at h2
          | some j' =>
            rw [hi] at h1; rw [hj] at h2
            simp at h1 h2
            exact idxS_inj hi (by rw [hj]; congr 1; omega)
/-- p is k's sum, as far as S knows. -/
def IsSum (S : List Bs) (k : Bs) (p : Pr) : Prop := ∃ m, idxS k S = some m ∧ p = (eees, ((m + 1 : Nat) : Int))
theorem IsSum.pre {S S' : List Bs} {k : Bs} {p : Pr} (h : IsSum S k p) (hp : Pre S S') : IsSum S' k p := by
  obtain ⟨m, h1, h2⟩ := h; obtain ⟨R, rfl⟩ := hp
  exact ⟨m, idxS_app k S R m h1, h2⟩
theorem isSum_sum (S : List Bs) (k : Bs) : IsSum (sumS S k) k (sumP S k) := by
  obtain ⟨m, h1, h2⟩ := sum_there S k
  exact ⟨m, h1, by rw [sumP, h2]⟩
theorem IsSum.inj {S : List Bs} {a b : Bs} {p : Pr} (h1 : IsSum S a p) (h2 : IsSum S b p) : a = b := by
  obtain ⟨m, h1, rfl⟩ := h1
  obtain ⟨m', h2, e⟩ := h2
  have : m = m' := by simp at e; omega
  subst this
  exact idxS_inj h1 h2
theorem IsSum.fn {S : List Bs} {a : Bs} {p q : Pr} (h1 : IsSum S a p) (h2 : IsSum S a q) : p = q := by
  obtain ⟨m, h1, rfl⟩ := h1
  obtain ⟨m', h2, rfl⟩ := h2
  rw [h1] at h2; cases h2; rfl
theorem IsSum.rng {S : List Bs} {a : Bs} {p : Pr} (h : IsSum S a p) : p.1 = eees ∧ 0 ≤ p.2 ∧ p.2 ≤ S.length := by
  obtain ⟨m, h1, rfl⟩ := h
  have : ∀ (S : List Bs) (m : Nat), idxS a S = some m → m < S.length := by
    intro S
    induction S with
    | nil => intro m h; simp [idxS] at h
    | cons s S ih =>
      intro m h
      simp only [idxS] at h
      split at h
      · cases h; simp
      · cases hi : idxS a S with
        | none => rw [hi] at h; simp at h
        | some j => rw [hi] at h; have := ih j hi; simp at h; simp; omega
  have := this S m h1
  exact ⟨rfl, by simp; omega, by simp; omega⟩
theorem putB8_inj {v w : Int} (hv : 0 ≤ v ∧ v < 18446744073709551616) (hw : 0 ≤ w ∧ w < 18446744073709551616) (h : putB v 8 = putB w 8) : v = w := by
  have h2 : ∀ i, i < 8 → (v / 2 ^ (8 * (8 - 1 - i))) % 256 = (w / 2 ^ (8 * (8 - 1 - i))) % 256 := by
    intro i hi
    have h3 := congrArg (fun l => l[i]?) h
    simp only [putB, show ¬ ((8 : Nat) < 1 ∨ 8 < 8) by decide, if_false, List.getElem?_map, List.getElem?_range hi, Option.map_some, Option.some.injEq, byteOf] at h3
    have h4 := congrArg UInt8.toNat h3
    rw [UInt8.toNat_ofNat', UInt8.toNat_ofNat'] at h4
    have h5 := Int.emod_nonneg (v / 2 ^ (8 * (8 - 1 - i))) (show (256 : Int) ≠ 0 by decide)
    have h6 := Int.emod_lt_of_pos (v / 2 ^ (8 * (8 - 1 - i))) (show (0 : Int) < 256 by decide)
    have h7 := Int.emod_nonneg (w / 2 ^ (8 * (8 - 1 - i))) (show (256 : Int) ≠ 0 by decide)
    have h8 := Int.emod_lt_of_pos (w / 2 ^ (8 * (8 - 1 - i))) (show (0 : Int) < 256 by decide)
    omega
  have a0 := h2 0 (by decide); have a1 := h2 1 (by decide); have a2 := h2 2 (by decide); have a3 := h2 3 (by decide)
  have a4 := h2 4 (by decide); have a5 := h2 5 (by decide); have a6 := h2 6 (by decide); have a7 := h2 7 (by decide)
  simp only [Nat.reduceSub, Nat.reduceMul, Nat.sub_zero, Int.reducePow] at a0 a1 a2 a3 a4 a5 a6 a7
  omega
def Wfp (p : Pr) : Prop := (0 ≤ p.1 ∧ p.1 < 18446744073709551616) ∧ (0 ≤ p.2 ∧ p.2 < 18446744073709551616)
theorem pairB_inj {p q : Pr} (hp : Wfp p) (hq : Wfp q) (h : pairB p = pairB q) : p = q := by
  obtain ⟨h1, h2⟩ := List.append_inj h (by simp)
  exact Prod.ext (putB8_inj hp.1 hq.1 h1) (putB8_inj hp.2 hq.2 h2)
theorem nodeK_inj {a b c d : Pr} (ha : Wfp a) (hb : Wfp b) (hc : Wfp c) (hd : Wfp d) (h : nodeK a b = nodeK c d) : a = c ∧ b = d := by
  simp only [nodeK, List.cons.injEq, true_and] at h
  obtain ⟨h1, h2⟩ := List.append_inj h (by simp [pairB_len])
  exact ⟨pairB_inj ha hc h1, pairB_inj hb hd h2⟩
theorem leafK_inj {a b : Bs} (h : leafK a = leafK b) : a = b := by simpa [leafK] using h
theorem leaf_node {a : Bs} {p q : Pr} (h : leafK a = nodeK p q) : False := by simp [leafK, nodeK] at h
theorem IsSum.wf {S : List Bs} {a : Bs} {p : Pr} (h : IsSum S a p) (hS : S.length ≤ 1000000) : Wfp p := by
  obtain ⟨h1, h2, h3⟩ := h.rng
  exact ⟨by rw [h1]; decide, by omega, by omega⟩

/-- By either lock: p is k's sum, as far as S knows. -/
def IsG (md : Bool) (S : List Bs) (k : Bs) (p : Pr) : Prop := match md with | true => IsSum S k p | false => p = digestF k
theorem gS_pre (md : Bool) (S : List Bs) (k : Bs) : Pre S (gS md S k) := by
  cases md
  · exact Pre.refl _
  · exact sumS_pre S k
theorem IsG.pre {md : Bool} {S S' : List Bs} {k : Bs} {p : Pr} (h : IsG md S k p) (hp : Pre S S') : IsG md S' k p := by
  cases md
  · exact h
  · exact IsSum.pre h hp
theorem isG_sum (md : Bool) (S : List Bs) (k : Bs) : IsG md (gS md S k) k (gP md S k) := by
  cases md
  · exact rfl
  · exact isSum_sum S k
theorem IsG.fn {md : Bool} {S : List Bs} {a : Bs} {p q : Pr} (h1 : IsG md S a p) (h2 : IsG md S a q) : p = q := by
  cases md
  · exact Eq.trans h1 (Eq.symm h2)
  · exact IsSum.fn h1 h2

abbrev nd (N : List Pr) (i : Nat) : Pr := N.getD i (0, 0)
theorem nd_set {N : List Pr} {i j : Nat} {p : Pr} : nd (N.set i p) j = if i = j ∧ j < N.length then p else nd N j := by
  simp only [nd, List.getD_eq_getElem?_getD, List.getElem?_set]
  by_cases h : i = j
  · subst h
    by_cases h2 : i < N.length
    · simp [h2]
    · simp [h2]
  · simp [h]
/-- The nodes N are the tree of leaves lv, as far as S knows. -/
structure Tree (md : Bool) (S : List Bs) (lv : List Bs) (N : List Pr) : Prop where
  len : N.length = 2 * lv.length
  leaf : ∀ i (hi : i < lv.length), IsG md S (leafK lv[i]) (nd N (lv.length + i))
  node : ∀ j, 1 ≤ j → j < lv.length → IsG md S (nodeK (nd N (2 * j)) (nd N (2 * j + 1))) (nd N j)
theorem Tree.pre {md : Bool} {S S' : List Bs} {lv : List Bs} {N : List Pr} (h : Tree md S lv N) (hp : Pre S S') : Tree md S' lv N :=
  ⟨h.len, fun i hi => (h.leaf i hi).pre hp, fun j h1 h2 => (h.node j h1 h2).pre hp⟩
theorem lfF_tree (md : Bool) : ∀ (r : List Bs) (k : Nat) (N : List Pr) (S : List Bs), k + r.length ≤ N.length → Pre S (lfF md r k N S).2 ∧ (∀ j, j < k → nd (lfF md r k N S).1 j = nd N j) ∧ ∀ i (hi : i < r.length), IsG md (lfF md r k N S).2 (leafK r[i]) (nd (lfF md r k N S).1 (k + i))
  | [], _, _, S, _ => ⟨Pre.refl _, fun _ _ => rfl, fun i hi => absurd hi (by simp)⟩
  | b :: r, k, N, S, hk => by
    simp only [List.length_cons] at hk
    obtain ⟨h1, h2, h3⟩ := lfF_tree md r (k + 1) (N.set k (gP md S (leafK b))) (gS md S (leafK b)) (by simp; omega)
    simp only [lfF]
    refine ⟨(gS_pre md _ _).trans h1, fun j hj => ?_, fun i hi => ?_⟩
    · rw [h2 j (by omega), nd_set, if_neg (by omega)]
    · cases i with
      | zero =>
        rw [show k + 0 = k from rfl, h2 k (by omega), nd_set, if_pos ⟨rfl, by omega⟩]
        exact (isG_sum md S (leafK b)).pre h1
      | succ i =>
        have := h3 i (by simpa using hi)
        rw [show k + 1 + i = k + (i + 1) by omega] at this
        exact this
theorem upF_tree (md : Bool) : ∀ (i : Nat) (N : List Pr) (S : List Bs), i < N.length → Pre S (upF md i N S).2 ∧ (∀ j, i < j → nd (upF md i N S).1 j = nd N j) ∧ ∀ j, 1 ≤ j → j ≤ i → IsG md (upF md i N S).2 (nodeK (nd (upF md i N S).1 (2 * j)) (nd (upF md i N S).1 (2 * j + 1))) (nd (upF md i N S).1 j)
  | 0, _, S, _ => ⟨Pre.refl _, fun _ _ => rfl, fun j h1 h2 => absurd h1 (by omega)⟩
  | i + 1, N, S, hi => by
    obtain ⟨h1, h2, h3⟩ := upF_tree md i (N.set (i + 1) (gP md S (kidK N (i + 1)))) (gS md S (kidK N (i + 1))) (by simp; omega)
    simp only [upF]
    refine ⟨(gS_pre md _ _).trans h1, fun j hj => ?_, fun j j1 j2 => ?_⟩
    · rw [h2 j (by omega), nd_set, if_neg (by omega)]
    · by_cases e : j = i + 1
      · subst e
        rw [h2 (i + 1) (by omega), h2 (2 * (i + 1)) (by omega), h2 (2 * (i + 1) + 1) (by omega), nd_set (j := 2 * (i + 1)), if_neg (by omega), nd_set (j := 2 * (i + 1) + 1), if_neg (by omega), nd_set (j := i + 1), if_pos ⟨rfl, hi⟩]
        exact (isG_sum md S (kidK N (i + 1))).pre h1
      · exact h3 j j1 (by omega)
theorem buildF_tree (md : Bool) (lv : List Bs) (S : List Bs) (hl : 1 ≤ lv.length) : Pre S (buildF md lv S).2 ∧ Tree md (buildF md lv S).2 lv (buildF md lv S).1 := by
  have l1 := lfF_len md lv lv.length (List.replicate (2 * lv.length) (0, 0)) S
  obtain ⟨a1, a2, a3⟩ := lfF_tree md lv lv.length (List.replicate (2 * lv.length) (0, 0)) S (by simp; omega)
  unfold buildF
  generalize lfF md lv lv.length (List.replicate (2 * lv.length) (0, 0)) S = q at *
  simp only [List.length_replicate] at l1
  have l2 := upF_len md (lv.length - 1) q.1 q.2
  obtain ⟨b1, b2, b3⟩ := upF_tree md (lv.length - 1) q.1 q.2 (by omega)
  refine ⟨a1.trans b1, ⟨by omega, fun i hi => ?_, fun j h1 h2 => b3 j h1 (by omega)⟩⟩
  rw [b2 _ (by omega)]
  exact (a3 i hi).pre b1
theorem buildF_len (md : Bool) (lv : List Bs) (S : List Bs) : (buildF md lv S).1.length = 2 * lv.length ∧ (buildF md lv S).2.length ≤ S.length + 2 * lv.length := by
  have l1 := lfF_len md lv lv.length (List.replicate (2 * lv.length) (0, 0)) S
  unfold buildF
  generalize lfF md lv lv.length (List.replicate (2 * lv.length) (0, 0)) S = q at *
  simp only [List.length_replicate] at l1
  have l2 := upF_len md (lv.length - 1) q.1 q.2
  omega
theorem isT_twice {n : Nat} (hG : isG n = true) : isT (2 * n) = true := by
  simp [isT]; exact hG
/-- One top, one tree. -/
theorem Tree.one {S : List Bs} {a b : List Bs} {N M : List Pr} (hS : S.length ≤ 1000000) (hN : Tree true S a N) (hM : Tree true S b M) (hl : a.length = b.length) (ht : nd N 1 = nd M 1) : ∀ j, 1 ≤ j → j < 2 * a.length → nd N j = nd M j := by
  have wN : ∀ j, 1 ≤ j → j < 2 * a.length → Wfp (nd N j) := fun j h1 h2 => by
    by_cases h : j < a.length
    · exact (hN.node j h1 h).wf hS
    · have := hN.leaf (j - a.length) (by omega)
      rw [show a.length + (j - a.length) = j by omega] at this
      exact this.wf hS
  have wM : ∀ j, 1 ≤ j → j < 2 * a.length → Wfp (nd M j) := fun j h1 h2 => by
    by_cases h : j < a.length
    · exact (hM.node j h1 (by omega)).wf hS
    · have := hM.leaf (j - a.length) (by omega)
      rw [show b.length + (j - a.length) = j by omega] at this
      exact this.wf hS
  intro j
  induction j using Nat.strongRecOn with
  | ind j ih =>
    intro h1 h2
    by_cases e : j = 1
    · rw [e]; exact ht
    · have hp := ih (j / 2) (by omega) (by omega) (by omega)
      have k1 := hN.node (j / 2) (by omega) (by omega)
      have k2 := hM.node (j / 2) (by omega) (by omega)
      rw [hp] at k1
      obtain ⟨e1, e2⟩ := nodeK_inj (wN _ (by omega) (by omega)) (wN _ (by omega) (by omega)) (wM _ (by omega) (by omega)) (wM _ (by omega) (by omega)) (k1.inj k2)
      rcases Nat.mod_two_eq_zero_or_one j with hm | hm
      · rw [show j = 2 * (j / 2) by omega]; exact e1
      · rw [show j = 2 * (j / 2) + 1 by omega]; exact e2
theorem Tree.leaves {S : List Bs} {a b : List Bs} {N M : List Pr} (hS : S.length ≤ 1000000) (hN : Tree true S a N) (hM : Tree true S b M) (hl : a.length = b.length) (ha : 1 ≤ a.length) (ht : nd N 1 = nd M 1) : a = b := by
  have key := Tree.one hS hN hM hl ht
  refine List.ext_getElem hl fun i h1 h2 => ?_
  have k1 := hN.leaf i h1
  have k2 := hM.leaf i h2
  rw [key (a.length + i) (by omega) (by omega), hl] at k1
  exact leafK_inj (k1.inj k2)
/-- One row of leaves, one tree. -/
theorem Tree.same {md : Bool} {S : List Bs} {a : List Bs} {N M : List Pr} (hN : Tree md S a N) (hM : Tree md S a M) : ∀ n j, 2 * a.length - j ≤ n → 1 ≤ j → j < 2 * a.length → nd N j = nd M j := by
  intro n
  induction n with
  | zero => intro j h1 h2 h3; omega
  | succ n ih =>
    intro j h1 h2 h3
    by_cases h : j < a.length
    · have k1 := hN.node j h2 h
      have k2 := hM.node j h2 h
      rw [ih (2 * j) (by omega) (by omega) (by omega), ih (2 * j + 1) (by omega) (by omega) (by omega)] at k1
      exact k1.fn k2
    · have k1 := hN.leaf (j - a.length) (by omega)
      have k2 := hM.leaf (j - a.length) (by omega)
      rw [show a.length + (j - a.length) = j by omega] at k1 k2
      exact k1.fn k2
theorem rows_ofL {cells : List AV} (h : TypL [.sl [.sl [.i .u8]]] cells) : ∃ D : List Bs, cells = [.imm 1 (D.map encR)] ∧ D.length ≤ maxLen := by
  obtain ⟨v, vs, rfl, h1, h2⟩ := h.cons_inv
  obtain rfl := h2.nil_inv
  obtain ⟨c, rfl, hl, hc⟩ := h1.sl_inv
  obtain ⟨l, rfl⟩ := map_of (f := encR) (fun _ => bytes_of) hc
  exact ⟨l, rfl, by simpa using hl⟩
end Go.Proofs.Ytlddahcgaonlhaa
