/- The ideal sealer: Open, Sum, Issued, Twice. -/
import Derived.Test.YtlddahcgaonlhaaF7
set_option linter.all false
namespace Go.Proofs.Ytlddahcgaonlhaa
open Go Go.Abs

def isI (k : Pr) (n : Nn) (head b : Bs) (tg : Pr) (x : Iss) : Bool := x.key == k && x.n == n && x.tag == tg && x.head == head && x.out == b
def openO (L : List Iss) (k : Pr) (n : Nn) (head b : Bs) (tg : Pr) : Option Bs := (L.find? (isI k n head b tg)).map (·.data)
theorem fz_immB {h h1 : AHeap} {a b : Bs} (hab : a = b) : Fz h h1 (.imm 1 (a.map encB)) (.imm 1 (b.map encB)) := fz_imm (by rw [hab]) (flatB _)
theorem nn_beq (s t : Nn) : (s.1 == t.1 && (s.2.1 == t.2.1 && (s.2.2 == t.2.2 && true))) = (s == t) := by
  rw [Bool.and_true]; rfl
theorem find_drop {α : Type} {p : α → Bool} {L : List α} {i : Nat} (hi : i < L.length) (hp : p L[i] = false) : (L.drop i).find? p = (L.drop (i + 1)).find? p := by
  rw [List.drop_eq_getElem_cons hi, List.find?_cons, hp]
theorem oracle_Open_ae {h : AHeap} {o t s g : Nat} {L : List Iss} {S : List Bs} (hO : OrAt h o t s g L S) (hL : L.length ≤ 1000000) (hd : ∀ x ∈ L, x.data.length ≤ 1000000) (k : Pr) (n : Nn) (head b : Bs) (tg : Pr) :
    AE Try.prog 54 [.ptr o 0 0, .agg (encP k), .agg (encN n), .imm 1 (head.map encB), .agg (encS b tg)] h
      (.tup [.imm 1 (((openO L k n head b tg).getD []).map encB), .bool (openO L k n head b tg).isSome]) h := by
  obtain ⟨q1, q2, q3⟩ := hO
  refine AE.wf fun hwf => ?_
  have ho := hwf _ _ q1
  refine AE.pureW is_oracle_Oracle_Open (by simp) ?_
  unfold c_oracle_Oracle_Open
  (refine go ?_)
  refine WW.loopE (fun (i : Nat) => [(3, some (.imm 1 (head.map encB))), (6, some (.ptr h.next 0 0)), (7, some (.ptr (h.next + 1) 0 0)), (9, some (.ptr (h.next + 2) 0 0)), (19, some (.app t g 10 (L.map encI))), (20, some (.int .i64 L.length)), (21, some (.int .i64 i))])
    (fun i h' => h'.get h.next = some (.mem 2 [encP k]) ∧ h'.get (h.next + 1) = some (.mem 3 [encN n]) ∧ h'.get (h.next + 2) = some (.mem 3 [encS b tg]) ∧ h.next + 3 ≤ h'.next ∧ Keeps h h' ∧ i ≤ L.length ∧ openO L k n head b tg = openO (L.drop i) k n head b tg) (fun i => L.length - i) 0 (by repeat first | exact subE.nil _ | (apply subE.cons; focus (first | exact rfl | (simp [lk_cons]; done) | (simp [lk_cons]; omega))))
    ⟨gH, gH, gH, (leN gN (by omega)), (by repeat first | with_reducible exact Keeps.refl _ | with_reducible refine Keeps.put ?_ (by omega) _ | with_reducible refine Keeps.set ?_ (by omega) _ | assumption), Nat.zero_le _, by simp⟩ ?_
  rintro i h' ⟨g1, g2, g3, g4, g5, g6, g7⟩
  (refine go ?_)
  (refine WW.ifB rfl (fun hz1 => ?_) (fun hz1 => ?_))
  · have hi : i < L.length := by omega
    (refine go ?_)
    (apply WL.andB; exact rfl; exact rfl; exact rfl; exact BP.of; intro hz2)
    · (repeat first | (apply GW.goS; exact Stp.auto) | apply GW.nil | exact rfl)
    (refine go ?_)
    (apply WL.andB; exact rfl; exact rfl; exact rfl; exact BP.of; intro hz3)
    · (repeat first | (apply GW.goS; exact Stp.auto) | apply GW.nil | exact rfl)
    (refine go ?_)
    (apply WL.andB; exact rfl; exact rfl; exact rfl; exact BP.of; intro hz4)
    · (repeat first | (apply GW.goS; exact Stp.auto) | apply GW.nil | exact rfl)
      refine GW.call rfl (by first | exact True.intro | exact rfl) (by repeat first | exact SubL.nil | refine SubL.cons (SubV.refl _) ?_ | refine SubL.cons SubV.app ?_ | refine SubL.cons SubV.nil ?_) (bytes_Equal_ae _ _ _) ?_
      (repeat first | (apply GW.goS; exact Stp.auto) | apply GW.nil | exact rfl)
    (refine go ?_)
    (apply WL.andB; exact rfl; exact rfl; exact rfl; exact BP.of; intro hz5)
    · (repeat first | (apply GW.goS; exact Stp.auto) | apply GW.nil | exact rfl)
      refine GW.call rfl (by first | exact True.intro | exact rfl) (by repeat first | exact SubL.nil | refine SubL.cons (SubV.refl _) ?_ | refine SubL.cons SubV.app ?_ | refine SubL.cons SubV.nil ?_) (bytes_Equal_ae _ _ _) ?_
      (repeat first | (apply GW.goS; exact Stp.auto) | apply GW.nil | exact rfl)
    (refine go ?_)
    (refine WW.ifB rfl (fun hz6 => ?_) (fun hz6 => ?_))
    · have hm : isI k n head b tg L[i] = true := by rw [isI, ← pr_beq, ← nn_beq, ← pr_beq]; exact hz6
      (refine go ?_)
      refine WL.call rfl (by first | exact True.intro | exact rfl) (by repeat first | exact SubL.nil | refine SubL.cons (SubV.refl _) ?_ | refine SubL.cons SubV.app ?_ | refine SubL.cons SubV.nil ?_) (bytes_Clone_ae L[i].data (hd _ (List.getElem_mem hi)) _) ?_
      (refine go ?_)
      refine WW.ret (PureQ.finD ?_)
      have : openO L k n head b tg = some L[i].data := by
        rw [g7, openO, List.drop_eq_getElem_cons hi, List.find?_cons, hm]; rfl
      rw [this]
      exact Fz.tup2 (fz_immB rfl) (fz_b rfl)
    · have hm : isI k n head b tg L[i] = false := by rw [isI, ← pr_beq, ← nn_beq, ← pr_beq]; exact hz6
      (refine go ?_)
      refine ⟨i + 1, (by repeat first | exact subE.nil _ | (apply subE.cons; focus (first | exact rfl | (simp [lk_cons]; done) | (simp [lk_cons]; omega)))), ⟨gH, gH, gH, (leN gN (by omega)), (by repeat first | with_reducible exact Keeps.refl _ | with_reducible refine Keeps.put ?_ (by omega) _ | with_reducible refine Keeps.set ?_ (by omega) _ | assumption), by omega, ?_⟩, by omega⟩
      rw [g7, openO, openO, find_drop hi hm]
  · have hi : i = L.length := by omega
    subst hi
    (refine go ?_)
    refine WW.ret (PureQ.finD ?_)
    have : openO L k n head b tg = none := by rw [g7]; simp [openO]
    rw [this]
    exact Fz.tup2 (.nil _) (fz_b rfl)

/-- Which row was it? -/
def idxS (k : Bs) : List Bs → Option Nat
  | [] => none
  | s :: S => if k = s then some 0 else (idxS k S).map (· + 1)
def sumN (S : List Bs) (k : Bs) : Nat := (idxS k S).getD S.length + 1
def sumS (S : List Bs) (k : Bs) : List Bs := if (idxS k S).isSome then S else S ++ [k]
theorem findA_sum (k : Bs) : ∀ (S : List Bs) (i j : Nat), findA (.str k) ((S.zipIdx j).map fun p => (AV.str p.1, AV.int .u64 (p.2 + 1 : Nat))) i = some ((idxS k S).map fun m => (i + m, AV.int .u64 (j + m + 1 : Nat)))
  | [], i, j => rfl
  | s :: S, i, j => by
    simp only [List.zipIdx_cons, List.map_cons, findA, sameK, idxS]
    by_cases hk : k = s
    · subst hk; simp
    · have h1 : (k == s) = false := by simp [hk]
      rw [h1, if_neg hk]
      simp only
      rw [findA_sum k S (i + 1) (j + 1)]
      cases idxS k S with
      | none => rfl
      | some m => simp; omega
theorem encM_app (S : List Bs) (k : Bs) : encM (S ++ [k]) = encM S ++ [(.str k, .int .u64 (S.length + 1 : Nat))] := by
  simp [encM, List.zipIdx_append]
def eees : Int := 17216961135462248174
theorem clo_encM {u : Nat → Prop} (S : List Bs) : ∀ kv ∈ encM S, Clo u kv.1 ∧ Clo u kv.2 := by
  intro kv hkv
  obtain ⟨p, _, rfl⟩ := List.mem_map.1 hkv
  exact ⟨.str _, .int _ _⟩
theorem oracle_Sum_ae {h : AHeap} {o t s g : Nat} {L : List Iss} {S : List Bs} (hO : OrAt h o t s g L S) (hS : S.length ≤ 1000000) (rows : List Bs) (hr1 : rows.length ≤ 1000000) (hr2 : rows.flatten.length ≤ 1000000) :
    AE Try.prog 55 [.ptr o 0 0, .imm 1 (rows.map encR)] h (.agg (encP (eees, (sumN S rows.flatten : Int)))) (h.set s (some (.map (encM (sumS S rows.flatten))))) := by
  obtain ⟨q1, q2, q3⟩ := hO
  refine AE.wf fun hwf => ?_
  have ho := hwf _ _ q1
  have hs := hwf _ _ q3
  have hne : o ≠ s := fun e => by subst e; rw [q1] at q3; cases q3
  refine AE.effW is_oracle_Oracle_Sum (by simp) (Ext.set (x := .map _) Ext.refl (Nm.old q3) (clo_encM _)) ?_
  unfold c_oracle_Oracle_Sum
  generalize hk : rows.flatten = key at *
  (refine go ?_)
  refine WL.call rfl (by first | exact True.intro | exact rfl) (by repeat first | exact SubL.nil | refine SubL.cons (SubV.refl _) ?_ | refine SubL.cons SubV.app ?_ | refine SubL.cons SubV.nil ?_) (slices_Concat_ae rows hr1 (by rw [hk]; omega) _) ?_
  rw [hk]
  (refine go ?_)
  have hf : findA (.str key) (encM S) 0 = some ((idxS key S).map fun m => (0 + m, AV.int .u64 (0 + m + 1 : Nat))) := findA_sum key S 0 0
  cases hi : idxS key S with
  | some m =>
    rw [hi] at hf
    have e1 : sumS S key = S := by rw [sumS, hi]; rfl
    have e2 : sumN S key = m + 1 := by rw [sumN, hi]; rfl
    rw [e1, e2, set_same q3]
    refine WL.fx1 (FX.look rfl rfl gH trivial hf rfl (by first | exact True.intro | exact rfl)) ?_
    simp only [lookR, Option.map_some, Option.getD_some, Option.isSome_some, if_true]
    (refine go ?_)
    refine WW.ret (EffQ.finD ?_ ?_)
    · exact (by repeat first | with_reducible exact Keeps.refl _ | with_reducible refine Keeps.put ?_ (by omega) _ | with_reducible refine Keeps.set ?_ (by omega) _ | assumption)
    · refine .clo _ (.agg _ fun v hv => ?_)
      simp only [List.mem_cons, List.not_mem_nil, or_false] at hv
      rcases hv with rfl | rfl <;> exact .int _ _
  | none =>
    rw [hi] at hf
    have e1 : sumS S key = S ++ [key] := by rw [sumS, hi]; rfl
    have e2 : sumN S key = S.length + 1 := by rw [sumN, hi]; rfl
    rw [e1, e2, encM_app]
    refine WL.fx1 (FX.look rfl rfl gH trivial hf rfl (by first | exact True.intro | exact rfl)) ?_
    simp only [lookR, Option.map_none, Option.getD_none, Option.isSome_none, if_true]
    have hlen : (encM S).length = S.length := by simp [encM]
    (refine go ?_)
    refine WL.fx0 (FX.mput rfl rfl rfl gH trivial hf (by first | exact True.intro | exact rfl)) ?_
    (refine go ?_)
    refine WW.ret (EffQ.finD ?_ ?_)
    · refine ⟨(by repeat first | exact Nat.le_refl _ | refine next_le_put ?_ | refine next_le_set ?_ | assumption), fun id hu => ?_⟩; have hlt : id < AHeap.next h := hu.1; simp only [get_put, get_set]; (repeat' split) <;> first | rfl | omega | (simp [putM, hlen]; done)
    · rw [hlen]
      refine .clo _ (.agg _ fun v hv => ?_)
      simp only [List.mem_cons, List.not_mem_nil, or_false] at hv
      rcases hv with rfl | rfl <;> exact .int _ _

theorem oracle_Issued_ae {h : AHeap} {o t s g : Nat} {L : List Iss} {S : List Bs} (hO : OrAt h o t s g L S) (hL : L.length ≤ 1000000) (hx : ∀ x ∈ L, x.head.length ≤ 1000000 ∧ x.data.length ≤ 1000000 ∧ x.out.length ≤ 1000000) :
    AE Try.prog 56 [.ptr o 0 0] h (.imm 10 (L.map encI)) h := by
  obtain ⟨q1, q2, q3⟩ := hO
  refine AE.wf fun hwf => ?_
  have ho := hwf _ _ q1
  refine AE.pureW is_oracle_Oracle_Issued (by simp) ?_
  unfold c_oracle_Oracle_Issued
  (refine go ?_)
  refine WW.cvt (Cvt.adopt 10 (s := 3) rfl gN) ?_
  refine WW.loopE (fun (i : Nat) => [(3, some (.app h.next 0 10 ((L.take i).map encI))), (11, some (.app t g 10 (L.map encI))), (12, some (.int .i64 L.length)), (13, some (.int .i64 i))])
    (fun i h' => h'.get h.next = some (.tail 0 i) ∧ h.next < h'.next ∧ Keeps h h' ∧ i ≤ L.length) (fun i => L.length - i) 0 (by repeat first | exact subE.nil _ | (apply subE.cons; focus (first | exact rfl | (simp [lk_cons]; done) | (simp [lk_cons]; omega)))) ⟨gH, (ltN gN (by omega)), (by repeat first | with_reducible exact Keeps.refl _ | with_reducible refine Keeps.put ?_ (by omega) _ | with_reducible refine Keeps.set ?_ (by omega) _ | assumption), Nat.zero_le _⟩ ?_
  rintro i h' ⟨g1, g2, g3, g4⟩
  (refine go ?_)
  (refine WW.ifB rfl (fun hz1 => ?_) (fun hz1 => ?_))
  · have hi : i < L.length := by omega
    have hlen : (L.take i).length = i := by simp; omega
    (refine go ?_)
    refine WL.call rfl (by first | exact True.intro | exact rfl) (by repeat first | exact SubL.nil | refine SubL.cons (SubV.refl _) ?_ | refine SubL.cons SubV.app ?_ | refine SubL.cons SubV.nil ?_) (oracle_told_ae L[i] (hx _ (List.getElem_mem hi)) _) ?_
    (refine go ?_)
    have e1 : (L.take (i + 1)).map encI = (L.take i).map encI ++ [encI L[i]] := by rw [List.take_succ_eq_append_getElem hi, List.map_append]; rfl
    refine ⟨i + 1, subE.cons (by rw [e1]; rfl) (by repeat first | exact subE.nil _ | (apply subE.cons; focus (first | exact rfl | (simp [lk_cons]; done) | (simp [lk_cons]; omega)))), ⟨(by repeat first | exact get_put_tl (by first | rfl | exact List.length_map _ | (simp; done) | (simp; omega)) | exact get_set_tl (by first | rfl | exact List.length_map _ | (simp; done) | (simp; omega)) | assumption | with_reducible apply get_put_neE (by omega) | with_reducible apply get_set_neE (by omega)), (ltN gN (by omega)), (by repeat first | with_reducible exact Keeps.refl _ | with_reducible refine Keeps.put ?_ (by omega) _ | with_reducible refine Keeps.set ?_ (by omega) _ | assumption), by omega⟩, by omega⟩
  · have hi : i = L.length := by omega
    subst hi
    (refine go ?_)
    refine WW.ret (PureQ.finD ?_)
    rw [List.take_length]
    refine .app _ _ _ _ fun x hx v hv => ?_
    obtain ⟨y, _, rfl⟩ := List.mem_map.1 hx
    exact clo_encI y v hv

/-- The key and the number. -/
abbrev KN := Pr × Nn
def kn (x : Iss) : KN := (x.key, x.n)
def encK (q : KN) : List AV := [.int .u64 q.1.1, .int .u64 q.1.2, .int .u32 q.2.1, .int .u32 q.2.2.1, .int .u64 q.2.2.2]
def encT (ks : List KN) : List (AV × AV) := ks.map fun q => (.agg (encK q), .bool true)
/-- Each one once, as first met. -/
def nubK (ks : List KN) : List KN := ks.foldl (fun acc q => if q ∈ acc then acc else acc ++ [q]) []
theorem nubK_snoc (ks : List KN) (q : KN) : nubK (ks ++ [q]) = if q ∈ nubK ks then nubK ks else nubK ks ++ [q] := by
  unfold nubK
  rw [List.foldl_append]
  rfl
theorem snoc_ind {α : Type} {p : List α → Prop} (h0 : p []) (h1 : ∀ l a, p l → p (l ++ [a])) (l : List α) : p l := by
  have key : ∀ l : List α, p l.reverse := by
    intro l
    induction l with
    | nil => exact h0
    | cons a l ih => rw [List.reverse_cons]; exact h1 _ _ ih
  have := key l.reverse
  rwa [List.reverse_reverse] at this
theorem nubK_le (ks : List KN) : (nubK ks).length ≤ ks.length := by
  refine snoc_ind (p := fun ks => (nubK ks).length ≤ ks.length) (by simp [nubK]) (fun ks q ih => ?_) ks
  rw [nubK_snoc]; split <;> simp <;> omega
theorem nubK_all (ks : List KN) : ∀ p : KN, p ∈ nubK ks ↔ p ∈ ks := by
  refine snoc_ind (p := fun ks => ∀ p : KN, p ∈ nubK ks ↔ p ∈ ks) (by simp [nubK]) (fun ks q ih p => ?_) ks
  rw [nubK_snoc]
  split
  · rename_i h
    rw [ih] at h
    simp only [List.mem_append, List.mem_singleton]
    rw [ih]
    constructor
    · exact .inl
    · rintro (h1 | rfl)
      · exact h1
      · exact h
  · simp only [List.mem_append, List.mem_singleton, ih]
theorem nubK_mem (ks : List KN) (p : KN) : p ∈ nubK ks ↔ p ∈ ks := nubK_all ks p
/-- Is one met twice? -/
def dupB (ks : List KN) : Bool := !decide ks.Nodup
theorem nubK_dup (ks : List KN) : decide ((nubK ks).length < ks.length) = dupB ks := by
  have key : (nubK ks).length = ks.length ↔ ks.Nodup := by
    refine snoc_ind (p := fun ks => (nubK ks).length = ks.length ↔ ks.Nodup) (by simp [nubK]) (fun ks q ih => ?_) ks
    · have hle := nubK_le ks
      rw [nubK_snoc]
      split
      · rename_i h
        rw [nubK_mem] at h
        constructor
        · intro he; simp at he; omega
        · intro hn
          rw [List.nodup_append] at hn
          exact absurd rfl (hn.2.2 q h q (by simp))
      · rename_i h
        rw [nubK_mem] at h
        simp only [List.length_append, List.length_singleton, Nat.add_right_cancel_iff]
        rw [ih, List.nodup_append]
        constructor
        · exact fun h1 => ⟨h1, by simp, fun a ha b hb => by simp at hb; subst hb; exact fun e => h (e ▸ ha)⟩
        · exact fun h1 => h1.1
  have hle := nubK_le ks
  unfold dupB
  by_cases hn : ks.Nodup
  · have := key.2 hn; simp [hn, this]
  · have : (nubK ks).length ≠ ks.length := fun h => hn (key.1 h)
    simp [hn]; omega
theorem findB_K (q : KN) : ∀ (ks : List KN) (i : Nat), ∃ r, findB [.i, .i, .i, .i, .i] (encK q) (encT ks) i = some r ∧ (r = none ↔ q ∉ ks) ∧ ∀ j v, r = some (j, v) → i ≤ j ∧ ks[j - i]? = some q
  | [], i => ⟨none, by simp [findB, encT, encK], by simp, by simp⟩
  | p :: ks, i => by
    obtain ⟨r, h1, h2, h3⟩ := findB_K q ks (i + 1)
    have he : eqCells [.i, .i, .i, .i, .i] (encK q) (encK p) = some (decide (q = p)) := by
      simp only [encK, eqCells, if_true, Option.map_some, Option.some.injEq]
      obtain ⟨⟨a, b⟩, c, d, e⟩ := q
      obtain ⟨⟨a', b'⟩, c', d', e'⟩ := p
      simp only [Prod.mk.injEq, Bool.and_true]
      rw [Bool.eq_iff_iff]
      simp [and_assoc]
    by_cases hq : q = p
    · subst hq
      exact ⟨some (i, .bool true), by simp [findB, encT, he], by simp, fun j v hjv => by cases hjv; exact ⟨Nat.le_refl _, by simp⟩⟩
    · refine ⟨r, by simp only [encT, List.map_cons, findB, he, decide_eq_false hq]; exact h1, by rw [h2]; simp [hq], fun j v hjv => ?_⟩
      obtain ⟨h4, h5⟩ := h3 j v hjv
      exact ⟨by omega, by rw [show j - i = (j - (i + 1)) + 1 by omega]; simpa using h5⟩
theorem putM_K (q : KN) (ks : List KN) : ∃ r, findB [.i, .i, .i, .i, .i] (encK q) (encT ks) 0 = some r ∧ putM (encT ks) (.agg (encK q)) (.bool true) r = encT (if q ∈ ks then ks else ks ++ [q]) := by
  obtain ⟨r, h1, h2, h3⟩ := findB_K q ks 0
  refine ⟨r, h1, ?_⟩
  cases r with
  | none =>
    rw [if_neg (h2.1 rfl)]
    simp [putM, encT]
  | some jv =>
    obtain ⟨j, v⟩ := jv
    have hm : q ∈ ks := by
      by_cases h : q ∈ ks
      · exact h
      · exact absurd (h2.2 h) (by simp)
    rw [if_pos hm]
    obtain ⟨_, h5⟩ := h3 j v rfl
    simp only [putM, encT]
    refine List.ext_getElem? fun k => ?_
    rw [List.getElem?_set]
    split
    · rename_i e; subst e
      have : j < ks.length := (List.getElem?_eq_some_iff.1 h5).1
      simp only [Nat.sub_zero] at h5
      obtain ⟨_, e⟩ := List.getElem?_eq_some_iff.1 h5
      simp [this, e]
    · rfl
theorem oracle_Twice_ae {h : AHeap} {o t s g : Nat} {L : List Iss} {S : List Bs} (hO : OrAt h o t s g L S) (hL : L.length ≤ 1000000) :
    AE Try.prog 57 [.ptr o 0 0] h (.bool (dupB (L.map kn))) h := by
  obtain ⟨q1, q2, q3⟩ := hO
  refine AE.wf fun hwf => ?_
  have ho := hwf _ _ q1
  refine AE.pureW is_oracle_Oracle_Twice (by simp) ?_
  unfold c_oracle_Oracle_Twice
  (refine go ?_)
  refine WW.loopE (fun (i : Nat) => [(0, some (.ptr o 0 0)), (3, some (.map h.next)), (12, some (.app t g 10 (L.map encI))), (13, some (.int .i64 L.length)), (14, some (.int .i64 i))])
    (fun i h' => h'.get h.next = some (.map (encT (nubK ((L.take i).map kn)))) ∧ h'.get o = some (.mem 2 [[.app t g 10 (L.map encI), .map s]]) ∧ h.next < h'.next ∧ Keeps h h' ∧ i ≤ L.length) (fun i => L.length - i) 0 (by repeat first | exact subE.nil _ | (apply subE.cons; focus (first | exact rfl | (simp [lk_cons]; done) | (simp [lk_cons]; omega)))) ⟨gH, gH, (ltN gN (by omega)), (by repeat first | with_reducible exact Keeps.refl _ | with_reducible refine Keeps.put ?_ (by omega) _ | with_reducible refine Keeps.set ?_ (by omega) _ | assumption), Nat.zero_le _⟩ ?_
  rintro i h' ⟨g1, g2, g3, g4, g5⟩
  (refine go ?_)
  (refine WW.ifB rfl (fun hz1 => ?_) (fun hz1 => ?_))
  · have hi : i < L.length := by omega
    (refine go ?_)
    obtain ⟨r, hr1, hr2⟩ := putM_K (kn L[i]) (nubK ((L.take i).map kn))
    refine WL.fx0 (FX.mputA rfl rfl rfl gH hr1 (by first | exact True.intro | exact rfl)) ?_
    (refine go ?_)
    refine ⟨i + 1, (by repeat first | exact subE.nil _ | (apply subE.cons; focus (first | exact rfl | (simp [lk_cons]; done) | (simp [lk_cons]; omega)))), ⟨?_, gH, (ltN gN (by omega)), (by repeat first | with_reducible exact Keeps.refl _ | with_reducible refine Keeps.put ?_ (by omega) _ | with_reducible refine Keeps.set ?_ (by omega) _ | assumption), by omega⟩, by omega⟩
    rw [get_set_same]
    have e1 : (L.take (i + 1)).map kn = (L.take i).map kn ++ [kn L[i]] := by rw [List.take_succ_eq_append_getElem hi, List.map_append]; rfl
    rw [e1, nubK_snoc, ← hr2]
    rfl
  · have hi : i = L.length := by omega
    subst hi
    have e9 : (encT (nubK ((L.take L.length).map kn))).length = (nubK (L.map kn)).length := by rw [List.take_length]; simp [encT]
    (refine go ?_)
    refine WW.ret (PureQ.finD ?_)
    refine fz_b ?_
    rw [← nubK_dup, e9]
    simp
end Go.Proofs.Ytlddahcgaonlhaa
