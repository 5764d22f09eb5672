/- Either lock, made: the laws' of, the document's New. -/
import Derived.Test.YtlddahcgaonlhaaG6
import Derived.Test.YtlddahcgaonlhaaG8
import Derived.Test.YtlddahcgaonlhaaAG
set_option linter.all false
namespace Go.Proofs.Ytlddahcgaonlhaa
open Go Go.Abs

theorem bool_of8 {c : List AV} (t : TypL [.b] c) : ∃ v : Bool, c = [.bool v] := by
  obtain ⟨v, vs, rfl, h1, h2⟩ := t.cons_inv
  obtain rfl := h2.nil_inv
  obtain ⟨x, rfl⟩ := h1.bool_inv
  exact ⟨x, rfl⟩
theorem AC.imp {P : Program} {f : Nat} {vs : List AV} {h : AHeap} {R R' : AV → AHeap → Prop} (hac : AC P f vs h R) (hi : ∀ r h', R r h' → R' r h') : AC P f vs h R' := fun m w cargs hr hl hv =>
  (hac m w cargs hr hl hv).mono fun ex w' ⟨v, m', r', h', e1, g1, g2, g3, hR⟩ => ⟨v, m', r', h', e1, g1, g2, g3, hi _ _ hR⟩
theorem idAt_get8 {h h2 : AHeap} {l o t s g : Nat} {L : List Iss} {S : List Bs} (hO : IdAt h l o t s g L S) (h0 : h2.get l = h.get l) (h1 : h2.get o = h.get o) (h3 : h2.get t = h.get t) (h4 : h2.get s = h.get s) : IdAt h2 l o t s g L S :=
  ⟨h0.trans hO.cells, orAt_get hO.ora h1 h3 h4⟩
theorem law18_of0_ae {h : AHeap} {nx : Nat} (hn : h.next = nx) : AE Try.prog 45 [.bool false] h (.ptr nx 0 0) (h.put nx (.mem 5 [reC])) := by
  subst hn
  refine AC.introW is_law18_of (by simp) ?_
  unfold c_law18_of
  (refine go ?_)
  refine WL.call rfl (by first | exact True.intro | exact rfl) (by repeat first | exact SubL.nil | refine SubL.cons (SubV.refl _) ?_ | refine SubL.cons SubV.app ?_ | refine SubL.cons SubV.nil ?_) (lock_Real_ae rfl) ?_
  (refine go ?_)
  exact WW.ret ⟨.inl rfl, _, (by repeat first | exact resA_nil | (apply resA_t; exact rfl) | (apply resA_c; exact rfl; exact gH; exact (by first | exact getC_at rfl rfl | exact getC_all rfl | exact getC_sub (Nat.le_of_ble_eq_true rfl) (by first | (simp only [putC, AV.cs, encP, encN, encI, encS, encA, List.take_succ_cons, List.take_zero, List.take_nil, List.drop_succ_cons, List.drop_zero, List.drop_nil, List.cons_append, List.nil_append, List.append_nil, List.length_cons, List.length_nil, Nat.zero_add, Nat.add_zero, Nat.reduceAdd]; exact rfl) | exact rfl) | exact getC_sub (by simp) (by first | (simp only [putC, AV.cs, encP, encN, encI, encS, encA, List.take_succ_cons, List.take_zero, List.take_nil, List.drop_succ_cons, List.drop_zero, List.drop_nil, List.cons_append, List.nil_append, List.append_nil, List.length_cons, List.length_nil, Nat.zero_add, Nat.add_zero, Nat.reduceAdd]; exact rfl) | exact rfl)))), rfl, rfl⟩
theorem law18_of1_ae {h : AHeap} {nx : Nat} (hn : h.next = nx) : AE Try.prog 45 [.bool true] h (.ptr (nx + 3) 0 0) ((newO h).put (nx + 3) (.mem 5 [idC (nx + 1)])) := by
  subst hn
  refine AC.introW is_law18_of (by simp) ?_
  unfold c_law18_of
  (refine go ?_)
  refine WL.call rfl (by first | exact True.intro | exact rfl) (by repeat first | exact SubL.nil | refine SubL.cons (SubV.refl _) ?_ | refine SubL.cons SubV.app ?_ | refine SubL.cons SubV.nil ?_) (lock_Ideal_ae rfl) ?_
  generalize newO h = h1 at *
  (refine go ?_)
  exact WW.ret ⟨.inl rfl, _, (by repeat first | exact resA_nil | (apply resA_t; exact rfl) | (apply resA_c; exact rfl; exact gH; exact (by first | exact getC_at rfl rfl | exact getC_all rfl | exact getC_sub (Nat.le_of_ble_eq_true rfl) (by first | (simp only [putC, AV.cs, encP, encN, encI, encS, encA, List.take_succ_cons, List.take_zero, List.take_nil, List.drop_succ_cons, List.drop_zero, List.drop_nil, List.cons_append, List.nil_append, List.append_nil, List.length_cons, List.length_nil, Nat.zero_add, Nat.add_zero, Nat.reduceAdd]; exact rfl) | exact rfl) | exact getC_sub (by simp) (by first | (simp only [putC, AV.cs, encP, encN, encI, encS, encA, List.take_succ_cons, List.take_zero, List.take_nil, List.drop_succ_cons, List.drop_zero, List.drop_nil, List.cons_append, List.nil_append, List.append_nil, List.length_cons, List.length_nil, Nat.zero_add, Nat.add_zero, Nat.reduceAdd]; exact rfl) | exact rfl)))), rfl, rfl⟩
theorem law19_of0_ae {h : AHeap} {nx : Nat} (hn : h.next = nx) : AE Try.prog 48 [.bool false] h (.ptr nx 0 0) (h.put nx (.mem 5 [reC])) := by
  subst hn
  refine AC.introW is_law19_of (by simp) ?_
  unfold c_law19_of
  (refine go ?_)
  refine WL.call rfl (by first | exact True.intro | exact rfl) (by repeat first | exact SubL.nil | refine SubL.cons (SubV.refl _) ?_ | refine SubL.cons SubV.app ?_ | refine SubL.cons SubV.nil ?_) (lock_Real_ae rfl) ?_
  (refine go ?_)
  exact WW.ret ⟨.inl rfl, _, (by repeat first | exact resA_nil | (apply resA_t; exact rfl) | (apply resA_c; exact rfl; exact gH; exact (by first | exact getC_at rfl rfl | exact getC_all rfl | exact getC_sub (Nat.le_of_ble_eq_true rfl) (by first | (simp only [putC, AV.cs, encP, encN, encI, encS, encA, List.take_succ_cons, List.take_zero, List.take_nil, List.drop_succ_cons, List.drop_zero, List.drop_nil, List.cons_append, List.nil_append, List.append_nil, List.length_cons, List.length_nil, Nat.zero_add, Nat.add_zero, Nat.reduceAdd]; exact rfl) | exact rfl) | exact getC_sub (by simp) (by first | (simp only [putC, AV.cs, encP, encN, encI, encS, encA, List.take_succ_cons, List.take_zero, List.take_nil, List.drop_succ_cons, List.drop_zero, List.drop_nil, List.cons_append, List.nil_append, List.append_nil, List.length_cons, List.length_nil, Nat.zero_add, Nat.add_zero, Nat.reduceAdd]; exact rfl) | exact rfl)))), rfl, rfl⟩
theorem law19_of1_ae {h : AHeap} {nx : Nat} (hn : h.next = nx) : AE Try.prog 48 [.bool true] h (.ptr (nx + 3) 0 0) ((newO h).put (nx + 3) (.mem 5 [idC (nx + 1)])) := by
  subst hn
  refine AC.introW is_law19_of (by simp) ?_
  unfold c_law19_of
  (refine go ?_)
  refine WL.call rfl (by first | exact True.intro | exact rfl) (by repeat first | exact SubL.nil | refine SubL.cons (SubV.refl _) ?_ | refine SubL.cons SubV.app ?_ | refine SubL.cons SubV.nil ?_) (lock_Ideal_ae rfl) ?_
  generalize newO h = h1 at *
  (refine go ?_)
  exact WW.ret ⟨.inl rfl, _, (by repeat first | exact resA_nil | (apply resA_t; exact rfl) | (apply resA_c; exact rfl; exact gH; exact (by first | exact getC_at rfl rfl | exact getC_all rfl | exact getC_sub (Nat.le_of_ble_eq_true rfl) (by first | (simp only [putC, AV.cs, encP, encN, encI, encS, encA, List.take_succ_cons, List.take_zero, List.take_nil, List.drop_succ_cons, List.drop_zero, List.drop_nil, List.cons_append, List.nil_append, List.append_nil, List.length_cons, List.length_nil, Nat.zero_add, Nat.add_zero, Nat.reduceAdd]; exact rfl) | exact rfl) | exact getC_sub (by simp) (by first | (simp only [putC, AV.cs, encP, encN, encI, encS, encA, List.take_succ_cons, List.take_zero, List.take_nil, List.drop_succ_cons, List.drop_zero, List.drop_nil, List.cons_append, List.nil_append, List.append_nil, List.length_cons, List.length_nil, Nat.zero_add, Nat.add_zero, Nat.reduceAdd]; exact rfl) | exact rfl)))), rfl, rfl⟩
/-- A lock that stands within a range of names: so it stands in each heap that is the same there. -/
def GRng (md : Bool) (h : AHeap) (l s : Nat) (S : List Bs) (a0 a1 : Nat) : Prop := ∀ h' : AHeap, (∀ id, a0 ≤ id → id < a1 → h'.get id = h.get id) → h.next ≤ h'.next → GAt md h' l s S
def RRng (md : Bool) (h : AHeap) (l o t1 t2 : Nat) (S : List Bs) (a0 a1 : Nat) : Prop := ∀ h' : AHeap, (∀ id, a0 ≤ id → id < a1 → h'.get id = h.get id) → h.next ≤ h'.next → RAt md h' l o t1 t2 S
theorem GRng.at {md : Bool} {h : AHeap} {l s : Nat} {S : List Bs} {a0 a1 : Nat} (hr : GRng md h l s S a0 a1) : GAt md h l s S := hr h (fun _ _ _ => rfl) (Nat.le_refl _)
theorem RRng.at {md : Bool} {h : AHeap} {l o t1 t2 : Nat} {S : List Bs} {a0 a1 : Nat} (hr : RRng md h l o t1 t2 S a0 a1) : RAt md h l o t1 t2 S := hr h (fun _ _ _ => rfl) (Nat.le_refl _)
theorem GRng.mv {md : Bool} {h h' : AHeap} {l s : Nat} {S : List Bs} {a0 a1 : Nat} (hr : GRng md h l s S a0 a1) (hg : ∀ id, a0 ≤ id → id < a1 → h'.get id = h.get id) (hn : h.next ≤ h'.next) : GRng md h' l s S a0 a1 := fun h2 h3 h4 => hr h2 (fun id x y => (h3 id x y).trans (hg id x y)) (Nat.le_trans hn h4)
theorem RRng.mv {md : Bool} {h h' : AHeap} {l o t1 t2 : Nat} {S : List Bs} {a0 a1 : Nat} (hr : RRng md h l o t1 t2 S a0 a1) (hg : ∀ id, a0 ≤ id → id < a1 → h'.get id = h.get id) (hn : h.next ≤ h'.next) : RRng md h' l o t1 t2 S a0 a1 := fun h2 h3 h4 => hr h2 (fun id x y => (h3 id x y).trans (hg id x y)) (Nat.le_trans hn h4)
/-- A lock that was made. -/
def NewG (md : Bool) (h : AHeap) (r : AV) (h' : AHeap) : Prop := ∃ l s, r = .ptr l 0 0 ∧ GAt md h' l s [] ∧ h.next ≤ s ∧ h.next ≤ h'.next ∧ (∀ h0 : AHeap, Keeps h0 h → Keeps h0 h') ∧ h'.used s ∧ GRng md h' l s [] h.next h'.next ∧ (∀ id, id < h.next → h'.get id = h.get id) ∧ s < h'.next
theorem GAt.keeps {md : Bool} {h h' : AHeap} {l s : Nat} {S : List Bs} (hl : GAt md h l s S) (hu : ∀ id x, h.get id = some x → h.used id) (hs : h.used s) (hk : Keeps h h') : GAt md h' l s S :=
  hl.frame hu (KeepsB.of hk) ((hk.2 s hs).trans hl.sm)
theorem get_fresh {h : AHeap} (hwf : ∀ id x, h.get id = some x → id < h.next) {i : Nat} (hi : h.next ≤ i) : h.get i = none := by
  cases hg : h.get i with
  | none => rfl
  | some x => have := hwf _ _ hg; omega
theorem newG_of {f : Nat} {h : AHeap} (h0 : AE Try.prog f [.bool false] h (.ptr h.next 0 0) (h.put h.next (.mem 5 [reC]))) (h1 : AE Try.prog f [.bool true] h (.ptr (h.next + 3) 0 0) ((newO h).put (h.next + 3) (.mem 5 [idC (h.next + 1)]))) (md : Bool) : AC Try.prog f [.bool md] h (NewG md h) := by
  cases md with
  | true =>
    refine AC.imp (AC.used h1) ?_
    rintro r h' ⟨⟨rfl, rfl⟩, _, hw⟩
    obtain ⟨h2, e2, o2, n2, m2, k2⟩ := newL_ex (h := h) (nx := h.next) rfl
    rw [e2] at hw ⊢
    exact ⟨_, _, rfl, GAt.ofI o2 (by omega) (by omega), Nat.le_refl _, by omega, k2, hw _ _ o2.ora.sums, fun h3 h4 h5 => GAt.ofI (idAt_get8 o2 (h4 _ (by omega) (by omega)) (h4 _ (by omega) (by omega)) (h4 _ (by omega) (by omega)) (h4 _ (by omega) (by omega))) (by omega) (by omega), m2, by omega⟩
  | false =>
    refine AC.imp (AE.spareC h0 (nx := h.next + 1) gN) ?_
    rintro r h' ⟨rfl, rfl⟩
    have hn : (((h.put h.next (.mem 5 [reC])).put (h.next + 1) (.tail 0 0)).set (h.next + 1) none).next = h.next + 1 + 1 := gN
    refine ⟨_, h.next + 1, rfl, ⟨nofun, fun _ => gH, gH, by omega, by omega⟩, by omega, by omega, fun h0 k0 => ?_, put_used_nm (x := .tail 0 0), fun h3 h4 h5 => ⟨nofun, fun _ => (h4 _ (by omega) (by omega)).trans gH, (h4 _ (by omega) (by omega)).trans gH, by omega, by omega⟩, fun id hi => (by repeat first | with_reducible apply get_put_neE (by omega) | with_reducible apply get_set_neE (by omega) | with_reducible apply get_keepE | exact rfl), by omega⟩
    have := k0.1
    exact (by repeat first | with_reducible exact Keeps.refl _ | with_reducible refine Keeps.put ?_ (by omega) _ | with_reducible refine Keeps.set ?_ (by omega) _ | assumption)
theorem law18_of_ac (md : Bool) (h : AHeap) : AC Try.prog 45 [.bool md] h (NewG md h) := newG_of (law18_of0_ae rfl) (law18_of1_ae rfl) md
theorem law19_of_ac (md : Bool) (h : AHeap) : AC Try.prog 48 [.bool md] h (NewG md h) := newG_of (law19_of0_ae rfl) (law19_of1_ae rfl) md
theorem lock_Real_ac (h : AHeap) : AC Try.prog 29 [] h (NewG false h) := by
  refine AC.imp (AE.spareC (lock_Real_ae rfl) (nx := h.next + 1) gN) ?_
  rintro r h' ⟨rfl, rfl⟩
  have hn : (((h.put h.next (.mem 5 [reC])).put (h.next + 1) (.tail 0 0)).set (h.next + 1) none).next = h.next + 1 + 1 := gN
  refine ⟨_, h.next + 1, rfl, ⟨nofun, fun _ => gH, gH, by omega, by omega⟩, by omega, by omega, fun h0 k0 => ?_, put_used_nm (x := .tail 0 0), fun h3 h4 h5 => ⟨nofun, fun _ => (h4 _ (by omega) (by omega)).trans gH, (h4 _ (by omega) (by omega)).trans gH, by omega, by omega⟩, fun id hi => (by repeat first | with_reducible apply get_put_neE (by omega) | with_reducible apply get_set_neE (by omega) | with_reducible apply get_keepE | exact rfl), by omega⟩
  have := k0.1
  exact (by repeat first | with_reducible exact Keeps.refl _ | with_reducible refine Keeps.put ?_ (by omega) _ | with_reducible refine Keeps.set ?_ (by omega) _ | assumption)
/-- The document's lock, made. -/
def NewR (md : Bool) (h : AHeap) (r : AV) (h' : AHeap) : Prop := ∃ l o t1 t2, r = .ptr l 0 0 ∧ RAt md h' l o t1 t2 [] ∧ h.next ≤ o ∧ h.next ≤ t2 ∧ h.next ≤ h'.next ∧ (∀ h0 : AHeap, Keeps h0 h → Keeps h0 h') ∧ h'.used o ∧ h'.used t2 ∧ RRng md h' l o t1 t2 [] h.next h'.next ∧ (∀ id, id < h.next → h'.get id = h.get id) ∧ o < h'.next ∧ t2 < h'.next
theorem RAt.keeps {md : Bool} {h h' : AHeap} {l o t1 t2 : Nat} {S : List Bs} (hl : RAt md h l o t1 t2 S) (hu : ∀ id x, h.get id = some x → h.used id) (ho : h.used o) (ht : h.used t2) (hk : Keeps h h') : RAt md h' l o t1 t2 S :=
  hl.frame hu (KeepsB.of hk) ((hk.2 o ho).trans hl.m1) ((hk.2 t2 ht).trans hl.m2)
theorem ref8_NewG_ac (md : Bool) (h : AHeap) : AC Try.prog 38 [.bool md] h (NewR md h) := by
  cases md with
  | true =>
    refine AC.imp (AC.used (ref8_NewI_ac rfl)) ?_
    rintro r h' ⟨⟨rfl, o3, n3, m3, k3⟩, _, hw⟩
    refine ⟨_, _, _, _, rfl, ⟨fun _ => o3, nofun, o3.ora.obj, o3.ora.tok2, by omega, by omega, by omega, by omega⟩, by omega, by omega, by omega, k3, hw _ _ o3.ora.obj, hw _ _ o3.ora.tok2, fun h4 h5 h6 => ?_, m3, by omega, by omega⟩
    have r1 : R8At h4 _ _ _ _ _ _ _ _ := ⟨(h5 _ (by omega) (by omega)).trans o3.cell, refAt_get o3.ora (h5 _ (by omega) (by omega)) (h5 _ (by omega) (by omega)) (h5 _ (by omega) (by omega))⟩
    exact ⟨fun _ => r1, nofun, r1.ora.obj, r1.ora.tok2, by omega, by omega, by omega, by omega⟩
  | false =>
    refine AC.imp (AC.spareC (AE.spareC (ref8_NewR_ae rfl) (nx := h.next + 1) gN)) ?_
    rintro r h' ⟨h1, ⟨rfl, hh⟩, rfl⟩
    have hn : h1.next = h.next + 1 + 1 := by rw [hh]; exact gN
    rw [hn, hh]
    have hn2 : (((((h.put h.next (.mem 1 [[.nilp]])).put (h.next + 1) (.tail 0 0)).set (h.next + 1) none).put (h.next + 1 + 1) (.tail 0 0)).set (h.next + 1 + 1) none).next = h.next + 1 + 1 + 1 := gN
    refine ⟨_, h.next + 1, 0, h.next + 1 + 1, rfl, ⟨nofun, fun _ => gH, gH, gH, by omega, by omega, by omega, by omega⟩, by omega, by omega, by omega, fun h0 k0 => ?_, put_used (h := ((h.put h.next (.mem 1 [[.nilp]])).put (h.next + 1) (.tail 0 0)).set (h.next + 1) none) (x := .tail 0 0) (put_used_nm (x := .tail 0 0)), put_used_nm (x := .tail 0 0), fun h4 h5 h6 => ⟨nofun, fun _ => (h5 _ (by omega) (by omega)).trans gH, (h5 _ (by omega) (by omega)).trans gH, (h5 _ (by omega) (by omega)).trans gH, by omega, by omega, by omega, by omega⟩, fun id hi => (by repeat first | with_reducible apply get_put_neE (by omega) | with_reducible apply get_set_neE (by omega) | with_reducible apply get_keepE | exact rfl), by omega, by omega⟩
    have := k0.1
    exact (by repeat first | with_reducible exact Keeps.refl _ | with_reducible refine Keeps.put ?_ (by omega) _ | with_reducible refine Keeps.set ?_ (by omega) _ | assumption)
end Go.Proofs.Ytlddahcgaonlhaa
