/- What a region's operations answer, whatever the order; the two locks side by side. -/
import Derived.Test.YtlddahcgaonlhaaG9
set_option linter.all false
namespace Go.Proofs.Ytlddahcgaonlhaa
open Go Go.Abs

/-- What was there, and what each operation that is done answered. -/
structure TI (tab : List (Option (Nat × AV))) (E0 : Env) (D : Nat → Bool) (e : Env) : Prop where
  base : subE E0 e
  done : ∀ j s v, tab[j]? = some (some (s, v)) → D j = true → lk s e = some v
theorem TI.start {tab : List (Option (Nat × AV))} {E0 e : Env} (hs : subE E0 e) : TI tab E0 (fun _ => false) e := ⟨hs, fun _ _ _ _ h => by cases h⟩
theorem lk_put_ne {s d : Nat} {r : Option AV} {e : Env} (h : s ≠ d) : lk s (putR (some d) r e) = lk s e := lk_putR_ne (by simp; omega)
theorem TI.step {tab : List (Option (Nat × AV))} {E0 e : Env} {D : Nat → Bool} (ht : TI tab E0 D e) {i d : Nat} {r : Option AV} (hc : (E0.all (fun x => x.1 != d) && (List.range tab.length).all fun j => j == i || ((tab.getD j none).map (·.1)) != some d) = true)
    (hr : ∀ s v, tab[i]? = some (some (s, v)) → s = d ∧ r = some v) : TI tab E0 (fun j => if j = i then true else D j) (putR (some d) r e) := by
  simp only [Bool.and_eq_true, List.all_eq_true, List.mem_range, Bool.or_eq_true, beq_iff_eq, bne_iff_ne] at hc
  refine ⟨fun s v hv => ?_, fun j s v hj hD => ?_⟩
  · have hne : s ≠ d := by
      rintro rfl
      have key : ∀ (E : Env), (∀ x ∈ E, x.1 ≠ s) → lk s E = none := fun E => by
        induction E with
        | nil => intro _; rfl
        | cons x E ih =>
          intro h
          rw [lk_cons, if_neg (Ne.symm (h x (by simp))), ih (fun y hy => h y (by simp [hy]))]
      rw [key E0 hc.1] at hv; cases hv
    rw [lk_put_ne hne]; exact ht.base s v hv
  · by_cases hji : j = i
    · subst hji
      obtain ⟨rfl, rfl⟩ := hr s v hj
      exact lk_putR_same
    · rw [if_neg hji] at hD
      have hjl : j < tab.length := (List.getElem?_eq_some_iff.1 hj).1
      have hne : s ≠ d := by
        rintro rfl
        rcases hc.2 j hjl with h1 | h1
        · exact hji h1
        · apply h1
          rw [List.getD_eq_getElem?_getD, hj]; rfl
      rw [lk_put_ne hne]; exact ht.done j s v hj hD
/-- What Check answers, by either lock. -/
def ckB (md : Bool) (slots i : Int) (b : Bs) (q : List Pr) (top : Pr) : Bool := ckOk slots i q.length && (ckF md q i.toNat (gP md [] (leafK b)) (gS md [] (leafK b))).1 == top
theorem set_self {h : AHeap} {s : Nat} {x : Option AObj} (hs : h.get s = x) : h.set s x = h :=
  hp_ext (fun i => by rw [get_set]; split; · rename_i e; rw [e, hs]
                      · rfl) rfl fun _ => rfl
theorem path_Check_any {md : Bool} {h : AHeap} {l s : Nat} (hl : GAt md h l s []) (slots i : Int) (b : Bs) (hb : b.length ≤ 100000) (q : List Pr) (hq : q.length ≤ 60) (top : Pr) :
    ∃ S', AE Try.prog 27 [.ptr l 0 0, .int .i64 slots, .int .i64 i, .imm 1 (b.map encB), .imm 2 (q.map encP), .agg (encP top)] h (.bool (ckB md slots i b q top)) (h.set s (gO md S')) := by
  cases hok : ckOk slots i q.length with
  | false =>
    refine ⟨[], ?_⟩
    rw [set_self hl.sm, ckB, hok]
    exact path_Check_no slots i q hq top hok h
  | true =>
    have hh : 0 ≤ slots ∧ 0 ≤ i := by simp [ckOk] at hok; omega
    obtain ⟨n, rfl⟩ : ∃ n : Nat, slots = n := ⟨slots.toNat, (Int.toNat_of_nonneg hh.1).symm⟩
    obtain ⟨k, rfl⟩ : ∃ k : Nat, i = k := ⟨i.toNat, (Int.toNat_of_nonneg hh.2).symm⟩
    refine ⟨(ckF md q k (gP md [] (leafK b)) (gS md [] (leafK b))).2, ?_⟩
    rw [ckB, hok]
    exact path_Check_ae hl (by simp) n k b hb q hq top hok
theorem ref19_Check_any {md : Bool} {h : AHeap} {l o t1 t2 : Nat} (hl : RAt md h l o t1 t2 []) (slots i : Int) (b : Bs) (hb : b.length ≤ 100000) (q : List Pr) (hq : q.length ≤ 60) (top : Pr) :
    ∃ S', AE Try.prog 49 [.ptr l 0 0, .int .i64 slots, .int .i64 i, .imm 1 (b.map encB), .imm 2 (q.map encP), .agg (encP top)] h (.bool (ckB md slots i b q top)) ((h.set t2 (rT md S')).set o (rM md t1 t2 S')) := by
  cases hok : ckOk slots i q.length with
  | false =>
    refine ⟨[], ?_⟩
    rw [set_self hl.m2, set_self hl.m1, ckB, hok]
    exact ref19_Check_no slots i q hq top hok h
  | true =>
    have hh : 0 ≤ slots ∧ 0 ≤ i := by simp [ckOk] at hok; omega
    obtain ⟨n, rfl⟩ : ∃ n : Nat, slots = n := ⟨slots.toNat, (Int.toNat_of_nonneg hh.1).symm⟩
    obtain ⟨k, rfl⟩ : ∃ k : Nat, i = k := ⟨i.toNat, (Int.toNat_of_nonneg hh.2).symm⟩
    refine ⟨(ckF md q k (gP md [] (leafK b)) (gS md [] (leafK b))).2, ?_⟩
    rw [ckB, hok]
    exact ref19_Check_ae hl (by simp) n k b hb q hq top hok
end Go.Proofs.Ytlddahcgaonlhaa
