/- The laws' own functions. -/
import Derived.Test.YtnihcakkhillcaaF10
namespace Go.Proofs.Ytnihcakkhillcaa
open Go Go.Abs

theorem seal_at {h : AHeap} {o t s g : Nat} {L : List Iss} {S : List Bs} (hO : OrAt h o t s g L S) (x : Iss) :
    OrAt ((h.set t (some (.tail g (L.length + 1)))).set o (some (.mem 2 [[.app t g 10 ((L ++ [x]).map encI), .map s]]))) o t s g (L ++ [x]) S := by
  obtain ⟨q1, q2, q3⟩ := hO
  have n1 : o ≠ t := fun e => by subst e; rw [q1] at q2; cases q2
  have n2 : o ≠ s := fun e => by subst e; rw [q1] at q3; cases q3
  have n3 : t ≠ s := fun e => by subst e; rw [q2] at q3; cases q3
  refine ⟨get_set_same, ?_, ?_⟩
  · rw [get_set_neE (by omega) get_set_same]; simp
  · exact get_set_neE (by omega) (get_set_neE (by omega) q3)
theorem newO_keeps (h : AHeap) : Keeps h (newO h) := by
  exact ⟨by rw [newO_next]; omega, fun id hu => newO_get h hu.1⟩

theorem orAt_get {h h2 : AHeap} {o t s g : Nat} {L : List Iss} {S : List Bs} (hO : OrAt h o t s g L S) (h1 : h2.get o = h.get o) (h3 : h2.get t = h.get t) (h4 : h2.get s = h.get s) : OrAt h2 o t s g L S :=
  ⟨h1.trans hO.obj, h3.trans hO.tok, h4.trans hO.sums⟩
/-- A sealing's heap, under a name of its own. -/
theorem sealed {h : AHeap} {o t s g : Nat} {L : List Iss} {S : List Bs} (hO : OrAt h o t s g L S) (k : Pr) (n : Nn) (head data : Bs) :
    ∃ h2, (h.set t (some (.tail g (L.length + 1)))).set o (some (.mem 2 [[.app t g 10 ((L ++ [newI (L.length + 1) k n head data]).map encI), .map s]])) = h2 ∧
      OrAt h2 o t s g (L ++ [newI (L.length + 1) k n head data]) S ∧ (∀ nx, h.next = nx → h2.next = nx) ∧ (∀ id, id ≠ o → id ≠ t → h2.get id = h.get id) ∧ (∀ h0 : AHeap, Keeps h0 h → h0.next ≤ o → h0.next ≤ t → Keeps h0 h2) :=
  ⟨_, rfl, seal_at hO _, fun nx hn => (by repeat first | with_reducible apply next_putE | with_reducible apply next_setE | assumption | exact rfl), fun id h1 h2 => by simp only [get_set]; rw [if_neg h1, if_neg h2], fun h0 hk h1 h2 => (by repeat first | with_reducible exact Keeps.refl _ | with_reducible refine Keeps.put ?_ (by omega) _ | with_reducible refine Keeps.set ?_ (by omega) _ | assumption)⟩
theorem newO_ex (h : AHeap) : ∃ h1, newO h = h1 ∧ OrAt h1 (h.next + 1) (h.next + 2) h.next 0 [] [] ∧ (∀ nx, h.next = nx → h1.next = nx + 3) ∧ (∀ id, id < h.next → h1.get id = h.get id) ∧ ∀ h0 : AHeap, Keeps h0 h → Keeps h0 h1 :=
  ⟨_, rfl, newO_at h, fun nx hn => by rw [newO_next, hn], fun id hi => newO_get h hi, fun h0 hk => ⟨by rw [newO_next]; exact Nat.le_trans hk.1 (by omega), fun id hu => by rw [newO_get h (Nat.lt_of_lt_of_le hu.1 hk.1)]; exact hk.2 id hu⟩⟩

set_option maxHeartbeats 4000000 in
theorem law7_known_ae (h : AHeap) : AE Try.prog 17 [] h (.bool true) h := by
  refine AE.pureW is_law7_known (by simp) ?_
  unfold c_law7_known
  (refine go ?_)
  refine WL.call rfl (by first | exact True.intro | exact rfl) (by repeat first | exact SubL.nil | refine SubL.cons (SubV.refl _) ?_ | refine SubL.cons SubV.app ?_ | refine SubL.cons SubV.nil ?_) (oracle_New_ae _) ?_
  obtain ⟨h1, e1, o1, n1, m1, k1⟩ := newO_ex h
  replace n1 := n1 _ rfl
  replace k1 := k1 h (Keeps.refl _)
  rw [e1]
  (refine go ?_)
  refine WL.call rfl (by first | exact True.intro | exact rfl) (by repeat first | exact SubL.nil | refine SubL.cons (SubV.refl _) ?_ | refine SubL.cons SubV.app ?_ | refine SubL.cons SubV.nil ?_) (oracle_Seal_ae o1 (by decide) (0, 0) (0, 0, 0) [] [] (by decide) (by decide)) ?_
  obtain ⟨h2, e2, o2, n2, m2, k2⟩ := sealed o1 (0, 0) (0, 0, 0) [] []
  replace n2 := n2 _ n1
  replace k2 := k2 h k1 (by omega) (by omega)
  rw [e2]
  (repeat first | refine WW.seq ?_ | refine WW.reg ?_ | refine WL.nil ?_ | refine WW.skip ?_ | refine WW.block ?_ | refine thenN ?_ | refine blkN ?_); iterate 3 (refine WL.go ?_)
  refine WL.fx1 (FX.bslN (n := 1) rfl rfl rfl n2 (by first | exact True.intro | exact rfl)) ?_
  refine WL.fx1 (FX.strish rfl (by repeat first | with_reducible exact get_put_same | with_reducible exact get_set_same | assumption | with_reducible apply get_put_neE (by omega) | with_reducible apply get_set_neE (by omega) | exact get_put_same | exact get_set_same) rfl (by decide) (by first | exact True.intro | exact rfl)) ?_
  have o3 : OrAt ((h2.put (h.next + 3) (.mem 1 [[.int .u8 120]])).set (h.next + 3) none) (h.next + 1) (h.next + 2) h.next 0 _ [] := (orAt_get o2 (by repeat first | with_reducible apply get_put_neE (by omega) | with_reducible apply get_set_neE (by omega) | with_reducible apply get_keepE | exact rfl) (by repeat first | with_reducible apply get_put_neE (by omega) | with_reducible apply get_set_neE (by omega) | with_reducible apply get_keepE | exact rfl) (by repeat first | with_reducible apply get_put_neE (by omega) | with_reducible apply get_set_neE (by omega) | with_reducible apply get_keepE | exact rfl))
  refine WL.call rfl (by first | exact True.intro | exact rfl) (by repeat first | exact SubL.nil | refine SubL.cons (SubV.refl _) ?_ | refine SubL.cons SubV.app ?_ | refine SubL.cons SubV.nil ?_) (oracle_Seal_ae o3 (by simp) (0, 0) (0, 0, 0) [] [120] (by decide) (by decide)) ?_
  obtain ⟨h4, e4, o4, n4, m4, k4⟩ := sealed o3 (0, 0) (0, 0, 0) [] [120]
  replace n4 := n4 (h.next + 4) (by repeat first | with_reducible apply next_putE | with_reducible apply next_setE | assumption | exact rfl)
  replace k4 := k4 h (by repeat first | with_reducible exact Keeps.refl _ | with_reducible refine Keeps.put ?_ (by omega) _ | with_reducible refine Keeps.set ?_ (by omega) _ | assumption) (by omega) (by omega)
  rw [e4]
  (refine go ?_)
  refine WL.call rfl (by first | exact True.intro | exact rfl) (by repeat first | exact SubL.nil | refine SubL.cons (SubV.refl _) ?_ | refine SubL.cons SubV.app ?_ | refine SubL.cons SubV.nil ?_) (oracle_Twice_ae (orAt_get o4 (by repeat first | with_reducible apply get_put_neE (by omega) | with_reducible apply get_set_neE (by omega) | with_reducible apply get_keepE | exact rfl) (by repeat first | with_reducible apply get_put_neE (by omega) | with_reducible apply get_set_neE (by omega) | with_reducible apply get_keepE | exact rfl) (by repeat first | with_reducible apply get_put_neE (by omega) | with_reducible apply get_set_neE (by omega) | with_reducible apply get_keepE | exact rfl)) (by simp)) ?_
  (refine go ?_)
  refine WW.ret (PureQ.finD ?_)
  exact fz_b (by decide)
end Go.Proofs.Ytnihcakkhillcaa
