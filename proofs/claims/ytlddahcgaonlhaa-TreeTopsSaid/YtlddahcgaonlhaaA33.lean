/- The abstract layer, part 33: the walk through such a region. -/
import Derived.Test.YtlddahcgaonlhaaA32
set_option linter.all false
namespace Go.Abs
open Go

section
variable {P : Program} {N : Nat} {e e' e2 : Env} {h h' : AHeap} {Q : Exit → Env → AHeap → Prop} {l : List CI} {Φ : AHeap → Prop} {n0 : Nat} {al ws rs fs : List Nat} {K : Env → AHeap → Prop} {j : Nat}

theorem DA.env (hd : DA P N Φ n0 al ws rs fs K j l e2 h) : ∀ {e : Env}, (∀ s, lk s e2 = lk s e) → DA P N Φ n0 al ws rs fs K j l e h := by
  induction hd with
  | nil hs hk => exact fun he => .nil (fun i v hv => (he i) ▸ hs i v hv) hk
  | fx us hx h0 hw ha hr hu hp hf _ ih =>
    exact fun he => .fx us (fun hz => (hx hz).env he) (fun hz => ⟨(h0 hz).1, fun h2 => ((h0 hz).2 h2).env he⟩) hw (fun hz => by
      obtain ⟨x, h1, h2⟩ := ha hz
      exact ⟨x, h1, fun h3 h4 => (h2 h3 h4).env he⟩) (fun hz h2 h3 => (hr hz h2 h3).env he) hu hp (fun hz => ⟨(hf hz).1, fun h2 h3 => ((hf hz).2 h2 h3).env he⟩) (ih (lk_putR_congr he))
theorem DA.pin {s : Nat} {t : Bool} (hc : lk s e = some (.bool t)) (h1 : t = true → DA P N Φ n0 al ws rs fs K j l ((s, some (.bool true)) :: e) h) (h2 : t = false → DA P N Φ n0 al ws rs fs K j l ((s, some (.bool false)) :: e) h) : DA P N Φ n0 al ws rs fs K j l e h := by
  have key : ∀ b, t = b → ∀ i, lk i ((s, some (.bool b)) :: e) = lk i e := fun b hb i => by
    simp only [lk_cons, lk_nil]
    split
    · rename_i e1; subst e1; rw [hc, hb]
    · rfl
  cases t
  · exact (h2 rfl).env (key false rfl)
  · exact (h1 rfl).env (key true rfl)
theorem DA.endL (hk : K e h) : DA P N Φ n0 al ws rs fs K j [] e h := .nil (fun _ _ hv => hv) hk
/-- An operation that leaves the heap as it is. -/
theorem DA.go {c : CI} {e' : Env} (k : DA P N Φ n0 al ws rs fs K (j + 1) l e' h) (hs : Stp c e h e' h := by exact Stp.auto) (hf : fs.contains j = false := by exact rfl) (ha : al.contains j = false := by exact rfl) (hr : rs.contains j = false := by exact rfl) : DA P N Φ n0 al ws rs fs K j (c :: l) e h := by
  obtain ⟨r, he, hx, h0⟩ := FX.of_stp (P := P) (N := N) hs
  subst he
  exact .fx [] (fun _ => hx) (fun hz => ⟨rfl, (h0 hz).2⟩) (fun _ _ => rfl) (fun hz => by rw [ha] at hz; cases hz) (fun hz => by rw [hr] at hz; cases hz) (fun _ => ⟨by simp, by simp⟩) (fun _ h2 => h2) (fun hz => by rw [hf] at hz; cases hz) k
/-- One that reads alike wherever it is drawn. -/
theorem DA.goF {c : CI} {n : Nat} {W : List Nat} {h0 : AHeap} (k : DA P N (PhiW n W h0) n0 al ws rs fs K (j + 1) l e' h) (hs : ∀ h2, PhiW n W h0 h2 → Stp c e h2 e' h2 := by
    intro h2 hp2
    first
      | (apply Stp.load1; exact rfl; exact (hp2 _ (by omega) (by simp)).trans gH; exact (by first | exact getC_at rfl rfl | exact getC_all rfl | exact getC_sub (Nat.le_of_ble_eq_true rfl) (by first | (simp only [putC, AV.cs, encP, encN, encI, encS, encA, List.take_succ_cons, List.take_zero, List.take_nil, List.drop_succ_cons, List.drop_zero, List.drop_nil, List.cons_append, List.nil_append, List.append_nil, List.length_cons, List.length_nil, Nat.zero_add, Nat.add_zero, Nat.reduceAdd]; exact rfl) | exact rfl) | exact getC_sub (by simp) (by first | (simp only [putC, AV.cs, encP, encN, encI, encS, encA, List.take_succ_cons, List.take_zero, List.take_nil, List.drop_succ_cons, List.drop_zero, List.drop_nil, List.cons_append, List.nil_append, List.append_nil, List.length_cons, List.length_nil, Nat.zero_add, Nat.add_zero, Nat.reduceAdd]; exact rfl) | exact rfl)); exact (by first | exact True.intro | exact rfl))
      | exact Stp.auto) (hp : PhiW n W h0 h := by repeat first | exact PhiW.refl | refine PhiW.put (by omega) ?_ | refine PhiW.setW (by simp) ?_ | refine PhiW.setN (by omega) ?_ | exact fun _ _ _ => rfl) (ha : al.contains j = false := by exact rfl) (hr : rs.contains j = false := by exact rfl) : DA P N (PhiW n W h0) n0 al ws rs fs K j (c :: l) e h := by
  have key : ∀ h2, PhiW n W h0 h2 → ∃ r, e' = putR c.d r e ∧ FX P N c e h2 r h2 ∧ (free0 c.i = true → h2 = h2 ∧ ∀ h3, FX P N c e h3 r h3) := fun h2 h3 => FX.of_stp (hs h2 h3)
  obtain ⟨r, he, hx, hz⟩ := key h hp
  subst he
  refine .fx [] (fun _ => hx) (fun hy => ⟨rfl, (hz hy).2⟩) (fun _ _ => rfl) (fun hy => by rw [ha] at hy; cases hy) (fun hy => by rw [hr] at hy; cases hy) (fun _ => ⟨by simp, by simp⟩) (fun _ h2 => h2) (fun _ => ⟨rfl, fun h2 h3 => ?_⟩) k
  obtain ⟨r2, he2, hx2, _⟩ := key h2 h3
  cases hd : c.d with
  | none =>
    intro ops i o ho hc e3 hs3 m w a KK QQ hr2 he3 hk
    exact hx2 ops i o ho hc e3 hs3 m w a KK QQ hr2 he3 (by rw [hd] at hk ⊢; exact hk)
  | some d =>
    rw [hd] at he2
    simp only [putR, List.cons.injEq, Prod.mk.injEq, true_and, and_true] at he2
    rw [he2]; exact hx2
/-- A new block. -/
theorem DA.new {d : Nat} {z : List AV} {g : Option (Nat × Bool)} {i n : Nat} {W : List Nat} {h0 : AHeap} (k : DA P N (PhiW n W h0) n al ws rs fs K (j + 1) l ((d, some (.ptr (n + i) 0 0)) :: e) (h.put (n + i) (.mem z.length [z])))
    (hi : al.idxOf j = i := by first | exact (rfl : _ = 0) | exact (rfl : _ = 1) | exact (rfl : _ = 2) | exact (rfl : _ = 3) | exact (rfl : _ = 4)) (hg : met e g := by first | exact True.intro | exact rfl) (ha : al.contains j = true := by exact rfl) (hr : rs.contains j = false := by exact rfl) (hf : fs.contains j = false := by exact rfl) : DA P N (PhiW n W h0) n al ws rs fs K j (⟨some d, .alloc z, g⟩ :: l) e h := by
  subst hi
  exact .fx (r := some (.ptr (n + al.idxOf j) 0 0)) [.put (n + al.idxOf j) (.mem z.length [z])] (fun hz => by rw [ha] at hz; cases hz) (fun hz => by simp [free0] at hz) (fun _ hz => by rw [ha] at hz; cases hz) (fun _ => ⟨_, rfl, fun h2 hu => FX.allocN hu hg⟩) (fun hz => by rw [hr] at hz; cases hz)
    (fun hz => by rw [ha] at hz; cases hz) (fun h2 hp => PhiW.put (Nat.le_add_right _ _) hp) (fun hz => by rw [hf] at hz; cases hz) k
/-- A store, in its order. -/
theorem DA.set {c : CI} {n id : Nat} {W : List Nat} {h0 : AHeap} {x : Option AObj} (k : DA P N (PhiW n W h0) n0 al ws rs fs K (j + 1) l e' (h.set id x)) (hs : Stp c e h e' (h.set id x) := by exact Stp.auto) (hf : fs.contains j = false := by exact rfl) (hw : ws.contains j = true := by exact rfl) (ha : al.contains j = false := by exact rfl) (hr : rs.contains j = false := by exact rfl) (hz : free0 c.i = false := by exact rfl) (hp : ∀ h2, PhiW n W h0 h2 → PhiW n W h0 (h2.set id x) := by first | exact fun _ => PhiW.setN (by omega) | exact fun _ => PhiW.setW (by simp; done)) :
    DA P N (PhiW n W h0) n0 al ws rs fs K j (c :: l) e h := by
  obtain ⟨r, he, hx, _⟩ := FX.of_stp (P := P) (N := N) hs
  subst he
  exact .fx [.set id x] (fun _ => hx) (fun hy => by rw [hz] at hy; cases hy) (fun hy => by rw [hw] at hy; cases hy) (fun hy => by rw [ha] at hy; cases hy) (fun hy => by rw [hr] at hy; cases hy) (fun _ => ⟨by simp [Up.isSet], fun hy => by rw [hr] at hy; cases hy⟩) hp (fun hy => by rw [hf] at hy; cases hy) k
/-- A call that turns two objects and doesn't look at the new ones. -/
theorem DA.callSS {d : Option Nat} {f n i1 i2 : Nat} {x1 x2 : Option AObj} {W : List Nat} {h0 : AHeap} {xs : List Opd} {g : Option (Nat × Bool)} {vs us : List AV} {r : AV} (hv : evL e xs = some us) (hg : met e g) (hs : SubL us vs) (hf : fs.contains j = false) (hw : ws.contains j = true) (ha : al.contains j = false) (hp : ∀ h2, PhiW n W h0 h2 → PhiW n W h0 ((h2.set i1 x1).set i2 x2))
    (hn : i1 < n0 ∧ i2 < n0) (hac : ∀ h2, Sim n0 al.length h h2 → AE P f vs h2 r ((h2.set i1 x1).set i2 x2)) (k : DA P N (PhiW n W h0) n0 al ws rs fs K (j + 1) l (putR d (some r) e) ((h.set i1 x1).set i2 x2)) : DA P N (PhiW n W h0) n0 al ws rs fs K j (⟨d, .call f xs, g⟩ :: l) e h := by
  refine .fx [.set i1 x1, .set i2 x2] (fun _ => FX.call hg hv ((hac h Sim.refl).sub hs)) (fun hy => by simp [free0] at hy) (fun hy => by rw [hw] at hy; cases hy) (fun hy => by rw [ha] at hy; cases hy) (fun _ h2 h3 => FX.call hg hv ((hac h2 h3).sub hs)) (fun _ => ⟨by simp [Up.isSet], fun _ u hu => ?_⟩) hp (fun hy => by rw [hf] at hy; cases hy) k
  simp only [List.mem_cons, List.not_mem_nil, or_false] at hu
  rcases hu with rfl | rfl
  · show ¬ (n0 ≤ i1 ∧ _); omega
  · show ¬ (n0 ≤ i2 ∧ _); omega
theorem DA.callS {d : Option Nat} {f : Nat} {xs : List Opd} {g : Option (Nat × Bool)} {vs us : List AV} {r : AV} (hv : evL e xs = some us) (hg : met e g) (hs : SubL us vs) (hf : fs.contains j = false) (ha : al.contains j = false) (hr : rs.contains j = false) (hac : AE P f vs h r h) (k : DA P N Φ n0 al ws rs fs K (j + 1) l (putR d (some r) e) h) : DA P N Φ n0 al ws rs fs K j (⟨d, .call f xs, g⟩ :: l) e h :=
  .fx [] (fun _ => FX.call hg hv (hac.sub hs)) (fun hy => by simp [free0] at hy) (fun _ _ => rfl) (fun hy => by rw [ha] at hy; cases hy) (fun hy => by rw [hr] at hy; cases hy) (fun _ => ⟨by simp, by simp⟩) (fun _ h2 => h2) (fun hy => by rw [hf] at hy; cases hy) k
/-- Two codes, one behind the other, with what holds between them. -/
theorem WW.seqM {c1 c2 : CC} (I : Env → AHeap → Prop) (h1 : WW P N c1 (fun x e h => x = .normal ∧ I e h) e h) (h2 : ∀ e h, I e h → WW P N c2 Q e h) : WW P N (.seq c1 c2) Q e h :=
  WW.seq ⟨h1.out.mono fun x e h hq => by
    obtain ⟨rfl, hi⟩ := hq
    exact thenN (h2 e h hi)⟩
/-- The heap under a name of its own. -/
theorem WW.named {c : CC} (p : AHeap → Prop) (hp : p h) (k : ∀ h5, p h5 → WW P N c Q e h5) : WW P N c Q e h := k h hp
theorem WW.dregA [MO P] {es : List (List Nat)} (al ws rs fs W : List Nat) {n : Nat} (hn : h.next = n) (hc : chkA l es al ws rs fs = true) (hd : DA P N (PhiW n W h) n al ws rs fs (fun e h => Q .normal e h) 0 l e (h.keep al.length)) : WW P N (.dreg l es) Q e h := by
  subst hn
  refine WW.cvt (Cvt.keep al.length) ⟨AW.dregA MO.mo hc (Nat.le_refl _) (fun id h1 h2 => ?_) (fun _ _ _ => rfl) hd⟩
  simp only [AHeap.keep, Bool.or_eq_true, Bool.and_eq_true, decide_eq_true_eq]
  exact .inr ⟨h1, h2⟩
end
end Go.Abs
